/- Parts of the proof. -/
import Derived.Test.YtkiajpbdicaceaaGreatDoorM3
set_option linter.all false
set_option maxRecDepth 100000
set_option maxHeartbeats 4000000
open Go.RowKit
namespace Go.Proofs.YtkiajpbdicaceaaGreatDoor.Sym
def zdd.s2 (s_:yab) (f_:Int->Option Bool) (a2:Nat):Option (Nat⊕(Unit⊕Int)):=cond (decide ((↑a2:Int)<(↑s_.length:Int))) (idxn s_ a2 fun a6=>(f_ a6).bind fun a7=>cond (a7) (some (.inr (.inr (↑a2:Int)))) (some (.inl (a2+1)))) (some (.inr (.inl ())))
def zdd (s_:yab) (f_:Int->Option Bool):Option Int:=(iter (fun (s:Nat)=>zdd.s2 s_ f_ s) fuel 0).bind (Sum.elim (fun _=>some (-1:Int)) some)
def zef (s_:yab) (f_:Int->Option Bool):Option Bool:=(zdd s_ f_).bind fun a2=>some (decide (0<=a2))
def zhw (inputs_:Int):Option Bool:=(cond (decide (1<=inputs_)) (some (decide (inputs_<=1024))) (some false)).bind (fun a2=>some a2)
def zib (a_:Int) (p1_:Int):Option Bool:=(cond (decide (a_<0)) (some true) (some (decide (p1_<=a_)))).bind (fun a2=>some a2)
def zbv.s2 (s_:yab) (f_:Int->Option Bool) (a2:Nat):Option (Nat⊕(Unit⊕Int)):=cond (decide ((↑a2:Int)<(↑s_.length:Int))) (idxn s_ a2 fun a6=>(f_ a6).bind fun a7=>cond (a7) (some (.inr (.inr (↑a2:Int)))) (some (.inl (a2+1)))) (some (.inr (.inl ())))
def zbv (s_:yab) (f_:Int->Option Bool):Option Int:=(iter (fun (s:Nat)=>zbv.s2 s_ f_ s) fuel 0).bind (Sum.elim (fun _=>some (-1:Int)) some)
def zdw (s_:yab) (f_:Int->Option Bool):Option Bool:=(zbv s_ f_).bind fun a2=>some (decide (0<=a2))
def zc2 (w_:yab) (inputs_:Int):Option Int:=(zhw inputs_).bind fun a2=>cond ((!a2)) (some 2) (cond (decide (1024<(↑w_.length:Int))) (some 3) ((zdw w_ (fun u0=>zib u0 inputs_)).bind fun a6=>cond (a6) (some 1) (some 0)))
def zgs (m_:zdk) (s_:Int) (a_:Int):Option (Int×Int):=idx m_.Mealy.Next s_ fun a2=>idx a2 a_ fun a6=>idx m_.Mealy.Out s_ fun a7=>idx a7 a_ fun a8=>some (a6,a8)
def zcc.s2 (r_:zcu) (w_:yab) (a7:Int) (a2:yab) (a6:Nat):Option ((Int×yab×Nat)⊕(Int×yab)):=cond (decide ((↑a6:Int)<(↑w_.length:Int))) (idxn w_ a6 fun b0=>(zgs r_.machine a7 b0).bind fun a8=>chk (za2 (List.length a2+1) 8) (some (.inl (a8.1,(a2++[a8.2]),(a6+1))))) (some (.inr (a7,a2)))
def zcc.k3 (r_:zcu) (a2:Int) (a6:yab):Option (yab×zcu):=some (a6,(⟨r_.machine,a2⟩:zcu))
def zcc (r_:zcu) (w_:yab):Option (yab×zcu):=(iter (fun (s:Int×yab×Nat)=>zcc.s2 r_ w_ s.1 s.2.1 s.2.2) fuel (r_.at_,[],0)).bind (fun s=>zcc.k3 r_ s.1 s.2)
def zbc.s13 (m_:zaa) (a6:Nat) (a2:Nat):Option (Nat⊕(Unit⊕(Nat⊕(Unit⊕Int)))):=cond (decide ((↑a2:Int)<m_.Inputs)) (idxn m_.Next a6 fun b0=>idxn b0 a2 fun a7=>idxn m_.Out a6 fun b2=>idxn b2 a2 fun a8=>(cond (decide (a7<0)) (some true) (cond (decide ((↑m_.Next.length:Int)<=a7)) (some true) (cond (decide (a8<0)) (some true) (some (decide (1048576<a8)))))).bind (fun b3=>cond (b3) (some (.inr (.inr (.inr (.inr 2))))) (chk (inR ((↑a2:Int)+1)) (some (.inl (a2+1)))))) (some (.inr (.inl ())))
def zbc.s14 (m_:zaa) (a2:Nat):Option (Nat⊕(Unit⊕Int)):=cond (decide ((↑a2:Int)<(↑m_.Next.length:Int))) ((idxn m_.Next a2 fun a6=>cond (decide ((↑a6.length:Int)≠m_.Inputs)) (some true) (idxn m_.Out a2 fun a7=>some (decide ((↑a7.length:Int)≠m_.Inputs)))).bind (fun a8=>cond (a8) (some (.inr (.inr 1))) ((iter (fun (s:Nat)=>zbc.s13 m_ a2 s) fuel 0).bind (Sum.elim (fun _=>some (.inl (a2+1))) some)))) (some (.inr (.inl ())))
def zbc (m_:zaa):Option Int:=(cond (decide (m_.Inputs<1)) (some true) (some (decide (64<m_.Inputs)))).bind (fun a2=>cond (a2) (some 2) (cond (decide ((↑m_.Next.length:Int)=0)) (some 19) (cond (decide (128<(↑m_.Next.length:Int))) (some 11) ((cond (decide (m_.Start<0)) (some true) (some (decide ((↑m_.Next.length:Int)<=m_.Start)))).bind (fun a6=>cond (a6) (some 2) (cond (decide ((↑m_.Out.length:Int)≠(↑m_.Next.length:Int))) (some 1) ((iter (fun (s:Nat)=>zbc.s14 m_ s) fuel 0).bind (Sum.elim (fun _=>some 0) some))))))))
def zmj (m_:zaa) (s_:Int):Option Int:=(zbc m_).bind fun a2=>cond (decide (a2≠0)) (some a2) ((cond (decide (s_<0)) (some true) (some (decide ((↑m_.Next.length:Int)<=s_)))).bind (fun a6=>cond (a6) (some 2) (some 0)))
def zjh (m_:zaa) (s_:Int) (w_:yab):Option (yab×Int×Int):=(zmj m_ s_).bind fun a2=>cond (decide (a2≠0)) (some ([],0,a2)) ((zc2 w_ m_.Inputs).bind fun a6=>cond (decide (a6≠0)) (some ([],0,a6)) ((zcc (⟨(⟨m_⟩:zdk),s_⟩:zcu) w_).bind fun a7=>some (a7.1,a7.2.at_,0)))
def zgy (m_:zaa) (w_:yab):Option (yab×Int):=(zjh m_ m_.Start w_).bind fun a2=>some (a2.1,a2.2.2)
def zd4.s2 (class_:yab) (a6:Int) (a7:Nat):Option ((Int×Nat)⊕(Int⊕(zbt×Int))):=cond (decide ((↑a7:Int)<(↑class_.length:Int))) (idxn class_ a7 fun a2=>(cond (decide (a2<0)) (some true) (some (decide (a6<a2)))).bind (fun a8=>cond (a8) (some (.inr (.inr ((⟨0,0,0,[],[]⟩:zbt),1)))) (chk (inR (a2+1)) (some (.inl ((max a6 (a2+1)),(a7+1))))))) (some (.inr (.inl a6)))
def zd4 (class_:yab):Option (zbt×Int):=(cond (decide ((↑class_.length:Int)=0)) (some true) (some (decide (64<(↑class_.length:Int))))).bind (fun a6=>cond (a6) (some ((⟨0,0,0,[],[]⟩:zbt),2)) ((iter (fun (s:Int×Nat)=>zd4.s2 class_ s.1 s.2) fuel (0,0)).bind (Sum.elim (fun a7=>chk ((0:Int)<=(↑class_.length:Int)∧(↑class_.length:Int)<=(↑class_.length:Int)∧za2 (Int.toNat (↑class_.length:Int)) 8) ((zdg class_).bind fun a2=>some ((⟨(↑class_.length:Int),a7,0,[(List.replicate class_.length (0:Int))],[a2]⟩:zbt),0))) some)))
def zcz.s13 (p_:zbt) (a6:Nat) (a2:Nat):Option (Nat⊕(Unit⊕(Nat⊕(Unit⊕Int)))):=cond (decide ((↑a2:Int)<p_.Inputs)) (idxn p_.Next a6 fun b0=>idxn b0 a2 fun a7=>idxn p_.Sym a6 fun b2=>idxn b2 a2 fun a8=>(cond (decide (a7<0)) (some true) (cond (decide ((↑p_.Next.length:Int)<=a7)) (some true) (cond (decide (a8<0)) (some true) (some (decide (p_.Abstract<=a8)))))).bind (fun b3=>cond (b3) (some (.inr (.inr (.inr (.inr 2))))) (chk (inR ((↑a2:Int)+1)) (some (.inl (a2+1)))))) (some (.inr (.inl ())))
def zcz.s14 (p_:zbt) (a2:Nat):Option (Nat⊕(Unit⊕Int)):=cond (decide ((↑a2:Int)<(↑p_.Next.length:Int))) ((idxn p_.Next a2 fun a6=>cond (decide ((↑a6.length:Int)≠p_.Inputs)) (some true) (idxn p_.Sym a2 fun a7=>some (decide ((↑a7.length:Int)≠p_.Inputs)))).bind (fun a8=>cond (a8) (some (.inr (.inr 1))) ((iter (fun (s:Nat)=>zcz.s13 p_ a2 s) fuel 0).bind (Sum.elim (fun _=>some (.inl (a2+1))) some)))) (some (.inr (.inl ())))
def zcz (p_:zbt):Option Int:=(cond (decide (p_.Inputs<1)) (some true) (cond (decide (64<p_.Inputs)) (some true) (cond (decide (p_.Abstract<1)) (some true) (some (decide (64<p_.Abstract)))))).bind (fun a2=>cond (a2) (some 2) (cond (decide ((↑p_.Next.length:Int)=0)) (some 19) (cond (decide (128<(↑p_.Next.length:Int))) (some 11) ((cond (decide (p_.Start<0)) (some true) (some (decide ((↑p_.Next.length:Int)<=p_.Start)))).bind (fun a6=>cond (a6) (some 2) (cond (decide ((↑p_.Sym.length:Int)≠(↑p_.Next.length:Int))) (some 1) ((iter (fun (s:Nat)=>zcz.s14 p_ s) fuel 0).bind (Sum.elim (fun _=>some 0) some))))))))
def zlf (p_:zbt):Option zc1:=some (⟨p_,p_.Start⟩:zc1)
def zfw (r_:zc1) (c_:Int):Option (Int×zc1):=idx r_.Mapper.Sym r_.state fun a2=>idx a2 c_ fun a6=>idx r_.Mapper.Next r_.state fun a7=>idx a7 c_ fun a8=>some (a6,(⟨r_.Mapper,a8⟩:zc1))
def zdj.s2 (w_:yab) (a6:zc1) (b0:yaa) (b2:yaa) (b3:Int) (a7:yab) (a8:Nat):Option ((yaa×yaa×Int×yab×Nat)⊕yab):=cond (decide ((↑a8:Int)<(↑w_.length:Int))) (idxn w_ a8 fun b4=>(zfw (⟨(⟨a6.Mapper.Inputs,a6.Mapper.Abstract,a6.Mapper.Start,b0,b2⟩:zbt),b3⟩:zc1) b4).bind fun a2=>chk (za2 (List.length a7+1) 8) (some (.inl (a2.2.Mapper.Next,a2.2.Mapper.Sym,a2.2.state,(a7++[a2.1]),(a8+1))))) (some (.inr a7))
def zdj (p_:zbt) (w_:yab):Option (yab×Int):=(zcz p_).bind fun a6=>cond (decide (a6≠0)) (some ([],a6)) ((zc2 w_ p_.Inputs).bind fun a7=>cond (decide (a7≠0)) (some ([],a7)) ((zlf p_).bind fun a2=>(iter (fun (s:yaa×yaa×Int×yab×Nat)=>zdj.s2 w_ a2 s.1 s.2.1 s.2.2.1 s.2.2.2.1 s.2.2.2.2) fuel (a2.Mapper.Next,a2.Mapper.Sym,a2.state,[],0)).bind (fun a8=>some (a8,0))))
def zgk (m_:zaa):Option Bool:=(cond (decide ((↑m_.Next.length:Int)<=6)) (cond (decide ((↑m_.Out.length:Int)<=6)) (some (decide (m_.Inputs<=3))) (some false)) (some false)).bind (fun a2=>some a2)
def zc5:Option zaa:=some (⟨2,0,[[1,0],[1,0]],[[1,0],[1,2]]⟩:zaa)
def zco.s2 (s_:yab) (v_:Int) (a2:Nat):Option (Nat⊕(Unit⊕Int)):=cond (decide ((↑a2:Int)<(↑s_.length:Int))) (idxn s_ a2 fun a6=>cond (decide (v_=a6)) (some (.inr (.inr (↑a2:Int)))) (some (.inl (a2+1)))) (some (.inr (.inl ())))
def zco (s_:yab) (v_:Int):Option Int:=(iter (fun (s:Nat)=>zco.s2 s_ v_ s) fuel 0).bind (Sum.elim (fun _=>some (-1:Int)) some)
def zee (s_:yab) (v_:Int):Option Bool:=(zco s_ v_).bind fun a2=>some (decide (0<=a2))
def zbh.s2 (slices_:yaa) (size73:Nat) (a2:Nat):Option ((Nat×Nat)⊕Nat):=cond (decide ((↑a2:Int)<(↑slices_.length:Int))) (idxn slices_ a2 fun a6=>chk (inR ((↑size73:Int)+(↑a6.length:Int))) (cond (decide (((↑size73:Int)+(↑a6.length:Int))<0)) (none) (some (.inl ((size73+a6.length),(a2+1)))))) (some (.inr size73))
def zbh.s4 (slices_:yaa) (a2:yab) (a6:Nat):Option ((yab×Nat)⊕yab):=cond (decide ((↑a6:Int)<(↑slices_.length:Int))) (idxn slices_ a6 fun a7=>chk (za2 (List.length a2+List.length a7) 8) (some (.inl ((a2++a7),(a6+1))))) (some (.inr a2))
def zbh (slices_:yaa):Option yab:=(iter (fun (s:Nat×Nat)=>zbh.s2 slices_ s.1 s.2) fuel (0,0)).bind (fun size68=>(zoa (↑size68:Int)).bind fun a6=>(iter (fun (s:yab×Nat)=>zbh.s4 slices_ s.1 s.2) fuel (a6,0)).bind (fun a2=>some a2))
def zcp (parts_:yaa):Option yab:=(zbh parts_).bind fun a2=>some a2
def zbr.s18 (m_:zaa) (class_:yab) (a7:Nat) (a6:yab) (a2:Nat):Option ((yab×Nat)⊕yab):=cond (decide ((↑a2:Int)<m_.Inputs)) (idxn m_.Out a7 fun b0=>idxn b0 a2 fun a8=>chk ((↑a2:Int)<128) (idxn a6 a2 fun b5=>chk (inR (64+(↑a2:Int))) (idxn m_.Next a7 fun b2=>idxn b2 a2 fun b3=>idx class_ b3 fun b4=>chk ((64+(↑a2:Int))<128) (idxn (List.set a6 a2 a8) (64+a2) fun b6=>chk (inR ((↑a2:Int)+1)) (some (.inl ((List.set (List.set a6 a2 a8) (64+a2) b4),(a2+1)))))))) (some (.inr a6))
def zbr.k19 (a6:yab) (a2:Nat) (a7:List (yab×Int)) (a8:Int):Option (((List (yab×Int))×yab×Nat)⊕((List (yab×Int))×yab)):=idxn a6 a2 fun b0=>some (.inl (a7,(List.set a6 a2 a8),(a2+1)))
def zbr.s20 (m_:zaa) (class_:yab) (a2:List (yab×Int)) (a8:yab) (a7:Nat):Option (((List (yab×Int))×yab×Nat)⊕((List (yab×Int))×yab)):=cond (decide ((↑a7:Int)<(↑class_.length:Int))) ((iter (fun (s:yab×Nat)=>zbr.s18 m_ class_ a7 s.1 s.2) fuel ((List.replicate 128 0),0)).bind (fun a6=>chk (List.length a6=128) (chk (List.length a6=128∧∀ p∈a2,List.length p.1=128) ((cond ((!((mget a6 a2).isSome))) (chk (List.length a6=128) (chk (List.length a6=128∧∀ p∈a2,List.length p.1=128) (some ((mset a6 (↑a2.length:Int) a2),(↑a2.length:Int))))) (some (a2,((mget a6 a2).getD 0))):Option ((List (yab×Int))×Int)).bind (fun s=>zbr.k19 a8 a7 s.1 s.2))))) (some (.inr (a2,a8)))
def zbr.k21 (a2:List (yab×Int)) (a6:yab):Option (yab×Int):=some (a6,(↑a2.length:Int))
def zbr (m_:zaa) (class_:yab):Option (yab×Int):=chk ((0:Int)<=(↑class_.length:Int)∧(↑class_.length:Int)<=(↑class_.length:Int)∧za2 (Int.toNat (↑class_.length:Int)) 8) ((iter (fun (s:(List (yab×Int))×yab×Nat)=>zbr.s20 m_ class_ s.1 s.2.1 s.2.2) fuel (([]:List (yab×Int)),(List.replicate class_.length (0:Int)),0)).bind (fun s=>zbr.k21 s.1 s.2))
def zdl.s2 (m_:zaa) (k_:Int) (class71:yab) (a7:Int) (a2:Nat):Option ((yab×Int×Nat)⊕(yab⊕(yab×Int))):=cond (decide ((↑a2:Int)<(min (max k_ 0) (↑m_.Next.length:Int)))) ((zbr m_ class71).bind fun a6=>cond (decide (a6.2=a7)) (some (.inr (.inr (class71,(↑a2:Int))))) (some (.inl (a6.1,a6.2,(a2+1))))) (some (.inr (.inl class71)))
def zdl (m_:zaa) (k_:Int):Option (yab×Int):=chk ((0:Int)<=(↑m_.Next.length:Int)∧(↑m_.Next.length:Int)<=(↑m_.Next.length:Int)∧za2 (Int.toNat (↑m_.Next.length:Int)) 8) ((iter (fun (s:yab×Int×Nat)=>zdl.s2 m_ k_ s.1 s.2.1 s.2.2) fuel ((List.replicate m_.Next.length (0:Int)),1,0)).bind (Sum.elim (fun class67=>some (class67,(min (max k_ 0) (↑m_.Next.length:Int)))) some))
def zgu (m_:zaa) (k_:Int):Option (yab×Int):=(zbc m_).bind fun a2=>cond (decide (a2≠0)) (some ([],a2)) ((zdl m_ k_).bind fun a6=>some (a6.1,0))
def zfq (m_:zaa):Option (yab×Int):=(zgu m_ 128).bind fun a2=>some (a2.1,a2.2)
def zbk.s18 (b2:Nat) (a8:yab) (a2:yab) (a6:yaa) (a7:Nat):Option ((yab×yaa×Nat)⊕(yab×yaa)):=cond (decide ((↑a7:Int)<(↑a8.length:Int))) (idxn a8 a7 fun b0=>(zee a2 b0).bind fun b3=>cond ((!b3)) (chk (za2 (List.length a2+1) 8) (idxn a6 b2 fun b4=>(zcp [b4,[(↑a7:Int)]]).bind fun b5=>chk (za2 (List.length a6+1) 24) (some (.inl ((a2++[b0]),(a6++[b5]),(a7+1)))))) (some (.inl (a2,a6,(a7+1))))) (some (.inr (a2,a6)))
def zbk.k19 (a2:Nat) (a6:yab) (a7:yaa):Option ((yab×yaa×Nat)⊕(yab×yaa)):=some (.inl (a6,a7,(a2+1)))
def zbk.s20 (m_:zaa) (a2:yab) (a7:yaa) (a6:Nat):Option ((yab×yaa×Nat)⊕(yab×yaa)):=cond (decide ((↑a6:Int)<(↑a2.length:Int))) (idxn a2 a6 fun a8=>idx m_.Next a8 fun b0=>(iter (fun (s:yab×yaa×Nat)=>zbk.s18 a6 b0 s.1 s.2.1 s.2.2) fuel (a2,a7,0)).bind (fun s=>zbk.k19 a6 s.1 s.2)) (some (.inr (a2,a7)))
def zbk.k21 (m_:zaa) (a7:yab×Int) (a2:yab) (a6:yaa):Option zdc:=some (⟨m_,a2,a6,a7.1⟩:zdc)
def zbk (m_:zaa):Option zdc:=(zfq m_).bind fun a2=>(iter (fun (s:yab×yaa×Nat)=>zbk.s20 m_ s.1 s.2.1 s.2.2) fuel ([m_.Start],[[]],0)).bind (fun s=>zbk.k21 m_ a2 s.1 s.2)
def ze3 (r_:zdc) (s_:Int) (c_:Int) (d_:Int):Option Bool:=(idx r_.m.Out s_ fun a2=>idx a2 c_ fun a6=>idx r_.m.Out s_ fun a7=>idx a7 d_ fun a8=>cond (decide (a6=a8)) (idx r_.m.Next s_ fun b0=>idx b0 c_ fun b2=>idx r_.class_ b2 fun b3=>idx r_.m.Next s_ fun b4=>idx b4 d_ fun b5=>idx r_.class_ b5 fun b6=>some (decide (b3=b6))) (some false)).bind (fun b7=>some b7)
def zgn (s_:Int) (p1_:zdc) (p2_:Int) (p3_:Int):Option Bool:=(ze3 p1_ s_ p2_ p3_).bind fun a2=>some (!a2)
def zbj.s2 (s_:yab) (f_:Int->Option Bool) (a2:Nat):Option (Nat⊕(Unit⊕Int)):=cond (decide ((↑a2:Int)<(↑s_.length:Int))) (idxn s_ a2 fun a6=>(f_ a6).bind fun a7=>cond (a7) (some (.inr (.inr (↑a2:Int)))) (some (.inl (a2+1)))) (some (.inr (.inl ())))
def zbj (s_:yab) (f_:Int->Option Bool):Option Int:=(iter (fun (s:Nat)=>zbj.s2 s_ f_ s) fuel 0).bind (Sum.elim (fun _=>some (-1:Int)) some)
def zdq (s_:yab) (f_:Int->Option Bool):Option Bool:=(zbj s_ f_).bind fun a2=>some (decide (0<=a2))
def zhb (c_:Int) (d_:Int) (p2_:zdc):Option Bool:=(zdq p2_.states (fun u0=>zgn u0 p2_ c_ d_)).bind fun a2=>some (!a2)
def zbu.s2 (s_:yab) (f_:Int->Option Bool) (a2:Nat):Option (Nat⊕(Unit⊕Int)):=cond (decide ((↑a2:Int)<(↑s_.length:Int))) (idxn s_ a2 fun a6=>(f_ a6).bind fun a7=>cond (a7) (some (.inr (.inr (↑a2:Int)))) (some (.inl (a2+1)))) (some (.inr (.inl ())))
def zbu (s_:yab) (f_:Int->Option Bool):Option Int:=(iter (fun (s:Nat)=>zbu.s2 s_ f_ s) fuel 0).bind (Sum.elim (fun _=>some (-1:Int)) some)
def zej (d_:Int) (p1_:Int->Int->Option Bool) (p2_:Int):Option Bool:=(p1_ d_ p2_).bind fun a2=>some a2
def zbe.k7 (a2:yab) (a6:Nat) (a7:yab) (a8:Int):Option ((yab×yab×Nat)⊕(yab×yab)):=chk (za2 (List.length a2+1) 8) (chk (inR ((↑a6:Int)+1)) (some (.inl ((a2++[a8]),a7,(a6+1)))))
def zbe.s8 (inputs_:Int) (together_:Int->Int->Option Bool) (a7:yab) (a2:yab) (a6:Nat):Option ((yab×yab×Nat)⊕(yab×yab)):=cond (decide ((↑a6:Int)<inputs_)) ((zbu a2 (fun u0=>zej u0 together_ (↑a6:Int))).bind fun a8=>(cond (decide (a8<0)) (chk (za2 (List.length a2+1) 8) (some ((a2++[(↑a6:Int)]),(↑a2.length:Int)))) (some (a2,a8)):Option (yab×Int)).bind (fun s=>zbe.k7 a7 a6 s.1 s.2)) (some (.inr (a7,a2)))
def zbe.k9 (a2:yab) (a6:yab):Option (yab×Int):=some (a2,(↑a6.length:Int))
def zbe (inputs_:Int) (together_:Int->Int->Option Bool):Option (yab×Int):=(iter (fun (s:yab×yab×Nat)=>zbe.s8 inputs_ together_ s.1 s.2.1 s.2.2) fuel ([],[],0)).bind (fun s=>zbe.k9 s.1 s.2)
def zig (m_:zaa):Option (yab×Int×Int):=(zbc m_).bind fun a2=>cond (decide (a2≠0)) (some ([],0,a2)) ((zbk m_).bind fun a7=>(zbe m_.Inputs (fun u0 u1=>zhb u0 u1 a7)).bind fun a6=>some (a6.1,a6.2,0))
def zhd.s2 (m_:zaa) (words_:yaa) (a2:List zab) (a6:Nat):Option ((List zab×Nat)⊕(List zab⊕(List zab×Int))):=cond (decide ((↑a6:Int)<(↑words_.length:Int))) (idxn words_ a6 fun a7=>(zc2 a7 m_.Inputs).bind fun b2=>cond (decide (b2≠0)) (some (.inr (.inr ([],b2)))) ((zdg a7).bind fun a8=>(zcc (⟨(⟨m_⟩:zdk),m_.Start⟩:zcu) a7).bind fun b0=>chk (za2 (List.length a2+1) 48) (some (.inl ((a2++[(⟨a8,b0.1⟩:zab)]),(a6+1)))))) (some (.inr (.inl a2)))
def zhd (m_:zaa) (words_:yaa):Option (List zab×Int):=(zbc m_).bind fun a2=>cond (decide (a2≠0)) (some ([],a2)) (cond (decide (10000<(↑words_.length:Int))) (some ([],11)) ((iter (fun (s:List zab×Nat)=>zhd.s2 m_ words_ s.1 s.2) fuel ([],0)).bind (Sum.elim (fun a6=>some (a6,0)) some)))
def zjl (t_:zab):Option zab:=(zdg t_.In).bind fun a2=>(zdg t_.Out).bind fun a6=>some (⟨a2,a6⟩:zab)
def zgg.s2 (l_:List zab) (a2:List zab) (a6:Nat):Option ((List zab×Nat)⊕List zab):=cond (decide ((↑a6:Int)<(↑l_.length:Int))) (idxn l_ a6 fun a7=>(zjl a7).bind fun a8=>chk (za2 (List.length a2+1) 48) (some (.inl ((a2++[a8]),(a6+1))))) (some (.inr a2))
def zgg (l_:List zab):Option (List zab):=chk ((0:Int)<=0∧0<=((↑l_.length:Int)+1)∧za2 (Int.toNat ((↑l_.length:Int)+1)) 48) ((iter (fun (s:List zab×Nat)=>zgg.s2 l_ s.1 s.2) fuel ([],0)).bind (fun a2=>some a2))
def zge.s2 (a_:yab) (b_:yab) (a2:Nat):Option (Nat⊕(Unit⊕Int)):=cond (decide ((↑a2:Int)<(min (↑a_.length:Int) (↑b_.length:Int)))) (idxn a_ a2 fun a6=>idxn b_ a2 fun a7=>cond (decide (a6≠a7)) (some (.inr (.inr (↑a2:Int)))) (some (.inl (a2+1)))) (some (.inr (.inl ())))
def zge (a_:yab) (b_:yab):Option Int:=(iter (fun (s:Nat)=>zge.s2 a_ b_ s) fuel 0).bind (Sum.elim (fun _=>some (min (↑a_.length:Int) (↑b_.length:Int))) some)
def zfe (w_:yab) (p_:yab):Option Bool:=(zge w_ p_).bind fun a2=>some (decide (a2=(↑p_.length:Int)))
def za1.s2 (x_:List zab) (target_:zab) (cmp_:zab->zab->Option Int) (a2:Int) (a6:Int):Option ((Int×Int)⊕Int):=cond (decide (a2<a6)) (chk (inR (a2+a6)) (chk ((0:Int)<=(a2+a6)∧(a2+a6)<=18446744073709551615) (chk ((0:Int)<=(a2+a6)∧(a2+a6)<=18446744073709551615) (chk (inR ((a2+a6) / 2^1)) (idx x_ ((a2+a6) / 2^1) fun a7=>(cmp_ a7 target_).bind fun a8=>cond (decide (a8<0)) (chk (inR (((a2+a6) / 2^1)+1)) (some (.inl ((((a2+a6) / 2^1)+1),a6)))) (some (.inl (a2,((a2+a6) / 2^1))))))))) (some (.inr a2))
def za1 (x_:List zab) (target_:zab) (cmp_:zab->zab->Option Int):Option (Int×Bool):=(iter (fun (s:Int×Int)=>za1.s2 x_ target_ cmp_ s.1 s.2) fuel (0,(↑x_.length:Int))).bind (fun a2=>(cond (decide (a2<(↑x_.length:Int))) (idx x_ a2 fun a6=>(cmp_ a6 target_).bind fun a7=>some (decide (a7=0))) (some false)).bind (fun a8=>some (a2,a8)))
def zhr (a_:zab) (b_:zab):Option Int:=(zge a_.In b_.In).bind fun a2=>chk ((0:Int)<=(min (min a2 (↑a_.Out.length:Int)) (↑b_.Out.length:Int))∧(min (min a2 (↑a_.Out.length:Int)) (↑b_.Out.length:Int))<=(↑a_.Out.length:Int)) (chk ((0:Int)<=(min (min a2 (↑a_.Out.length:Int)) (↑b_.Out.length:Int))∧(min (min a2 (↑a_.Out.length:Int)) (↑b_.Out.length:Int))<=(↑b_.Out.length:Int)) ((zge (List.take (Int.toNat (min (min a2 (↑a_.Out.length:Int)) (↑b_.Out.length:Int))) a_.Out) (List.take (Int.toNat (min (min a2 (↑a_.Out.length:Int)) (↑b_.Out.length:Int))) b_.Out)).bind fun a6=>cond (decide (a6<(min (min a2 (↑a_.Out.length:Int)) (↑b_.Out.length:Int)))) (some a6) (some (-1:Int))))
def zj6 (u_:zab) (p1_:zab):Option Bool:=(zfe p1_.In u_.In).bind fun a2=>some a2
def zbd.s2 (s_:List zab) (f_:zab->Option Bool) (a2:Nat):Option (Nat⊕(Unit⊕Int)):=cond (decide ((↑a2:Int)<(↑s_.length:Int))) (idxn s_ a2 fun a6=>(f_ a6).bind fun a7=>cond (a7) (some (.inr (.inr (↑a2:Int)))) (some (.inl (a2+1)))) (some (.inr (.inl ())))
def zbd (s_:List zab) (f_:zab->Option Bool):Option Int:=(iter (fun (s:Nat)=>zbd.s2 s_ f_ s) fuel 0).bind (Sum.elim (fun _=>some (-1:Int)) some)
def zat.s2 (del_:zab->Option Bool) (a2:List zab) (a6:Int) (a7:Int):Option ((List zab×Int×Int)⊕(List zab×Int)):=cond (decide (a7<(↑a2.length:Int))) (idx a2 a7 fun a8=>(del_ a8).bind fun b0=>cond ((!b0)) (idx a2 a6 fun b2=>chk (inR (a6+1)) (chk (inR (a7+1)) (some (.inl ((List.set a2 a6.toNat a8),(a6+1),(a7+1)))))) (chk (inR (a7+1)) (some (.inl (a2,a6,(a7+1)))))) (some (.inr (a2,a6)))
def zat.k3 (a6:List zab) (a2:Int):Option (List zab):=chk ((0:Int)<=a2∧a2<=(↑a6.length:Int)∧0<List.length a6) (chk ((Int.toNat a2)<=List.length a6) (chk ((0:Int)<=a2∧a2<=(↑(List.length (List.take (Int.toNat a2) a6++List.replicate (List.length a6-(Int.toNat a2)) (⟨[],[]⟩:zab))):Int)∧0<List.length (List.take (Int.toNat a2) a6++List.replicate (List.length a6-(Int.toNat a2)) (⟨[],[]⟩:zab))) (some (List.take (Int.toNat a2) (List.take (Int.toNat a2) a6++List.replicate (List.length a6-(Int.toNat a2)) (⟨[],[]⟩:zab))))))
def zat (s_:List zab) (del_:zab->Option Bool):Option (List zab):=(zbd s_ del_).bind fun a2=>cond (decide (a2=(-1:Int))) (some s_) (chk (inR (a2+1)) ((iter (fun (s:List zab×Int×Int)=>zat.s2 del_ s.1 s.2.1 s.2.2) fuel (s_,a2,(a2+1))).bind (fun s=>zat.k3 s.1 s.2)))
def cmp_isNaN_int (x_:Int):Option Bool:=some (decide (x_≠x_))
def cmp_Compare_int (x_:Int) (y_:Int):Option Int:=(cmp_isNaN_int x_).bind fun a6=>(cmp_isNaN_int y_).bind fun a2=>cond (a6) (cond (a2) (some 0) (some (-1:Int))) (cond (a2) (some 1) (cond (decide (x_<y_)) (some (-1:Int)) (cond (decide (y_<x_)) (some 1) (some 0))))
def zb6.s2 (s1_:yab) (s2_:yab) (a2:Nat):Option (Nat⊕(Unit⊕Int)):=cond (decide ((↑a2:Int)<(↑s1_.length:Int))) (idxn s1_ a2 fun a7=>cond (decide ((↑s2_.length:Int)<=(↑a2:Int))) (some (.inr (.inr 1))) (idxn s2_ a2 fun a8=>(cmp_Compare_int a7 a8).bind fun a6=>cond (decide (a6≠0)) (some (.inr (.inr a6))) (some (.inl (a2+1))))) (some (.inr (.inl ())))
def zb6 (s1_:yab) (s2_:yab):Option Int:=(iter (fun (s:Nat)=>zb6.s2 s1_ s2_ s) fuel 0).bind (Sum.elim (fun _=>cond (decide ((↑s1_.length:Int)<(↑s2_.length:Int))) (some (-1:Int)) (some 0)) some)
def zfp.s2 (vals_:yab) (a2:Nat):Option (Nat⊕(Unit⊕Int)):=cond (decide ((↑a2:Int)<(↑vals_.length:Int))) (idxn vals_ a2 fun a6=>cond (decide (a6≠0)) (some (.inr (.inr a6))) (some (.inl (a2+1)))) (some (.inr (.inl ())))
def zfp (vals_:yab):Option Int:=(iter (fun (s:Nat)=>zfp.s2 vals_ s) fuel 0).bind (Sum.elim (fun _=>some 0) some)
def zfb (a_:yab) (b_:yab):Option Int:=(cmp_Compare_int (↑a_.length:Int) (↑b_.length:Int)).bind fun a2=>(zb6 a_ b_).bind fun a6=>(zfp [a2,a6]).bind fun a7=>some a7
def ziu (a_:zab) (b_:zab):Option Int:=(zfb a_.In b_.In).bind fun a2=>some a2
def zh6.s2 (l_:List zab) (t_:zab) (inside79:Bool) (a2:Nat):Option ((Bool×Nat)⊕(Bool⊕(List zab×Int))):=cond (decide ((↑a2:Int)<(↑l_.length:Int))) (idxn l_ a2 fun a6=>(zhr a6 t_).bind fun a7=>cond (decide (0<=a7)) (some (.inr (.inr ([],13)))) (cond (inside79) (some (.inl (true,(a2+1)))) ((zfe a6.In t_.In).bind fun a8=>some (.inl (a8,(a2+1)))))) (some (.inr (.inl inside79)))
def zh6 (l_:List zab) (t_:zab):Option (List zab×Int):=(iter (fun (s:Bool×Nat)=>zh6.s2 l_ t_ s.1 s.2) fuel (false,0)).bind (Sum.elim (fun inside73=>(cond (inside73) (some true) (some (decide ((↑t_.In.length:Int)=0)))).bind (fun b0=>cond (b0) (some (l_,0)) ((zat l_ (fun u0=>zj6 u0 t_)).bind fun a2=>cond (decide ((↑a2.length:Int)=10000)) (some ([],11)) ((za1 a2 t_ (fun u0 u1=>ziu u0 u1)).bind fun a6=>(zjl t_).bind fun a7=>(zmd a2 a6.1 [a7]).bind fun a8=>some (a8,0))))) some)
def zh1 (o_:Int):Option Bool:=(cond (decide (o_<0)) (some true) (some (decide (1048576<o_)))).bind (fun a2=>some a2)
def zjk (t_:zab) (inputs_:Int):Option Int:=(zc2 t_.In inputs_).bind fun a2=>cond (decide (a2≠0)) (some a2) (cond (decide ((↑t_.Out.length:Int)≠(↑t_.In.length:Int))) (some 1) ((zef t_.Out (fun u0=>zh1 u0)).bind fun a6=>cond (a6) (some 2) (some 0)))
def zg2.s2 (o_:zal) (l_:List zab) (a7:List zab) (a2:Nat):Option ((List zab×Nat)⊕(List zab⊕(zal×Int))):=cond (decide ((↑a2:Int)<(↑l_.length:Int))) (idxn l_ a2 fun a8=>(zjk a8 o_.Inputs).bind fun b0=>cond (decide (b0≠0)) (some (.inr (.inr (o_,b0)))) ((zh6 a7 a8).bind fun a6=>cond (decide (a6.2≠0)) (some (.inr (.inr (o_,a6.2)))) (some (.inl (a6.1,(a2+1)))))) (some (.inr (.inl a7)))
def zg2 (o_:zal) (l_:List zab):Option (zal×Int):=(zgg o_.Traces).bind fun a2=>(iter (fun (s:List zab×Nat)=>zg2.s2 o_ l_ s.1 s.2) fuel (a2,0)).bind (Sum.elim (fun a6=>some ((⟨o_.Inputs,a6⟩:zal),0)) some)
def zrp (m_:zaa) (words_:yaa):Option (zal×Int):=(zhd m_ words_).bind fun a2=>cond (decide (a2.2≠0)) (some ((⟨0,[]⟩:zal),a2.2)) ((zg2 (⟨m_.Inputs,[]⟩:zal) a2.1).bind fun a6=>cond (decide (a6.2≠0)) (some ((⟨0,[]⟩:zal),a6.2)) (some (a6.1,0)))
def zb0.s2 (slices_:List (yaa)) (size73:Nat) (a2:Nat):Option ((Nat×Nat)⊕Nat):=cond (decide ((↑a2:Int)<(↑slices_.length:Int))) (idxn slices_ a2 fun a6=>chk (inR ((↑size73:Int)+(↑a6.length:Int))) (cond (decide (((↑size73:Int)+(↑a6.length:Int))<0)) (none) (some (.inl ((size73+a6.length),(a2+1)))))) (some (.inr size73))
def zb0.s4 (slices_:List (yaa)) (a2:yaa) (a6:Nat):Option ((yaa×Nat)⊕yaa):=cond (decide ((↑a6:Int)<(↑slices_.length:Int))) (idxn slices_ a6 fun a7=>chk (za2 (List.length a2+List.length a7) 24) (some (.inl ((a2++a7),(a6+1))))) (some (.inr a2))
def zb0 (slices_:List (yaa)):Option yaa:=(iter (fun (s:Nat×Nat)=>zb0.s2 slices_ s.1 s.2) fuel (0,0)).bind (fun size68=>(zo8 (↑size68:Int)).bind fun a6=>(iter (fun (s:yaa×Nat)=>zb0.s4 slices_ s.1 s.2) fuel (a6,0)).bind (fun a2=>some a2))
def zhf (a_:yab) (b_:yab) (p2_:(yab)->(yab)->Option Int):Option Bool:=(p2_ a_ b_).bind fun a2=>some (decide (a2=0))
def zaw.s18 (eq_:(yab)->(yab)->Option Bool) (a8:Nat) (a2:yaa) (a7:Nat) (a6:Nat):Option ((yaa×Nat×Nat)⊕(yaa×Nat)):=cond (decide ((↑a6:Int)<(↑(List.length a2-a8):Int))) (idxn a2 (a8+a6) fun b0=>chk ((0:Int)<=((↑a6:Int)-1)) (idxn a2 (a8+(Int.toNat ((↑a6:Int)-1))) fun b2=>(eq_ b0 b2).bind fun b3=>cond ((!b3)) (idxn a2 (a8+a6) fun b4=>idxn a2 a7 fun b5=>chk (inR ((↑a7:Int)+1)) (some (.inl ((List.set a2 a7 b4),(a7+1),(a6+1))))) (some (.inl (a2,a7,(a6+1)))))) (some (.inr (a2,a7)))
def zaw.k19 (a6:yaa) (a2:Nat):Option (Nat⊕(Unit⊕yaa)):=chk ((0:Int)<=(↑a2:Int)∧(↑a2:Int)<=(↑a6.length:Int)∧0<List.length a6) (chk (a2<=List.length a6) (chk ((0:Int)<=(↑a2:Int)∧(↑a2:Int)<=(↑(List.length (List.take a2 a6++List.replicate (List.length a6-a2) [])):Int)∧0<List.length (List.take a2 a6++List.replicate (List.length a6-a2) [])) (some (.inr (.inr (List.take a2 (List.take a2 a6++List.replicate (List.length a6-a2) [])))))))
def zaw.s20 (s_:yaa) (eq_:(yab)->(yab)->Option Bool) (a2:Nat):Option (Nat⊕(Unit⊕yaa)):=cond (decide ((↑a2:Int)<(↑s_.length:Int))) (idxn s_ a2 fun a6=>idx s_ ((↑a2:Int)-1) fun a7=>(eq_ a6 a7).bind fun a8=>cond (a8) (chk ((0:Int)<=(↑a2:Int)∧(↑a2:Int)<=(↑s_.length:Int)∧0<List.length s_) ((iter (fun (s:yaa×Nat×Nat)=>zaw.s18 eq_ a2 s.1 s.2.1 s.2.2) fuel (s_,a2,1)).bind (fun s=>zaw.k19 s.1 s.2))) (some (.inl (a2+1)))) (some (.inr (.inl ())))
def zaw (s_:yaa) (eq_:(yab)->(yab)->Option Bool):Option yaa:=cond (decide ((↑s_.length:Int)<2)) (some s_) ((iter (fun (s:Nat)=>zaw.s20 s_ eq_ s) fuel 1).bind (Sum.elim (fun _=>some s_) some))
def zey.s2 (a7:yaa) (a6:yaa) (a2:Nat):Option ((yaa×Nat)⊕yaa):=cond (decide ((↑a2:Int)<(↑a7.length:Int))) (idxn a6 a2 fun a8=>(zdg a8).bind fun b0=>idxn a6 a2 fun b2=>chk (inR ((↑a2:Int)+1)) (some (.inl ((List.set a6 a2 b0),(a2+1))))) (some (.inr a6))
def zey (l_:yaa) (order_:(yab)->(yab)->Option Int):Option yaa:=(znn l_).bind fun a6=>(ziw a6 order_).bind fun a7=>(zaw a7 (fun u0 u1=>zhf u0 u1 order_)).bind fun a2=>(iter (fun (s:yaa×Nat)=>zey.s2 a2 s.1 s.2) fuel (a2,0)).bind (fun a8=>some a8)
def zd5 (l_:yaa):Option yaa:=(zey l_ (fun u0 u1=>zfb u0 u1)).bind fun a2=>some a2
def zkb (lists_:List (yaa)):Option yaa:=(zb0 lists_).bind fun a2=>(zd5 a2).bind fun a6=>some a6
def zes.s2 (l_:yaa) (a6:Int) (a2:Nat):Option ((Int×Nat)⊕Int):=cond (decide ((↑a2:Int)<(↑l_.length:Int))) (idxn l_ a2 fun a7=>some (.inl ((max a6 (↑a7.length:Int)),(a2+1)))) (some (.inr a6))
def zes (l_:yaa):Option Int:=(iter (fun (s:Int×Nat)=>zes.s2 l_ s.1 s.2) fuel (0,0)).bind (fun a2=>some a2)
def zb5.k53 (a2:Nat) (a6:List (ByteArray×Bool)) (a7:yaa):Option (((List (ByteArray×Bool))×yaa×Nat)⊕(((List (ByteArray×Bool))×yaa)⊕(((List (ByteArray×Bool))×yaa×Nat)⊕(yaa⊕(yaa×Int))))):=some (.inl (a6,a7,(a2+1)))
def zb5.s54 (b4:yaa) (b2:yab) (a6:List (ByteArray×Bool)) (a2:yaa) (a7:Nat):Option (((List (ByteArray×Bool))×yaa×Nat)⊕(((List (ByteArray×Bool))×yaa)⊕(((List (ByteArray×Bool))×yaa×Nat)⊕(yaa⊕(yaa×Int))))):=cond (decide ((↑a7:Int)<(↑b4.length:Int))) ((idxn b4 a7 fun b3=>(zcp [b2,b3]).bind fun a8=>(ztt a8).bind fun b0=>cond (((mget b0 a6).getD false)) (some (.inl (a6,a2))) (cond (decide ((↑a2.length:Int)=10000)) (some (.inr (.inr (.inr (.inr (.inr ([],11))))))) (chk (za2 (List.length a2+1) 24) (some (.inl ((mset b0 true a6),(a2++[a8])))))):Option (((List (ByteArray×Bool))×yaa)⊕(((List (ByteArray×Bool))×yaa×Nat)⊕(((List (ByteArray×Bool))×yaa)⊕(((List (ByteArray×Bool))×yaa×Nat)⊕(yaa⊕(yaa×Int))))))).bind (Sum.elim (fun s=>zb5.k53 a7 s.1 s.2) some)) (some (.inr (.inl (a6,a2))))
def zb5.k55 (a2:Nat) (a6:List (ByteArray×Bool)) (a7:yaa):Option (((List (ByteArray×Bool))×yaa×Nat)⊕(yaa⊕(yaa×Int))):=some (.inl (a6,a7,(a2+1)))
def zb5.s56 (b0:yaa) (b2:yaa) (a7:List (ByteArray×Bool)) (a6:yaa) (a2:Nat):Option (((List (ByteArray×Bool))×yaa×Nat)⊕(yaa⊕(yaa×Int))):=cond (decide ((↑a2:Int)<(↑b0.length:Int))) (idxn b0 a2 fun a8=>(iter (fun (s:(List (ByteArray×Bool))×yaa×Nat)=>zb5.s54 b2 a8 s.1 s.2.1 s.2.2) fuel (a7,a6,0)).bind (Sum.elim (fun s=>zb5.k55 a2 s.1 s.2) some)) (some (.inr (.inl a6)))
def zb5 (a_:yaa) (b_:yaa):Option (yaa×Int):=(cond (decide ((↑a_.length:Int)=0)) (some true) (some (decide ((↑b_.length:Int)=0)))).bind (fun b3=>cond (b3) (some ([],0)) ((zes a_).bind fun a7=>(zes b_).bind fun a8=>chk (inR (a7+a8)) (cond (decide (1024<(a7+a8))) (some ([],3)) ((zd5 a_).bind fun b0=>(zd5 b_).bind fun b2=>cond (decide (10000<(max (↑b0.length:Int) (↑b2.length:Int)))) (some ([],11)) ((iter (fun (s:(List (ByteArray×Bool))×yaa×Nat)=>zb5.s56 b0 b2 s.1 s.2.1 s.2.2) fuel (([]:List (ByteArray×Bool)),[],0)).bind (Sum.elim (fun a2=>(ziw a2 (fun u0 u1=>zfb u0 u1)).bind fun a6=>some (a6,0)) some))))))
def zh0 (a_:yab) (b_:yab):Option Int:=(zb6 a_ b_).bind fun a2=>some a2
def zd3.s2 (a8:yaa) (a6:yaa) (a2:Nat):Option ((yaa×Nat)⊕yaa):=cond (decide ((↑a2:Int)<(↑a8.length:Int))) (idxn a8 a2 fun a7=>(cond (decide (((↑a2:Int)+1)=(↑a8.length:Int))) (some true) (idxn a8 (a2+1) fun b0=>(zfe b0 a7).bind fun b2=>some (!b2))).bind (fun b3=>cond (b3) (chk (za2 (List.length a6+1) 24) (some (.inl ((a6++[a7]),(a2+1))))) (some (.inl (a6,(a2+1)))))) (some (.inr a6))
def zd3 (l_:yaa):Option yaa:=(zey l_ (fun u0 u1=>zh0 u0 u1)).bind fun a7=>(iter (fun (s:yaa×Nat)=>zd3.s2 a7 s.1 s.2) fuel ([],0)).bind (fun a2=>(zd5 a2).bind fun a6=>some a6)
def zd0.s18 (b0:yab) (a2:List Bool) (a6:yab) (a7:Nat):Option ((List Bool×yab×Nat)⊕(List Bool×yab)):=cond (decide ((↑a7:Int)<(↑b0.length:Int))) (idxn b0 a7 fun a8=>idx a2 a8 fun b2=>cond ((!b2)) (idx a2 a8 fun b3=>chk (za2 (List.length a6+1) 8) (some (.inl ((List.set a2 a8.toNat true),(a6++[a8]),(a7+1))))) (some (.inl (a2,a6,(a7+1))))) (some (.inr (a2,a6)))
def zd0.k19 (a2:Nat) (a6:List Bool) (a7:yab):Option ((List Bool×yab×Nat)⊕yab):=some (.inl (a6,a7,(a2+1)))
def zd0.s20 (m_:zaa) (a7:List Bool) (a2:yab) (a6:Nat):Option ((List Bool×yab×Nat)⊕yab):=cond (decide ((↑a6:Int)<(↑a2.length:Int))) (idxn a2 a6 fun a8=>idx m_.Next a8 fun b0=>(iter (fun (s:List Bool×yab×Nat)=>zd0.s18 b0 s.1 s.2.1 s.2.2) fuel (a7,a2,0)).bind (fun s=>zd0.k19 a6 s.1 s.2)) (some (.inr a2))
def zd0 (m_:zaa):Option yab:=(zbc m_).bind fun a6=>cond (decide (a6≠0)) (some []) (chk ((0:Int)<=(↑m_.Next.length:Int)∧(↑m_.Next.length:Int)<=(↑m_.Next.length:Int)∧za2 (Int.toNat (↑m_.Next.length:Int)) 1) (idx (List.replicate m_.Next.length false) m_.Start fun a7=>(iter (fun (s:List Bool×yab×Nat)=>zd0.s20 m_ s.1 s.2.1 s.2.2) fuel ((List.set (List.replicate m_.Next.length false) m_.Start.toNat true),[m_.Start],0)).bind (fun a2=>some a2)))
def zdr.s2 (a7:yab) (a6:yab) (a2:Nat):Option ((yab×Nat)⊕yab):=cond (decide ((↑a2:Int)<(↑a7.length:Int))) (idxn a7 a2 fun a8=>idx a6 a8 fun b0=>some (.inl ((List.set a6 a8.toNat (↑a2:Int)),(a2+1)))) (some (.inr a6))
def zdr.s15 (b2:yab) (a7:yab) (a6:yab) (a2:Nat):Option ((yab×Nat)⊕yab):=cond (decide ((↑a2:Int)<(↑a7.length:Int))) (idxn a7 a2 fun a8=>idx b2 a8 fun b0=>idxn a6 a2 fun b3=>some (.inl ((List.set a6 a2 b0),(a2+1)))) (some (.inr a6))
def zdr.s16 (m_:zaa) (b5:yab) (b6:yab) (a2:yaa) (a6:yaa) (a7:Nat):Option ((yaa×yaa×Nat)⊕(yaa×yaa)):=cond (decide ((↑a7:Int)<(↑b5.length:Int))) (idxn b5 a7 fun a8=>chk ((0:Int)<=m_.Inputs∧m_.Inputs<=m_.Inputs∧za2 (Int.toNat m_.Inputs) 8) (idx m_.Next a8 fun b0=>(iter (fun (s:yab×Nat)=>zdr.s15 b6 b0 s.1 s.2) fuel ((List.replicate (Int.toNat m_.Inputs) (0:Int)),0)).bind (fun b2=>chk (za2 (List.length a2+1) 24) (idx m_.Out a8 fun b3=>(zdg b3).bind fun b4=>chk (za2 (List.length a6+1) 24) (some (.inl ((a2++[b2]),(a6++[b4]),(a7+1)))))))) (some (.inr (a2,a6)))
def zdr.k17 (m_:zaa) (a2:yaa) (a6:yaa):Option (zaa×Int):=some ((⟨m_.Inputs,0,a2,a6⟩:zaa),0)
def zdr (m_:zaa):Option (zaa×Int):=(zbc m_).bind fun a2=>cond (decide (a2≠0)) (some ((⟨0,0,[],[]⟩:zaa),a2)) ((zd0 m_).bind fun a6=>chk ((0:Int)<=(↑m_.Next.length:Int)∧(↑m_.Next.length:Int)<=(↑m_.Next.length:Int)∧za2 (Int.toNat (↑m_.Next.length:Int)) 8) ((iter (fun (s:yab×Nat)=>zdr.s2 a6 s.1 s.2) fuel ((List.replicate m_.Next.length (0:Int)),0)).bind (fun a7=>(iter (fun (s:yaa×yaa×Nat)=>zdr.s16 m_ a6 a7 s.1 s.2.1 s.2.2) fuel ([],[],0)).bind (fun s=>zdr.k17 m_ s.1 s.2))))
def zce.s30 (b2:yab×Int) (a7:yab) (a2:yab) (a6:Nat):Option ((yab×Nat)⊕yab):=cond (decide ((↑a6:Int)<(↑a7.length:Int))) (idxn a7 a6 fun a8=>idx b2.1 a8 fun b0=>chk (za2 (List.length a2+1) 8) (some (.inl ((a2++[b0]),(a6+1))))) (some (.inr a2))
def zce.k31 (a2:Nat) (a6:yaa) (a7:yaa):Option ((yaa×yaa×Nat)⊕(yaa×yaa)):=some (.inl (a6,a7,(a2+1)))
def zce.s32 (b5:zaa×Int) (b0:yab×Int) (a2:yaa) (a7:yaa) (a6:Nat):Option ((yaa×yaa×Nat)⊕(yaa×yaa)):=cond (decide ((↑a6:Int)<(↑b0.1.length:Int))) ((idxn b0.1 a6 fun b2=>cond (decide (b2<(↑a2.length:Int))) (some (a2,a7)) (idxn b5.1.Next a6 fun b3=>(iter (fun (s:yab×Nat)=>zce.s30 b0 b3 s.1 s.2) fuel ([],0)).bind (fun b4=>chk (za2 (List.length a2+1) 24) (idxn b5.1.Out a6 fun a8=>chk (za2 (List.length ([]:List Unit)+List.length a8) 8) (chk (za2 (List.length a7+1) 24) (some ((a2++[b4]),(a7++[([]++a8)]))))))):Option (yaa×yaa)).bind (fun s=>zce.k31 a6 s.1 s.2)) (some (.inr (a2,a7)))
def zce.k33 (a7:zaa×Int) (a2:yaa) (a6:yaa):Option (zaa×Int):=some ((⟨a7.1.Inputs,0,a2,a6⟩:zaa),0)
def zce (m_:zaa):Option (zaa×Int):=(zdr m_).bind fun a2=>cond (decide (a2.2≠0)) (some ((⟨0,0,[],[]⟩:zaa),a2.2)) ((zfq a2.1).bind fun a6=>cond (decide (a6.2≠0)) (some ((⟨0,0,[],[]⟩:zaa),a6.2)) ((iter (fun (s:yaa×yaa×Nat)=>zce.s32 a2 a6 s.1 s.2.1 s.2.2) fuel ([],[],0)).bind (fun s=>zce.k33 a2 s.1 s.2)))
def zdo.s18 (b2:Nat) (b0:yab) (a2:List Bool) (a6:List zcg) (a7:Nat):Option ((List Bool×List zcg×Nat)⊕(List Bool×List zcg)):=cond (decide ((↑a7:Int)<(↑b0.length:Int))) (idxn b0 a7 fun a8=>idx a2 a8 fun b3=>cond ((!b3)) (idx a2 a8 fun b6=>idxn a6 b2 fun b4=>(zcp [b4.word,[(↑a7:Int)]]).bind fun b5=>chk (za2 (List.length a6+1) 32) (some (.inl ((List.set a2 a8.toNat true),(a6++[(⟨a8,b5⟩:zcg)]),(a7+1))))) (some (.inl (a2,a6,(a7+1))))) (some (.inr (a2,a6)))
def zdo.k19 (a2:Nat) (a6:List Bool) (a7:List zcg):Option ((List Bool×List zcg×Nat)⊕List zcg):=some (.inl (a6,a7,(a2+1)))
def zdo.s20 (m_:zaa) (a7:List Bool) (a2:List zcg) (a6:Nat):Option ((List Bool×List zcg×Nat)⊕List zcg):=cond (decide ((↑a6:Int)<(↑a2.length:Int))) (idxn a2 a6 fun a8=>idx m_.Next a8.state fun b0=>(iter (fun (s:List Bool×List zcg×Nat)=>zdo.s18 a6 b0 s.1 s.2.1 s.2.2) fuel (a7,a2,0)).bind (fun s=>zdo.k19 a6 s.1 s.2)) (some (.inr a2))
def zdo (m_:zaa) (from_:Int):Option (List zcg):=chk ((0:Int)<=(↑m_.Next.length:Int)∧(↑m_.Next.length:Int)<=(↑m_.Next.length:Int)∧za2 (Int.toNat (↑m_.Next.length:Int)) 1) (idx (List.replicate m_.Next.length false) from_ fun a6=>(iter (fun (s:List Bool×List zcg×Nat)=>zdo.s20 m_ s.1 s.2.1 s.2.2) fuel ((List.set (List.replicate m_.Next.length false) from_.toNat true),[(⟨from_,[]⟩:zcg)],0)).bind (fun a2=>some a2))
def zel.s2 (a8:List zcg) (a2:yab) (a6:yaa) (a7:Nat):Option ((yab×yaa×Nat)⊕(yab×yaa)):=cond (decide ((↑a7:Int)<(↑a8.length:Int))) (idxn a8 a7 fun b0=>chk (za2 (List.length a2+1) 8) (chk (za2 (List.length a6+1) 24) (some (.inl ((a2++[b0.state]),(a6++[b0.word]),(a7+1)))))) (some (.inr (a2,a6)))
def zel.k3 (a2:yab) (a6:yaa):Option (yab×yaa×Int):=some (a2,a6,0)
def zel (m_:zaa):Option (yab×yaa×Int):=(zbc m_).bind fun a2=>cond (decide (a2≠0)) (some ([],[],a2)) ((zdo m_ m_.Start).bind fun a6=>(iter (fun (s:yab×yaa×Nat)=>zel.s2 a6 s.1 s.2.1 s.2.2) fuel ([],[],0)).bind (fun s=>zel.k3 s.1 s.2))
def zhy (m_:zaa):Option (yaa×Int):=(zel m_).bind fun a2=>some (a2.2.1,a2.2.2)
def zc6.s13 (m_:zaa) (a7:yab) (a6:yaa) (a2:Nat):Option ((yaa×Nat)⊕yaa):=cond (decide ((↑a2:Int)<m_.Inputs)) ((zcp [a7,[(↑a2:Int)]]).bind fun a8=>chk (za2 (List.length a6+1) 24) (chk (inR ((↑a2:Int)+1)) (some (.inl ((a6++[a8]),(a2+1)))))) (some (.inr a6))
def zc6.s14 (m_:zaa) (b0:yab×yaa×Int) (a6:yaa) (a2:Nat):Option ((yaa×Nat)⊕yaa):=cond (decide ((↑a2:Int)<(↑b0.2.1.length:Int))) (idxn b0.2.1 a2 fun a7=>(iter (fun (s:yaa×Nat)=>zc6.s13 m_ a7 s.1 s.2) fuel (a6,0)).bind (fun a8=>some (.inl (a8,(a2+1))))) (some (.inr a6))
def zc6 (m_:zaa):Option (yaa×Int):=(zel m_).bind fun a2=>cond (decide (a2.2.2≠0)) (some ([],a2.2.2)) ((iter (fun (s:yaa×Nat)=>zc6.s14 m_ a2 s.1 s.2) fuel ([],0)).bind (fun a6=>(zd5 a6).bind fun a7=>some (a7,0)))
def zfs.s2 (m_:zaa) (w_:yab) (b4:Int) (a6:yab) (a7:Nat):Option ((Int×yab×Nat)⊕yab):=cond (decide ((↑a7:Int)<(↑w_.length:Int))) (idxn w_ a7 fun a2=>idx m_.Out b4 fun a8=>idx a8 a2 fun b0=>chk (za2 (List.length a6+1) 8) (idx m_.Next b4 fun b2=>idx b2 a2 fun b3=>some (.inl (b3,(a6++[b0]),(a7+1))))) (some (.inr a6))
def zfs (m_:zaa) (s_:Int) (w_:yab):Option yab:=chk ((0:Int)<=0∧0<=(↑w_.length:Int)∧za2 (Int.toNat (↑w_.length:Int)) 8) ((iter (fun (s:Int×yab×Nat)=>zfs.s2 m_ w_ s.1 s.2.1 s.2.2) fuel (s_,[],0)).bind (fun a2=>some a2))
def zca.s2 (s1_:yab) (s2_:yab) (a2:Nat):Option (Nat⊕(Unit⊕Bool)):=cond (decide ((↑a2:Int)<(↑s1_.length:Int))) (idxn s1_ a2 fun a6=>idxn s2_ a2 fun a7=>cond (decide (a6≠a7)) (some (.inr (.inr false))) (some (.inl (a2+1)))) (some (.inr (.inl ())))
def zca (s1_:yab) (s2_:yab):Option Bool:=cond (decide ((↑s1_.length:Int)≠(↑s2_.length:Int))) (some false) ((iter (fun (s:Nat)=>zca.s2 s1_ s2_ s) fuel 0).bind (Sum.elim (fun _=>some true) some))
def zf3 (w_:yab) (p1_:zaa) (p2_:Int) (p3_:Int):Option Bool:=(zfs p1_ p2_ w_).bind fun a2=>(zfs p1_ p3_ w_).bind fun a6=>(zca a2 a6).bind fun a7=>some (!a7)
def zeb.s2 (l_:yaa) (has_:(yab)->Option Bool) (a2:Nat):Option (Nat⊕(Unit⊕Bool)):=cond (decide ((↑a2:Int)<(↑l_.length:Int))) (idxn l_ a2 fun a6=>(has_ a6).bind fun a7=>cond (a7) (some (.inr (.inr true))) (some (.inl (a2+1)))) (some (.inr (.inl ())))
def zeb (l_:yaa) (has_:(yab)->Option Bool):Option Bool:=(iter (fun (s:Nat)=>zeb.s2 l_ has_ s) fuel 0).bind (Sum.elim (fun _=>some false) some)
def zis (m_:zaa) (words_:yaa) (s_:Int) (t_:Int):Option Bool:=(zeb words_ (fun u0=>zf3 u0 m_ s_ t_)).bind fun a2=>some a2
def zj0 (m_:zaa):Option Bool:=((zbc m_).bind fun a6=>cond (decide (a6≠0)) (some true) ((zd0 m_).bind fun a7=>some (decide ((↑a7.length:Int)≠(↑m_.Next.length:Int))))).bind (fun a8=>cond (a8) (some false) ((zce m_).bind fun a2=>(cond (decide (a2.2=0)) (some (decide ((↑a2.1.Next.length:Int)=(↑m_.Next.length:Int)))) (some false)).bind (fun b0=>some b0)))
def zjn (m_:zaa):Option Int:=(zbc m_).bind fun a2=>cond (decide (a2≠0)) (some a2) ((zj0 m_).bind fun a6=>cond ((!a6)) (some 1) (some 0))
def zcn.s2 (a_:zaa) (b_:zaa) (a6:List (List Bool)) (a2:Nat):Option ((List (List Bool)×Nat)⊕List (List Bool)):=cond (decide ((↑a2:Int)<(↑(List.length (List.replicate a_.Next.length ([]:List Bool))):Int))) (chk ((0:Int)<=(↑b_.Next.length:Int)∧(↑b_.Next.length:Int)<=(↑b_.Next.length:Int)∧za2 (Int.toNat (↑b_.Next.length:Int)) 1) (idxn a6 a2 fun a7=>chk (inR ((↑a2:Int)+1)) (some (.inl ((List.set a6 a2 (List.replicate b_.Next.length false)),(a2+1)))))) (some (.inr a6))
def zcn.s20 (a_:zaa) (b_:zaa) (b4:Nat) (a6:zcm) (a8:List (List Bool)) (a7:List zcm) (a2:Nat):Option ((List (List Bool)×List zcm×Nat)⊕((List (List Bool)×List zcm)⊕((List (List Bool)×List zcm×Nat)⊕(Unit⊕(yab×Bool))))):=cond (decide ((↑a2:Int)<a_.Inputs)) (idx a_.Out a6.at_.s fun b5=>idxn b5 a2 fun b6=>idx b_.Out a6.at_.t fun b7=>idxn b7 a2 fun b8=>cond (decide (b6≠b8)) (idxn a7 b4 fun b9=>(zcp [b9.word,[(↑a2:Int)]]).bind fun c0=>some (.inr (.inr (.inr (.inr (c0,true)))))) (idx a_.Next a6.at_.s fun c6=>idxn c6 a2 fun b0=>idx b_.Next a6.at_.t fun c7=>idxn c7 a2 fun b2=>(cond ((!(decide (b0=a6.at_.s)&&(decide (b2=a6.at_.t)&&true)))) (idx a8 b0 fun c8=>idx c8 b2 fun c9=>some (!c9)) (some false)).bind (fun d0=>cond (d0) (idx a8 b0 fun b3=>idx b3 b2 fun d3=>idxn a7 b4 fun d1=>(zcp [d1.word,[(↑a2:Int)]]).bind fun d2=>chk (za2 (List.length a7+1) 40) (chk (inR ((↑a2:Int)+1)) (some (.inl ((List.set a8 (Int.toNat b0) (List.set b3 (Int.toNat b2) true)),(a7++[(⟨(⟨b0,b2⟩:zek),d2⟩:zcm)]),(a2+1)))))) (chk (inR ((↑a2:Int)+1)) (some (.inl (a8,a7,(a2+1)))))))) (some (.inr (.inl (a8,a7))))
def zcn.k21 (a7:Nat) (a2:List (List Bool)) (a6:List zcm):Option ((List (List Bool)×List zcm×Nat)⊕(Unit⊕(yab×Bool))):=some (.inl (a2,a6,(a7+1)))
def zcn.s22 (a_:zaa) (b_:zaa) (a8:List (List Bool)) (a6:List zcm) (a2:Nat):Option ((List (List Bool)×List zcm×Nat)⊕(Unit⊕(yab×Bool))):=cond (decide ((↑a2:Int)<(↑a6.length:Int))) (idxn a6 a2 fun a7=>(iter (fun (s:List (List Bool)×List zcm×Nat)=>zcn.s20 a_ b_ a2 a7 s.1 s.2.1 s.2.2) fuel (a8,a6,0)).bind (Sum.elim (fun s=>zcn.k21 a2 s.1 s.2) some)) (some (.inr (.inl ())))
def zcn (a_:zaa) (b_:zaa) (first_:zek):Option (yab×Bool):=chk ((0:Int)<=(↑a_.Next.length:Int)∧(↑a_.Next.length:Int)<=(↑a_.Next.length:Int)∧za2 (Int.toNat (↑a_.Next.length:Int)) 24) ((iter (fun (s:List (List Bool)×Nat)=>zcn.s2 a_ b_ s.1 s.2) fuel ((List.replicate a_.Next.length ([]:List Bool)),0)).bind (fun a2=>idx a2 first_.s fun a6=>idx a6 first_.t fun a7=>(iter (fun (s:List (List Bool)×List zcm×Nat)=>zcn.s22 a_ b_ s.1 s.2.1 s.2.2) fuel ((List.set a2 (Int.toNat first_.s) (List.set a6 (Int.toNat first_.t) true)),[(⟨first_,[]⟩:zcm)],0)).bind (Sum.elim (fun _=>some ([],false)) some)))
def zlm (m_:zaa) (s_:Int) (t_:Int):Option (yab×Bool×Int):=(zbc m_).bind fun a2=>cond (decide (a2≠0)) (some ([],false,a2)) ((cond (decide (s_<0)) (some true) (cond (decide ((↑m_.Next.length:Int)<=s_)) (some true) (cond (decide (t_<0)) (some true) (some (decide ((↑m_.Next.length:Int)<=t_)))))).bind (fun a7=>cond (a7) (some ([],false,2)) ((zcn m_ m_ (⟨s_,t_⟩:zek)).bind fun a6=>some (a6.1,a6.2,0))))
def zdb.s13 (m_:zaa) (a8:Nat) (a2:yaa) (a6:Nat):Option ((yaa×Nat)⊕(yaa⊕((yaa×Nat)⊕(yaa⊕(yaa×Int))))):=cond (decide ((↑a6:Int)<(↑m_.Next.length:Int))) (((zis m_ a2 (↑a8:Int) (↑a6:Int)).bind fun b0=>cond (b0) (some (.inl a2)) ((zlm m_ (↑a8:Int) (↑a6:Int)).bind fun a7=>cond (decide (a7.2.2≠0)) (some (.inr (.inr (.inr (.inr (.inr ([],a7.2.2))))))) (chk (za2 (List.length a2+1) 24) (some (.inl (a2++[a7.1]))))):Option (yaa⊕((yaa×Nat)⊕(yaa⊕((yaa×Nat)⊕(yaa⊕(yaa×Int))))))).bind (Sum.elim (fun b2=>some (.inl (b2,(a6+1)))) some)) (some (.inr (.inl a2)))
def zdb.s14 (m_:zaa) (a6:yaa) (a2:Nat):Option ((yaa×Nat)⊕(yaa⊕(yaa×Int))):=cond (decide ((↑a2:Int)<(↑m_.Next.length:Int))) ((iter (fun (s:yaa×Nat)=>zdb.s13 m_ a2 s.1 s.2) fuel (a6,(a2+1))).bind (Sum.elim (fun a7=>some (.inl (a7,(a2+1)))) some)) (some (.inr (.inl a6)))
def zdb (m_:zaa):Option (yaa×Int):=(zjn m_).bind fun a7=>cond (decide (a7≠0)) (some ([],a7)) ((iter (fun (s:yaa×Nat)=>zdb.s14 m_ s.1 s.2) fuel ([],0)).bind (Sum.elim (fun a2=>(zd5 a2).bind fun a6=>some (a6,0)) some))
def zn6 (m_:zaa):Option (yaa×Int):=(zbc m_).bind fun a7=>cond (decide (a7≠0)) (some ([],a7)) ((zce m_).bind fun a2=>(zhy a2.1).bind fun b2=>(zc6 a2.1).bind fun a8=>(zdb a2.1).bind fun b0=>(cond (decide ((↑b0.1.length:Int)=0)) (some [[]]) (some b0.1):Option yaa).bind (fun ends60=>(zkb [b2.1,a8.1]).bind fun b3=>(zb5 b3 ends60).bind fun a6=>cond (decide (a6.2≠0)) (some ([],a6.2)) ((zkb [a8.1,a6.1]).bind fun b4=>(zd3 b4).bind fun b5=>some (b5,0))))
def zf7.s25 (red_:List Bool) (a7:yab) (best1109:Int) (a2:Nat):Option ((Int×Nat)⊕Int):=cond (decide ((↑a2:Int)<(↑a7.length:Int))) (idxn a7 a2 fun a6=>(cond (decide (a6≠(-1:Int))) (idx red_ a6 fun a8=>some (!a8)) (some false)).bind (fun b0=>cond (b0) (some (.inl ((min best1109 a6),(a2+1)))) (some (.inl (best1109,(a2+1)))))) (some (.inr best1109))
def zf7.s26 (p_:zam) (red_:List Bool) (best777:Int) (a2:Nat):Option ((Int×Nat)⊕Int):=cond (decide ((↑a2:Int)<(↑red_.length:Int))) ((idxn red_ a2 fun a6=>cond ((!a6)) (some best777) (idxn p_.Next a2 fun a7=>(iter (fun (s:Int×Nat)=>zf7.s25 red_ a7 s.1 s.2) fuel (best777,0)).bind (fun best1096=>some best1096)):Option Int).bind (fun best1050=>some (.inl (best1050,(a2+1))))) (some (.inr best777))
def zf7 (p_:zam) (red_:List Bool):Option (Int×Bool):=(iter (fun (s:Int×Nat)=>zf7.s26 p_ red_ s.1 s.2) fuel ((↑red_.length:Int),0)).bind (fun best596=>some (best596,decide (best596<(↑red_.length:Int))))
def zcw.s1 (b_:zbo) (a2:Int):Option (Int⊕(Int×(List (Int×Int)))):=cond ((!((mget a2 b_.up).isSome))) (some (.inr (a2,b_.up))) (some (.inl ((mget a2 b_.up).getD 0)))
def zcw (b_:zbo) (x_:Int):Option (Int×(List (Int×Int))):=iter (fun (s:Int)=>zcw.s1 b_ s) fuel x_
def zg8 (b_:zbo) (x_:Int) (y_:Int):Option (List (Int×Int)):=some (mset y_ x_ b_.up)
def zf9.s2 (inputs_:Int) (a6:yab) (a2:Nat):Option ((yab×Nat)⊕yab):=cond (decide ((↑a2:Int)<(↑(List.length (List.replicate (Int.toNat inputs_) (0:Int))):Int))) (idxn a6 a2 fun a7=>chk (inR ((↑a2:Int)+1)) (some (.inl ((List.set a6 a2 (-1:Int)),(a2+1))))) (some (.inr a6))
def zf9 (inputs_:Int):Option yab:=chk ((0:Int)<=inputs_∧inputs_<=inputs_∧za2 (Int.toNat inputs_) 8) ((iter (fun (s:yab×Nat)=>zf9.s2 inputs_ s.1 s.2) fuel ((List.replicate (Int.toNat inputs_) (0:Int)),0)).bind (fun a2=>some a2))
def zaq.s18 (b0:yab) (a2:yab) (a6:yab) (a8:Nat):Option ((yab×yab×Nat)⊕(yab×yab)):=cond (decide ((↑a8:Int)<(↑b0.length:Int))) (idxn b0 a8 fun a7=>(cond (decide (a7≠(-1:Int))) (idx a2 a7 fun b2=>some (decide (b2=(-1:Int)))) (some false)).bind (fun b3=>cond (b3) (idx a2 a7 fun b4=>chk (za2 (List.length a6+1) 8) (some (.inl ((List.set a2 a7.toNat (↑a6.length:Int)),(a6++[a7]),(a8+1))))) (some (.inl (a2,a6,(a8+1)))))) (some (.inr (a2,a6)))
def zaq.k19 (a2:Nat) (a6:yab) (a7:yab):Option ((yab×yab×Nat)⊕(yab×yab)):=some (.inl (a6,a7,(a2+1)))
def zaq.s20 (p_:zam) (a7:yab) (a2:yab) (a6:Nat):Option ((yab×yab×Nat)⊕(yab×yab)):=cond (decide ((↑a6:Int)<(↑a2.length:Int))) (idxn a2 a6 fun a8=>idx p_.Next a8 fun b0=>(iter (fun (s:yab×yab×Nat)=>zaq.s18 b0 s.1 s.2.1 s.2.2) fuel (a7,a2,0)).bind (fun s=>zaq.k19 a6 s.1 s.2)) (some (.inr (a7,a2)))
def zaq.s38 (p_:zam) (b6:yab) (b2:Int) (a8:yab) (a6:yab) (a7:yab) (a2:Nat):Option ((yab×yab×Nat)⊕(yab×yab)):=cond (decide ((↑a2:Int)<(↑a8.length:Int))) (idxn a8 a2 fun b0=>cond (decide (b0≠(-1:Int))) (idx b6 b0 fun b3=>idx p_.Out b2 fun b4=>idxn b4 a2 fun b5=>idxn a6 a2 fun b7=>idxn a7 a2 fun b8=>some (.inl ((List.set a6 a2 b3),(List.set a7 a2 b5),(a2+1)))) (some (.inl (a6,a7,(a2+1))))) (some (.inr (a6,a7)))
def zaq.k39 (a2:yaa) (a6:yaa) (a7:Nat) (a8:yab) (b0:yab):Option ((yaa×yaa×Nat)⊕(yaa×yaa)):=chk (za2 (List.length a2+1) 24) (chk (za2 (List.length a6+1) 24) (some (.inl ((a2++[a8]),(a6++[b0]),(a7+1)))))
def zaq.s40 (p_:zam) (b5:yab) (b0:yab) (a6:yaa) (a7:yaa) (a2:Nat):Option ((yaa×yaa×Nat)⊕(yaa×yaa)):=cond (decide ((↑a2:Int)<(↑b0.length:Int))) (idxn b0 a2 fun a8=>(zf9 p_.Inputs).bind fun b2=>(zf9 p_.Inputs).bind fun b3=>idx p_.Next a8 fun b4=>(iter (fun (s:yab×yab×Nat)=>zaq.s38 p_ b5 a8 b4 s.1 s.2.1 s.2.2) fuel (b2,b3,0)).bind (fun s=>zaq.k39 a6 a7 a2 s.1 s.2)) (some (.inr (a6,a7)))
def zaq.k41 (p_:zam) (a7:yab) (a2:yaa) (a6:yaa):Option (zam×yab):=some ((⟨p_.Inputs,0,a2,a6⟩:zam),a7)
def zaq.k42 (p_:zam) (a2:yab) (a6:yab):Option (zam×yab):=(iter (fun (s:yaa×yaa×Nat)=>zaq.s40 p_ a2 a6 s.1 s.2.1 s.2.2) fuel ([],[],0)).bind (fun s=>zaq.k41 p_ a2 s.1 s.2)
def zaq (p_:zam):Option (zam×yab):=(zf9 (↑p_.Next.length:Int)).bind fun a2=>idx a2 p_.Start fun a6=>(iter (fun (s:yab×yab×Nat)=>zaq.s20 p_ s.1 s.2.1 s.2.2) fuel ((List.set a2 p_.Start.toNat 0),[p_.Start],0)).bind (fun s=>zaq.k42 p_ s.1 s.2)
def zar.s2 (p_:zam) (a6:yaa) (a7:yaa) (a2:Nat):Option ((yaa×yaa×Nat)⊕(yaa×yaa)):=cond (decide ((↑a2:Int)<(↑p_.Next.length:Int))) (idxn p_.Next a2 fun a8=>chk (za2 (List.length ([]:List Unit)+List.length a8) 8) (chk (za2 (List.length a6+List.length [([]++a8)]) 24) (idxn p_.Out a2 fun b0=>chk (za2 (List.length ([]:List Unit)+List.length b0) 8) (chk (za2 (List.length a7+List.length [([]++b0)]) 24) (some (.inl ((a6++[([]++a8)]),(a7++[([]++b0)]),(a2+1)))))))) (some (.inr (a6,a7)))
def zar.s43 (a6:Int×(List (Int×Int))) (a7:Int×(List (Int×Int))) (b6:yab) (a8:yaa) (b0:yaa) (b2:List T_A2) (a2:Nat):Option ((yaa×yaa×List T_A2×Nat)⊕((yaa×yaa×List T_A2)⊕((yaa×yaa×(List (Int×Int))×List T_A2)⊕((yaa×yaa×(List (Int×Int))×List T_A2)⊕((yaa×yaa×(List (Int×Int)))⊕(zam×yab×Bool)))))):=cond (decide ((↑a2:Int)<(↑b6.length:Int))) (idxn a8 (Int.toNat (max a6.1 a7.1)) fun b7=>idxn b7 a2 fun b3=>cond (decide (b3=(-1:Int))) (chk (inR ((↑a2:Int)+1)) (some (.inl (a8,b0,b2,(a2+1))))) (idx a8 (min a6.1 a7.1) fun b8=>idxn b8 a2 fun b9=>cond (decide (b9=(-1:Int))) (idx a8 (min a6.1 a7.1) fun b4=>idx b0 (min a6.1 a7.1) fun b5=>idx b0 (max a6.1 a7.1) fun c0=>idxn c0 a2 fun c6=>idxn b4 a2 fun d3=>idxn b5 a2 fun d4=>chk (inR ((↑a2:Int)+1)) (some (.inl ((List.set a8 (Int.toNat (min a6.1 a7.1)) (List.set b4 a2 b3)),(List.set b0 (Int.toNat (min a6.1 a7.1)) (List.set b5 a2 c6)),b2,(a2+1))))) (idx b0 (min a6.1 a7.1) fun c7=>idxn c7 a2 fun c8=>idx b0 (max a6.1 a7.1) fun c9=>idxn c9 a2 fun d0=>cond (decide (c8≠d0)) (some (.inr (.inr (.inr (.inr (.inr ((⟨0,0,[],[]⟩:zam),[],false))))))) (idx a8 (min a6.1 a7.1) fun d1=>idxn d1 a2 fun d2=>chk (za2 (List.length b2+1) 16) (chk (inR ((↑a2:Int)+1)) (some (.inl (a8,b0,(b2++[(⟨d2,b3⟩:T_A2)]),(a2+1))))))))) (some (.inr (.inl (a8,b0,b2))))
def zar.k44 (a2:List (Int×Int)) (a6:yaa) (a7:yaa) (a8:List T_A2):Option ((yaa×yaa×(List (Int×Int))×List T_A2)⊕((yaa×yaa×(List (Int×Int))×List T_A2)⊕((yaa×yaa×(List (Int×Int)))⊕(zam×yab×Bool)))):=some (.inl (a6,a7,a2,a8))
def zar.k45 (a2:yaa) (a6:yaa) (a7:List (Int×Int)) (a8:List T_A2):Option ((yaa×yaa×(List (Int×Int))×List T_A2)⊕((yaa×yaa×(List (Int×Int)))⊕(zam×yab×Bool))):=some (.inl (a2,a6,a7,a8))
def zar.s46 (a8:yaa) (b0:yaa) (b2:List (Int×Int)) (a6:List T_A2):Option ((yaa×yaa×(List (Int×Int))×List T_A2)⊕((yaa×yaa×(List (Int×Int)))⊕(zam×yab×Bool))):=cond (decide (0<(↑a6.length:Int))) ((idxn a6 0 fun b3=>(zcw (⟨b2⟩:zbo) b3.f0).bind fun a7=>idxn a6 0 fun b4=>(zcw (⟨a7.2⟩:zbo) b4.f1).bind fun a2=>chk (1<=List.length a6) (cond (decide (a7.1=a2.1)) (some (.inl (a8,b0,a2.2,(List.drop 1 a6)))) ((zg8 (⟨a2.2⟩:zbo) (min a7.1 a2.1) (max a7.1 a2.1)).bind fun b5=>idx a8 (max a7.1 a2.1) fun b6=>(iter (fun (s:yaa×yaa×List T_A2×Nat)=>zar.s43 a7 a2 b6 s.1 s.2.1 s.2.2.1 s.2.2.2) fuel (a8,b0,(List.drop 1 a6),0)).bind (Sum.elim (fun s=>zar.k44 b5 s.1 s.2.1 s.2.2) some))):Option ((yaa×yaa×(List (Int×Int))×List T_A2)⊕((yaa×yaa×(List (Int×Int))×List T_A2)⊕((yaa×yaa×(List (Int×Int)))⊕(zam×yab×Bool))))).bind (Sum.elim (fun s=>zar.k45 s.1 s.2.1 s.2.2.1 s.2.2.2) some)) (some (.inr (.inl (a8,b0,b2))))
def zar.s64 (a7:Nat) (b4:yab) (a6:yaa) (a8:List (Int×Int)) (a2:Nat):Option ((yaa×(List (Int×Int))×Nat)⊕(yaa×(List (Int×Int)))):=cond (decide ((↑a2:Int)<(↑b4.length:Int))) (idxn a6 a7 fun b5=>idxn b5 a2 fun b0=>cond (decide (b0≠(-1:Int))) (idxn a6 a7 fun b2=>(zcw (⟨a8⟩:zbo) b0).bind fun b3=>idxn b2 a2 fun b6=>chk (inR ((↑a2:Int)+1)) (some (.inl ((List.set a6 a7 (List.set b2 a2 b3.1)),b3.2,(a2+1))))) (chk (inR ((↑a2:Int)+1)) (some (.inl (a6,a8,(a2+1)))))) (some (.inr (a6,a8)))
def zar.k65 (a2:Nat) (a6:yaa) (a7:List (Int×Int)):Option ((yaa×(List (Int×Int))×Nat)⊕(yaa×(List (Int×Int)))):=some (.inl (a6,a7,(a2+1)))
def zar.s66 (a8:yaa) (a6:yaa) (a7:List (Int×Int)) (a2:Nat):Option ((yaa×(List (Int×Int))×Nat)⊕(yaa×(List (Int×Int)))):=cond (decide ((↑a2:Int)<(↑a8.length:Int))) (idxn a6 a2 fun b0=>(iter (fun (s:yaa×(List (Int×Int))×Nat)=>zar.s64 a2 b0 s.1 s.2.1 s.2.2) fuel (a6,a7,0)).bind (fun s=>zar.k65 a2 s.1 s.2)) (some (.inr (a6,a7)))
def zar.s68 (a7:zam×yab) (b0:List (Int×Int)) (a6:yab) (a2:Nat):Option (((List (Int×Int))×yab×Nat)⊕yab):=cond (decide ((↑a2:Int)<(↑(List.length (List.replicate a7.2.length (0:Int))):Int))) ((zcw (⟨b0⟩:zbo) (↑a2:Int)).bind fun a8=>idx a7.2 a8.1 fun b2=>idxn a6 a2 fun b3=>chk (inR ((↑a2:Int)+1)) (some (.inl (a8.2,(List.set a6 a2 b2),(a2+1))))) (some (.inr a6))
def zar.k69 (p_:zam) (a7:yaa) (a8:yaa) (b0:List (Int×Int)):Option (zam×yab×Bool):=(zcw (⟨b0⟩:zbo) p_.Start).bind fun a6=>(zaq (⟨p_.Inputs,a6.1,a8,a7⟩:zam)).bind fun a2=>chk ((0:Int)<=(↑a2.2.length:Int)∧(↑a2.2.length:Int)<=(↑a2.2.length:Int)∧za2 (Int.toNat (↑a2.2.length:Int)) 8) ((iter (fun (s:(List (Int×Int))×yab×Nat)=>zar.s68 a2 s.1 s.2.1 s.2.2) fuel (a6.2,(List.replicate a2.2.length (0:Int)),0)).bind (fun b2=>some (a2.1,b2,true)))
def zar.k70 (p_:zam) (a2:yaa) (a6:yaa) (a7:List (Int×Int)):Option (zam×yab×Bool):=(iter (fun (s:yaa×(List (Int×Int))×Nat)=>zar.s66 a2 s.1 s.2.1 s.2.2) fuel (a2,a7,0)).bind (fun s=>zar.k69 p_ a6 s.1 s.2)
def zar.k71 (p_:zam) (s_:Int) (t_:Int) (a2:yaa) (a6:yaa):Option (zam×yab×Bool):=(iter (fun (s:yaa×yaa×(List (Int×Int))×List T_A2)=>zar.s46 s.1 s.2.1 s.2.2.1 s.2.2.2) fuel (a2,a6,([]:List (Int×Int)),[(⟨s_,t_⟩:T_A2)])).bind (Sum.elim (fun s=>zar.k70 p_ s.1 s.2.1 s.2.2) some)
def zar (p_:zam) (s_:Int) (t_:Int):Option (zam×yab×Bool):=(iter (fun (s:yaa×yaa×Nat)=>zar.s2 p_ s.1 s.2.1 s.2.2) fuel ([],[],0)).bind (fun s=>zar.k71 p_ s_ t_ s.1 s.2)
def zfg.s25 (red_:List Bool) (a7:zam×yab×Bool) (a6:List Bool) (a2:Nat):Option ((List Bool×Nat)⊕List Bool):=cond (decide ((↑a2:Int)<(↑red_.length:Int))) (idxn red_ a2 fun b0=>(cond (b0) (idxn a7.2.1 a2 fun b2=>some (decide (b2≠(-1:Int)))) (some false)).bind (fun b3=>cond (b3) (idxn a7.2.1 a2 fun a8=>idx a6 a8 fun b4=>some (.inl ((List.set a6 a8.toNat true),(a2+1)))) (some (.inl (a6,(a2+1)))))) (some (.inr a6))
def zfg.s26 (p_:zam) (red_:List Bool) (b_:Int) (a6:Nat):Option (Nat⊕(Unit⊕(zam×List Bool))):=cond (decide ((↑a6:Int)<(↑red_.length:Int))) ((idxn red_ a6 fun a7=>cond ((!a7)) (some (.inl ())) ((zar p_ (↑a6:Int) b_).bind fun a2=>cond ((!a2.2.2)) (some (.inl ())) (chk ((0:Int)<=(↑a2.1.Next.length:Int)∧(↑a2.1.Next.length:Int)<=(↑a2.1.Next.length:Int)∧za2 (Int.toNat (↑a2.1.Next.length:Int)) 1) ((iter (fun (s:List Bool×Nat)=>zfg.s25 red_ a2 s.1 s.2) fuel ((List.replicate a2.1.Next.length false),0)).bind (fun a8=>some (.inr (.inr (.inr (a2.1,a8)))))))):Option (Unit⊕(Nat⊕(Unit⊕(zam×List Bool))))).bind (Sum.elim (fun _=>some (.inl (a6+1))) some)) (some (.inr (.inl ())))
def zfg (p_:zam) (red_:List Bool) (b_:Int):Option (zam×List Bool):=(iter (fun (s:Nat)=>zfg.s26 p_ red_ b_ s) fuel 0).bind (Sum.elim (fun _=>chk (za2 (List.length ([]:List Unit)+List.length red_) 1) (idx ([]++red_) b_ fun a2=>some (p_,(List.set ([]++red_) b_.toNat true)))) some)
def zhp (a_:zab) (b_:zab):Option Int:=(zh0 a_.In b_.In).bind fun a2=>some a2
def zic.s2 (a6:List zab) (a2:Nat):Option (Nat⊕(Unit⊕Bool)):=cond (decide ((↑a2:Int)<(↑a6.length:Int))) ((idxn a6 a2 fun a7=>idx a6 ((↑a2:Int)-1) fun a8=>(zfe a7.In a8.In).bind fun b0=>cond (b0) (some true) (idx a6 ((↑a2:Int)-1) fun b2=>idxn a6 a2 fun b3=>(zhr b2 b3).bind fun b4=>some (decide (0<=b4)))).bind (fun b5=>cond (b5) (some (.inr (.inr false))) (some (.inl (a2+1))))) (some (.inr (.inl ())))
def zic (l_:List zab):Option Bool:=(zm9 l_).bind fun a2=>(zkr a2 (fun u0 u1=>zhp u0 u1)).bind fun a6=>(iter (fun (s:Nat)=>zic.s2 a6 s) fuel 1).bind (Sum.elim (fun _=>some true) some)
def zir (u_:zab) (p1_:zab):Option Bool:=(zfe u_.In p1_.In).bind fun a2=>some a2
def ziq (u_:zab) (p1_:zab):Option Bool:=(zhr p1_ u_).bind fun a2=>some (decide (0<=a2))
def zci (s_:List zab) (f_:zab->Option Bool):Option Bool:=(zbd s_ f_).bind fun a2=>some (decide (0<=a2))
def ze5.s2 (o_:zal) (a2:Nat):Option (Nat⊕(Unit⊕Int)):=cond (decide ((↑a2:Int)<(↑o_.Traces.length:Int))) (idxn o_.Traces a2 fun a6=>(zc2 a6.In o_.Inputs).bind fun a7=>cond (decide (a7≠0)) (some (.inr (.inr a7))) (cond (decide ((↑a6.In.length:Int)=0)) (some (.inr (.inr 19))) ((zjk a6 o_.Inputs).bind fun a8=>cond (decide (a8≠0)) (some (.inr (.inr a8))) ((cond (decide (0<(↑a2:Int))) (idx o_.Traces ((↑a2:Int)-1) fun b0=>(ziu b0 a6).bind fun b2=>some (decide (0<=b2))) (some false)).bind (fun b3=>cond (b3) (some (.inr (.inr 10))) (some (.inl (a2+1)))))))) (some (.inr (.inl ())))
def ze5.s4 (o_:zal) (a2:Nat):Option (Nat⊕(Unit⊕Int)):=cond (decide ((↑a2:Int)<(↑o_.Traces.length:Int))) (idxn o_.Traces a2 fun a6=>chk ((0:Int)<=((↑a2:Int)+1)∧((↑a2:Int)+1)<=(↑o_.Traces.length:Int)) ((zci (List.drop (a2+1) o_.Traces) (fun u0=>zir u0 a6)).bind fun a7=>cond (a7) (some (.inr (.inr 7))) ((zci (List.drop (a2+1) o_.Traces) (fun u0=>ziq u0 a6)).bind fun a8=>cond (a8) (some (.inr (.inr 13))) (some (.inl (a2+1)))))) (some (.inr (.inl ())))
def ze5 (o_:zal):Option Int:=(cond (decide (o_.Inputs<1)) (some true) (some (decide (64<o_.Inputs)))).bind (fun a6=>cond (a6) (some 2) (cond (decide (10000<(↑o_.Traces.length:Int))) (some 11) ((iter (fun (s:Nat)=>ze5.s2 o_ s) fuel 0).bind (Sum.elim (fun _=>(zic o_.Traces).bind fun a2=>cond (a2) (some 0) ((iter (fun (s:Nat)=>ze5.s4 o_ s) fuel 0).bind (Sum.elim (fun _=>some 0) some))) some))))
def zc3.k53 (a6:Int) (a7:Nat) (a8:Int) (a2:yaa) (b0:yaa):Option ((yaa×yaa×Int×Nat)⊕((yaa×yaa)⊕((yaa×yaa×Nat)⊕((yaa×yaa)⊕(zam×Int))))):=idx a2 a6 fun b2=>idx b2 a8 fun b3=>some (.inl (a2,b0,b3,(a7+1)))
def zc3.s54 (o_:zal) (b2:zab) (a2:yaa) (a8:yaa) (a6:Int) (b0:Nat):Option ((yaa×yaa×Int×Nat)⊕((yaa×yaa)⊕((yaa×yaa×Nat)⊕((yaa×yaa)⊕(zam×Int))))):=cond (decide ((↑b0:Int)<(↑b2.In.length:Int))) (idxn b2.In b0 fun a7=>(idx a2 a6 fun b8=>idx b8 a7 fun b9=>cond (decide (b9=(-1:Int))) (cond (decide ((↑a2.length:Int)=4096)) (some (.inr (.inr (.inr (.inr (.inr ((⟨0,0,[],[]⟩:zam),11))))))) (idx a2 a6 fun b3=>idx a8 a6 fun b4=>idxn b2.Out b0 fun b5=>idx b3 a7 fun c0=>idx b4 a7 fun c6=>(zf9 o_.Inputs).bind fun b6=>chk (za2 (List.length (List.set a2 (Int.toNat a6) (List.set b3 (Int.toNat a7) (↑a2.length:Int)))+List.length [b6]) 24) ((zf9 o_.Inputs).bind fun b7=>chk (za2 (List.length (List.set a8 (Int.toNat a6) (List.set b4 (Int.toNat a7) b5))+List.length [b7]) 24) (some (.inl (((List.set a2 (Int.toNat a6) (List.set b3 (Int.toNat a7) (↑a2.length:Int)))++[b6]),((List.set a8 (Int.toNat a6) (List.set b4 (Int.toNat a7) b5))++[b7]))))))) (some (.inl (a2,a8))):Option ((yaa×yaa)⊕((yaa×yaa×Int×Nat)⊕((yaa×yaa)⊕((yaa×yaa×Nat)⊕((yaa×yaa)⊕(zam×Int))))))).bind (Sum.elim (fun s=>zc3.k53 a6 b0 a7 s.1 s.2) some)) (some (.inr (.inl (a2,a8))))
def zc3.k55 (a2:Nat) (a6:yaa) (a7:yaa):Option ((yaa×yaa×Nat)⊕((yaa×yaa)⊕(zam×Int))):=some (.inl (a6,a7,(a2+1)))
def zc3.s56 (o_:zal) (a6:yaa) (a7:yaa) (a2:Nat):Option ((yaa×yaa×Nat)⊕((yaa×yaa)⊕(zam×Int))):=cond (decide ((↑a2:Int)<(↑o_.Traces.length:Int))) (idxn o_.Traces a2 fun a8=>(iter (fun (s:yaa×yaa×Int×Nat)=>zc3.s54 o_ a8 s.1 s.2.1 s.2.2.1 s.2.2.2) fuel (a6,a7,0,0)).bind (Sum.elim (fun s=>zc3.k55 a2 s.1 s.2) some)) (some (.inr (.inl (a6,a7))))
def zc3.k57 (o_:zal) (a6:yaa) (a7:yaa):Option (zam×Int):=(zaq (⟨o_.Inputs,0,a6,a7⟩:zam)).bind fun a2=>some (a2.1,0)
def zc3 (o_:zal):Option (zam×Int):=(ze5 o_).bind fun a2=>cond (decide (a2≠0)) (some ((⟨0,0,[],[]⟩:zam),a2)) ((zf9 o_.Inputs).bind fun a6=>(zf9 o_.Inputs).bind fun a7=>(iter (fun (s:yaa×yaa×Nat)=>zc3.s56 o_ s.1 s.2.1 s.2.2) fuel ([a6],[a7],0)).bind (Sum.elim (fun s=>zc3.k57 o_ s.1 s.2) some))
def zh7.s1 (a6:Int) (a7:Int) (a8:yaa) (b0:yaa) (red62:List Bool):Option ((Int×Int×yaa×yaa×List Bool)⊕(zam×Int)):=(zf7 (⟨a6,a7,a8,b0⟩:zam) red62).bind fun b2=>cond ((!b2.2)) (some (.inr ((⟨a6,a7,a8,b0⟩:zam),0))) ((zfg (⟨a6,a7,a8,b0⟩:zam) red62 b2.1).bind fun a2=>some (.inl (a2.1.Inputs,a2.1.Start,a2.1.Next,a2.1.Out,a2.2)))
def zh7 (o_:zal):Option (zam×Int):=(zc3 o_).bind fun a2=>cond (decide (a2.2≠0)) (some ((⟨0,0,[],[]⟩:zam),a2.2)) (chk ((0:Int)<=(↑a2.1.Next.length:Int)∧(↑a2.1.Next.length:Int)<=(↑a2.1.Next.length:Int)∧za2 (Int.toNat (↑a2.1.Next.length:Int)) 1) (idx (List.replicate a2.1.Next.length false) a2.1.Start fun a6=>iter (fun (s:Int×Int×yaa×yaa×List Bool)=>zh7.s1 s.1 s.2.1 s.2.2.1 s.2.2.2.1 s.2.2.2.2) fuel (a2.1.Inputs,a2.1.Start,a2.1.Next,a2.1.Out,(List.set (List.replicate a2.1.Next.length false) a2.1.Start.toNat true))))
def zgc.s13 (p_:zam) (b0:Nat) (a8:yab) (a2:Nat):Option (Nat⊕(Unit⊕(Nat⊕(Unit⊕Int)))):=cond (decide ((↑a2:Int)<(↑a8.length:Int))) (idxn a8 a2 fun a6=>idxn p_.Out b0 fun b2=>idxn b2 a2 fun a7=>(cond (decide (a6<(-1:Int))) (some true) (cond (decide ((↑p_.Next.length:Int)<=a6)) (some true) (cond (decide (a7<(-1:Int))) (some true) (some (decide (1048576<a7)))))).bind (fun b3=>cond (b3) (some (.inr (.inr (.inr (.inr 2))))) (cond ((!((decide (a6=(-1:Int)))==(decide (a7=(-1:Int)))))) (some (.inr (.inr (.inr (.inr 1))))) (some (.inl (a2+1)))))) (some (.inr (.inl ())))
def zgc.s14 (p_:zam) (a2:Nat):Option (Nat⊕(Unit⊕Int)):=cond (decide ((↑a2:Int)<(↑p_.Next.length:Int))) ((idxn p_.Next a2 fun a6=>cond (decide ((↑a6.length:Int)≠p_.Inputs)) (some true) (idxn p_.Out a2 fun a7=>some (decide ((↑a7.length:Int)≠p_.Inputs)))).bind (fun a8=>cond (a8) (some (.inr (.inr 1))) (idxn p_.Next a2 fun b0=>(iter (fun (s:Nat)=>zgc.s13 p_ a2 b0 s) fuel 0).bind (Sum.elim (fun _=>some (.inl (a2+1))) some)))) (some (.inr (.inl ())))
def zgc (p_:zam):Option Int:=(cond (decide (p_.Inputs<1)) (some true) (some (decide (64<p_.Inputs)))).bind (fun a2=>cond (a2) (some 2) (cond (decide ((↑p_.Next.length:Int)=0)) (some 19) (cond (decide (4096<(↑p_.Next.length:Int))) (some 11) ((cond (decide (p_.Start<0)) (some true) (some (decide ((↑p_.Next.length:Int)<=p_.Start)))).bind (fun a6=>cond (a6) (some 2) (cond (decide ((↑p_.Out.length:Int)≠(↑p_.Next.length:Int))) (some 1) ((iter (fun (s:Nat)=>zgc.s14 p_ s) fuel 0).bind (Sum.elim (fun _=>some 0) some))))))))
def zcd.s18 (p_:zam) (out_:Int) (b2:Nat) (b3:yab) (a6:yab) (a7:yab) (a2:Nat):Option ((yab×yab×Nat)⊕(yab×yab)):=cond (decide ((↑a2:Int)<(↑b3.length:Int))) (idxn b3 a2 fun a8=>idxn p_.Out b2 fun b4=>idxn b4 a2 fun b0=>idxn a6 a2 fun b5=>idxn a7 a2 fun b6=>cond (decide (a8=(-1:Int))) (idxn (List.set a6 a2 a8) a2 fun b7=>idxn (List.set a7 a2 b0) a2 fun b8=>some (.inl ((List.set (List.set a6 a2 a8) a2 (↑b2:Int)),(List.set (List.set a7 a2 b0) a2 out_),(a2+1)))) (some (.inl ((List.set a6 a2 a8),(List.set a7 a2 b0),(a2+1))))) (some (.inr (a6,a7)))
def zcd.k19 (a2:yaa) (a6:yaa) (a7:Nat) (a8:yab) (b0:yab):Option ((yaa×yaa×Nat)⊕(yaa×yaa)):=chk (za2 (List.length a2+1) 24) (chk (za2 (List.length a6+1) 24) (some (.inl ((a2++[a8]),(a6++[b0]),(a7+1)))))
def zcd.s20 (p_:zam) (out_:Int) (a6:yaa) (a7:yaa) (a2:Nat):Option ((yaa×yaa×Nat)⊕(yaa×yaa)):=cond (decide ((↑a2:Int)<(↑p_.Next.length:Int))) (chk ((0:Int)<=p_.Inputs∧p_.Inputs<=p_.Inputs∧za2 (Int.toNat p_.Inputs) 8) (chk ((0:Int)<=p_.Inputs∧p_.Inputs<=p_.Inputs∧za2 (Int.toNat p_.Inputs) 8) (idxn p_.Next a2 fun a8=>(iter (fun (s:yab×yab×Nat)=>zcd.s18 p_ out_ a2 a8 s.1 s.2.1 s.2.2) fuel ((List.replicate (Int.toNat p_.Inputs) (0:Int)),(List.replicate (Int.toNat p_.Inputs) (0:Int)),0)).bind (fun s=>zcd.k19 a6 a7 a2 s.1 s.2)))) (some (.inr (a6,a7)))
def zcd.k21 (p_:zam) (a2:yaa) (a6:yaa):Option (zaa×Int):=some ((⟨p_.Inputs,p_.Start,a2,a6⟩:zaa),0)
def zcd (p_:zam) (out_:Int):Option (zaa×Int):=(zgc p_).bind fun a2=>cond (decide (a2≠0)) (some ((⟨0,0,[],[]⟩:zaa),a2)) ((cond (decide (out_<0)) (some true) (some (decide (1048576<out_)))).bind (fun a6=>cond (a6) (some ((⟨0,0,[],[]⟩:zaa),2)) (cond (decide (128<(↑p_.Next.length:Int))) (some ((⟨0,0,[],[]⟩:zaa),11)) ((iter (fun (s:yaa×yaa×Nat)=>zcd.s20 p_ out_ s.1 s.2.1 s.2.2) fuel ([],[],0)).bind (fun s=>zcd.k21 p_ s.1 s.2)))))
def zb4.s2 (s1_:yaa) (s2_:yaa) (eq_:(yab)->(yab)->Option Bool) (a2:Nat):Option (Nat⊕(Unit⊕Bool)):=cond (decide ((↑a2:Int)<(↑s1_.length:Int))) (idxn s1_ a2 fun a6=>idxn s2_ a2 fun a7=>(eq_ a6 a7).bind fun a8=>cond ((!a8)) (some (.inr (.inr false))) (some (.inl (a2+1)))) (some (.inr (.inl ())))
def zb4 (s1_:yaa) (s2_:yaa) (eq_:(yab)->(yab)->Option Bool):Option Bool:=cond (decide ((↑s1_.length:Int)≠(↑s2_.length:Int))) (some false) ((iter (fun (s:Nat)=>zb4.s2 s1_ s2_ eq_ s) fuel 0).bind (Sum.elim (fun _=>some true) some))
def zk8 (x_:yab) (y_:yab):Option Bool:=(zca x_ y_).bind fun a2=>some a2
def zoo (a_:yaa) (b_:yaa):Option Bool:=(zb4 a_ b_ (fun u0 u1=>zk8 u0 u1)).bind fun a2=>some a2
def zma (a_:zaa) (b_:zaa):Option Bool:=(cond (decide (a_.Inputs=b_.Inputs)) (cond (decide (a_.Start=b_.Start)) ((zoo a_.Next b_.Next).bind fun a2=>cond (a2) ((zoo a_.Out b_.Out).bind fun a6=>some a6) (some false)) (some false)) (some false)).bind (fun a7=>some a7)
def ze9.s2 (m_:zaa) (words_:yaa) (a2:Nat):Option (Nat⊕(Unit⊕(yab×Bool×Int))):=cond (decide ((↑a2:Int)<(↑words_.length:Int))) (idxn words_ a2 fun a7=>(zc2 a7 m_.Inputs).bind fun a6=>cond (decide (a6≠0)) (some (.inr (.inr ([],false,a6)))) (some (.inl (a2+1)))) (some (.inr (.inl ())))
def ze9.s4 (m_:zaa) (impl_:zaa) (words_:yaa) (a7:Nat):Option (Nat⊕(Unit⊕(yab×Bool×Int))):=cond (decide ((↑a7:Int)<(↑words_.length:Int))) (idxn words_ a7 fun a2=>(zgy m_ a2).bind fun a8=>cond (decide (a8.2≠0)) (some (.inr (.inr ([],false,a8.2)))) ((zgy impl_ a2).bind fun b0=>cond (decide (b0.2≠0)) (some (.inr (.inr ([],false,b0.2)))) ((zge a8.1 b0.1).bind fun a6=>cond (decide (a6<(↑a2.length:Int))) (chk (inR (a6+1)) (chk ((0:Int)<=(a6+1)∧(a6+1)<=(↑a2.length:Int)) ((zcp [(List.take (Int.toNat (a6+1)) a2)]).bind fun b2=>some (.inr (.inr (b2,false,0)))))) (some (.inl (a7+1)))))) (some (.inr (.inl ())))
def ze9 (m_:zaa) (impl_:zaa) (words_:yaa):Option (yab×Bool×Int):=(zbc m_).bind fun a2=>cond (decide (a2≠0)) (some ([],false,a2)) ((zbc impl_).bind fun a6=>cond (decide (a6≠0)) (some ([],false,a6)) (cond (decide (m_.Inputs≠impl_.Inputs)) (some ([],false,15)) ((iter (fun (s:Nat)=>ze9.s2 m_ words_ s) fuel 0).bind (Sum.elim (fun _=>(iter (fun (s:Nat)=>ze9.s4 m_ impl_ words_ s) fuel 0).bind (Sum.elim (fun _=>some ([],true,0)) some)) some))))
def zh5.s2 (ids_:List (yaa)) (a6:Int) (a2:Nat):Option ((Int×Nat)⊕Int):=cond (decide ((↑a2:Int)<(↑ids_.length:Int))) (idxn ids_ a2 fun a7=>some (.inl ((max a6 (↑a7.length:Int)),(a2+1)))) (some (.inr a6))
def zh5 (ids_:List (yaa)):Option Int:=(iter (fun (s:Int×Nat)=>zh5.s2 ids_ s.1 s.2) fuel (1,0)).bind (fun a2=>some a2)
def zfy.s2 (u_:yab) (tails_:yaa) (a2:yaa) (a6:Nat):Option ((yaa×Nat)⊕yaa):=cond (decide ((↑a6:Int)<(↑tails_.length:Int))) (idxn tails_ a6 fun a7=>(zcp [u_,a7]).bind fun a8=>chk (za2 (List.length a2+1) 24) (some (.inl ((a2++[a8]),(a6+1))))) (some (.inr a2))
def zfy (u_:yab) (tails_:yaa):Option yaa:=(iter (fun (s:yaa×Nat)=>zfy.s2 u_ tails_ s.1 s.2) fuel ([],0)).bind (fun a2=>some a2)
def znw (m_:zaa) (ids_:List (yaa)) (w_:yab):Option (yaa×Int):=(zjh m_ m_.Start w_).bind fun a2=>cond (decide (a2.2.2≠0)) (some ([],a2.2.2)) (cond (decide ((↑ids_.length:Int)≠(↑m_.Next.length:Int))) (some ([],1)) (idx ids_ a2.2.1 fun a6=>cond (decide ((↑a6.length:Int)=0)) (some ([[]],0)) (idx ids_ a2.2.1 fun a7=>(zfy [] a7).bind fun a8=>some (a8,0))))
def zkq.s2 (inputs_:Int) (a6:yab) (a2:Int):Option ((yab×Int)⊕(yab⊕(yab×Bool))):=cond (decide (0<=a2)) (idx a6 a2 fun a7=>chk (inR (a7+1)) (cond (decide ((a7+1)<inputs_)) (idx a6 a2 fun a8=>chk (inR (a8+1)) (idx a6 a2 fun b0=>some (.inr (.inr ((List.set a6 a2.toNat (a8+1)),true))))) (idx a6 a2 fun b2=>chk (inR (a2-1)) (some (.inl ((List.set a6 a2.toNat 0),(a2-1))))))) (some (.inr (.inl a6)))
def zkq (w_:yab) (inputs_:Int):Option (yab×Bool):=(zc2 w_ inputs_).bind fun a7=>cond (decide (a7≠0)) (some ([],false)) ((zdg w_).bind fun a2=>chk (inR ((↑a2.length:Int)-1)) ((iter (fun (s:yab×Int)=>zkq.s2 inputs_ s.1 s.2) fuel (a2,((↑a2.length:Int)-1))).bind (Sum.elim (fun a6=>cond (decide ((↑a6.length:Int)=1024)) (some ([],false)) (chk (za2 (List.length a6+1) 8) (some ((a6++[0]),true)))) some)))
def zg5.s2 (inputs_:Int) (n_:Int) (a2:yaa) (a6:yab) (ok103:Bool):Option ((yaa×yab×Bool)⊕(yaa⊕(yaa×Int))):=(cond (ok103) (some (decide ((↑a6.length:Int)<=n_))) (some false)).bind (fun a8=>cond (a8) (cond (decide ((↑a2.length:Int)=10000)) (some (.inr (.inr ([],11)))) (chk (za2 (List.length a2+1) 24) ((zkq a6 inputs_).bind fun a7=>some (.inl ((a2++[a6]),a7.1,a7.2))))) (some (.inr (.inl a2))))
def zg5 (inputs_:Int) (n_:Int):Option (yaa×Int):=((zc2 [] inputs_).bind fun a2=>cond (decide (a2≠0)) (some true) (cond (decide (n_<0)) (some true) (some (decide (1024<n_))))).bind (fun a6=>cond (a6) (some ([],2)) ((iter (fun (s:yaa×yab×Bool)=>zg5.s2 inputs_ n_ s.1 s.2.1 s.2.2) fuel ([],[],true)).bind (Sum.elim (fun a7=>some (a7,0)) some)))
def zbx.s13 (m_:zaa) (a2:Nat) (a6:List (yaa)) (a7:Nat):Option ((List (yaa)×Nat)⊕(List (yaa)⊕((List (yaa)×Nat)⊕(List (yaa)⊕(List (yaa)×Int))))):=cond (decide ((↑a7:Int)<(↑m_.Next.length:Int))) ((zlm m_ (↑a2:Int) (↑a7:Int)).bind fun a8=>cond (decide (a8.2.2≠0)) (some (.inr (.inr (.inr (.inr ([],a8.2.2)))))) (idxn a6 a2 fun b0=>chk (za2 (List.length b0+1) 24) (idxn a6 a2 fun b3=>idxn (List.set a6 a2 (b0++[a8.1])) a7 fun b2=>chk (za2 (List.length b2+1) 24) (idxn (List.set a6 a2 (b0++[a8.1])) a7 fun b4=>some (.inl ((List.set (List.set a6 a2 (b0++[a8.1])) a7 (b2++[a8.1])),(a7+1))))))) (some (.inr (.inl a6)))
def zbx.s14 (m_:zaa) (a6:List (yaa)) (a2:Nat):Option ((List (yaa)×Nat)⊕(List (yaa)⊕(List (yaa)×Int))):=cond (decide ((↑a2:Int)<(↑m_.Next.length:Int))) ((iter (fun (s:List (yaa)×Nat)=>zbx.s13 m_ a2 s.1 s.2) fuel (a6,(a2+1))).bind (Sum.elim (fun a7=>some (.inl (a7,(a2+1)))) some)) (some (.inr (.inl a6)))
def zbx.s16 (a7:List (yaa)) (a2:List (yaa)) (a6:Nat):Option ((List (yaa)×Nat)⊕List (yaa)):=cond (decide ((↑a6:Int)<(↑a7.length:Int))) (idxn a7 a6 fun a8=>(zd5 a8).bind fun b0=>chk (za2 (List.length a2+1) 24) (some (.inl ((a2++[b0]),(a6+1))))) (some (.inr a2))
def zbx (m_:zaa):Option (List (yaa)×Int):=(zjn m_).bind fun a7=>cond (decide (a7≠0)) (some ([],a7)) (chk ((0:Int)<=(↑m_.Next.length:Int)∧(↑m_.Next.length:Int)<=(↑m_.Next.length:Int)∧za2 (Int.toNat (↑m_.Next.length:Int)) 24) ((iter (fun (s:List (yaa)×Nat)=>zbx.s14 m_ s.1 s.2) fuel ((List.replicate m_.Next.length ([]:yaa)),0)).bind (Sum.elim (fun a2=>chk ((0:Int)<=0∧0<=(↑a2.length:Int)∧za2 (Int.toNat (↑a2.length:Int)) 24) ((iter (fun (s:List (yaa)×Nat)=>zbx.s16 a2 s.1 s.2) fuel ([],0)).bind (fun a6=>some (a6,0)))) some)))
def zev.s13 (b5:zaa×Int) (b4:yaa×Int) (b6:List (yaa)×Int) (b2:yab) (a2:yaa) (a6:Nat):Option ((yaa×Nat)⊕(yaa⊕((yaa×Nat)⊕(yaa⊕(yaa×Int))))):=cond (decide ((↑a6:Int)<(↑b4.1.length:Int))) (idxn b4.1 a6 fun b3=>(zcp [b2,b3]).bind fun a8=>(znw b5.1 b6.1 a8).bind fun a7=>cond (decide (a7.2≠0)) (some (.inr (.inr (.inr (.inr ([],a7.2)))))) ((zfy a8 a7.1).bind fun b0=>chk (za2 (List.length a2+List.length b0) 24) (some (.inl ((a2++b0),(a6+1)))))) (some (.inr (.inl a2)))
def zev.s14 (b2:zaa×Int) (b0:yaa×Int) (b3:yaa×Int) (b4:List (yaa)×Int) (a6:yaa) (a2:Nat):Option ((yaa×Nat)⊕(yaa⊕(yaa×Int))):=cond (decide ((↑a2:Int)<(↑b0.1.length:Int))) (idxn b0.1 a2 fun a7=>(iter (fun (s:yaa×Nat)=>zev.s13 b2 b3 b4 a7 s.1 s.2) fuel (a6,0)).bind (Sum.elim (fun a8=>some (.inl (a8,(a2+1)))) some)) (some (.inr (.inl a6)))
def zev (m_:zaa) (extra_:Int):Option (yaa×Int):=(zbc m_).bind fun b3=>cond (decide (b3≠0)) (some ([],b3)) ((cond (decide (extra_<0)) (some true) (some (decide (3<extra_)))).bind (fun b5=>cond (b5) (some ([],2)) ((zce m_).bind fun a2=>cond (decide (a2.2≠0)) (some ([],a2.2)) ((zhy a2.1).bind fun a6=>cond (decide (a6.2≠0)) (some ([],a6.2)) (chk (inR (extra_+1)) ((zg5 a2.1.Inputs (extra_+1)).bind fun a7=>cond (decide (a7.2≠0)) (some ([],a7.2)) ((zbx a2.1).bind fun a8=>cond (decide (a8.2≠0)) (some ([],a8.2)) (chk (inR ((↑a6.1.length:Int)*(↑a7.1.length:Int))) ((zh5 a8.1).bind fun b4=>chk (inR (((↑a6.1.length:Int)*(↑a7.1.length:Int))*b4)) (cond (decide (10000<(((↑a6.1.length:Int)*(↑a7.1.length:Int))*b4))) (some ([],11)) ((iter (fun (s:yaa×Nat)=>zev.s14 a2 a6 a7 a8 s.1 s.2) fuel ([],0)).bind (Sum.elim (fun b0=>(zd3 b0).bind fun b2=>some (b2,0)) some))))))))))))
def zpz (o_:zal) (t_:zab):Option (zal×Int):=(zg2 o_ [t_]).bind fun a2=>some (a2.1,a2.2)
def zcs.s2 (m_:zaa) (words_:yaa) (a6:Int) (a7:List zab) (a8:Nat):Option ((Int×List zab×Nat)⊕((Int×List zab)⊕(zal×Int))):=cond (decide ((↑a8:Int)<(↑words_.length:Int))) (idxn words_ a8 fun b2=>(zgy m_ b2).bind fun b0=>cond (decide (b0.2≠0)) (some (.inr (.inr ((⟨a6,a7⟩:zal),b0.2)))) ((zpz (⟨a6,a7⟩:zal) (⟨b2,b0.1⟩:zab)).bind fun a2=>cond (decide (a2.2≠0)) (some (.inr (.inr (a2.1,a2.2)))) (some (.inl (a2.1.Inputs,a2.1.Traces,(a8+1)))))) (some (.inr (.inl (a6,a7))))
def zcs.k3 (a2:Int) (a6:List zab):Option (zal×Int):=some ((⟨a2,a6⟩:zal),0)
def zcs (m_:zaa) (o_:zal) (words_:yaa):Option (zal×Int):=(iter (fun (s:Int×List zab×Nat)=>zcs.s2 m_ words_ s.1 s.2.1 s.2.2) fuel (o_.Inputs,o_.Traces,0)).bind (Sum.elim (fun s=>zcs.k3 s.1 s.2) some)
def zhx (t_:zab) (p1_:yab):Option Bool:=(zfe t_.In p1_).bind fun a2=>some a2
def zff (o_:zal) (w_:yab):Option (yab×Bool):=cond (decide ((↑w_.length:Int)=0)) (some ([],true)) ((zbd o_.Traces (fun u0=>zhx u0 w_)).bind fun a6=>cond (decide (a6<0)) (some ([],false)) (idx o_.Traces a6 fun a2=>chk ((0:Int)<=(min (↑w_.length:Int) (↑a2.Out.length:Int))∧(min (↑w_.length:Int) (↑a2.Out.length:Int))<=(↑a2.Out.length:Int)) ((zdg (List.take (Int.toNat (min (↑w_.length:Int) (↑a2.Out.length:Int))) a2.Out)).bind fun a7=>some (a7,true))))
def ze1.s2 (h_:zb3) (a2:Nat):Option (Nat⊕(Unit⊕Int)):=cond (decide ((↑a2:Int)<(↑h_.Access.length:Int))) (idxn h_.Access a2 fun a7=>(zjh h_.M h_.M.Start a7).bind fun a6=>cond (decide (a6.2.2≠0)) (some (.inr (.inr a6.2.2))) (cond (decide (a6.2.1≠(↑a2:Int))) (some (.inr (.inr 15))) (some (.inl (a2+1))))) (some (.inr (.inl ())))
def ze1 (h_:zb3):Option Int:=(zbc h_.M).bind fun a2=>cond (decide (a2≠0)) (some a2) (cond (decide ((↑h_.Access.length:Int)≠(↑h_.M.Next.length:Int))) (some 1) ((iter (fun (s:Nat)=>ze1.s2 h_ s) fuel 0).bind (Sum.elim (fun _=>idx h_.Access h_.M.Start fun a6=>cond (decide ((↑a6.length:Int)≠0)) (some 10) (some 0)) some)))
def zei.s2 (h_:zb3) (w_:yab) (a2:yab) (a6:yab) (a8:Int) (a7:Nat):Option ((yab×yab×Int×Nat)⊕(yab×yab)):=cond (decide ((↑a7:Int)<(↑w_.length:Int))) (idxn w_ a7 fun b0=>idx h_.M.Out a8 fun b3=>idx b3 b0 fun b4=>chk (za2 (List.length a6+1) 8) (idx h_.M.Next a8 fun b5=>idx b5 b0 fun b2=>chk (za2 (List.length a2+1) 8) (some (.inl ((a2++[b2]),(a6++[b4]),b2,(a7+1)))))) (some (.inr (a2,a6)))
def zei.k3 (h_:zb3) (o_:zal) (w_:yab) (a7:yab×Bool) (a8:yab) (a6:yab):Option (Option zb8×Int):=(zca a7.1 a6).bind fun a2=>cond (a2) (some (none,8)) (some ((some (⟨h_,o_,w_,a8,a6⟩:zb8)),0))
def zei (h_:zb3) (o_:zal) (w_:yab):Option (Option zb8×Int):=(ze1 h_).bind fun a2=>cond (decide (a2≠0)) (some (none,a2)) (cond (decide (h_.M.Inputs≠o_.Inputs)) (some (none,15)) ((zc2 w_ o_.Inputs).bind fun a6=>cond (decide (a6≠0)) (some (none,a6)) ((zff o_ w_).bind fun a7=>cond ((!a7.2)) (some (none,12)) ((iter (fun (s:yab×yab×Int×Nat)=>zei.s2 h_ w_ s.1 s.2.1 s.2.2.1 s.2.2.2) fuel ([h_.M.Start],[],h_.M.Start,0)).bind (fun s=>zei.k3 h_ o_ w_ a7 s.1 s.2)))))
def zfx (x_:zb8) (i_:Int):Option yab:=idx x_.states i_ fun a2=>idx x_.h.Access a2 fun a6=>chk ((0:Int)<=i_∧i_<=(↑x_.w.length:Int)) ((zcp [a6,(List.drop (Int.toNat i_) x_.w)]).bind fun a7=>some a7)
def zf2 (x_:zb8) (i_:Int):Option yab:=(zfx x_ i_).bind fun a6=>(zff x_.o a6).bind fun a2=>chk (inR ((↑x_.w.length:Int)-i_)) (chk (inR ((↑a2.1.length:Int)-((↑x_.w.length:Int)-i_))) (chk ((0:Int)<=((↑a2.1.length:Int)-((↑x_.w.length:Int)-i_))∧((↑a2.1.length:Int)-((↑x_.w.length:Int)-i_))<=(↑a2.1.length:Int)) (some (List.drop (Int.toNat ((↑a2.1.length:Int)-((↑x_.w.length:Int)-i_))) a2.1))))
def zf8 (i_:Int) (p1_:zb8):Option Bool:=(zf2 p1_ i_).bind fun a2=>chk ((0:Int)<=i_∧i_<=(↑p1_.outs.length:Int)) ((zca a2 (List.drop (Int.toNat i_) p1_.outs)).bind fun a6=>some (!a6))
def zhc (x_:zb8) (i_:Int):Option (zc7×yab×Int):=(zf2 x_ i_).bind fun a2=>idxn a2 0 fun a6=>idx x_.outs i_ fun a7=>cond (decide (a6≠a7)) (some ((⟨[],0,[]⟩:zc7),[],15)) (idx x_.states i_ fun a8=>idx x_.h.Access a8 fun b0=>(zdg b0).bind fun b2=>idx x_.w i_ fun b3=>chk (inR (i_+1)) (chk ((0:Int)<=(i_+1)∧(i_+1)<=(↑x_.w.length:Int)) ((zdg (List.drop (Int.toNat (i_+1)) x_.w)).bind fun b4=>some ((⟨b2,b3,b4⟩:zc7),[],0))))
def zde.s2 (x_:zb8) (next_:Int->Int->Option Int) (lo90:Int) (hi91:Int):Option ((Int×Int)⊕(Int⊕(zc7×yab×Int))):=chk (inR (hi91-lo90)) (cond (decide (1<(hi91-lo90))) ((next_ lo90 hi91).bind fun a2=>(zfx x_ a2).bind fun a6=>cond (decide (1024<(↑a6.length:Int))) (some (.inr (.inr ((⟨[],0,[]⟩:zc7),[],3)))) ((zff x_.o a6).bind fun a7=>cond ((!a7.2)) (some (.inr (.inr ((⟨[],0,[]⟩:zc7),a6,0)))) ((zf8 a2 x_).bind fun a8=>cond (a8) (some (.inl (a2,hi91))) (some (.inl (lo90,a2)))))) (some (.inr (.inl lo90))))
def zde (x_:zb8) (next_:Int->Int->Option Int):Option (zc7×yab×Int):=(iter (fun (s:Int×Int)=>zde.s2 x_ next_ s.1 s.2) fuel (0,(↑x_.w.length:Int))).bind (Sum.elim (fun lo81=>(zhc x_ lo81).bind fun a2=>some (a2.1,a2.2.1,a2.2.2)) some)
def zjp (lo_:Int) (hi_:Int):Option Int:=chk (inR (lo_+hi_)) (chk (inR ((lo_+hi_) / 2)∧(0:Int)<=(lo_+hi_)∧(1:Int)<=2) (some ((lo_+hi_) / 2)))
def zli (h_:zb3) (o_:zal) (w_:yab):Option (zc7×yab×Int):=(zei h_ o_ w_).bind fun a2=>cond (decide (a2.2≠0)) (some ((⟨[],0,[]⟩:zc7),[],a2.2)) (a2.1.bind fun a7=>(zde a7 (fun u0 u1=>zjp u0 u1)).bind fun a6=>some (a6.1,a6.2.1,a6.2.2))
def zbn.s2 (x_:yaa) (target_:yab) (cmp_:(yab)->(yab)->Option Int) (a2:Int) (a6:Int):Option ((Int×Int)⊕Int):=cond (decide (a2<a6)) (chk (inR (a2+a6)) (chk ((0:Int)<=(a2+a6)∧(a2+a6)<=18446744073709551615) (chk ((0:Int)<=(a2+a6)∧(a2+a6)<=18446744073709551615) (chk (inR ((a2+a6) / 2^1)) (idx x_ ((a2+a6) / 2^1) fun a7=>(cmp_ a7 target_).bind fun a8=>cond (decide (a8<0)) (chk (inR (((a2+a6) / 2^1)+1)) (some (.inl ((((a2+a6) / 2^1)+1),a6)))) (some (.inl (a2,((a2+a6) / 2^1))))))))) (some (.inr a2))
def zbn (x_:yaa) (target_:yab) (cmp_:(yab)->(yab)->Option Int):Option (Int×Bool):=(iter (fun (s:Int×Int)=>zbn.s2 x_ target_ cmp_ s.1 s.2) fuel (0,(↑x_.length:Int))).bind (fun a2=>(cond (decide (a2<(↑x_.length:Int))) (idx x_ a2 fun a6=>(cmp_ a6 target_).bind fun a7=>some (decide (a7=0))) (some false)).bind (fun a8=>some (a2,a8)))
def zpm (x_:zak) (outs_:yab):Option (Int×Bool):=(zbn x_.Outs outs_ (fun u0 u1=>zh0 u0 u1)).bind fun a2=>some (a2.1,a2.2)
def zq9 (x_:zak):Option Int:=cond (decide (0<(((↑x_.Suffix.length:Int)+(↑x_.Outs.length:Int))+(↑x_.Kids.length:Int)))) (some 1) ((zc2 x_.Access 64).bind fun a2=>some a2)
def zjm (o_:Int):Option Bool:=(cond (decide (o_<0)) (some true) (some (decide (1048576<o_)))).bind (fun a2=>some a2)
def zjr (outs_:yab) (suffix_:yab):Option Int:=cond (decide ((↑outs_.length:Int)≠(↑suffix_.length:Int))) (some 1) ((zef outs_ (fun u0=>zjm u0)).bind fun a2=>cond (a2) (some 2) (some 0))
def zi6.s2 (x_:zak) (nodes_:Int) (a2:Nat):Option (Nat⊕(Unit⊕Int)):=cond (decide ((↑a2:Int)<(↑x_.Outs.length:Int))) (idxn x_.Outs a2 fun a6=>(zjr a6 x_.Suffix).bind fun a7=>cond (decide (a7≠0)) (some (.inr (.inr a7))) ((cond (decide (0<(↑a2:Int))) (idx x_.Outs ((↑a2:Int)-1) fun a8=>(zh0 a8 a6).bind fun b0=>some (decide (0<=b0))) (some false)).bind (fun b2=>cond (b2) (some (.inr (.inr 10))) ((idxn x_.Kids a2 fun b3=>cond (decide (b3<0)) (some true) (idxn x_.Kids a2 fun b4=>some (decide (nodes_<=b4)))).bind (fun b5=>cond (b5) (some (.inr (.inr 2))) (some (.inl (a2+1)))))))) (some (.inr (.inl ())))
def zi6 (x_:zak) (nodes_:Int):Option Int:=cond (decide (0<(↑x_.Access.length:Int))) (some 1) (cond (decide ((↑x_.Suffix.length:Int)=0)) (some 19) ((zc2 x_.Suffix 64).bind fun a2=>cond (decide (a2≠0)) (some a2) (cond (decide ((↑x_.Outs.length:Int)≠(↑x_.Kids.length:Int))) (some 1) ((iter (fun (s:Nat)=>zi6.s2 x_ nodes_ s) fuel 0).bind (Sum.elim (fun _=>some 0) some)))))
def zfk.s2 (t_:za5) (a8:List Bool) (a7:yab) (b0:Nat):Option ((List Bool×yab×Nat)⊕(yab⊕Bool)):=cond (decide ((↑b0:Int)<(↑a7.length:Int))) (idxn a7 b0 fun a2=>idx a8 a2 fun b2=>cond (b2) (some (.inr (.inr false))) (idx a8 a2 fun b3=>idx t_.Nodes a2 fun a6=>chk (za2 (List.length a7+List.length a6.Kids) 8) (cond (decide ((↑t_.Nodes.length:Int)<(↑(List.length (a7++a6.Kids)):Int))) (some (.inr (.inr false))) (some (.inl ((List.set a8 a2.toNat true),(a7++a6.Kids),(b0+1))))))) (some (.inr (.inl a7)))
def zfk (t_:za5):Option Bool:=chk ((0:Int)<=(↑t_.Nodes.length:Int)∧(↑t_.Nodes.length:Int)<=(↑t_.Nodes.length:Int)∧za2 (Int.toNat (↑t_.Nodes.length:Int)) 1) ((iter (fun (s:List Bool×yab×Nat)=>zfk.s2 t_ s.1 s.2.1 s.2.2) fuel ((List.replicate t_.Nodes.length false),[0],0)).bind (Sum.elim (fun a2=>some (decide ((↑a2.length:Int)=(↑t_.Nodes.length:Int)))) some))
def zfu.s2 (t_:za5) (a2:yaa) (a6:Nat):Option ((yaa×Nat)⊕yaa):=cond (decide ((↑a6:Int)<(↑t_.Nodes.length:Int))) (idxn t_.Nodes a6 fun a7=>cond (a7.Leaf) ((zcp [a7.Access]).bind fun a8=>chk (za2 (List.length a2+1) 24) (some (.inl ((a2++[a8]),(a6+1))))) (some (.inl (a2,(a6+1))))) (some (.inr a2))
def zfu (t_:za5):Option yaa:=(iter (fun (s:yaa×Nat)=>zfu.s2 t_ s.1 s.2) fuel ([],0)).bind (fun a2=>some a2)
def zgh.s2 (t_:za5) (a2:Nat):Option (Nat⊕(Unit⊕Int)):=cond (decide ((↑a2:Int)<(↑t_.Nodes.length:Int))) (idxn t_.Nodes a2 fun a6=>(cond (a6.Leaf) ((zq9 a6).bind fun a8=>some a8) ((zi6 a6 (↑t_.Nodes.length:Int)).bind fun b0=>some b0):Option Int).bind (fun a7=>cond (decide (a7≠0)) (some (.inr (.inr a7))) (some (.inl (a2+1))))) (some (.inr (.inl ())))
def zgh (t_:za5):Option Int:=cond (decide ((↑t_.Nodes.length:Int)=0)) (some 19) (cond (decide (4096<(↑t_.Nodes.length:Int))) (some 11) ((iter (fun (s:Nat)=>zgh.s2 t_ s) fuel 0).bind (Sum.elim (fun _=>(zfk t_).bind fun a6=>cond ((!a6)) (some 1) ((zfu t_).bind fun a2=>(zd5 a2).bind fun a7=>cond (decide ((↑a7.length:Int)≠(↑a2.length:Int))) (some 7) (some 0))) some)))
def zi4.s2 (t_:za5) (o_:zal) (w_:yab) (at108:Int):Option (Int⊕(Int⊕(Int×yab×Int))):=idx t_.Nodes at108 fun b2=>cond ((!b2.Leaf)) (idx t_.Nodes at108 fun a2=>(zcp [w_,a2.Suffix]).bind fun a6=>(zc2 a6 o_.Inputs).bind fun a8=>cond (decide (a8≠0)) (some (.inr (.inr (0,[],a8)))) ((zff o_ a6).bind fun a7=>cond ((!a7.2)) (some (.inr (.inr (0,a6,0)))) (chk ((0:Int)<=(↑w_.length:Int)∧(↑w_.length:Int)<=(↑a7.1.length:Int)) ((zpm a2 (List.drop w_.length a7.1)).bind fun b0=>cond ((!b0.2)) (some (.inr (.inl at108))) (idx a2.Kids b0.1 fun b3=>some (.inl b3)))))) (some (.inr (.inl at108)))
def zi4 (t_:za5) (o_:zal) (w_:yab):Option (Int×yab×Int):=(zgh t_).bind fun a2=>cond (decide (a2≠0)) (some (0,[],a2)) ((zc2 w_ o_.Inputs).bind fun a6=>cond (decide (a6≠0)) (some (0,[],a6)) ((iter (fun (s:Int)=>zi4.s2 t_ o_ w_ s) fuel 0).bind (Sum.elim (fun at95=>some (at95,[],0)) some)))
def ze6 (l_:zah) (w_:yab):Option Bool:=(zff l_.o w_).bind fun a2=>some a2.2
def zd2 (l_:zah) (w_:yab) (suffix_:yab):Option yab:=(zcp [w_,suffix_]).bind fun a6=>(zff l_.o a6).bind fun a2=>chk (inR ((↑a2.1.length:Int)-(↑suffix_.length:Int))) (chk ((0:Int)<=((↑a2.1.length:Int)-(↑suffix_.length:Int))∧((↑a2.1.length:Int)-(↑suffix_.length:Int))<=(↑a2.1.length:Int)) (some (List.drop (Int.toNat ((↑a2.1.length:Int)-(↑suffix_.length:Int))) a2.1)))
def zj8 (v_:yab) (p1_:yab):Option Bool:=(zca v_ p1_).bind fun a2=>some a2
def zcf.s2 (s_:yaa) (f_:(yab)->Option Bool) (a2:Nat):Option (Nat⊕(Unit⊕Int)):=cond (decide ((↑a2:Int)<(↑s_.length:Int))) (idxn s_ a2 fun a6=>(f_ a6).bind fun a7=>cond (a7) (some (.inr (.inr (↑a2:Int)))) (some (.inl (a2+1)))) (some (.inr (.inl ())))
def zcf (s_:yaa) (f_:(yab)->Option Bool):Option Int:=(iter (fun (s:Nat)=>zcf.s2 s_ f_ s) fuel 0).bind (Sum.elim (fun _=>some (-1:Int)) some)
def zeh (s_:yaa) (f_:(yab)->Option Bool):Option Bool:=(zcf s_ f_).bind fun a2=>some (decide (0<=a2))
def zpi (l_:yaa) (w_:yab):Option Bool:=(zeh l_ (fun u0=>zj8 u0 w_)).bind fun a2=>some a2
def zpp (t_:za5) (w_:yab):Option Int:=(zc2 w_ 64).bind fun a2=>cond (decide (a2≠0)) (some a2) ((zfu t_).bind fun a6=>(zpi a6 w_).bind fun a7=>cond (a7) (some 7) (some 0))
def zra (t_:za5) (n_:Int) (leaf_:Bool):Option Int:=(cond (decide (n_<0)) (some true) (some (decide ((↑t_.Nodes.length:Int)<=n_)))).bind (fun a2=>cond (a2) (some 2) (idx t_.Nodes n_ fun a6=>cond ((!(a6.Leaf==leaf_))) (some 10) (some 0)))
def zn0 (t_:za5) (n_:Int) (suffix_:yab) (outs_:yab) (w_:yab) (other_:yab):Option Int:=(zra t_ n_ true).bind fun a2=>cond (decide (a2≠0)) (some a2) (cond (decide ((↑suffix_.length:Int)=0)) (some 19) ((zc2 suffix_ 64).bind fun a6=>cond (decide (a6≠0)) (some a6) ((zjr outs_ suffix_).bind fun a7=>cond (decide (a7≠0)) (some a7) ((zpp t_ w_).bind fun a8=>cond (decide (a8≠0)) (some a8) ((zjr other_ suffix_).bind fun b0=>cond (decide (b0≠0)) (some b0) ((zca outs_ other_).bind fun b2=>cond (b2) (some 15) (cond (decide (4094<(↑t_.Nodes.length:Int))) (some 11) (some 0))))))))
def zcx.s2 (a6:yaa) (a2:Nat) (a7:Int):Option ((yaa×Nat×Int)⊕yaa):=cond (decide ((↑a2:Int)<a7)) (idx a6 a7 fun a8=>idxn a6 a2 fun b0=>idxn a6 a2 fun b2=>idx (List.set a6 a2 a8) a7 fun b3=>chk (inR ((↑a2:Int)+1)) (chk (inR (a7-1)) (some (.inl ((List.set (List.set a6 a2 a8) a7.toNat b0),(a2+1),(a7-1)))))) (some (.inr a6))
def zcx (s_:yaa):Option yaa:=(iter (fun (s:yaa×Nat×Int)=>zcx.s2 s.1 s.2.1 s.2.2) fuel (s_,0,((↑s_.length:Int)-1))).bind (fun a2=>some a2)
def zc9.s2 (a6:yab) (a2:Nat) (a7:Int):Option ((yab×Nat×Int)⊕yab):=cond (decide ((↑a2:Int)<a7)) (idx a6 a7 fun a8=>idxn a6 a2 fun b0=>idxn a6 a2 fun b2=>idx (List.set a6 a2 a8) a7 fun b3=>chk (inR ((↑a2:Int)+1)) (chk (inR (a7-1)) (some (.inl ((List.set (List.set a6 a2 a8) a7.toNat b0),(a2+1),(a7-1)))))) (some (.inr a6))
def zc9 (s_:yab):Option yab:=(iter (fun (s:yab×Nat×Int)=>zc9.s2 s.1 s.2.1 s.2.2) fuel (s_,0,((↑s_.length:Int)-1))).bind (fun a2=>some a2)
def zet.s13 (a7:zak) (a2:yaa) (a6:Nat):Option ((yaa×Nat)⊕yaa):=cond (decide ((↑a6:Int)<(↑a7.Outs.length:Int))) (idxn a7.Outs a6 fun a8=>(zcp [a8]).bind fun b0=>chk (za2 (List.length a2+1) 24) (some (.inl ((a2++[b0]),(a6+1))))) (some (.inr a2))
def zet.s14 (t_:za5) (a7:List zak) (a6:Nat):Option ((List zak×Nat)⊕List zak):=cond (decide ((↑a6:Int)<(↑(List.length (List.take (List.length ((List.replicate t_.Nodes.length (⟨false,[],[],[],[]⟩:zak)):List zak)) t_.Nodes++List.drop t_.Nodes.length ((List.replicate t_.Nodes.length (⟨false,[],[],[],[]⟩:zak)):List zak))):Int))) (idxn a7 a6 fun a2=>chk (inR ((↑a2.Outs.length:Int)+1)) (chk ((0:Int)<=0∧0<=((↑a2.Outs.length:Int)+1)∧za2 (Int.toNat ((↑a2.Outs.length:Int)+1)) 24) ((iter (fun (s:yaa×Nat)=>zet.s13 a2 s.1 s.2) fuel ([],0)).bind (fun a8=>(zcp [a2.Access]).bind fun b0=>(zcp [a2.Suffix]).bind fun b2=>(zdg a2.Kids).bind fun b3=>idxn a7 a6 fun b4=>chk (inR ((↑a6:Int)+1)) (some (.inl ((List.set a7 a6 (⟨a2.Leaf,b0,b2,a8,b3⟩:zak)),(a6+1)))))))) (some (.inr a7))
def zet (t_:za5):Option za5:=chk ((0:Int)<=(↑t_.Nodes.length:Int)∧(↑t_.Nodes.length:Int)<=(↑t_.Nodes.length:Int)∧za2 (Int.toNat (↑t_.Nodes.length:Int)) 104) (chk (0<List.length ((List.replicate t_.Nodes.length (⟨false,[],[],[],[]⟩:zak)):List zak)∧0<List.length t_.Nodes) ((iter (fun (s:List zak×Nat)=>zet.s14 t_ s.1 s.2) fuel ((List.take (List.length ((List.replicate t_.Nodes.length (⟨false,[],[],[],[]⟩:zak)):List zak)) t_.Nodes++List.drop t_.Nodes.length ((List.replicate t_.Nodes.length (⟨false,[],[],[],[]⟩:zak)):List zak)),0)).bind (fun a2=>some (⟨a2⟩:za5))))
def zia.k1 (n_:Int) (w_:yab) (a2:za5) (b0:zak) (a6:yab) (a7:yaa) (a8:yab):Option (za5×Int):=idx a2.Nodes n_ fun b3=>(zcp [w_]).bind fun b2=>chk (za2 (List.length (List.set a2.Nodes n_.toNat (⟨false,[],a6,a7,a8⟩:zak))+2) 104) (some ((⟨((List.set a2.Nodes n_.toNat (⟨false,[],a6,a7,a8⟩:zak))++[b0,(⟨true,b2,[],[],[]⟩:zak)])⟩:za5),0))
def zia (t_:za5) (n_:Int) (suffix_:yab) (outs_:yab) (w_:yab) (other_:yab):Option (za5×Int):=(zgh t_).bind fun a2=>cond (decide (a2≠0)) (some (t_,a2)) ((zn0 t_ n_ suffix_ outs_ w_ other_).bind fun a6=>cond (decide (a6≠0)) (some (t_,a6)) ((zet t_).bind fun a7=>idx a7.Nodes n_ fun b2=>(zcp [suffix_]).bind fun b3=>(zcp [outs_]).bind fun a8=>(zcp [other_]).bind fun b0=>((zh0 outs_ other_).bind fun b4=>cond (decide (0<b4)) ((zcx [a8,b0]).bind fun b5=>(zc9 [(↑t_.Nodes.length:Int),((↑t_.Nodes.length:Int)+1)]).bind fun b6=>some (b5,b6)) (some ([a8,b0],[(↑t_.Nodes.length:Int),((↑t_.Nodes.length:Int)+1)])):Option (yaa×yab)).bind (fun s=>zia.k1 n_ w_ a7 b2 b3 s.1 s.2)))
def zbq.s2 (l_:zah) (leaves99:Nat) (empty100:Bool) (a2:Nat):Option ((Nat×Bool×Nat)⊕((Nat×Bool)⊕Int)):=cond (decide ((↑a2:Int)<(↑l_.TreeState.Tree.Nodes.length:Int))) (idxn l_.TreeState.Tree.Nodes a2 fun a6=>(zc2 a6.Access l_.TreeState.Inputs).bind fun a7=>cond (decide (a7≠0)) (some (.inr (.inr a7))) ((zc2 a6.Suffix l_.TreeState.Inputs).bind fun a8=>cond (decide (a8≠0)) (some (.inr (.inr a8))) (cond (a6.Leaf) (chk (inR ((↑leaves99:Int)+1)) (cond (empty100) (some (.inl ((leaves99+1),true,(a2+1)))) (some (.inl ((leaves99+1),decide ((↑a6.Access.length:Int)=0),(a2+1)))))) (some (.inl (leaves99,empty100,(a2+1))))))) (some (.inr (.inl (leaves99,empty100))))
def zbq.k3 (l_:zah) (leaves90:Nat) (empty91:Bool):Option Int:=cond ((!empty91)) (some 1) (cond (decide (128<(↑leaves90:Int))) (some 11) (cond (decide (l_.TreeState.Inputs≠l_.o.Inputs)) (some 15) (some 0)))
def zbq (l_:zah):Option Int:=(cond (decide (l_.TreeState.Inputs<1)) (some true) (some (decide (64<l_.TreeState.Inputs)))).bind (fun a6=>cond (a6) (some 2) ((zgh l_.TreeState.Tree).bind fun a2=>cond (decide (a2≠0)) (some a2) ((iter (fun (s:Nat×Bool×Nat)=>zbq.s2 l_ s.1 s.2.1 s.2.2) fuel (0,false,0)).bind (Sum.elim (fun s=>zbq.k3 l_ s.1 s.2) some))))
def zgd (l_:zah) (s_:zc7):Option Int:=(zbq l_).bind fun a2=>cond (decide (a2≠0)) (some a2) ((zc2 s_.Prefix l_.TreeState.Inputs).bind fun a6=>cond (decide (a6≠0)) (some a6) ((cond (decide (s_.Symbol<0)) (some true) (some (decide (l_.TreeState.Inputs<=s_.Symbol)))).bind (fun a7=>cond (a7) (some 2) (cond (decide ((↑s_.Suffix.length:Int)=0)) (some 19) ((zc2 s_.Suffix l_.TreeState.Inputs).bind fun a8=>some a8)))))
def zen (l_:zah) (n_:Int):Option Bool:=idx l_.TreeState.Tree.Nodes n_ fun a2=>some a2.Leaf
def zif (t_:za5):Option yaa:=(zgh t_).bind fun a2=>cond (decide (a2≠0)) (some []) ((zfu t_).bind fun a6=>(zd5 a6).bind fun a7=>some a7)
def ze2.s2 (l_:zba) (o_:zal) (b0:yab) (b2:yab) (a6:yaa) (a7:Nat):Option ((yaa×Nat)⊕(yaa⊕(zba×yaa×Int))):=cond (decide ((↑a7:Int)<(↑(List.length [b0,b2]):Int))) (idxn [b0,b2] a7 fun a2=>cond (decide (1024<(↑a2.length:Int))) (some (.inr (.inr (l_,[],3)))) ((ze6 (⟨l_,o_⟩:zah) a2).bind fun a8=>cond ((!a8)) (chk (za2 (List.length a6+1) 24) (some (.inl ((a6++[a2]),(a7+1))))) (some (.inl (a6,(a7+1)))))) (some (.inr (.inl a6)))
def ze2 (l_:zba) (o_:zal) (s_:zc7):Option (zba×yaa×Int):=(zgd (⟨l_,o_⟩:zah) s_).bind fun b4=>cond (decide (b4≠0)) (some (l_,[],b4)) ((zcp [s_.Prefix,[s_.Symbol]]).bind fun a7=>(zi4 l_.Tree o_ a7).bind fun a2=>cond (decide (a2.2.2≠0)) (some (l_,[],a2.2.2)) (cond (decide (0<(↑a2.2.1.length:Int))) (some (l_,[a2.2.1],0)) ((zen (⟨l_,o_⟩:zah) a2.1).bind fun b7=>cond ((!b7)) (some (l_,[],10)) (idx l_.Tree.Nodes a2.1 fun b5=>(zcp [b5.Access,s_.Suffix]).bind fun b8=>(zcp [a7,s_.Suffix]).bind fun b9=>(iter (fun (s:yaa×Nat)=>ze2.s2 l_ o_ b8 b9 s.1 s.2) fuel ([],0)).bind (Sum.elim (fun b6=>cond (decide (0<(↑b6.length:Int))) ((zd3 b6).bind fun a8=>some (l_,a8,0)) ((zif l_.Tree).bind fun b0=>cond (decide (128<=(↑b0.length:Int))) (some (l_,[],11)) ((zd2 (⟨l_,o_⟩:zah) b5.Access s_.Suffix).bind fun b2=>(zd2 (⟨l_,o_⟩:zah) a7 s_.Suffix).bind fun b3=>(zia l_.Tree a2.1 s_.Suffix b2 a7 b3).bind fun a6=>cond (decide (a6.2≠0)) (some (l_,[],a6.2)) (some ((⟨l_.Inputs,a6.1⟩:zba),[],0))))) some)))))
def za8.s2 (l_:zah) (m_:zaa) (h_:zb3) (w_:yab) (a7:Int) (a8:List zab) (b0:Int) (b2:yab) (b3:Int) (b4:yab) (query136:yab):Option ((Int×List zab×Int×yab×Int×yab×yab)⊕((Int×List zab×Int×yab×Int×yab)⊕(zah×Int))):=(cond (decide (b0=0)) (some (decide (0<(↑query136.length:Int)))) (some false)).bind (fun b5=>cond (b5) ((zcs m_ (⟨a7,a8⟩:zal) [query136]).bind fun a2=>cond (decide (a2.2≠0)) (some (.inr (.inr (l_,a2.2)))) ((zli h_ a2.1 w_).bind fun a6=>some (.inl (a2.1.Inputs,a2.1.Traces,a6.2.2,a6.1.Prefix,a6.1.Symbol,a6.1.Suffix,a6.2.1)))) (some (.inr (.inl (a7,a8,b0,b2,b3,b4)))))
def za8.s3 (l_:zah) (m_:zaa) (b0:yab) (b2:Int) (b3:yab) (a7:Int) (a8:List zab):Option ((Int×List zab)⊕(zah×Int)):=(ze2 l_.TreeState (⟨a7,a8⟩:zal) (⟨b0,b2,b3⟩:zc7)).bind fun a2=>cond (decide (a2.2.2≠0)) (some (.inr (l_,a2.2.2))) (cond (decide ((↑a2.2.1.length:Int)=0)) (some (.inr ((⟨a2.1,(⟨a7,a8⟩:zal)⟩:zah),0))) ((zcs m_ (⟨a7,a8⟩:zal) a2.2.1).bind fun a6=>cond (decide (a6.2≠0)) (some (.inr (l_,a6.2))) (some (.inl (a6.1.Inputs,a6.1.Traces)))))
def za8.k4 (l_:zah) (m_:zaa) (a6:Int) (a7:List zab) (a2:Int) (a8:yab) (b0:Int) (b2:yab):Option (zah×Int):=cond (decide (a2≠0)) (some (l_,a2)) (iter (fun (s:Int×List zab)=>za8.s3 l_ m_ a8 b0 b2 s.1 s.2) fuel (a6,a7))
def za8 (l_:zah) (m_:zaa) (h_:zb3) (w_:yab):Option (zah×Int):=(zcs m_ l_.o [w_]).bind fun a2=>cond (decide (a2.2≠0)) (some (l_,a2.2)) ((zli h_ a2.1 w_).bind fun a6=>(iter (fun (s:Int×List zab×Int×yab×Int×yab×yab)=>za8.s2 l_ m_ h_ w_ s.1 s.2.1 s.2.2.1 s.2.2.2.1 s.2.2.2.2.1 s.2.2.2.2.2.1 s.2.2.2.2.2.2) fuel (a2.1.Inputs,a2.1.Traces,a6.2.2,a6.1.Prefix,a6.1.Symbol,a6.1.Suffix,a6.2.1)).bind (Sum.elim (fun s=>za8.k4 l_ m_ s.1 s.2.1 s.2.2.1 s.2.2.2.1 s.2.2.2.2.1 s.2.2.2.2.2) some))
def zt4:Option za5:=some (⟨[(⟨true,[],[],[],[]⟩:zak)]⟩:za5)
def zml (inputs_:Int):Option (zba×Int):=(cond (decide (inputs_<1)) (some true) (some (decide (64<inputs_)))).bind (fun a2=>cond (a2) (some ((⟨0,(⟨[]⟩:za5)⟩:zba),2)) ((zt4).bind fun a6=>some ((⟨inputs_,a6⟩:zba),0)))
def zrz (t_:za5) (n_:Int) (outs_:yab) (w_:yab):Option (za5×Int):=none
def za4.s18 (l_:zah) (b3:yab) (b0:List zaj) (a6:yaa) (a7:Nat):Option ((List zaj×yaa×Nat)⊕((List zaj×yaa)⊕((List zaj×yaa×Nat)⊕((List zaj×yaa)⊕(List zaj×yaa×Int))))):=cond (decide ((↑a7:Int)<l_.TreeState.Inputs)) ((zcp [b3,[(↑a7:Int)]]).bind fun a8=>(zi4 l_.TreeState.Tree l_.o a8).bind fun a2=>cond (decide (a2.2.2≠0)) (some (.inr (.inr (.inr (.inr ([],[],a2.2.2)))))) (((ze6 l_ a8).bind fun b4=>cond ((!b4)) (chk (za2 (List.length a6+1) 24) (some (a6++[a8]))) (some a6):Option yaa).bind (fun b2=>(cond (decide (0<(↑a2.2.1.length:Int))) (chk (za2 (List.length b2+1) 24) (some (b2++[a2.2.1]))) (some b2):Option yaa).bind (fun b5=>chk (za2 (List.length b0+1) 32) (chk (inR ((↑a7:Int)+1)) (some (.inl ((b0++[(⟨a8,a2.1⟩:zaj)]),b5,(a7+1))))))))) (some (.inr (.inl (b0,a6))))
def za4.k19 (a7:Nat) (a2:List zaj) (a6:yaa):Option ((List zaj×yaa×Nat)⊕((List zaj×yaa)⊕(List zaj×yaa×Int))):=some (.inl (a2,a6,(a7+1)))
def za4.s20 (l_:zah) (b0:yaa) (a6:List zaj) (a7:yaa) (a2:Nat):Option ((List zaj×yaa×Nat)⊕((List zaj×yaa)⊕(List zaj×yaa×Int))):=cond (decide ((↑a2:Int)<(↑b0.length:Int))) (idxn b0 a2 fun a8=>(iter (fun (s:List zaj×yaa×Nat)=>za4.s18 l_ a8 s.1 s.2.1 s.2.2) fuel (a6,a7,0)).bind (Sum.elim (fun s=>za4.k19 a2 s.1 s.2) some)) (some (.inr (.inl (a6,a7))))
def za4.k21 (a6:List zaj) (a7:yaa):Option (List zaj×yaa×Int):=(zd3 a7).bind fun a2=>some (a6,a2,0)
def za4 (l_:zah):Option (List zaj×yaa×Int):=(zif l_.TreeState.Tree).bind fun a2=>(iter (fun (s:List zaj×yaa×Nat)=>za4.s20 l_ a2 s.1 s.2.1 s.2.2) fuel ([],[],0)).bind (Sum.elim (fun s=>za4.k21 s.1 s.2) some)
def zgm.s2 (l_:zba) (o_:zal) (b4:List zaj×yaa×Int) (a6:Nat):Option (Nat⊕(Unit⊕(zba×yaa×Bool×Int))):=cond (decide ((↑a6:Int)<(↑b4.1.length:Int))) ((idxn b4.1 a6 fun a2=>(zen (⟨l_,o_⟩:zah) a2.node).bind fun a8=>cond (a8) (some (.inl ())) ((zif l_.Tree).bind fun b0=>cond (decide (128<=(↑b0.length:Int))) (some (.inr (.inr (.inr (l_,[],false,11))))) (idx l_.Tree.Nodes a2.node fun b2=>(zd2 (⟨l_,o_⟩:zah) a2.w b2.Suffix).bind fun b3=>(zrz l_.Tree a2.node b3 a2.w).bind fun a7=>cond (decide (a7.2≠0)) (some (.inr (.inr (.inr (l_,[],false,a7.2))))) (some (.inr (.inr (.inr ((⟨l_.Inputs,a7.1⟩:zba),[],false,0))))))):Option (Unit⊕(Nat⊕(Unit⊕(zba×yaa×Bool×Int))))).bind (Sum.elim (fun _=>some (.inl (a6+1))) some)) (some (.inr (.inl ())))
def zgm (l_:zba) (o_:zal):Option (zba×yaa×Bool×Int):=(zbq (⟨l_,o_⟩:zah)).bind fun a6=>cond (decide (a6≠0)) (some (l_,[],false,a6)) ((za4 (⟨l_,o_⟩:zah)).bind fun a2=>cond (decide (a2.2.2≠0)) (some (l_,[],false,a2.2.2)) (cond (decide (0<(↑a2.2.1.length:Int))) (some (l_,a2.2.1,false,0)) ((iter (fun (s:Nat)=>zgm.s2 l_ o_ a2 s) fuel 0).bind (Sum.elim (fun _=>some (l_,[],true,0)) some))))
def zfl (w_:yab) (p1_:yab):Option Bool:=(zca w_ p1_).bind fun a2=>some a2
def zbb.s18 (l_:zba) (o_:zal) (b6:List zaj×yaa×Int) (b7:yaa) (a6:Nat) (a7:yab) (a8:yab) (b0:Nat):Option ((yab×yab×Nat)⊕((yab×yab)⊕((yaa×yaa×Nat)⊕((yaa×yaa)⊕(zb3×Int))))):=cond (decide ((↑b0:Int)<(↑(List.length (List.drop (Int.toNat ((↑a6:Int)*l_.Inputs)) (List.take (Int.toNat (((↑a6:Int)+1)*l_.Inputs)) b6.1))):Int))) (idxn (List.drop (Int.toNat ((↑a6:Int)*l_.Inputs)) (List.take (Int.toNat (((↑a6:Int)+1)*l_.Inputs)) b6.1)) b0 fun a2=>(zen (⟨l_,o_⟩:zah) a2.node).bind fun b3=>cond ((!b3)) (some (.inr (.inr (.inr (.inr ((⟨(⟨0,0,[],[]⟩:zaa),[]⟩:zb3),10)))))) (idx l_.Tree.Nodes a2.node fun b4=>(zcf b7 (fun u0=>zfl u0 b4.Access)).bind fun b5=>chk (za2 (List.length a7+1) 8) (chk (inR ((↑a2.w.length:Int)-1)) (chk ((0:Int)<=((↑a2.w.length:Int)-1)∧((↑a2.w.length:Int)-1)<=(↑a2.w.length:Int)) (chk (inR ((↑a2.w.length:Int)-1)) (chk ((0:Int)<=((↑a2.w.length:Int)-1)∧((↑a2.w.length:Int)-1)<=(↑a2.w.length:Int)) ((zd2 (⟨l_,o_⟩:zah) (List.take (Int.toNat ((↑a2.w.length:Int)-1)) a2.w) (List.drop (Int.toNat ((↑a2.w.length:Int)-1)) a2.w)).bind fun b2=>chk (za2 (List.length a8+List.length b2) 8) (some (.inl ((a7++[b5]),(a8++b2),(b0+1))))))))))) (some (.inr (.inl (a7,a8))))
def zbb.k19 (a2:yaa) (a6:yaa) (a7:Nat) (a8:yab) (b0:yab):Option ((yaa×yaa×Nat)⊕((yaa×yaa)⊕(zb3×Int))):=chk (za2 (List.length a2+1) 24) (chk (za2 (List.length a6+1) 24) (some (.inl ((a2++[a8]),(a6++[b0]),(a7+1)))))
def zbb.s20 (l_:zba) (o_:zal) (a8:List zaj×yaa×Int) (b0:yaa) (a6:yaa) (a7:yaa) (a2:Nat):Option ((yaa×yaa×Nat)⊕((yaa×yaa)⊕(zb3×Int))):=cond (decide ((↑a2:Int)<(↑b0.length:Int))) (chk (inR ((↑a2:Int)*l_.Inputs)) (chk (inR (((↑a2:Int)+1)*l_.Inputs)) (chk ((0:Int)<=((↑a2:Int)*l_.Inputs)∧((↑a2:Int)*l_.Inputs)<=(((↑a2:Int)+1)*l_.Inputs)∧(((↑a2:Int)+1)*l_.Inputs)<=(↑a8.1.length:Int)) ((iter (fun (s:yab×yab×Nat)=>zbb.s18 l_ o_ a8 b0 a2 s.1 s.2.1 s.2.2) fuel ([],[],0)).bind (Sum.elim (fun s=>zbb.k19 a6 a7 a2 s.1 s.2) some))))) (some (.inr (.inl (a6,a7))))
def zbb.k21 (l_:zba) (a8:yaa) (a2:yaa) (a6:yaa):Option (zb3×Int):=(ze1 (⟨(⟨l_.Inputs,0,a2,a6⟩:zaa),a8⟩:zb3)).bind fun a7=>cond (decide (a7≠0)) (some ((⟨(⟨0,0,[],[]⟩:zaa),[]⟩:zb3),15)) (some ((⟨(⟨l_.Inputs,0,a2,a6⟩:zaa),a8⟩:zb3),0))
def zbb (l_:zba) (o_:zal):Option (zb3×Int):=(zbq (⟨l_,o_⟩:zah)).bind fun a6=>cond (decide (a6≠0)) (some ((⟨(⟨0,0,[],[]⟩:zaa),[]⟩:zb3),a6)) ((za4 (⟨l_,o_⟩:zah)).bind fun a2=>cond (decide (a2.2.2≠0)) (some ((⟨(⟨0,0,[],[]⟩:zaa),[]⟩:zb3),a2.2.2)) (cond (decide (0<(↑a2.2.1.length:Int))) (some ((⟨(⟨0,0,[],[]⟩:zaa),[]⟩:zb3),12)) ((zif l_.Tree).bind fun a7=>(iter (fun (s:yaa×yaa×Nat)=>zbb.s20 l_ o_ a2 a7 s.1 s.2.1 s.2.2) fuel ([],[],0)).bind (Sum.elim (fun s=>zbb.k21 l_ a7 s.1 s.2) some))))
def zi7.s2 (a_:zaa) (b_:zaa) (a2:Nat):Option (Nat⊕(Unit⊕Int)):=cond (decide ((↑a2:Int)<2)) (cond (decide ((↑a2:Int)=0)) ((zbc a_).bind fun a6=>cond (decide (a6≠0)) (some (.inr (.inr a6))) (some (.inl (a2+1)))) (chk ((↑a2:Int)=1) ((zbc b_).bind fun a7=>cond (decide (a7≠0)) (some (.inr (.inr a7))) (some (.inl (a2+1)))))) (some (.inr (.inl ())))
def zi7 (a_:zaa) (b_:zaa):Option Int:=(iter (fun (s:Nat)=>zi7.s2 a_ b_ s) fuel 0).bind (Sum.elim (fun _=>cond (decide (a_.Inputs≠b_.Inputs)) (some 15) (some 0)) some)
def zhg (a_:zaa) (b_:zaa):Option (yab×Bool×Int):=(zi7 a_ b_).bind fun a2=>cond (decide (a2≠0)) (some ([],false,a2)) ((zcn a_ b_ (⟨a_.Start,b_.Start⟩:zek)).bind fun a6=>some (a6.1,a6.2,0))
def zdm.k3 (a2:Int) (a6:List zak) (a7:Int) (a8:List zab) (rounds145:Nat):Option ((Int×List zak×Int×List zab×Nat)⊕(zb3×zal×Int×Int)):=some (.inl (a2,a6,a7,a8,rounds145))
def zdm.s4 (m_:zaa) (b4:Int) (b5:List zak) (b2:Int) (b3:List zab) (rounds91:Nat):Option ((Int×List zak×Int×List zab×Nat)⊕(zb3×zal×Int×Int)):=((zgm (⟨b4,(⟨b5⟩:za5)⟩:zba) (⟨b2,b3⟩:zal)).bind fun a2=>cond (decide (a2.2.2.2≠0)) (some (.inr (.inr ((⟨(⟨0,0,[],[]⟩:zaa),[]⟩:zb3),(⟨0,[]⟩:zal),0,a2.2.2.2)))) ((zcs m_ (⟨b2,b3⟩:zal) a2.2.1).bind fun a6=>cond (decide (a6.2≠0)) (some (.inr (.inr ((⟨(⟨0,0,[],[]⟩:zaa),[]⟩:zb3),(⟨0,[]⟩:zal),0,a6.2)))) (cond ((!a2.2.2.1)) (some (.inl (a2.1.Inputs,a2.1.Tree.Nodes,a6.1.Inputs,a6.1.Traces,rounds91))) ((zbb a2.1 a6.1).bind fun a8=>cond (decide (a8.2≠0)) (some (.inr (.inr ((⟨(⟨0,0,[],[]⟩:zaa),[]⟩:zb3),(⟨0,[]⟩:zal),0,a8.2)))) (chk (inR ((↑rounds91:Int)+1)) ((zhg a8.1.M m_).bind fun b0=>cond (decide (b0.2.2≠0)) (some (.inr (.inr ((⟨(⟨0,0,[],[]⟩:zaa),[]⟩:zb3),(⟨0,[]⟩:zal),0,b0.2.2)))) (cond ((!b0.2.1)) (some (.inr (.inr (a8.1,a6.1,((↑rounds91:Int)+1),0)))) ((za8 (⟨a2.1,a6.1⟩:zah) m_ a8.1 b0.1).bind fun a7=>cond (decide (a7.2≠0)) (some (.inr (.inr ((⟨(⟨0,0,[],[]⟩:zaa),[]⟩:zb3),(⟨0,[]⟩:zal),0,a7.2)))) (some (.inl (a7.1.TreeState.Inputs,a7.1.TreeState.Tree.Nodes,a7.1.o.Inputs,a7.1.o.Traces,(rounds91+1))))))))))):Option ((Int×List zak×Int×List zab×Nat)⊕((Int×List zak×Int×List zab×Nat)⊕(zb3×zal×Int×Int)))).bind (Sum.elim (fun s=>zdm.k3 s.1 s.2.1 s.2.2.1 s.2.2.2.1 s.2.2.2.2) some)
def zdm (m_:zaa):Option (zb3×zal×Int×Int):=(zbc m_).bind fun a6=>cond (decide (a6≠0)) (some ((⟨(⟨0,0,[],[]⟩:zaa),[]⟩:zb3),(⟨0,[]⟩:zal),0,a6)) ((zml m_.Inputs).bind fun a2=>cond (decide (a2.2≠0)) (some ((⟨(⟨0,0,[],[]⟩:zaa),[]⟩:zb3),(⟨0,[]⟩:zal),0,a2.2)) (iter (fun (s:Int×List zak×Int×List zab×Nat)=>zdm.s4 m_ s.1 s.2.1 s.2.2.1 s.2.2.2.1 s.2.2.2.2) fuel (a2.1.Inputs,a2.1.Tree.Nodes,m_.Inputs,[],0)))
def zh2:Option zaa:=some (⟨2,0,[[1,0],[2,0],[1,0]],[[1,0],[1,2],[1,2]]⟩:zaa)
def zp0 (a_:zaa) (b_:zaa):Option (Bool×Int):=(zhg a_ b_).bind fun a2=>(cond (decide (a2.2.2=0)) (some (!a2.2.1)) (some false)).bind (fun a6=>some (a6,a2.2.2))
def zhn:Option Bool:=(zh2).bind fun a7=>(zce a7).bind fun a2=>(zh2).bind fun a8=>(zc5).bind fun b0=>(zp0 a8 b0).bind fun a6=>(cond (decide (a2.2=0)) ((zc5).bind fun b2=>(zma a2.1 b2).bind fun b3=>cond (b3) (cond (decide (a6.2=0)) (some a6.1) (some false)) (some false)) (some false)).bind (fun b4=>some b4)
def zje:Option Bool:=(zc5).bind fun a7=>(zdm a7).bind fun a2=>(zce a2.1.M).bind fun a6=>(cond (decide (a2.2.2.2=0)) (cond (decide (a6.2=0)) ((zc5).bind fun a8=>(zma a6.1 a8).bind fun b0=>cond (b0) ((zhn).bind fun b2=>some b2) (some false)) (some false)) (some false)).bind (fun b3=>some b3)
def zjz:Option Bool:=(zc5).bind fun b0=>(zev b0 0).bind fun a7=>(zc5).bind fun a2=>idxn a2.Next 1 fun a8=>idxn a8 1 fun b5=>(zc5).bind fun b2=>(ze9 b2 (⟨a2.Inputs,a2.Start,(List.set a2.Next 1 (List.set a8 1 1)),a2.Out⟩:zaa) a7.1).bind fun a6=>(cond (decide (a7.2=0)) (cond (decide (a6.2.2=0)) (cond ((!a6.2.1)) (cond (decide ((↑a6.1.length:Int)=3)) ((zje).bind fun b3=>some b3) (some false)) (some false)) (some false)) (some false)).bind (fun b4=>some b4)
def zi1:Option Bool:=(zc5).bind fun b0=>(zn6 b0).bind fun a2=>(zc5).bind fun b2=>(zrp b2 a2.1).bind fun a6=>(zh7 a6.1).bind fun a7=>(zcd a7.1 0).bind fun a8=>(cond (decide (a2.2=0)) (cond (decide (a6.2=0)) (cond (decide (a7.2=0)) (cond (decide (a8.2=0)) ((zc5).bind fun b3=>(zma a8.1 b3).bind fun b4=>cond (b4) ((zjz).bind fun b5=>some b5) (some false)) (some false)) (some false)) (some false)) (some false)).bind (fun b6=>some b6)
def zd1:Option Bool:=(zc5).bind fun a6=>(zig a6).bind fun a2=>(cond (decide (a2.2.2=0)) (cond (decide ((↑a2.1.length:Int)=2)) (idxn a2.1 0 fun a7=>cond (decide (a7=0)) (idxn a2.1 1 fun a8=>cond (decide (a8=1)) ((zi1).bind fun b0=>some b0) (some false)) (some false)) (some false)) (some false)).bind (fun b2=>some b2)
def zan.s18 (a8:Nat) (a2:yab) (a7:Nat) (a6:Nat):Option ((yab×Nat×Nat)⊕(yab×Nat)):=cond (decide ((↑a6:Int)<(↑(List.length a2-a8):Int))) (idxn a2 (a8+a6) fun b0=>chk ((0:Int)<=((↑a6:Int)-1)) (idxn a2 (a8+(Int.toNat ((↑a6:Int)-1))) fun b2=>cond (decide (b0≠b2)) (idxn a2 (a8+a6) fun b3=>idxn a2 a7 fun b4=>chk (inR ((↑a7:Int)+1)) (some (.inl ((List.set a2 a7 b3),(a7+1),(a6+1))))) (some (.inl (a2,a7,(a6+1)))))) (some (.inr (a2,a7)))
def zan.k19 (a6:yab) (a2:Nat):Option (Nat⊕(Unit⊕yab)):=chk ((0:Int)<=(↑a2:Int)∧(↑a2:Int)<=(↑a6.length:Int)∧0<List.length a6) (chk (a2<=List.length a6) (chk ((0:Int)<=(↑a2:Int)∧(↑a2:Int)<=(↑(List.length (List.take a2 a6++List.replicate (List.length a6-a2) 0)):Int)∧0<List.length (List.take a2 a6++List.replicate (List.length a6-a2) 0)) (some (.inr (.inr (List.take a2 (List.take a2 a6++List.replicate (List.length a6-a2) 0)))))))
def zan.s20 (s_:yab) (a2:Nat):Option (Nat⊕(Unit⊕yab)):=cond (decide ((↑a2:Int)<(↑s_.length:Int))) (idxn s_ a2 fun a6=>idx s_ ((↑a2:Int)-1) fun a7=>cond (decide (a6=a7)) (chk ((0:Int)<=(↑a2:Int)∧(↑a2:Int)<=(↑s_.length:Int)∧0<List.length s_) ((iter (fun (s:yab×Nat×Nat)=>zan.s18 a2 s.1 s.2.1 s.2.2) fuel (s_,a2,1)).bind (fun s=>zan.k19 s.1 s.2))) (some (.inl (a2+1)))) (some (.inr (.inl ())))
def zan (s_:yab):Option yab:=cond (decide ((↑s_.length:Int)<2)) (some s_) ((iter (fun (s:Nat)=>zan.s20 s_ s) fuel 1).bind (Sum.elim (fun _=>some s_) some))
def zd8.s2 (m_:zaa) (a2:yab) (a6:Nat):Option ((yab×Nat)⊕yab):=cond (decide ((↑a6:Int)<(↑m_.Out.length:Int))) (idxn m_.Out a6 fun a7=>chk (za2 (List.length a2+List.length a7) 8) (some (.inl ((a2++a7),(a6+1))))) (some (.inr a2))
def zd8 (m_:zaa):Option yab:=(zbc m_).bind fun a2=>cond (decide (a2≠0)) (some []) ((iter (fun (s:yab×Nat)=>zd8.s2 m_ s.1 s.2) fuel ([],0)).bind (fun a6=>(zgb a6).bind fun a7=>(zan a7).bind fun a8=>some a8))
def zec (b_:zbw) (l_:yab) (w_:yab):Option (Int×Bool×zbw):=(zol l_).bind fun a2=>cond ((mget a2 b_.of).isSome) (some (((mget a2 b_.of).getD 0),true,b_)) (cond (decide ((↑b_.sets.length:Int)=128)) (some (0,false,b_)) (chk (za2 (List.length b_.sets+1) 48) (chk (inR ((↑(List.length (b_.sets++[(⟨l_,w_⟩:zas)])):Int)-1)) (some (((↑(List.length (b_.sets++[(⟨l_,w_⟩:zas)])):Int)-1),true,(⟨b_.m,b_.p,(b_.sets++[(⟨l_,w_⟩:zas)]),(mset a2 (↑b_.sets.length:Int) b_.of)⟩:zbw))))))
def zap.s18 (b_:zbw) (x_:Int) (a6:Int) (a7:yab) (a8:yab) (possible842:Bool) (a2:Nat):Option ((yab×yab×Bool×Nat)⊕(yab×yab×Bool)):=cond (decide ((↑a2:Int)<b_.p.Inputs)) (idx b_.p.Sym (a6 / (↑b_.m.Next.length:Int)) fun b4=>idxn b4 a2 fun b5=>cond (decide (b5=x_)) (idx b_.m.Out (a6%(↑b_.m.Next.length:Int)) fun b6=>idxn b6 a2 fun b2=>chk (inR (1+b2)) (chk (za2 (List.length a7+1) 8) (idx b_.p.Next (a6 / (↑b_.m.Next.length:Int)) fun b7=>idxn b7 a2 fun b0=>chk (inR (b0*(↑b_.m.Next.length:Int))) (idx b_.m.Next (a6%(↑b_.m.Next.length:Int)) fun b8=>idxn b8 a2 fun b3=>chk (inR ((b0*(↑b_.m.Next.length:Int))+b3)) (chk (za2 (List.length a8+1) 8) (chk (inR ((↑a2:Int)+1)) (some (.inl ((a7++[(1+b2)]),(a8++[((b0*(↑b_.m.Next.length:Int))+b3)]),true,(a2+1)))))))))) (chk (inR ((↑a2:Int)+1)) (some (.inl (a7,a8,possible842,(a2+1)))))) (some (.inr (a7,a8,possible842)))
def zap.k19 (a6:Nat) (a2:yab) (a7:yab) (possible824:Bool):Option ((yab×yab×Nat)⊕(yab×yab)):=cond ((!possible824)) (chk (za2 (List.length a2+1) 8) (some (.inl ((a2++[0]),a7,(a6+1))))) (some (.inl (a2,a7,(a6+1))))
def zap.s20 (b_:zbw) (l_:yab) (x_:Int) (a7:yab) (a8:yab) (a6:Nat):Option ((yab×yab×Nat)⊕(yab×yab)):=cond (decide ((↑a6:Int)<(↑l_.length:Int))) (idxn l_ a6 fun a2=>chk (inR (a2 / (↑b_.m.Next.length:Int))∧(0:Int)<=a2∧(1:Int)<=(↑b_.m.Next.length:Int)) (chk (inR (a2%(↑b_.m.Next.length:Int))∧(0:Int)<=a2∧(1:Int)<=(↑b_.m.Next.length:Int)) ((iter (fun (s:yab×yab×Bool×Nat)=>zap.s18 b_ x_ a2 s.1 s.2.1 s.2.2.1 s.2.2.2) fuel (a7,a8,false,0)).bind (fun s=>zap.k19 a6 s.1 s.2.1 s.2.2)))) (some (.inr (a7,a8)))
def zap.k21 (b_:zbw) (l_:yab) (a6:yab) (a2:yab):Option (yab×yab×zbw):=(cond (decide ((↑a2.length:Int)=0)) ((zdg l_).bind fun a7=>some a7) (some a2):Option yab).bind (fun a8=>(zgb a6).bind fun b0=>(zgb a8).bind fun b2=>(zan b0).bind fun b3=>(zan b2).bind fun b4=>some (b3,b4,b_))
def zap (b_:zbw) (l_:yab) (x_:Int):Option (yab×yab×zbw):=(iter (fun (s:yab×yab×Nat)=>zap.s20 b_ l_ x_ s.1 s.2.1 s.2.2) fuel ([],[],0)).bind (fun s=>zap.k21 b_ l_ s.1 s.2)
def zf0 (e_:Int):Option (zaa×zeq×Bool×Int):=some ((⟨0,0,[],[]⟩:zaa),(⟨[],0,0⟩:zeq),false,e_)
def zb1.s18 (m_:zaa) (p_:zbt) (b7:Nat) (b8:yaa) (b9:yaa) (c0:Int) (c6:yaa) (c7:yaa) (a6:List zas) (b3:List (ByteArray×Int)) (b4:yab) (b5:yab) (a7:Nat):Option ((yaa×yaa×Int×yaa×yaa×List zas×(List (ByteArray×Int))×yab×yab×Nat)⊕((yaa×yaa×Int×yaa×yaa×List zas×(List (ByteArray×Int))×yab×yab)⊕((yaa×yaa×Int×yaa×yaa×List zas×(List (ByteArray×Int))×yaa×yaa×Nat)⊕((yaa×yaa)⊕(zaa×zeq×Bool×Int))))):=cond (decide ((↑a7:Int)<p_.Abstract)) (idxn a6 b7 fun c8=>(zcp [c8.word,[(↑a7:Int)]]).bind fun b6=>idxn a6 b7 fun c9=>(zap (⟨(⟨m_.Inputs,m_.Start,b8,b9⟩:zaa),(⟨c0,p_.Abstract,p_.Start,c6,c7⟩:zbt),a6,b3⟩:zbw) c9.list (↑a7:Int)).bind fun a2=>cond (decide (1<(↑a2.1.length:Int))) (idxn a2.1 0 fun d0=>idxn a2.1 1 fun d1=>some (.inr (.inr (.inr (.inr ((⟨0,0,[],[]⟩:zaa),(⟨b6,d0,d1⟩:zeq),false,0)))))) (idxn a2.1 0 fun d2=>cond (decide (1048576<d2)) ((zf0 2).bind fun a8=>some (.inr (.inr (.inr (.inr (a8.1,a8.2.1,a8.2.2.1,a8.2.2.2)))))) ((zec (⟨(⟨m_.Inputs,m_.Start,a2.2.2.m.Next,a2.2.2.m.Out⟩:zaa),(⟨a2.2.2.p.Inputs,p_.Abstract,p_.Start,a2.2.2.p.Next,a2.2.2.p.Sym⟩:zbt),a6,b3⟩:zbw) a2.2.1 b6).bind fun b0=>cond ((!b0.2.1)) ((zf0 11).bind fun b2=>some (.inr (.inr (.inr (.inr (b2.1,b2.2.1,b2.2.2.1,b2.2.2.2)))))) (chk (za2 (List.length b4+1) 8) (idxn a2.1 0 fun d3=>chk (za2 (List.length b5+1) 8) (chk (inR ((↑a7:Int)+1)) (some (.inl (a2.2.2.m.Next,a2.2.2.m.Out,a2.2.2.p.Inputs,a2.2.2.p.Next,a2.2.2.p.Sym,b0.2.2.sets,b0.2.2.of,(b4++[b0.1]),(b5++[d3]),(a7+1)))))))))) (some (.inr (.inl (b8,b9,c0,c6,c7,a6,b3,b4,b5))))
def zb1.k19 (a2:yaa) (a6:yaa) (a7:Nat) (a8:yaa) (b0:yaa) (b2:Int) (b3:yaa) (b4:yaa) (b5:List zas) (b6:List (ByteArray×Int)) (b7:yab) (b8:yab):Option ((yaa×yaa×Int×yaa×yaa×List zas×(List (ByteArray×Int))×yaa×yaa×Nat)⊕((yaa×yaa)⊕(zaa×zeq×Bool×Int))):=chk (za2 (List.length a2+1) 24) (chk (za2 (List.length a6+1) 24) (some (.inl (a8,b0,b2,b3,b4,b5,b6,(a2++[b7]),(a6++[b8]),(a7+1)))))
def zb1.s20 (m_:zaa) (p_:zbt) (b0:yaa) (b2:yaa) (b3:Int) (b4:yaa) (b5:yaa) (a6:List zas) (b6:List (ByteArray×Int)) (a7:yaa) (a8:yaa) (a2:Nat):Option ((yaa×yaa×Int×yaa×yaa×List zas×(List (ByteArray×Int))×yaa×yaa×Nat)⊕((yaa×yaa)⊕(zaa×zeq×Bool×Int))):=cond (decide ((↑a2:Int)<(↑a6.length:Int))) ((iter (fun (s:yaa×yaa×Int×yaa×yaa×List zas×(List (ByteArray×Int))×yab×yab×Nat)=>zb1.s18 m_ p_ a2 s.1 s.2.1 s.2.2.1 s.2.2.2.1 s.2.2.2.2.1 s.2.2.2.2.2.1 s.2.2.2.2.2.2.1 s.2.2.2.2.2.2.2.1 s.2.2.2.2.2.2.2.2.1 s.2.2.2.2.2.2.2.2.2) fuel (b0,b2,b3,b4,b5,a6,b6,[],[],0)).bind (Sum.elim (fun s=>zb1.k19 a7 a8 a2 s.1 s.2.1 s.2.2.1 s.2.2.2.1 s.2.2.2.2.1 s.2.2.2.2.2.1 s.2.2.2.2.2.2.1 s.2.2.2.2.2.2.2.1 s.2.2.2.2.2.2.2.2) some)) (some (.inr (.inl (a7,a8))))
def zb1.k21 (p_:zbt) (a2:yaa) (a6:yaa):Option (zaa×zeq×Bool×Int):=some ((⟨p_.Abstract,0,a2,a6⟩:zaa),(⟨[],0,0⟩:zeq),true,0)
def zb1 (m_:zaa) (p_:zbt):Option (zaa×zeq×Bool×Int):=(zbc m_).bind fun a8=>cond (decide (a8≠0)) ((zf0 a8).bind fun a2=>some (a2.1,a2.2.1,a2.2.2.1,a2.2.2.2)) ((zcz p_).bind fun b0=>cond (decide (b0≠0)) ((zf0 b0).bind fun a6=>some (a6.1,a6.2.1,a6.2.2.1,a6.2.2.2)) (cond (decide (m_.Inputs≠p_.Inputs)) ((zf0 15).bind fun a7=>some (a7.1,a7.2.1,a7.2.2.1,a7.2.2.2)) (chk (inR (p_.Start*(↑m_.Next.length:Int))) (chk (inR ((p_.Start*(↑m_.Next.length:Int))+m_.Start)) ((zec (⟨m_,p_,[],([]:List (ByteArray×Int))⟩:zbw) [((p_.Start*(↑m_.Next.length:Int))+m_.Start)] []).bind fun b2=>(iter (fun (s:yaa×yaa×Int×yaa×yaa×List zas×(List (ByteArray×Int))×yaa×yaa×Nat)=>zb1.s20 m_ p_ s.1 s.2.1 s.2.2.1 s.2.2.2.1 s.2.2.2.2.1 s.2.2.2.2.2.1 s.2.2.2.2.2.2.1 s.2.2.2.2.2.2.2.1 s.2.2.2.2.2.2.2.2.1 s.2.2.2.2.2.2.2.2.2) fuel (m_.Next,m_.Out,p_.Inputs,p_.Next,p_.Sym,b2.2.2.sets,b2.2.2.of,[],[],0)).bind (Sum.elim (fun s=>zb1.k21 p_ s.1 s.2) some))))))
def zch.s2 (b0:yab×Int) (a8:yab×Int) (a2:Nat):Option (Nat⊕(Unit⊕Bool)):=cond (decide ((↑a2:Int)<(↑a8.1.length:Int))) (idxn a8.1 a2 fun a7=>idxn b0.1 a2 fun a6=>chk (inR (a6+1)) (cond (decide (a7≠(a6+1))) (some (.inr (.inr false))) (some (.inl (a2+1))))) (some (.inr (.inl ())))
def zch (m_:zaa) (w_:yab):Option Bool:=((zgk m_).bind fun b5=>cond ((!b5)) (some true) (some (decide (40<(↑w_.length:Int))))).bind (fun b6=>cond (b6) ((zd1).bind fun b7=>some b7) ((zgy m_ w_).bind fun a2=>(zig m_).bind fun b3=>(zd8 m_).bind fun a6=>(cond (decide (a2.2≠0)) (some true) (cond (decide (b3.2.2≠0)) (some true) (some (decide ((↑a6.length:Int)=0))))).bind (fun b8=>cond (b8) ((zd1).bind fun b9=>some b9) (idx a6 ((↑a6.length:Int)-1) fun c0=>cond (decide (1048576<=c0)) ((zd1).bind fun c6=>some c6) ((zd4 b3.1).bind fun a7=>cond (decide (a7.2≠0)) (some false) ((zb1 m_ a7.1).bind fun a8=>(zdj a7.1 w_).bind fun b4=>(zgy a8.1 b4.1).bind fun b0=>(cond (decide (a8.2.2.2≠0)) (some true) (cond ((!a8.2.2.1)) (some true) (cond (decide (b4.2≠0)) (some true) (cond (decide (b0.2≠0)) (some true) (some (decide ((↑b0.1.length:Int)≠(↑a2.1.length:Int)))))))).bind (fun c7=>cond (c7) (some false) ((iter (fun (s:Nat)=>zch.s2 a2 b0 s) fuel 0).bind (Sum.elim (fun _=>(zd1).bind fun b2=>some b2) some)))))))))
section
section
variable {S R A B α β:Type}
theorem zg9 {step:S->Option (S⊕R)} (I:S->Prop) (m:S->Nat) (Q:R->Prop) (h:∀ s,I s->(∃ s',step s=some (.inl s')∧I s'∧m s'<m s)∨∃ r,step s=some (.inr r)∧Q r) :
  ∀ (n:Nat) (s:S),I s->m s<n->∃ r,iter step n s=some r∧Q r
 | 0,_,_,hm=>absurd hm (ybr _)
 | n+1,s,hi,hm=>by
  unfold iter;rcases h s hi with ⟨s',e,hi',hm'⟩ | ⟨r,e,hq⟩
  ·rw [e];exact zg9 I m Q h n s' hi' (by omega)
  ·rw [e];exact ⟨r,rfl,hq⟩
theorem zof {step:S->Option (S⊕R)} {r:R} (I:S->Prop) (m:S->Nat) (h:∀ s,I s->(∃ s',step s=some (.inl s')∧I s'∧m s'<m s)∨step s=some (.inr r)) {n:Nat} {s:S} (hi:I s) (hm:m s<n:=by have:=zh3;(try simp only);omega):iter step n s=some r:=by
 obtain ⟨r',e,rfl⟩:=zg9 I m (fun r'=>r'=r) (fun s hs=>(h s hs).imp id fun e=>⟨r,e,rfl⟩) n s hi hm;exact e
def walk (g:A->Nat->α->Option (A⊕R)) (fin:A->Option R):A->Nat->List α->Option R
 | a,_,[]=>fin a
 | a,i,x::l=>(g a i x).bind (Sum.elim (fun a'=>walk g fin a' (i+1) l) some)
theorem zbg {l:List α} {i:Nat} {x:α} {k:α->Option β} (h:l[i]?=some x):idxn l i k=k x:=by unfold idxn;rw [h]
theorem zg4 {l:List α} {n:Int} {i:Nat} {x:α} {k:α->Option β} (hn:n=(i:Int)) (h:l[i]?=some x):idx l n k=k x:=by
 subst hn;unfold idx;rw [if_pos (by omega),ybz,h]
theorem zb7 {c:Prop} [Decidable c] {k:Option α} (h:c):chk c k=k:=by unfold chk;rw [if_pos h]
theorem zbz {a:α} {f:α->Option β}:(some a).bind f=f a:=(yc2 a f).trans (Eq.trans rfl rfl)
theorem zh3:100000000000000<fuel:=by unfold fuel;omega
theorem znr {S R:Type} {step:S->Option (S⊕R)} (I:S->Prop) (m:S->Nat) (Q:R->Prop) (h:∀ s,I s->(∃ s',step s=some (.inl s')∧I s'∧m s'<m s)∨∃ r,step s=some (.inr r)∧Q r) (s:S) (hi:I s) (hm:m s<fuel:=by have:=zh3;(try simp only);omega):∃ r,iter step fuel s=some r∧Q r:=zg9 I m Q h fuel s hi hm
theorem zlc {l:List α} {i:Nat} {x:α} (h:l[i]?=some x):decide ((↑i:Int)<(↑l.length:Int))=true:=by
 have:=(zkI.1 h).1;simpa using this
theorem zte (l:List α):decide ((↑l.length:Int)<(↑l.length:Int))=false:=by simp
def scan (g:Nat->α->Option R):Nat->List α->Option R
 | _,[]=>none
 | i,x::l=>match g i x with | some r=>some r | none=>scan g (i+1) l
theorem zkl {g:Nat->α->Option R}:∀ {l:List α} {j:Nat},scan g j l=none↔∀ i x,l[i]?=some x->g (j+i) x=none
 | [],j=>by simp [scan]
 | y::l,j=>by
  constructor
  ·intro h i x hx;unfold scan at h;cases e:g j y with
   | some r=>rw [e] at h;cases h
   | none =>
    rw [e] at h
    match i,hx with
    | 0,hx =>
     simp at hx;subst hx;exact e
    | i+1,hx =>
     have:=(zkl (g:=g) (l:=l) (j:=j+1)).1 h i x (by simpa using hx)
     rwa [show j+1+i=j+(i+1) by omega] at this
  ·intro h;unfold scan;have h0:=h 0 y rfl;rw [ybl] at h0;rw [h0]
   exact (zkl (g:=g) (l:=l) (j:=j+1)).2 fun i x hx=>by
    have:=h (i+1) x (by simpa using hx)
    rwa [show j+(i+1)=j+1+i by omega] at this
theorem zho {step:Nat->Option (Nat⊕(Unit⊕R))} {l:List α} (g:Nat->α->Option R) (h1:∀ i x,l[i]?=some x->step i=some (match g i x with | some r=>.inr (.inr r) | none=>.inl (i+1))) (h2:step l.length=some (.inr (.inl ()))) (hl:l.length<=100000000000000) :
  iter step fuel 0=some (match scan g 0 l with | some r=>.inr r | none=>.inl ()):=by
 have key:∀ (n i:Nat),i<=l.length->l.length-i<n->iter step n i=some (match scan g i (l.drop i) with | some r=>.inr r | none=>.inl ()):=by
  intro n
  induction n with
  | zero=>intro i _ h;omega
  | succ n ih =>
   intro i hi hn;rcases ya8 i l.length with h | h
   ·rw [List.drop_eq_getElem_cons h];unfold iter scan;rw [h1 i _ (zkM h)];cases g i l[i] with
    | some r=>rfl
    | none=>exact ih (i+1) h (by omega)
   ·have e:i=l.length:=by omega
    subst e;rw [List.drop_length];unfold iter scan;rw [h2]
 exact key fuel 0 (yas _) (by have:=zh3;omega)
end
end
theorem zlk (x y:Int):cmp_Compare_int x y=some (cmpI x y):=by
 unfold cmp_Compare_int cmp_isNaN_int cmpI;by_cases h1:x<y
 ·simp [h1]
 ·by_cases h2:y<x<;>simp [h1,h2]
theorem zl6 (s t:yab) (hs:s.length<=100000000000000):zb6 s t=some (lexI s t):=by
 have key:=zg9 (step:=fun k=>zb6.s2 s t k) (fun k=>k<=s.length∧k<=t.length∧lexI s t=lexI (s.drop k) (t.drop k)) (fun k=>s.length-k)
  (fun r=>Sum.elim (fun (_:Unit)=>cond (decide ((↑s.length:Int)<(↑t.length:Int))) (some (-1:Int)) (some 0)) some r=some (lexI s t)) (fun k ⟨h1,h2,h3⟩=>by
   unfold zb6.s2
   rcases ya8 k s.length with h | h
   ·have hx:=zkM h
    rw [zlc hx,zkD,zbg hx]
    by_cases h4:t.length<=k
    ·right
     refine ⟨.inr 1,by simp [h4],?_⟩
     rw [h3,lexI_long h h4]
     rfl
    ·have hy:=zkM (show k<t.length by omega)
     have a0:=lexI_step hx hy
     have d4:decide ((↑t.length:Int)<=(↑k:Int))=false:=by simp;omega
     rw [d4,zkC,zbg hy,zlk]
     by_cases h5:cmpI s[k] t[k]=0
     ·left
      rw [if_pos h5] at a0
      exact ⟨k+1,by simp [h5],⟨by omega,by omega,by rw [h3,a0]⟩,by omega⟩
     ·right
      rw [if_neg h5] at a0
      exact ⟨.inr (cmpI s[k] t[k]),by simp [h5],by rw [h3,a0];rfl⟩
   ·right
    have e:k=s.length:=by omega
    subst e
    rw [zte,zkC]
    refine ⟨.inl (),rfl,?_⟩
    rw [h3,lexI_end (yam _)]
    by_cases h4:s.length<t.length<;>simp [h4]) fuel 0 ⟨yas _,yas _,rfl⟩ (by have:=zh3;simp only [ydk];omega)
 obtain ⟨r,e,hq⟩:=key;unfold zb6;rw [e];exact hq
theorem cmp_Or_two (x y:Int):zfp [x,y]=some (if x≠0 then x else y):=by
 unfold zfp;have e:fuel=(fuel-3)+1+1+1:=by unfold fuel;omega
 rw [e];by_cases h1:x=0
 ·by_cases h2:y=0
  ·simp [iter,zfp.s2,idxn,h1,h2]
  ·simp [iter,zfp.s2,idxn,h1,h2]
 ·simp [iter,zfp.s2,idxn,h1]
theorem ztp (s t:yab) (hs:s.length<=100000000000000):zh0 s t=some (lexI s t):=by
 unfold zh0;rw [zl6 s t hs];rfl
theorem zt7 (s t:yab) (hs:s.length<=100000000000000):zfb s t=some (cmpW s t):=by
 unfold zfb;rw [zl6 s t hs,zlk];show (zfp [cmpI s.length t.length,lexI s t]).bind some=_;rw [cmp_Or_two];show some _=some _;congr 1;unfold cmpI cmpW;by_cases h1:s.length<t.length
 ·simp [h1]
 ·by_cases h2:t.length<s.length
  ·simp [h1,h2]
  ·simp [h1,h2]
theorem cmpE_word_Lex:CmpE Tryz.prog 96 (fun x=>nL cI x) (fun x y=>zh0 x y) :=
 ⟨fun args w=>zeo rfl rfl rfl args w,cmpG_lex fun x y r hx h=>by rw [ztp x y (by omega)] at h;injection h with h;exact h.symm⟩
theorem zlz:CmpE Tryz.prog 93 (fun x=>nL cI x) (fun x y=>zfb x y) :=
 ⟨fun args w=>zeo rfl rfl rfl args w,cmpG_compare fun x y r hx h=>by rw [zt7 x y (by omega)] at h;injection h with h;exact h.symm⟩
theorem zp1:CmpE Tryz.prog 178 (fun x=>.agg (zag x)) (fun x y=>zhp x y) :=
 ⟨fun args w=>zeo rfl rfl rfl args w,cmpG_fits1 (T:=zab) (i:=fun x=>x.In) (o:=fun x=>x.Out) (f:=fun x y=>zhp x y) (fun _=>rfl) fun x y r hx h=>by
  simp only [zhp] at h
  rw [ztp _ _ (by omega)] at h
  injection h with h
  exact h.symm⟩
section
section
variable {α β R:Type}
theorem get_at {l:List α} {i:Nat} (h:i<l.length):l[i]?=some l[i]:=zkM h
end
def SmW (x:yab):Prop:=x.length<=2000000
theorem zrv (n:Int):zhw n=some (decide (1<=n∧n<=1024)):=by
 unfold zhw;by_cases h1:1<=n<;>by_cases h2:n<=1024<;>simp [h1,h2]
theorem zqp (w:yab) (n:Int) (hl:SmW w):zc2 w n=some (zhq w n):=by
 unfold zc2 zhq zdw zbv;rw [zrv];by_cases h1:1<=n∧n<=1024
 ·rw [if_pos h1];simp only [yc2,h1,and_self,decide_true,yc7,zkC];by_cases h2:1024<w.length
  ·rw [if_pos h2,show decide ((1024:Int)<(↑w.length:Int))=true from zkB (by omega),zkD]
  ·rw [if_neg h2,show decide ((1024:Int)<(↑w.length:Int))=false from zkA (by omega),zkC]
   have key:=zho (step:=fun s=>zbv.s2 w (fun u0=>zib u0 n) s) (l:=w) (fun i x=>if decide (0<=x∧x<n)=true then none else some (i:Int)) (fun i x hx=>by
    simp only [zbv.s2,zib]
    rw [zlc hx,zkD,zbg hx]
    by_cases a1:x<0
    ·simp [a1,show ¬ (0<=x) by omega]
    ·by_cases a2:n<=x
     ·simp [a1,a2,show ¬ (x<n) by omega]
     ·simp [a1,a2,show 0<=x by omega,show x<n by omega]) (by
    simp only [zbv.s2]
    rw [zte]
    rfl) (by unfold SmW at hl;omega)
   rw [key];cases e:scan (fun i x=>if decide (0<=x∧x<n)=true then none else some (i:Int)) 0 w with
   | none =>
    have h3:=zkl.1 e
    have h:(w.all fun x=>decide (0<=x∧x<n))=true:=ybf.2 fun x hx=>by
     obtain ⟨i,hi,rfl⟩:=ybn.1 hx;have:=h3 i _ (get_at hi);split at this
     ·assumption
     ·cases this
    rw [if_pos h];simp
   | some r =>
    have h:¬ (w.all fun x=>decide (0<=x∧x<n))=true:=fun h=>by
     have:scan (fun i x=>if decide (0<=x∧x<n)=true then none else some (i:Int)) 0 w=none:=zkl.2 fun i x hx=>if_pos (ybf.1 h x (zkH hx));rw [this] at e;cases e
    have hr:0<=r:=by
     have key:∀ (l:yab) (j:Nat),scan (fun i x=>if decide (0<=x∧x<n)=true then none else some (i:Int)) j l=some r->0<=r:=by
      intro l
      induction l with
      | nil=>intro j h;cases h
      | cons x l ih =>
       intro j h;unfold scan at h;split at h
       ·rename_i r' h3;injection h with h
        subst h;split at h3
        ·cases h3
        ·injection h3 with h3
         omega
       ·exact ih _ h
     exact key w 0 e
    rw [if_neg h];simp [hr]
 ·rw [if_neg h1];simp [h1]
end
end Go.Proofs.YtkiajpbdicaceaaGreatDoor.Sym
namespace Go.Proofs.YtkiajpbdicaceaaGreatDoor
def M64:Nat:=18446744073709551616
def gold:Nat:=11400714819323198485
def mulA:Nat:=13787848793156543929
def mulB:Nat:=10723151780598845931
def mix (y:Nat):Nat :=
 let z:=(y ^^^ (y >>> 30))*mulA%M64
 let u:=(z ^^^ (z >>> 27))*mulB%M64
 u ^^^ (u >>> 31)
theorem few:∀ (k a:Nat) (l:List Nat),l.Nodup->(∀ x∈l,a<=x∧x<a+k)->l.length<=k
 | 0,a,l,_,h=>by
  cases l with
  | nil=>simp
  | cons x l=>have:=h x (by simp);omega
 | k+1,a,l,hn,h=>by
  have h1:=few k a (l.erase (a+k)) (hn.erase _) fun x hx=>by
   have h2:=(hn.mem_erase_iff).1 hx;have h3:=h x h2.2;have h4:=h2.1;omega
  by_cases hm:a+k∈l
  ·have:=List.length_erase_of_mem hm;omega
  ·rw [List.erase_of_not_mem hm] at h1;omega
def drawF:Nat->Nat->Nat×Nat
 | 0,s=>(0,s)
 | f+1,s=>if mix ((s+gold)%M64)<M64-1616 then (mix ((s+gold)%M64)%10000,(s+gold)%M64) else drawF f ((s+gold)%M64)
def draw (s:Nat):Nat×Nat:=drawF 1617 s
end Go.Proofs.YtkiajpbdicaceaaGreatDoor
namespace Go.Proofs.YtkiajpbdicaceaaGreatDoor.Sym
def steps (nx:Nat->Nat):Nat->Nat->Nat
 | 0,s=>s
 | j+1,s=>steps nx j (nx s)
section
section
variable {κ ν:Type} [BEq κ]
theorem zjo {k:κ} {v:ν} (hb:∀ a b:κ,(a==b)=true↔a=b):∀ m:List (κ×ν),mget k (mset k v m)=some v
 | []=>by
  unfold mset mget;rw [(hb k k).2 rfl]
 | p::m=>by
  unfold mset;cases h:k==p.1 with
  | true =>
   show mget k ((k,v)::m)=_;unfold mget;rw [(hb k k).2 rfl]
  | false =>
   show mget k (p::mset k v m)=_;unfold mget;rw [h];exact zjo hb m
theorem zjw {k k':κ} {v:ν} (hb:∀ a b:κ,(a==b)=true↔a=b) (hne:¬ k'=k):∀ m:List (κ×ν),mget k' (mset k v m)=mget k' m
 | []=>by
  have e:(k'==k)=false:=by
   cases e:k'==k with
   | true=>exact absurd ((hb _ _).1 e) hne
   | false=>rfl
  unfold mset mget;simp only [e];rfl
 | p::m=>by
  unfold mset;cases h:k==p.1 with
  | true =>
   have e1:k=p.1:=(hb _ _).1 h;show mget k' ((k,v)::m)=mget k' (p::m)
   have e:(k'==k)=false:=by
    cases e:k'==k with
    | true=>exact absurd ((hb _ _).1 e) hne
    | false=>rfl
   unfold mget;rw [<- e1];simp only [e]
  | false =>
   show mget k' (p::mset k v m)=mget k' (p::m);unfold mget;rw [zjw hb hne m]
end
theorem ba_beq (a b:ByteArray):(a==b)=true↔a=b:=by
 cases a;cases b;show ByteArray.beq _ _=true↔_;unfold ByteArray.beq;simp
end

theorem check_mem {w:yab} {n:Int} (h:zhq w n=0):∀ a∈w,0<=a∧a<n:=by
 unfold zhq at h;split at h
 ·split at h
  ·cases h
  ·split at h
   ·rename_i h3;intro a ha;exact of_decide_eq_true (ybf.1 h3 a ha)
   ·cases h
 ·cases h
end Go.Proofs.YtkiajpbdicaceaaGreatDoor.Sym
namespace Go.Proofs.YtkiajpbdicaceaaGreatDoor
structure TotalCmp (cf:List Int->List Int->Int):Prop where
 range:∀ a b,cf a b=-1∨cf a b=0∨cf a b=1
 zero:∀ a b,cf a b=0↔a=b
 swap:∀ a b,cf b a=- cf a b
 trans:∀ a b c,cf a b=-1->cf b c=-1->cf a c=-1
def prefixes (x:List Int):List (List Int):=(List.range (x.length+1)).map x.take
def suffixes (x:List Int):List (List Int):=(List.range (x.length+1)).map x.drop
end Go.Proofs.YtkiajpbdicaceaaGreatDoor
namespace Go.Proofs.YtkiajpbdicaceaaGreatDoor.Sym
theorem zo9 {α:Type} {l:List (List α)} {i:Nat} {x:List α} (h:l[i]?=some x):(l.take (i+1)).flatten=(l.take i).flatten++x:=by
 rw [zft h];simp
theorem zq1 {α:Type} {l:List (List α)} (i:Nat):(l.take i).flatten.length<=l.flatten.length:=by
 have h:l.flatten=(l.take i).flatten++(l.drop i).flatten:=by rw [<- ybt,List.take_append_drop]
 rw [h,zkJ];omega
theorem concat_ints (l:yaa) (hl:l.length<=100000000) (hf:l.flatten.length<=1000000000):zbh l=some l.flatten:=by
 unfold zbh
 rw [zof (r:=l.flatten.length) (fun s=>s.2<=l.length∧s.1=(l.take s.2).flatten.length) (fun s=>l.length-s.2) (fun s ⟨h1,h2⟩=>by
  simp only [zbh.s2]
  by_cases h3:s.2<l.length
  ·left
   have hx:=get_at h3
   have h4:=zo9 hx
   have h5:=zq1 (l:=l) (s.2+1)
   rw [h4,zkJ] at h5
   refine ⟨((l.take (s.2+1)).flatten.length,s.2+1),?_,⟨by omega,rfl⟩,by simp only;omega⟩
   rw [zlc hx,zkD,zbg hx,zb7 (by unfold inR;omega),zkA (by omega),zkC,h4,zkJ,h2]
  ·right
   have e:s.2=l.length:=by omega
   rw [zkA (by omega),zkC,h2,e,ycm]) (s:=(0,0)) ⟨yas _,by simp⟩]
 simp only [yc2];unfold zoa;rw [zb7 (by omega)];simp only [yc2]
 rw [zof (r:=l.flatten) (fun s=>s.2<=l.length∧s.1=(l.take s.2).flatten) (fun s=>l.length-s.2) (fun s ⟨h1,h2⟩=>by
  simp only [zbh.s4]
  by_cases h3:s.2<l.length
  ·left
   have hx:=get_at h3
   have h4:=zo9 hx
   have h5:=zq1 (l:=l) (s.2+1)
   rw [h4,zkJ] at h5
   refine ⟨((l.take (s.2+1)).flatten,s.2+1),?_,⟨by omega,rfl⟩,by simp only;omega⟩
   rw [zlc hx,zkD,zbg hx,zb7 (by rw [h2];unfold za2;omega),h4,h2]
  ·right
   have e:s.2=l.length:=by omega
   rw [zkA (by omega),zkC,h2,e,ycm]) (s:=([],0)) ⟨yas _,by simp⟩]
 rfl
theorem zsg (l:yaa) (hl:l.length<=100000000) (hf:l.flatten.length<=1000000000):zcp l=some l.flatten:=by
 unfold zcp;rw [concat_ints l hl hf];rfl

def PropT (n:Int) (t:zab):Prop:=zhq t.In n=0∧t.Out.length=t.In.length∧∀ y∈t.Out,0<=y∧y<=1048576
def Agree (a b:zab):Prop:=a.Out.take (zn8 a.In b.In)=b.Out.take (zn8 a.In b.In)
structure ObsOk (o:zal):Prop where
 inp:1<=o.Inputs∧o.Inputs<=64
 num:o.Traces.length<=10000
 prop:∀ t∈o.Traces,PropT o.Inputs t∧t.In≠[]
 asc:∀ (i j:Nat) a b,i<j->o.Traces[i]?=some a->o.Traces[j]?=some b->cmpW a.In b.In=-1
 apart:∀ (i j:Nat) a b,i<j->o.Traces[i]?=some a->o.Traces[j]?=some b->¬ a.In <+: b.In∧Agree a b

def clashO (l:List zab) (t:zab):Prop:=∃ u∈l,¬ Agree u t
instance (a b:zab):Decidable (Agree a b):=by unfold Agree;infer_instance
instance (l:List zab) (t:zab):Decidable (clashO l t):=by unfold clashO;infer_instance

def zkt.s2 (m_:zaa) (s_:Int) (a2:Nat):Option (Nat⊕(Unit⊕Int)) :=
 cond (decide ((↑a2:Int)<m_.Inputs)) ((idx m_.Next s_ fun a6=>idxn a6 a2 fun a7=>cond (decide (a7<0)) (some true) (idx m_.Next s_ fun a8=>idxn a8 a2 fun b0=>cond (decide ((↑m_.Next.length:Int)<=b0)) (some true) (idx m_.Out s_ fun b2=>idxn b2 a2 fun b3=>cond (decide (b3<0)) (some true) (idx m_.Out s_ fun b4=>idxn b4 a2 fun b5=>some (decide (1048576<b5))))):Option (Bool)).bind (fun (b6:Bool)=>cond (b6) (some (.inr (.inr 2))) (chk (inR ((↑a2:Int)+1)) (some (.inl (a2+1)))))) (some (.inr (.inl ())))
def zkt (m_:zaa) (s_:Int):Option (Int) :=
 (idx m_.Next s_ fun a2=>cond (decide ((↑a2.length:Int)≠m_.Inputs)) (some true) (idx m_.Out s_ fun a6=>some (decide ((↑a6.length:Int)≠m_.Inputs))):Option (Bool)).bind (fun (a7:Bool)=>cond (a7) (some 1) ((iter (fun (s:Nat)=>zkt.s2 m_ s_ s) fuel 0:Option (Unit⊕Int)).bind (Sum.elim (fun (_:Unit)=>some 0) some)))
def zgj.s2 (m_:zaa) (a2:Nat):Option (Nat⊕(Unit⊕Int)) :=
 cond (decide ((↑a2:Int)<(↑m_.Next.length:Int))) ((zkt m_ (↑a2:Int)).bind fun a6=>cond (decide (a6≠0)) (some (.inr (.inr a6))) (some (.inl (a2+1)))) (some (.inr (.inl ())))
def zgj (m_:zaa):Option (Int) :=
 (cond (decide (m_.Inputs<1)) (some true) (some (decide (64<m_.Inputs))):Option (Bool)).bind (fun (a2:Bool)=>cond (a2) (some 2) (cond (decide ((↑m_.Next.length:Int)=0)) (some 19) (cond (decide (128<(↑m_.Next.length:Int))) (some 11) ((cond (decide (m_.Start<0)) (some true) (some (decide ((↑m_.Next.length:Int)<=m_.Start))):Option (Bool)).bind (fun (a6:Bool)=>cond (a6) (some 2) (cond (decide ((↑m_.Out.length:Int)≠(↑m_.Next.length:Int))) (some 1) ((iter (fun (s:Nat)=>zgj.s2 m_ s) fuel 0:Option (Unit⊕Int)).bind (Sum.elim (fun (_:Unit)=>some 0) some))))))))

section
structure zik (m:zaa):Prop where
 i1:1<=m.Inputs
 i2:m.Inputs<=64
 n1:0<m.Next.length
 n2:m.Next.length<=128
 st:0<=m.Start∧m.Start<(↑m.Next.length:Int)
 ol:m.Out.length=m.Next.length
 row:∀ s,s<m.Next.length->∃ x y,m.Next[s]?=some x∧m.Out[s]?=some y∧(↑x.length:Int)=m.Inputs∧(↑y.length:Int)=m.Inputs∧(∀ u∈x,0<=u∧u<(↑m.Next.length:Int))∧∀ v∈y,0<=v∧v<=1048576
def nx (m:zaa) (s a:Nat):Nat:=((((m.Next[s]?).getD [])[a]?).getD 0).toNat
def ot (m:zaa) (s a:Nat):Int:=(((m.Out[s]?).getD [])[a]?).getD 0
section
variable {m:zaa}
theorem zik.at (H:zik m) {s a:Nat} (hs:s<m.Next.length) (ha:a<m.Inputs.toNat):nx m s a<m.Next.length∧0<=ot m s a∧ot m s a<=1048576∧∃ x y,m.Next[s]?=some x∧m.Out[s]?=some y∧x[a]?=some (↑(nx m s a):Int)∧y[a]?=some (ot m s a):=by
 obtain ⟨x,y,h1,h2,h3,h4,h5,h6⟩:=H.row s hs;have hx:=get_at (l:=x) (i:=a) (by omega);have hy:=get_at (l:=y) (i:=a) (by omega)
 have e1:nx m s a=(x[a]'(by omega)).toNat:=by
  unfold nx;rw [h1,yba,hx,yba]
 have e2:ot m s a=y[a]'(by omega):=by
  unfold ot;rw [h2,yba,hy,yba]
 have g1:=h5 _ (yb5 (by omega:a<x.length));have g2:=h6 _ (yb5 (by omega:a<y.length));refine ⟨by rw [e1];omega,by rw [e2];exact g2.1,by rw [e2];exact g2.2,x,y,h1,h2,?_,by rw [e2];exact hy⟩;rw [hx,e1];congr 1;omega
def outs (m:zaa):Nat->yab->yab
 | _,[]=>[]
 | s,a::w=>ot m s a.toNat::outs m (nx m s a.toNat) w
def dest (m:zaa):Nat->yab->Nat
 | s,[]=>s
 | s,a::w=>dest m (nx m s a.toNat) w
def WOk (n:Int) (w:yab):Prop:=∀ a∈w,0<=a∧a<n
theorem zu5:∀ (w v:yab) (s:Nat),outs m s (w++v)=outs m s w++outs m (dest m s w) v
 | [],_,_=>rfl
 | a::w,v,s=>by
  show ot m s a.toNat::outs m (nx m s a.toNat) (w++v)=_;rw [zu5 w v];rfl
theorem ztu:∀ (w v:yab) (s:Nat),dest m s (w++v)=dest m (dest m s w) v
 | [],_,_=>rfl
 | _::w,v,_=>ztu w v _
theorem outs_len:∀ (w:yab) (s:Nat),(outs m s w).length=w.length
 | [],_=>rfl
 | a::w,s=>by
  show (outs m (nx m s a.toNat) w).length+1=w.length+1;rw [outs_len w]
theorem WOk.tail {n:Int} {a:Int} {w:yab} (h:WOk n (a::w)):WOk n w:=fun x hx=>h x (yay _ hx)
theorem WOk.head {n:Int} {a:Int} {w:yab} (h:WOk n (a::w)):0<=a∧a<n:=h a (by simp)
theorem WOk.take {n:Int} {w:yab} (h:WOk n w) (k:Nat):WOk n (w.take k):=fun x hx=>h x (yaz hx)
theorem zik.dest (H:zik m):∀ {w:yab} {s:Nat},WOk m.Inputs w->s<m.Next.length->dest m s w<m.Next.length
 | [],_,_,hs=>hs
 | a::w,s,hw,hs=>by
  have:=hw.head;exact H.dest (w:=w) hw.tail (H.at hs (a:=a.toNat) (by omega)).1
def RowRng (n:Nat) (u v:Int):Prop:=(0<=u∧u<(↑n:Int))∧0<=v∧v<=1048576
theorem R06_row_tot (h1:m.Inputs<=64) {s:Nat} (hs:s<m.Next.length) (ho:m.Out.length=m.Next.length):∃ e,zkt m (↑s:Int)=some e∧(e=0->∃ x y,m.Next[s]?=some x∧m.Out[s]?=some y∧(↑x.length:Int)=m.Inputs∧(↑y.length:Int)=m.Inputs∧(∀ u∈x,0<=u∧u<(↑m.Next.length:Int))∧∀ v∈y,0<=v∧v<=1048576):=by
 obtain ⟨x,hx⟩:∃ x,m.Next[s]?=some x:=⟨_,get_at hs⟩;obtain ⟨y,hy⟩:∃ y,m.Out[s]?=some y:=⟨_,get_at (l:=m.Out) (i:=s) (by omega)⟩;unfold zkt;rw [zg4 rfl hx];by_cases g1:(↑x.length:Int)=m.Inputs
 ·by_cases g2:(↑y.length:Int)=m.Inputs
  ·rw [zkA (fun h=>h g1),zkC,zg4 rfl hy,zkA (fun h=>h g2),zbz,zkC]
   obtain ⟨r,hr,hq⟩:=znr (step:=fun a=>zkt.s2 m (↑s:Int) a) (fun a=>a<=x.length∧∀ b u v,b<a->x[b]?=some u->y[b]?=some v->RowRng m.Next.length u v) (fun a=>x.length-a) (fun r=>r=.inr 2∨(r=.inl ()∧∀ b u v,b<x.length->x[b]?=some u->y[b]?=some v->RowRng m.Next.length u v)) (fun a ⟨q1,q2⟩=>by
    simp only [zkt.s2]
    by_cases q3:a<x.length
    ·obtain ⟨u,ha⟩:∃ u,x[a]?=some u:=⟨_,get_at q3⟩
     obtain ⟨v,hb⟩:∃ v,y[a]?=some v:=⟨_,get_at (l:=y) (i:=a) (by omega)⟩
     rw [zkB (by omega),zkD,zg4 rfl hx,zbg ha]
     by_cases z1:u<0
     ·right
      exact ⟨.inr 2,by rw [zkB z1];rfl,Or.inl rfl⟩
     rw [zkA z1,zkC,zg4 rfl hx,zbg ha]
     by_cases z2:(↑m.Next.length:Int)<=u
     ·right
      exact ⟨.inr 2,by rw [zkB z2];rfl,Or.inl rfl⟩
     rw [zkA z2,zkC,zg4 rfl hy,zbg hb]
     by_cases z3:v<0
     ·right
      exact ⟨.inr 2,by rw [zkB z3];rfl,Or.inl rfl⟩
     rw [zkA z3,zkC,zg4 rfl hy,zbg hb]
     by_cases z4:1048576<v
     ·right
      exact ⟨.inr 2,by rw [zkB z4];rfl,Or.inl rfl⟩
     left
     refine ⟨a+1,by rw [zkA z4,zbz,zkC,zb7 (by unfold inR;omega)],⟨q3,fun b u' v' a0 hu hv=>?_⟩,by omega⟩
     rcases ya8 b a with h | h
     ·exact q2 b u' v' h hu hv
     ·have e:b=a:=by omega
      subst e
      rw [ha] at hu
      rw [hb] at hv
      injection hu with hu
      injection hv with hv
      subst hu
      subst hv
      exact ⟨⟨by omega,by omega⟩,by omega,by omega⟩
    ·right
     have e:a=x.length:=by omega
     subst e
     exact ⟨.inl (),by rw [zkA (by omega),zkC],Or.inr ⟨rfl,q2⟩⟩) 0 ⟨yas _,fun b _ _ h=>absurd h (ybr _)⟩
   rw [hr,zbz];rcases hq with rfl | ⟨rfl,hq⟩
   ·exact ⟨2,rfl,fun h=>by cases h⟩
   ·refine ⟨0,rfl,fun _=>⟨x,y,hx,hy,g1,g2,fun u hu=>?_,fun v hv=>?_⟩⟩
    ·obtain ⟨b,hb,rfl⟩:=ybn.1 hu;exact (hq b _ _ hb (get_at hb) (get_at (l:=y) (by omega))).1
    ·obtain ⟨b,hb,rfl⟩:=ybn.1 hv;exact (hq b _ _ (by omega) (get_at (l:=x) (by omega)) (get_at hb)).2
  ·exact ⟨1,by rw [zkA (fun h=>h g1),zkC,zg4 rfl hy,zkB g2];rfl,fun h=>by cases h⟩
 ·exact ⟨1,by rw [zkB g1];rfl,fun h=>by cases h⟩
theorem R06_Valid_tot (m:zaa):∃ e,zgj m=some e∧(e=0->zik m):=by
 unfold zgj;by_cases c1:m.Inputs<1
 ·exact ⟨2,by rw [zkB c1];rfl,fun h=>by cases h⟩
 rw [zkA c1,zkC];by_cases c2:64<m.Inputs
 ·exact ⟨2,by rw [zkB c2];rfl,fun h=>by cases h⟩
 rw [zkA c2,zbz,zkC];by_cases c3:(↑m.Next.length:Int)=0
 ·exact ⟨19,by rw [zkB c3];rfl,fun h=>by cases h⟩
 rw [zkA c3,zkC];by_cases c4:128<(↑m.Next.length:Int)
 ·exact ⟨11,by rw [zkB c4];rfl,fun h=>by cases h⟩
 rw [zkA c4,zkC];by_cases c5:m.Start<0
 ·exact ⟨2,by rw [zkB c5];rfl,fun h=>by cases h⟩
 rw [zkA c5,zkC];by_cases c6:(↑m.Next.length:Int)<=m.Start
 ·exact ⟨2,by rw [zkB c6];rfl,fun h=>by cases h⟩
 rw [zkA c6,zbz,zkC];by_cases c7:(↑m.Out.length:Int)=(↑m.Next.length:Int)
 ·rw [zkA (fun h=>h c7),zkC];have ho:m.Out.length=m.Next.length:=by omega
  obtain ⟨r,hr,hq⟩:=znr (step:=fun s=>zgj.s2 m s) (fun a=>a<=m.Next.length∧∀ s,s<a->∃ x y,m.Next[s]?=some x∧m.Out[s]?=some y∧(↑x.length:Int)=m.Inputs∧(↑y.length:Int)=m.Inputs∧(∀ u∈x,0<=u∧u<(↑m.Next.length:Int))∧∀ v∈y,0<=v∧v<=1048576) (fun a=>m.Next.length-a) (fun r=>(∃ e,r=.inr e∧e≠0)∨(r=.inl ()∧∀ s,s<m.Next.length->∃ x y,m.Next[s]?=some x∧m.Out[s]?=some y∧(↑x.length:Int)=m.Inputs∧(↑y.length:Int)=m.Inputs∧(∀ u∈x,0<=u∧u<(↑m.Next.length:Int))∧∀ v∈y,0<=v∧v<=1048576)) (fun a ⟨q1,q2⟩=>by
   simp only [zgj.s2]
   by_cases q3:a<m.Next.length
   ·obtain ⟨e,he,hz⟩:=R06_row_tot (m:=m) (by omega) q3 ho
    rw [zkB (by omega),zkD,he,zbz]
    by_cases z:e=0
    ·left
     refine ⟨a+1,by rw [zkA (fun h=>h z),zkC],⟨q3,fun s hs=>?_⟩,by omega⟩
     rcases ya8 s a with h | h
     ·exact q2 s h
     ·have e2:s=a:=by omega
      subst e2
      exact hz z
    ·right
     exact ⟨.inr e,by rw [zkB z,zkD],Or.inl ⟨e,rfl,z⟩⟩
   ·right
    have e:a=m.Next.length:=by omega
    subst e
    exact ⟨.inl (),by rw [zkA (by omega),zkC],Or.inr ⟨rfl,q2⟩⟩) 0 ⟨yas _,fun s h=>absurd h (ybr _)⟩
  rw [hr,zbz];rcases hq with ⟨e,rfl,hz⟩ | ⟨rfl,hq⟩
  ·exact ⟨e,rfl,fun h=>absurd h hz⟩
  ·exact ⟨0,rfl,fun _=>⟨by omega,by omega,by omega,by omega,⟨by omega,by omega⟩,ho,hq⟩⟩
 ·exact ⟨1,by rw [zkB c7];rfl,fun h=>by cases h⟩
theorem macOk_of (h:zgj m=some 0):zik m:=by
 obtain ⟨e,he,hz⟩:=R06_Valid_tot m;rw [h] at he;injection he with he
 exact hz he.symm
end
end
section
theorem zvf {m:zaa} (H:zik m):zbc m=some 0:=by
 have i1:=H.i1;have i2:=H.i2;have n1:=H.n1;have n2:=H.n2;have st:=H.st;have ol:=H.ol;unfold zbc;rw [zkA (by omega),zkC,zkA (by omega),zbz,zkC,zkA (by omega),zkC,zkA (by omega),zkC,zkA (by omega),zkC,zkA (by omega),zbz,zkC,zkA (by omega),zkC]
 have a2:∀ s,s<m.Next.length->iter (fun (a:Nat)=>zbc.s13 m s a) fuel 0=some (.inl ()):=fun s hs =>
  zof (fun a=>a<=m.Inputs.toNat) (fun a=>m.Inputs.toNat-a) (fun a ha=>by
   simp only [zbc.s13]
   by_cases g:a<m.Inputs.toNat
   ·left
    obtain ⟨h1,h2,h3,x,y,hx,hy,a3,a4⟩:=H.at hs g
    refine ⟨a+1,?_,g,by omega⟩
    rw [zkB (by omega),zkD,zbg hx,zbg a3,zbg hy,zbg a4,zkA (by omega),zkC,zkA (by omega),zkC,zkA (by omega),zkC,zkA (by omega),zbz,zkC,zb7 (by unfold inR;omega)]
   ·right
    rw [zkA (by omega),zkC]) (yas _)
 have a0:iter (fun (s:Nat)=>zbc.s14 m s) fuel 0=some (.inl ()) :=
  zof (fun s=>s<=m.Next.length) (fun s=>m.Next.length-s) (fun s hs=>by
   simp only [zbc.s14]
   by_cases g:s<m.Next.length
   ·left
    obtain ⟨x,y,hx,hy,a5,a6,_,_⟩:=H.row s g
    refine ⟨s+1,?_,g,by omega⟩
    rw [zkB (by omega),zkD,zbg hx,zkA (by omega),zkC,zbg hy,zkA (by omega),zbz,zkC,a2 s g,zbz]
    rfl
   ·right
    rw [zkA (by omega),zkC]) (yas _)
 rw [a0,zbz];rfl
abbrev costOk (l:zq3):Prop:=(∀ c∈l.Step,0<=c∧c<=1048576)∧0<=l.Reset∧l.Reset<=1048576
abbrev cntOk (n:Int):Prop:=0<=n∧n<=1125899906842624
abbrev faultOk (f:zr4):Prop:=(0<=f.Lost∧f.Lost<=10000)∧(0<=f.Wrong∧f.Wrong<=10000)∧(0<=f.Crash∧f.Crash<=10000)∧f.Lost+f.Wrong+f.Crash<=10000
structure DevOk (d:zla):Prop where
 v6:zgj d.M=some 0
 st:0<=d.State∧d.State<(↑d.M.Next.length:Int)
 ll:(↑d.Latency.Step.length:Int)=d.M.Inputs
 lc:costOk d.Latency
 fl:faultOk d.Faults
 c1:cntOk d.Steps
 c2:cntOk d.Resets
 c3:cntOk d.Time
section
variable {d:zla}
end
end
section
theorem scan_map {α R R':Type} {g:Nat->α->Option R} {f:R->R'}:∀ (l:List α) (j:Nat),scan (fun i x=>(g i x).map f) j l=(scan g j l).map f
 | [],_=>rfl
 | x::l,j=>by
  unfold scan;cases g j x with
  | some r=>rfl
  | none=>exact scan_map l (j+1)
theorem scan_mem {α R:Type} {g:Nat->α->Option R} {r:R}:∀ {l:List α} {j:Nat},scan g j l=some r->∃ i x,l[i]?=some x∧g (j+i) x=some r
 | [],_,h=>by cases h
 | x::l,j,h=>by
  unfold scan at h;cases e:g j x with
  | some q =>
   rw [e] at h;exact ⟨0,x,rfl,by rw [ybl,e];exact h⟩
  | none =>
   rw [e] at h;obtain ⟨i,y,h1,h2⟩:=scan_mem (j:=j+1) h;exact ⟨i+1,y,by simpa using h1,by rw [show j+(i+1)=j+1+i by omega,h2]⟩
def celE (n:Nat) (u v:Int):Option Int:=if u<0∨(↑n:Int)<=u∨v<0∨1048576<v then some 2 else none
def rowE (m:zaa) (s:Nat) (x:yab):Option Int :=
 if (↑x.length:Int)≠m.Inputs∨(↑((m.Out[s]?).getD []).length:Int)≠m.Inputs then some 1 else scan (fun a u=>celE m.Next.length u ((((m.Out[s]?).getD [])[a]?).getD 0)) 0 x
def zhm (m:zaa):Int :=
 if m.Inputs<1∨64<m.Inputs then 2 else if m.Next.length=0 then 19 else if 128<m.Next.length then 11 else if m.Start<0∨(↑m.Next.length:Int)<=m.Start then 2 else if m.Out.length≠m.Next.length then 1
 else match scan (rowE m) 0 m.Next with | some e=>e | none=>0
section
variable {m:zaa}
theorem rowE_ne {s:Nat} {x:yab} {e:Int} (h:rowE m s x=some e):e≠0:=by
 unfold rowE at h;split at h
 ·injection h with h
  omega
 ·obtain ⟨i,u,_,h2⟩:=scan_mem h;unfold celE at h2;split at h2
  ·injection h2 with h2
   omega
  ·cases h2
theorem cel_cond {n:Nat} {u v:Int}:(cond (decide (u<0)) (some true) (cond (decide ((↑n:Int)<=u)) (some true) (cond (decide (v<0)) (some true) (some (decide (1048576<v))))):Option Bool)=some (celE n u v).isSome:=by
 unfold celE;by_cases h1:u<0<;>by_cases h2:(↑n:Int)<=u<;>by_cases h3:v<0<;>by_cases h4:1048576<v<;>simp [h1,h2,h3,h4]
theorem celE_two {n:Nat} {u v:Int}:celE n u v=if (celE n u v).isSome=true then some 2 else none:=by
 unfold celE;split<;>rfl
theorem row_len {s:Nat} {x y:yab} (hx:m.Next[s]?=some x) (hy:m.Out[s]?=some y) :
  (idxn m.Next s fun a2=>cond (decide ((↑a2.length:Int)≠m.Inputs)) (some true) (idxn m.Out s fun a6=>some (decide ((↑a6.length:Int)≠m.Inputs))):Option Bool)=some (decide ((↑x.length:Int)≠m.Inputs∨(↑y.length:Int)≠m.Inputs)):=by
 rw [zbg hx];by_cases h:(↑x.length:Int)=m.Inputs
 ·rw [zkA (fun k=>k h),zkC,zbg hy];simp [h]
 ·rw [zkB h,zkD];simp [h]
theorem znu {α β:Type} {l:List α} {i:Nat} {k:α->Option β}:idx l (↑i:Int) k=idxn l i k:=by
 cases h:l[i]? with
 | some x=>rw [zg4 rfl h,zbg h]
 | none =>
  unfold idx idxn;rw [h,if_pos (by omega),ybz,h]
theorem R06_row_eq (hi:m.Inputs<=64) {s:Nat} {x y:yab} (hx:m.Next[s]?=some x) (hy:m.Out[s]?=some y):zkt m (↑s:Int)=some (match rowE m s x with | some e=>e | none=>0):=by
 unfold zkt;rw [znu];simp only [znu];rw [row_len hx hy,zbz];unfold rowE;rw [hy,yba];by_cases h:(↑x.length:Int)≠m.Inputs∨(↑y.length:Int)≠m.Inputs
 ·rw [zkB h,zkD,if_pos h]
 ·rw [zkA h,zkC,if_neg h];have h1:(↑x.length:Int)=m.Inputs:=yco fun q=>h (Or.inl q);have h2:(↑y.length:Int)=m.Inputs:=yco fun q=>h (Or.inr q);rw [zho (l:=x) (fun a u=>celE m.Next.length u ((y[a]?).getD 0)) (fun a u hu=>?_) ?_ (by omega),zbz]
  ·cases scan (fun a u=>celE m.Next.length u ((y[a]?).getD 0)) 0 x<;>rfl
  ·simp only [zkt.s2];rw [zkA (by omega),zkC]
  ·have ha:=(zkI.1 hu).1;have hv:y[a]?=some y[a]:=get_at (by omega);rw [hv,yba];simp only [zkt.s2,znu];rw [zkB (by omega),zkD];simp only [zbg hx,zbg hy,zbg hu,zbg hv];rw [cel_cond,zbz];cases e:celE m.Next.length u y[a] with
   | none =>
    rw [yc8,zkC,zb7 (by unfold inR;omega)]
   | some r =>
    have:=celE_two (n:=m.Next.length) (u:=u) (v:=y[a]);rw [e] at this;injection this with this
    rw [this,ydm,zkD]
theorem mealy_row_eq (hi:m.Inputs<=64) {s:Nat} {x y:yab} (hx:m.Next[s]?=some x) (hy:m.Out[s]?=some y):zbc.s14 m s=some (match rowE m s x with | some e=>.inr (.inr e) | none=>.inl (s+1)):=by
 have hs:=(zkI.1 hx).1;simp only [zbc.s14];rw [zkB (by omega),zkD,row_len hx hy,zbz];unfold rowE;rw [hy,yba];by_cases h:(↑x.length:Int)≠m.Inputs∨(↑y.length:Int)≠m.Inputs
 ·rw [zkB h,zkD,if_pos h]
 ·rw [zkA h,zkC,if_neg h];have h1:(↑x.length:Int)=m.Inputs:=yco fun q=>h (Or.inl q);have h2:(↑y.length:Int)=m.Inputs:=yco fun q=>h (Or.inr q);rw [zho (l:=x) (fun a u=>(celE m.Next.length u ((y[a]?).getD 0)).map fun r=>(.inr (.inr r):Nat⊕(Unit⊕Int))) (fun a u hu=>?_) ?_ (by omega),zbz,scan_map]
  ·cases scan (fun a u=>celE m.Next.length u ((y[a]?).getD 0)) 0 x<;>rfl
  ·simp only [zbc.s13];rw [zkA (by omega),zkC]
  ·have ha:=(zkI.1 hu).1;have hv:y[a]?=some y[a]:=get_at (by omega);rw [hv,yba];simp only [zbc.s13];rw [zkB (by omega),zkD];simp only [zbg hx,zbg hy,zbg hu,zbg hv];rw [cel_cond,zbz];cases e:celE m.Next.length u y[a] with
   | none =>
    rw [yc8,zkC,zb7 (by unfold inR;omega)];rfl
   | some r =>
    have:=celE_two (n:=m.Next.length) (u:=u) (v:=y[a]);rw [e] at this;injection this with this
    rw [this,ydm,zkD];rfl
theorem R06_Valid_eq (m:zaa):zgj m=some (zhm m):=by
 unfold zgj zhm;by_cases c1:m.Inputs<1
 ·rw [zkB c1,if_pos (Or.inl c1)];rfl
 rw [zkA c1,zkC];by_cases c2:64<m.Inputs
 ·rw [zkB c2,if_pos (Or.inr c2)];rfl
 rw [zkA c2,zbz,zkC,if_neg (by omega)];by_cases c3:m.Next.length=0
 ·rw [zkB (by omega),if_pos c3];rfl
 rw [zkA (by omega),zkC,if_neg c3];by_cases c4:128<m.Next.length
 ·rw [zkB (by omega),if_pos c4];rfl
 rw [zkA (by omega),zkC,if_neg c4];by_cases c5:m.Start<0
 ·rw [zkB c5,if_pos (Or.inl c5)];rfl
 rw [zkA c5,zkC];by_cases c6:(↑m.Next.length:Int)<=m.Start
 ·rw [zkB c6,if_pos (Or.inr c6)];rfl
 rw [zkA c6,zbz,zkC,if_neg (by omega)];by_cases c7:m.Out.length=m.Next.length
 ·rw [zkA (by omega),zkC,if_neg (by omega),zho (l:=m.Next) (rowE m) (fun s x hx=>?_) ?_ (by omega),zbz]
  ·cases scan (rowE m) 0 m.Next<;>rfl
  ·simp only [zgj.s2];rw [zkA (by omega),zkC]
  ·have hs:=(zkI.1 hx).1;simp only [zgj.s2];rw [zkB (by omega),zkD,R06_row_eq (by omega) hx (get_at (l:=m.Out) (by omega)),zbz];cases e:rowE m s x with
   | none=>rfl
   | some r=>rw [zkB (rowE_ne e),zkD]
 ·rw [zkB (by omega),if_pos c7];rfl
theorem zfd (m:zaa):zbc m=some (zhm m):=by
 unfold zbc zhm;by_cases c1:m.Inputs<1
 ·rw [zkB c1,if_pos (Or.inl c1)];rfl
 rw [zkA c1,zkC];by_cases c2:64<m.Inputs
 ·rw [zkB c2,if_pos (Or.inr c2)];rfl
 rw [zkA c2,zbz,zkC,if_neg (by omega)];by_cases c3:m.Next.length=0
 ·rw [zkB (by omega),if_pos c3];rfl
 rw [zkA (by omega),zkC,if_neg c3];by_cases c4:128<m.Next.length
 ·rw [zkB (by omega),if_pos c4];rfl
 rw [zkA (by omega),zkC,if_neg c4];by_cases c5:m.Start<0
 ·rw [zkB c5,if_pos (Or.inl c5)];rfl
 rw [zkA c5,zkC];by_cases c6:(↑m.Next.length:Int)<=m.Start
 ·rw [zkB c6,if_pos (Or.inr c6)];rfl
 rw [zkA c6,zbz,zkC,if_neg (by omega)];by_cases c7:m.Out.length=m.Next.length
 ·rw [zkA (by omega),zkC,if_neg (by omega),zho (l:=m.Next) (rowE m) (fun s x hx=>?_) ?_ (by omega),zbz]
  ·cases scan (rowE m) 0 m.Next<;>rfl
  ·simp only [zbc.s14];rw [zkA (by omega),zkC]
  ·have hs:=(zkI.1 hx).1;rw [mealy_row_eq (by omega) hx (get_at (l:=m.Out) (by omega))];cases rowE m s x<;>rfl
 ·rw [zkB (by omega),if_pos c7];rfl
theorem zj5 (h:zhm m=0):zik m:=macOk_of (by rw [R06_Valid_eq,h])
def fromM (m:zaa) (s:Int) (w:yab):yab×Int×Int :=
 if zhm m≠0 then ([],0,zhm m) else if s<0∨(↑m.Next.length:Int)<=s then ([],0,2) else if zhq w m.Inputs≠0 then ([],0,zhq w m.Inputs) else (outs m s.toNat w,(↑(dest m s.toNat w):Int),0)
theorem zru {w:yab} {n:Int} (h:zhq w n=0):w.length<=1024:=by
 unfold zhq at h;split at h
 ·split at h
  ·cases h
  ·omega
 ·cases h
theorem runner_eq (H:zik m) {s:Nat} (hs:s<m.Next.length) {w:yab} (hw:WOk m.Inputs w) (hl:w.length<=100000000):zcc (⟨(⟨m⟩:zdk),(↑s:Int)⟩:zcu) w=some (outs m s w,(⟨(⟨m⟩:zdk),(↑(dest m s w):Int)⟩:zcu)):=by
 unfold zcc
 have key:=zof (step:=fun (q:Int×yab×Nat)=>zcc.s2 (⟨(⟨m⟩:zdk),(↑s:Int)⟩:zcu) w q.1 q.2.1 q.2.2) (r:=((↑(dest m s w):Int),outs m s w)) (fun q=>q.2.2<=w.length∧q.1=(↑(dest m s (w.take q.2.2)):Int)∧q.2.1=outs m s (w.take q.2.2)) (fun q=>w.length-q.2.2) (fun q ⟨g1,g2,g3⟩=>by
  obtain ⟨st,y,k⟩:=q
  simp only at g1 g2 g3
  subst g2
  subst g3
  simp only [zcc.s2,zgs]
  by_cases g4:k<w.length
  ·left
   have hx:=get_at g4
   obtain ⟨x0,x1⟩:=hw _ (yb5 g4)
   have ha:w[k].toNat<m.Inputs.toNat:=by omega
   have hd:Sym.dest m s (w.take k)<m.Next.length:=H.dest (hw.take k) hs
   obtain ⟨_,_,_,x,y,e1,e2,e3,e4⟩:=H.at hd ha
   refine ⟨((↑(Sym.dest m s (w.take (k+1))):Int),outs m s (w.take (k+1)),k+1),?_,⟨g4,rfl,rfl⟩,by simp only;omega⟩
   rw [zlc hx,zkD,zbg hx,zg4 rfl e1,zg4 (i:=w[k].toNat) (by omega) e3,zg4 rfl e2,zg4 (i:=w[k].toNat) (by omega) e4,zbz,zb7 (by unfold za2;rw [outs_len,yak];omega),zft hx,ztu,zu5]
   rfl
  ·right
   have e:k=w.length:=by omega
   subst e
   rw [zkA (by omega),zkC,ycm]) (n:=fuel) (s:=((↑s:Int),[],0)) ⟨yas _,rfl,rfl⟩
 rw [key,zbz];rfl
theorem zql {s:Int} {w:yab} (hw:SmW w):zjh m s w=some (fromM m s w):=by
 unfold zjh zmj fromM;rw [zfd,zbz];by_cases c1:zhm m=0
 ·rw [zkA (by omega),zkC,if_neg (by omega)];by_cases c2:s<0
  ·rw [zkB c2,if_pos (Or.inl c2)];rfl
  rw [zkA c2,zkC];by_cases c3:(↑m.Next.length:Int)<=s
  ·rw [zkB c3,if_pos (Or.inr c3)];rfl
  rw [zkA c3,zbz,zkC,if_neg (by omega),zbz,zkA (by omega),zkC,zqp _ _ hw,zbz];by_cases c4:zhq w m.Inputs=0
  ·have:=zru c4;have hO:=runner_eq (zj5 c1) (s:=s.toNat) (by omega) (w:=w) (check_mem c4) (by omega);rw [show (↑s.toNat:Int)=s by omega] at hO;rw [zkA (by omega),zkC,if_neg (by omega),hO,zbz]
  ·rw [zkB c4,zkD,if_pos c4]
 ·rw [zkB c1,zkD,if_pos c1,zbz,zkB c1,zkD]
end
end
section
section
variable {m:zaa} {ids:List (yaa)} {w:yab}
theorem fromM_start (hw:SmW w) (h:zhm m=0):fromM m m.Start w=if zhq w m.Inputs≠0 then ([],0,zhq w m.Inputs) else (outs m m.Start.toNat w,(↑(dest m m.Start.toNat w):Int),0):=by
 have H:=zj5 h;have:=H.st;unfold fromM;rw [if_neg (by omega),if_neg (by omega)]
end
end
section
section
variable {A:Type} [DecidableEq A]
def bfsB (e:A->Nat->A) (K:Nat) (s0:A):Nat->List (A×yab)
 | 0=>[(s0,[])]
 | r+1=>match (bfsB e K s0 r)[r / K]? with
  | none=>bfsB e K s0 r
  | some x=>if e x.1 (r%K)∈(bfsB e K s0 r).map Prod.fst then bfsB e K s0 r else bfsB e K s0 r++[(e x.1 (r%K),x.2++[(↑(r%K):Int)])]
variable {e:A->Nat->A} {K:Nat} {s0:A}
structure BfsEnd (e:A->Nat->A) (K:Nat) (s0:A) (L:List (A×yab)):Prop where
 eq:L=bfsB e K s0 (L.length*K)
variable {L:List (A×yab)}
end
end
section
def E (m:zaa):Nat->Nat->Nat->Prop
 | 0,_,_=>True
 | k+1,s,t=>E m k s t∧∀ a,a<m.Inputs.toNat->ot m s a=ot m t a∧E m k (nx m s a) (nx m t a)
section
variable {m:zaa}
theorem E_refl:∀ (k s:Nat),E m k s s
 | 0,_=>trivial
 | k+1,s=>⟨E_refl k s,fun _ _=>⟨rfl,E_refl k _⟩⟩
theorem E_symm:∀ {k s t:Nat},E m k s t->E m k t s
 | 0,_,_,_=>trivial
 | _+1,_,_,h=>⟨E_symm h.1,fun a ha=>⟨(h.2 a ha).1.symm,E_symm (h.2 a ha).2⟩⟩
theorem zrs:∀ {k s t u:Nat},E m k s t->E m k t u->E m k s u
 | 0,_,_,_,_,_=>trivial
 | _+1,_,_,_,h,g=>⟨zrs h.1 g.1,fun a ha=>⟨(h.2 a ha).1.trans (g.2 a ha).1,zrs (h.2 a ha).2 (g.2 a ha).2⟩⟩
theorem E_mono {k j s t:Nat} (hk:k<=j) (h:E m j s t):E m k s t:=by
 induction j with
 | zero =>
  have e:k=0:=by omega
  subst e;exact h
 | succ j ih =>
  rcases ya8 k (j+1) with h1 | h1
  ·exact ih (by omega) h.1
  ·have e:k=j+1:=by omega
   subst e;exact h
structure ClsOk (m:zaa) (k:Nat) (c:yab):Prop where
 len:c.length=m.Next.length
 rng:∀ s,s<m.Next.length->∃ x:Nat,c[s]?=some (↑x:Int)∧x<m.Next.length
 cls:∀ s t,s<m.Next.length->t<m.Next.length->(c[s]?=c[t]?↔E m k s t)
structure FinOk (m:zaa) (k:Nat) (y:yab) (n s:Nat):Prop where
 ls:s<=m.Next.length
 len:y.length=s
 cnt:n<=s
 rng:∀ i,i<s->∃ x:Nat,y[i]?=some (↑x:Int)∧x<n
 cls:∀ i j,i<s->j<s->(y[i]?=y[j]?↔E m k i j)
theorem zr3 {α:Type} {p q:α->Bool}:∀ {l:List α},(∀ x∈l,p x=true->q x=true)->l.countP q<=l.countP p->∀ x∈l,q x=true->p x=true
 | [],_,_,x,hx,_=>by cases hx
 | y::l,h,hc,x,hx,hq=>by
  have h1:l.countP p<=l.countP q:=List.countP_mono_left fun x hx=>h x (yay _ hx);rw [List.countP_cons,List.countP_cons] at hc;have h2:=h y (yb3 ..)
  have h3:l.countP q<=l.countP p∧(q y=true->p y=true):=by
   cases e1:q y<;>cases e2:p y<;>simp [e1,e2] at hc h2 ⊢<;>omega
  rcases yau.1 hx with rfl | hx
  ·exact h3.2 hq
  ·exact zr3 (fun x hx=>h x (yay _ hx)) h3.1 x hx hq
def Rep (m:zaa) (k s:Nat):Prop:=∀ t,t<s->¬ E m k s t
open Classical in
noncomputable def nreps (m:zaa) (k:Nat):Nat:=(List.range m.Next.length).countP fun s=>decide (Rep m k s)
theorem zwh (k:Nat):∀ (s:Nat),∃ r,r<=s∧Rep m k r∧E m k s r:=by
 intro s
 induction s using Nat.strongRecOn with
 | ind s ih =>
  by_cases h:Rep m k s
  ·exact ⟨s,yam _,h,E_refl _ _⟩
  ·have ⟨t,h1⟩:=Classical.not_forall.1 h;obtain ⟨h2,h3⟩:=Classical.not_imp.1 h1;have h3:=Classical.not_not.1 h3;obtain ⟨r,r1,r2,r3⟩:=ih t h2;exact ⟨r,by omega,r2,zrs h3 r3⟩
def Stab (m:zaa) (k:Nat):Prop:=∀ s t,s<m.Next.length->t<m.Next.length->E m k s t->E m (k+1) s t
theorem rep_succ {k s:Nat} (h:Rep m k s):Rep m (k+1) s:=fun t ht hE=>h t ht hE.1
open Classical in
open Classical in
theorem stab_of {k:Nat} (h:nreps m (k+1)<=nreps m k):Stab m k:=by
 intro s t hs ht hE;unfold nreps at h;have key:=zr3 (l:=List.range m.Next.length) (fun s _ h=>zkB (rep_succ (of_decide_eq_true h))) h;obtain ⟨r,r1,r2,r3⟩:=zwh (m:=m) (k+1) s;obtain ⟨u,u1,u2,u3⟩:=zwh (m:=m) (k+1) t;have r4:Rep m k r:=of_decide_eq_true (key r (ycz.2 (by omega)) (zkB r2));have u4:Rep m k u:=of_decide_eq_true (key u (ycz.2 (by omega)) (zkB u2));have a0:E m k r u:=zrs (E_symm r3.1) (zrs hE u3.1)
 have e:r=u:=by
  rcases Nat.lt_trichotomy r u with h1 | h1 | h1
  ·exact absurd (E_symm a0) (u4 r h1)
  ·exact h1
  ·exact absurd a0 (r4 u h1)
 subst e;exact zrs r3 (E_symm u3)
theorem stab_succ (H:zik m) {k:Nat} (h:Stab m k):Stab m (k+1):=fun s t hs ht hE =>
 ⟨hE,fun a ha=>⟨(hE.2 a ha).1,h _ _ (H.at hs ha).1 (H.at ht ha).1 (hE.2 a ha).2⟩⟩
theorem stab_add (H:zik m) {k:Nat} (h:Stab m k):∀ j,Stab m (k+j)
 | 0=>h
 | j+1=>stab_succ H (stab_add H h j)
open Classical in
theorem stab_exists (H:zik m):∃ k,k<m.Next.length∧Stab m k:=by
 refine yco fun a2=>?_
 have a0:∀ k,k<=m.Next.length->k+1<=nreps m k:=by
  intro k
  induction k with
  | zero =>
   intro _;unfold nreps;have:0<(List.range m.Next.length).countP fun s=>@decide (Rep m 0 s) (Classical.propDecidable _):=List.countP_pos_iff.2 ⟨0,ycz.2 H.n1,zkB fun t ht=>absurd ht (ybr _)⟩;exact this
  | succ k ih =>
   intro hk;have h1:=ih (by omega);rcases ya8 (nreps m k) (nreps m (k+1)) with h2 | h2
   ·omega
   ·exact absurd ⟨k,by omega,stab_of h2⟩ a2
 have h1:=a0 _ (yam _);have h2:nreps m m.Next.length<=(List.range m.Next.length).length:=List.countP_le_length;rw [List.length_range] at h2;omega
theorem E_all (H:zik m) {s t:Nat} (hs:s<m.Next.length) (ht:t<m.Next.length) (h:E m m.Next.length s t) (j:Nat):E m j s t:=by
 obtain ⟨k,hk,hS⟩:=stab_exists H
 have key:∀ i,E m (k+i) s t:=by
  intro i
  induction i with
  | zero=>exact E_mono (by omega) h
  | succ i ih=>exact stab_add H hS i s t hs ht ih
 exact E_mono (by omega) (key j)
end
end
section
theorem zsy {α:Type} [DecidableEq α]:∀ {l l':List α},l.Nodup->(∀ x∈l,x∈l')->l.length<=l'.length
 | [],_,_,_=>yas _
 | x::l,l',h,hs=>by
  have h1:=ybj.1 h;have hx:=hs x (by simp);have ih:=zsy (l:=l) (l':=l'.erase x) h1.2 (fun y hy=>(List.mem_erase_of_ne (fun e=>h1.1 (by rw [<- e];exact hy))).2 (hs y (yay _ hy)));rw [List.length_erase_of_mem hx] at ih;have:=ydq hx;simp only [zkL];omega
structure Num (m:zaa) (c:yab) (ord:List Nat) (num:yab):Prop where
 rng:∀ u∈ord,u<m.Next.length
 start:ord[0]?=some m.Start.toNat
 len:num.length=m.Next.length
 n1:∀ j u x:Nat,ord[j]?=some u->c[u]?=some (↑x:Int)->num[x]?=some (↑j:Int)
 n2:∀ x:Nat,x<m.Next.length->num[x]?=some (-1:Int)∨∃ j u:Nat,num[x]?=some (↑j:Int)∧ord[j]?=some u∧c[u]?=some (↑x:Int)
 reach:∀ j u:Nat,ord[j]?=some u->j=0∨∃ i v a:Nat,i<j∧ord[i]?=some v∧a<m.Inputs.toNat∧u=nx m v a
section
variable {m:zaa} {c num:yab} {ord:List Nat} {k:Nat}
structure RowAt (m:zaa) (c:yab) (ord:List Nat) (v:Nat) (row out:yab) (a:Nat):Prop where
 l1:row.length=a
 l2:out.length=a
 cell:∀ b,b<a->∃ j u:Nat,row[b]?=some (↑j:Int)∧ord[j]?=some u∧c[u]?=c[nx m v b]?∧out[b]?=some (ot m v b)
structure MinOk (m M:zaa) (c:yab) (ord:List Nat) (num:yab):Prop where
 cls:ClsOk m m.Next.length c
 num:Num m c ord num
 inp:M.Inputs=m.Inputs
 start:M.Start=0
 l1:M.Next.length=ord.length
 l2:M.Out.length=ord.length
 row:∀ i v:Nat,ord[i]?=some v->∃ row out,M.Next[i]?=some row∧M.Out[i]?=some out∧RowAt m c ord v row out m.Inputs.toNat
end
end
section
section
variable {m:zaa}
abbrev MEnd (m:zaa) (s0:Nat) (L:List (Nat×yab)):Prop:=BfsEnd (nx m) m.Inputs.toNat s0 L
structure SeenOk (n:Nat) (y:List Bool) (l:List Nat):Prop where
 len:y.length=n
 at_:∀ t,t<n->y[t]?=some (decide (t∈l))
end
end
section
section
variable {m:zaa}
end
end
section
section
variable {a b:zaa}
structure Two (a b:zaa):Prop where
 a1:zik a
 b1:zik b
 inp:a.Inputs=b.Inputs
end
end
section
section
variable {a b:zaa}
structure SeenG (n k:Nat) (y:List (List Bool)) (l:yad):Prop where
 len:y.length=n
 at_:∀ s t,s<n->t<k->∃ row,y[s]?=some row∧row.length=k∧row[t]?=some (decide ((s,t)∈l))
end
end
section
section
variable {a b:zaa}
end
end
section
structure Can (M:zaa):Prop where
 c4:∀ i a u,i<M.Next.length->a<M.Inputs.toNat->0<u->u<=nx M i a->∃ i' a',a'<M.Inputs.toNat∧i'*M.Inputs.toNat+a'<=i*M.Inputs.toNat+a∧i'<u∧nx M i' a'=u
 c5:∀ u,0<u->u<M.Next.length->∃ i a,i<u∧a<M.Inputs.toNat∧nx M i a=u
def Eqv (a:zaa) (s:Nat) (b:zaa) (t:Nat):Prop:=∀ w,WOk a.Inputs w->outs a s w=outs b t w
structure MinSem (m M:zaa):Prop where
 ok:zik M
 inp:M.Inputs=m.Inputs
 start:M.Start=0
 eqv:Eqv M 0 m m.Start.toNat
 min:∀ i j,i<M.Next.length->j<M.Next.length->Eqv M i M j->i=j
 can:Can M
section
variable {M M':zaa}
end
structure Shape {A:Type} [DecidableEq A] (e:A->Nat->A) (o:A->Nat->Int) (L:List (A×yab)) (M:zaa):Prop where
 len:M.Next.length=L.length
 row:∀ i x a,L[i]?=some x->a<M.Inputs.toNat->∃ y,L[nx M i a]?=some y∧y.1=e x.1 a∧ot M i a=o x.1 a
end
section
section
variable {m:zaa}
structure TrimOk (m t:zaa) (L:List (Nat×yab)):Prop where
 end_:MEnd m m.Start.toNat L
 inp:t.Inputs=m.Inputs
 start:t.Start=0
 ok:zik t
 shape:Shape (nx m) (ot m) L t
end
end
section
section
variable {κ ν:Type} [BEq κ]
theorem mset_new {k:κ} {v:ν}:∀ {m:List (κ×ν)},mget k m=none->mset k v m=m++[(k,v)]
 | [],_=>rfl
 | p::m,h=>by
  unfold mget at h;unfold mset;cases e:k==p.1 with
  | true=>rw [e] at h;cases h
  | false =>
   rw [e] at h;show p::mset k v m=_;rw [mset_new h];rfl
end
theorem li_beq (a b:yab):(a==b)=true↔a=b:=beq_iff_eq
section
variable {m:zaa} {c:yab}
def sigV (m:zaa) (c:yab) (s a p:Nat):Int:=if p<a then ot m s p else if 64<=p∧p-64<a then (c[nx m s (p-64)]?).getD 0 else 0
def sigA (m:zaa) (c:yab) (s:Nat):yab:=(List.range 128).map (sigV m c s m.Inputs.toNat)
theorem sigA_at (s:Nat) {p:Nat} (hp:p<128):(sigA m c s)[p]?=some (sigV m c s m.Inputs.toNat p):=by
 unfold sigA;rw [yat,yb6 hp];rfl
theorem sigA_len (s:Nat):(sigA m c s).length=128:=by simp [sigA]
theorem sigV_lo {s a K:Nat} (h:a<K):sigV m c s K a=ot m s a:=if_pos h
theorem sigV_hi {s a K:Nat} (h:a<K) (hK:K<=64):sigV m c s K (64+a)=(c[nx m s a]?).getD 0:=by
 unfold sigV;have h1:¬ 64+a<K:=by omega
 have h2:64<=64+a∧64+a-64<K:=by omega
 have h3:64+a-64=a:=by omega
 rw [if_neg h1,if_pos h2,h3]
theorem sigA_eq (hI:m.Inputs<=64) {s t:Nat}:sigA m c s=sigA m c t↔∀ a,a<m.Inputs.toNat->ot m s a=ot m t a∧(c[nx m s a]?).getD 0=(c[nx m t a]?).getD 0:=by
 constructor
 ·intro h a ha;have h1:=sigA_at (m:=m) (c:=c) s (p:=a) (by omega);rw [h,sigA_at t (by omega)] at h1;injection h1 with h1
  rw [sigV_lo ha,sigV_lo ha] at h1;have h2:=sigA_at (m:=m) (c:=c) s (p:=64+a) (by omega);rw [h,sigA_at t (by omega)] at h2;injection h2 with h2
  rw [sigV_hi ha (by omega),sigV_hi ha (by omega)] at h2;exact ⟨h1.symm,h2.symm⟩
 ·intro h;unfold sigA;refine List.map_congr_left fun p _=>?_;unfold sigV;by_cases h1:p<m.Inputs.toNat
  ·rw [if_pos h1,if_pos h1,(h p h1).1]
  ·rw [if_neg h1,if_neg h1];by_cases h2:64<=p∧p-64<m.Inputs.toNat
   ·rw [if_pos h2,if_pos h2,(h _ h2.2).2]
   ·rw [if_neg h2,if_neg h2]
theorem sig_loop (H:zik m) (hc:c.length=m.Next.length) {s:Nat} (hs:s<m.Next.length):iter (fun (q:yab×Nat)=>zbr.s18 m c s q.1 q.2) fuel (List.replicate 128 0,0)=some (sigA m c s):=by
 have hI:=H.i2;refine zof (fun q=>q.2<=m.Inputs.toNat∧q.1=(List.range 128).map (sigV m c s q.2)) (fun q=>m.Inputs.toNat-q.2) (fun q hq=>?_) ⟨yas _,?_⟩
 ·obtain ⟨y,a⟩:=q;obtain ⟨q1,q2⟩:=hq;simp only at q1 q2;rw [q2];simp only [zbr.s18];by_cases g:a<m.Inputs.toNat
  ·left;obtain ⟨h1,_,_,x,o,e1,e2,e3,e4⟩:=H.at hs g;have a0:=get_at (l:=c) (i:=nx m s a) (by omega)
   have hr:∀ p,p<128->((List.range 128).map (sigV m c s a))[p]?=some (sigV m c s a p):=fun p hp=>by
    rw [yat,yb6 hp];rfl
   refine ⟨((List.range 128).map (sigV m c s (a+1)),a+1),?_,⟨g,rfl⟩,by simp only;omega⟩;rw [zkB (by omega),zkD,zbg e2,zbg e4,zb7 (by omega),zbg (hr a (by omega)),zb7 (by unfold inR;omega),zbg e1,zbg e3,zg4 rfl a0,zb7 (by omega),zbg (x:=sigV m c s a (64+a)) (by rw [yb1 (by omega),hr _ (by omega)]),zb7 (by unfold inR;omega)];congr 4;refine yb7 fun p=>?_;rcases ya8 p 128 with hp | hp
   ·rw [yat (f:=sigV m c s (a+1)),yb6 hp,yaj];by_cases p1:64+a=p
    ·subst p1;rw [ycg (by simp;omega)];congr 1;unfold sigV;rw [if_neg (by omega),if_pos (by omega),show 64+a-64=a by omega,a0,yba]
    ·rw [yb1 p1];by_cases p2:a=p
     ·subst p2;rw [ycg (by simp;omega)];congr 1;unfold sigV;rw [if_pos (by omega)]
     ·rw [yb1 p2,hr p hp];congr 1;unfold sigV;by_cases p3:p<a
      ·rw [if_pos p3,if_pos (by omega)]
      ·have p5:¬ p<a+1:=by omega
       rw [if_neg p3,if_neg p5];by_cases p4:64<=p∧p-64<a
       ·have p6:64<=p∧p-64<a+1:=by omega
        rw [if_pos p4,if_pos p6]
       ·have p6:¬ (64<=p∧p-64<a+1):=by omega
        rw [if_neg p4,if_neg p6]
   ·rw [ybe (by simp;omega),ybe (by simp;omega)]
  ·right;have:a=m.Inputs.toNat:=by omega
   subst this;rw [zkA (by omega),zkC];rfl
 ·simp only;refine yb7 fun p=>?_;rcases ya8 p 128 with hp | hp
  ·rw [ycc,if_pos hp,yat,yb6 hp,yaj];unfold sigV;rw [if_neg (by omega),if_neg (by omega)]
  ·rw [ybe (by simp;omega),ybe (by simp;omega)]
def zs9 (o:yab):Prop:=∀ (s x:Nat),o[s]?=some (↑x:Int)->∀ u:Nat,u<x->∃ s',s'<s∧o[s']?=some (↑u:Int)
structure ClsF (m:zaa) (k:Nat) (c:yab):Prop where
 cls:ClsOk m k c
 first:zs9 c
theorem E_of_next (H:zik m):∀ {k s t:Nat},s<m.Next.length->t<m.Next.length->(∀ a,a<m.Inputs.toNat->ot m s a=ot m t a∧E m k (nx m s a) (nx m t a))->E m (k+1) s t
 | 0,_,_,_,_,h=>⟨trivial,h⟩
 | _+1,_,_,hs,ht,h=>⟨E_of_next H hs ht fun a ha=>⟨(h a ha).1,(h a ha).2.1⟩,h⟩
theorem sig_iff (H:zik m) {k:Nat} (C:ClsOk m k c) {s t:Nat} (hs:s<m.Next.length) (ht:t<m.Next.length):sigA m c s=sigA m c t↔E m (k+1) s t:=by
 rw [sigA_eq H.i2]
 have hq:∀ a,a<m.Inputs.toNat->((c[nx m s a]?).getD 0=(c[nx m t a]?).getD 0↔E m k (nx m s a) (nx m t a)):=fun a ha=>by
  have h1:=(H.at hs ha).1;have h2:=(H.at ht ha).1;rw [<- C.cls _ _ h1 h2];obtain ⟨x,x1,_⟩:=C.rng _ h1;obtain ⟨y,y1,_⟩:=C.rng _ h2;rw [x1,y1,yba,yba];exact ⟨fun h=>by rw [h],fun h=>by injection h⟩
 constructor
 ·exact fun h=>E_of_next H hs ht fun a ha=>⟨(h a ha).1,(hq a ha).1 (h a ha).2⟩
 ·exact fun h a ha=>⟨(h.2 a ha).1,(hq a ha).2 (h.2 a ha).2⟩
structure Giv (m:zaa) (c:yab) (mp:List (yab×Int)) (o:yab) (s:Nat):Prop where
 len:o.length=m.Next.length
 keys:∀ p∈mp,p.1.length=128
 le:mp.length<=s
 get:∀ s',s'<s->∃ x:Nat,x<mp.length∧o[s']?=some (↑x:Int)∧mget (sigA m c s') mp=some (↑x:Int)
 org:∀ k v,mget k mp=some v->∃ s',s'<s∧sigA m c s'=k
 inj:∀ s' s'',s'<s->s''<s->o[s']?=o[s'']?->sigA m c s'=sigA m c s''
 first:∀ (s' x:Nat),s'<s->o[s']?=some (↑x:Int)->∀ u:Nat,u<x->∃ s'',s''<s'∧o[s'']?=some (↑u:Int)
 all:∀ u:Nat,u<mp.length->∃ s',s'<s∧o[s']?=some (↑u:Int)
open Classical in
theorem zsu (H:zik m) {k:Nat} (C:ClsOk m k c):∃ (c':yab) (n:Nat),zbr m c=some (c',(↑n:Int))∧ClsF m (k+1) c'∧n=nreps m (k+1):=by
 have hn:=H.n2;have hc:=C.len;unfold zbr;rw [zb7 ⟨by omega,by omega,by unfold za2;omega⟩]
 obtain ⟨r,hr,mp,o,rfl,G,b0⟩:=znr (step:=fun (s:(List (yab×Int))×yab×Nat)=>zbr.s20 m c s.1 s.2.1 s.2.2) (fun s=>s.2.2<=m.Next.length∧Giv m c s.1 s.2.1 s.2.2∧s.1.length=(List.range s.2.2).countP fun s=>decide (Rep m (k+1) s)) (fun s=>m.Next.length-s.2.2) (fun r=>∃ mp o,r=(mp,o)∧Giv m c mp o m.Next.length∧mp.length=nreps m (k+1)) (fun s ⟨q1,G,q3⟩=>by
  obtain ⟨mp,o,s⟩:=s
  simp only at q1 G q3
  simp only [zbr.s20]
  by_cases g:s<m.Next.length
  ·left
   have a4:=sigA_len (m:=m) (c:=c) s
   have b3:=G.le
   have ho:=get_at (l:=o) (i:=s) (by rw [G.len];exact g)
   rw [zkB (by omega),zkD,sig_loop H hc g,zbz,zb7 a4,zb7 ⟨a4,G.keys⟩]
   have a8:(mget (sigA m c s) mp=none)↔Rep m (k+1) s:=by
    constructor
    ·intro h t ht hE
     obtain ⟨x,_,_,x3⟩:=G.get t ht
     rw [<- (sig_iff H C g (by omega)).2 hE,h] at x3
     cases x3
    ·intro h
     cases e:mget (sigA m c s) mp with
     | none=>rfl
     | some v =>
      obtain ⟨s',h1,h2⟩:=G.org _ _ e
      exact absurd ((sig_iff H C g (by omega)).1 h2.symm) (h s' h1)
   have a5:(List.range (s+1)).countP (fun s=>decide (Rep m (k+1) s))=(List.range s).countP (fun s=>decide (Rep m (k+1) s))+if Rep m (k+1) s then 1 else 0:=by
    rw [ydz,List.countP_append]
    congr 1
    by_cases h:Rep m (k+1) s
    ·rw [if_pos h,ydu,zkB h]
     rfl
    ·rw [if_neg h,ydu,zkA h]
     rfl
   have a0:∀ {s':Nat} {v:Int},s'<s->(o.set s v)[s']?=o[s']?:=fun h=>yb1 (by omega)
   have a3:∀ {v:Int},(o.set s v)[s]?=some v:=ycg (by rw [G.len];exact g)
   cases e:mget (sigA m c s) mp with
   | none =>
    have hR:=a8.1 e
    have a6:mset (sigA m c s) (↑mp.length:Int) mp=mp++[(sigA m c s,(↑mp.length:Int))]:=mset_new e
    refine ⟨(mset (sigA m c s) (↑mp.length:Int) mp,o.set s (↑mp.length:Int),s+1),?_,⟨g,?_,?_⟩,by simp only;omega⟩
    ·rw [yc8,Bool.not_false,zkD,zb7 a4,zb7 ⟨a4,G.keys⟩,zbz]
     simp only [zbr.k19]
     rw [zbg ho]
    ·simp only
     refine ⟨by simp [G.len],?_,by rw [a6];simp;omega,?_,?_,?_,?_,?_⟩
     ·intro p hp
      rw [a6] at hp
      rcases yal.1 hp with h | h
      ·exact G.keys p h
      ·have:p=(sigA m c s,(↑mp.length:Int)):=by simpa using h
       rw [this]
       exact a4
     ·intro s' b2
      by_cases h:s'<s
      ·obtain ⟨x,x1,x2,x3⟩:=G.get s' h
       refine ⟨x,by rw [a6];simp;omega,by rw [a0 h,x2],?_⟩
       rw [zjw li_beq (fun q=>?_),x3]
       rw [q,e] at x3
       cases x3
      ·have:s'=s:=by omega
       subst this
       exact ⟨mp.length,by rw [a6];simp,a3,zjo li_beq mp⟩
     ·intro kk v hv
      by_cases h:kk=sigA m c s
      ·exact ⟨s,by omega,h.symm⟩
      ·rw [zjw li_beq h] at hv
       obtain ⟨s',h1,h2⟩:=G.org _ _ hv
       exact ⟨s',by omega,h2⟩
     ·have a7:∀ s',s'<s->o[s']?≠some (↑mp.length:Int):=fun s' h q=>by
       obtain ⟨x,x1,x2,_⟩:=G.get s' h
       rw [x2] at q
       injection q with q
       omega
      intro s' s'' h1 h2 h3
      by_cases a1:s'<s<;>by_cases a2:s''<s
      ·rw [a0 a1,a0 a2] at h3
       exact G.inj _ _ a1 a2 h3
      ·have:s''=s:=by omega
       subst this
       rw [a0 a1,a3] at h3
       exact absurd h3 (a7 s' a1)
      ·have:s'=s:=by omega
       subst this
       rw [a0 a2,a3] at h3
       exact absurd h3.symm (a7 s'' a2)
      ·have:s'=s'':=by omega
       rw [this]
     ·intro s' x h1 h2 u hu
      by_cases a1:s'<s
      ·rw [a0 a1] at h2
       obtain ⟨s'',z1,z2⟩:=G.first s' x a1 h2 u hu
       exact ⟨s'',z1,by rw [a0 (by omega),z2]⟩
      ·have:s'=s:=by omega
       subst this
       rw [a3] at h2
       injection h2 with h2
       obtain ⟨s'',z1,z2⟩:=G.all u (by omega)
       exact ⟨s'',z1,by rw [a0 z1,z2]⟩
     ·intro u hu
      rw [a6] at hu
      simp at hu
      rcases ya8 u mp.length with h | h
      ·obtain ⟨s',z1,z2⟩:=G.all u h
       exact ⟨s',by omega,by rw [a0 z1,z2]⟩
      ·have:u=mp.length:=by omega
       subst this
       exact ⟨s,by omega,a3⟩
    ·simp only
     rw [a5,if_pos hR,a6,<- q3]
     simp
   | some v =>
    have hR:¬ Rep m (k+1) s:=fun q=>by
     rw [a8.2 q] at e
     cases e
    obtain ⟨t,ht,a9⟩:=G.org _ _ e
    obtain ⟨x,x1,x2,x3⟩:=G.get t ht
    have hv:v=(↑x:Int):=by
     rw [a9,e] at x3
     injection x3
    refine ⟨(mp,o.set s v,s+1),?_,⟨g,?_,?_⟩,by simp only;omega⟩
    ·rw [ydm,yc7,zkC,yba,zbz]
     simp only [zbr.k19]
     rw [zbg ho]
    ·simp only
     refine ⟨by simp [G.len],G.keys,by omega,?_,?_,?_,?_,?_⟩
     ·intro s' b2
      by_cases h:s'<s
      ·obtain ⟨x,y1,y2,y3⟩:=G.get s' h
       exact ⟨x,y1,by rw [a0 h,y2],y3⟩
      ·have:s'=s:=by omega
       subst this
       exact ⟨x,x1,by rw [a3,hv],by rw [e,hv]⟩
     ·intro kk v hv
      obtain ⟨s',h1,h2⟩:=G.org _ _ hv
      exact ⟨s',by omega,h2⟩
     ·intro s' s'' h1 h2 h3
      by_cases a1:s'<s<;>by_cases a2:s''<s
      ·rw [a0 a1,a0 a2] at h3
       exact G.inj _ _ a1 a2 h3
      ·have:s''=s:=by omega
       subst this
       rw [a0 a1,a3,hv,<- x2] at h3
       rw [<- a9]
       exact G.inj _ _ a1 ht h3
      ·have:s'=s:=by omega
       subst this
       rw [a0 a2,a3,hv,<- x2] at h3
       rw [<- a9]
       exact G.inj _ _ ht a2 h3
      ·have:s'=s'':=by omega
       rw [this]
     ·intro s' y h1 h2 u hu
      by_cases a1:s'<s
      ·rw [a0 a1] at h2
       obtain ⟨s'',z1,z2⟩:=G.first s' y a1 h2 u hu
       exact ⟨s'',z1,by rw [a0 (by omega),z2]⟩
      ·have:s'=s:=by omega
       subst this
       rw [a3] at h2
       injection h2 with h2
       obtain ⟨s'',z1,z2⟩:=G.first t x ht x2 u (by omega)
       exact ⟨s'',by omega,by rw [a0 (by omega),z2]⟩
     ·intro u hu
      obtain ⟨s',z1,z2⟩:=G.all u hu
      exact ⟨s',by omega,by rw [a0 z1,z2]⟩
    ·simp only
     rw [a5,if_neg hR,<- q3,ybl]
  ·right
   have:s=m.Next.length:=by omega
   subst this
   exact ⟨_,by rw [zkA (by omega),zkC],mp,o,rfl,G,q3⟩) ([],List.replicate c.length 0,0) ⟨yas _,⟨by simp [hc],fun p hp=>(by cases hp),yam _,fun s' h=>absurd h (ybr _),fun k v h=>(by cases h),fun s' _ h=>absurd h (ybr _),fun s' _ h=>absurd h (ybr _),fun u h=>absurd h (ybr _)⟩,rfl⟩
 refine ⟨o,mp.length,by rw [hr,zbz];rfl,⟨⟨G.len,fun s hs=>?_,fun s t hs ht=>?_⟩,fun s x hx=>G.first s x (by rw [<- G.len];exact (zkI.1 hx).1) hx⟩,b0⟩
 ·obtain ⟨x,x1,x2,_⟩:=G.get s hs;have:=G.le;exact ⟨x,x2,by omega⟩
 ·rw [<- sig_iff H C hs ht];constructor
  ·exact G.inj s t hs ht
  ·intro h;obtain ⟨x,_,x2,x3⟩:=G.get s hs;obtain ⟨y,_,y2,y3⟩:=G.get t ht;rw [h,y3] at x3;rw [x2,y2,x3]
open Classical in
theorem zqt (H:zik m):∃ c i,zdl m 128=some (c,i)∧ClsF m m.Next.length c:=by
 have hn:=H.n2;have a0:=H.n1;have a2:(min (max (128:Int) 0) (↑m.Next.length:Int))=(↑m.Next.length:Int):=by omega
 unfold zdl;rw [zb7 ⟨by omega,by omega,by unfold za2;omega⟩]
 obtain ⟨r,hr,hq⟩:=znr (step:=fun (s:yab×Int×Nat)=>zdl.s2 m 128 s.1 s.2.1 s.2.2) (fun s=>s.2.2<=m.Next.length∧ClsF m s.2.2 s.1∧s.2.1=(↑(nreps m s.2.2):Int)) (fun s=>m.Next.length-s.2.2) (fun r=>(∃ c,r=.inl c∧ClsF m m.Next.length c)∨∃ c i,r=.inr (c,i)∧ClsF m m.Next.length c) (fun s ⟨q1,q2,q3⟩=>by
  obtain ⟨c,n,i⟩:=s
  simp only at q1 q2 q3
  simp only [zdl.s2]
  rw [a2]
  by_cases g:i<m.Next.length
  ·obtain ⟨c',n',h1,h2,h3⟩:=zsu H q2.cls
   rw [zkB (by omega),zkD,h1,zbz]
   by_cases e:n'=nreps m i
   ·right
    rw [zkB (by simp only;omega),zkD]
    refine ⟨_,rfl,Or.inr ⟨c,_,rfl,⟨⟨q2.cls.len,q2.cls.rng,fun s t hs ht=>?_⟩,q2.first⟩⟩⟩
    rw [q2.cls.cls s t hs ht]
    have hS:Stab m i:=stab_of (by omega)
    constructor
    ·intro h
     have key:∀ j,E m (i+j) s t:=by
      intro j
      induction j with
      | zero=>exact h
      | succ j ih=>exact stab_add H hS j s t hs ht ih
     have:=key (m.Next.length-i)
     rwa [show i+(m.Next.length-i)=m.Next.length by omega] at this
    ·exact E_mono (by omega)
   ·left
    exact ⟨(c',(↑n':Int),i+1),by rw [zkA (by simp only;omega),zkC],⟨g,h2,by simp only;rw [h3]⟩,by simp only;omega⟩
  ·right
   have:i=m.Next.length:=by omega
   subst this
   exact ⟨_,by rw [zkA (by omega),zkC],Or.inl ⟨c,rfl,q2⟩⟩) (List.replicate m.Next.length 0,1,0) ⟨yas _,⟨⟨by simp,fun s hs=>⟨0,by simp [hs],a0⟩,fun s t hs ht=>⟨fun _=>trivial,fun _=>by simp [hs,ht]⟩⟩,fun s x hx u hu=>by
    have:=(zkI.1 hx).2
    simp at this
    omega⟩,by
    simp only
    have:nreps m 0=1:=by
     unfold nreps
     have h0:∀ n,0<n->(List.range n).countP (fun s=>decide (Rep m 0 s))=1:=by
      intro n
      induction n with
      | zero=>intro h;omega
      | succ n ih =>
       intro _
       rw [ydz,List.countP_append,ydu]
       by_cases hz:n=0
       ·subst hz
        rw [zkB (show Rep m 0 0 from fun t ht=>absurd ht (ybr _))]
        rfl
       ·rw [ih (by omega),zkA (show ¬ Rep m 0 n from fun q=>q 0 (by omega) trivial)]
        rfl
     exact h0 _ a0
    rw [this]
    rfl⟩
 rw [hr,zbz];rcases hq with ⟨c,rfl,h⟩ | ⟨c,i,rfl,h⟩
 ·exact ⟨c,_,rfl,h⟩
 ·exact ⟨c,i,rfl,h⟩
theorem zpd (hv:zhm m=0):∃ c,zfq m=some (c,0)∧ClsF m m.Next.length c:=by
 obtain ⟨c,i,h1,h2⟩:=zqt (zj5 hv);refine ⟨c,?_,h2⟩;unfold zfq zgu;rw [zfd,zbz,hv,zkA (by decide),zkC,h1,zbz,zbz]
end
end
section
section
variable {m t:zaa} {c:yab}
def IsFirst (c:yab) (s u:Nat):Prop:=c[s]?=some (↑u:Int)∧∀ s',s'<s->c[s']?≠some (↑u:Int)
structure Quo (t M:zaa) (c:yab):Prop where
 inp:M.Inputs=t.Inputs
 start:M.Start=0
 len:M.Out.length=M.Next.length
 ub:∀ s,s<t.Next.length->∃ x:Nat,c[s]?=some (↑x:Int)∧x<M.Next.length
 row:∀ u,u<M.Next.length->∃ s r o,s<t.Next.length∧IsFirst c s u∧M.Next[u]?=some r∧M.Out[u]?=some o∧r.length=t.Inputs.toNat∧(∀ a,a<t.Inputs.toNat->r[a]?=c[nx t s a]?)∧t.Out[s]?=some o
 le:M.Next.length<=t.Next.length
variable {M:zaa}
theorem validM_of (H:zik m):zhm m=0:=by
 have:=zvf H;rw [zfd] at this;injection this
end
end
section
section
variable {m:zaa} {c:yab}
def clN (c:yab) (s:Nat):Nat:=((c[s]?).getD 0).toNat
open Classical in
structure Nums (m:zaa) (c:yab) (ord:List Nat) (num:yab) (B:List (Nat×yab)):Prop where
 ol:ord.length=B.length
 oc:∀ (j u:Nat) (x:Nat×yab),ord[j]?=some u->B[j]?=some x->u<m.Next.length∧clN c u=x.1
 nl:num.length=m.Next.length
 n1:∀ (j:Nat) (x:Nat×yab),B[j]?=some x->num[x.1]?=some (↑j:Int)
 n2:∀ x:Nat,x<m.Next.length->x∉B.map Prod.fst->num[x]?=some (-1:Int)
end
end
section
section
variable {m M:zaa}
open Classical in
structure MinimalP (m:zaa):Prop where
 reach:∀ s,s<m.Next.length->∃ w,WOk m.Inputs w∧dest m m.Start.toNat w=s
 apart:∀ i j,i<m.Next.length->j<m.Next.length->Eqv m i m j->i=j
open Classical in
open Classical in
open Classical in
end
end

section
section
variable {m M:zaa} {ids:List (yaa)} {front middle:yaa}
structure Parts (M:zaa) (front middle:yaa) (ids:List (yaa)):Prop where
 ok:zhm M=0
 il:ids.length=M.Next.length
 is_:∀ l∈ids,l.length<=200∧∀ x∈l,x.length<=600
 f1:front.length<=200
 f2:∀ u∈front,WOk M.Inputs u∧u.length<=200
 m1:middle.length<=200
 m2:∀ v∈middle,WOk M.Inputs v∧v.length<=200
theorem check_of {w:yab} (H:zik M) (h:WOk M.Inputs w) (hl:w.length<=1024):zhq w M.Inputs=0:=by
 have:=H.i1;have:=H.i2;unfold zhq;rw [if_pos (by omega),if_neg (by omega),if_pos]
 exact ybf.2 fun a ha=>by
  have:=h a ha;simp;omega
end
end
section
theorem contains_eqR {l:yab} {x:Int} (hl:l.length<=2000000):zee l x=some (decide (x∈l)):=by
 unfold zee zco
 have key:=znr (step:=fun s=>zco.s2 l x s) (fun k=>k<=l.length∧x∉l.take k) (fun k=>l.length-k) (fun r=>match r with | .inl ()=>x∉l | .inr n=>0<=n∧x∈l) (fun k ⟨g1,g2⟩=>by
  simp only [zco.s2]
  by_cases g3:k<l.length
  ·have hx:=get_at g3
   rw [zlc hx,zkD,zbg hx]
   by_cases e:x=l[k]
   ·right
    exact ⟨.inr (k:Int),by rw [zkB e,zkD],by omega,by rw [e];exact yb5 _⟩
   ·left
    refine ⟨k+1,by rw [zkA e,zkC],⟨g3,?_⟩,by omega⟩
    rw [zft hx]
    exact fun h=>(yal.1 h).elim g2 fun h=>e (yaw.1 h)
  ·right
   rw [ybh (by omega)] at g2
   exact ⟨.inl (),by rw [zkA (by omega),zkC],g2⟩) 0 ⟨yas _,by simp⟩
 obtain ⟨r,e,hq⟩:=key;rw [e,zbz];cases r with
 | inl u =>
  have hq:x∉l:=hq;simp [hq]
 | inr n =>
  have hq:0<=n∧x∈l:=hq;simp [hq.1,hq.2]
section
variable {m:zaa}
structure ExI (m:zaa) (y:yab) (ws:yaa):Prop where
 nd:y.Nodup
 rg:∀ u∈y,0<=u∧u<(↑m.Next.length:Int)
 ln:ws.length=y.length
 wl:∀ (j:Nat) (w:yab),ws[j]?=some w->w.length<=j
 st:m.Start∈y
theorem ExI.le {y:yab} {ws:yaa} (I:ExI m y ws):y.length<=m.Next.length:=by
 have:=zsy (l:=y) (l':=(List.range m.Next.length).map fun (i:Nat)=>(↑i:Int)) I.nd fun u hu=>by
  obtain ⟨h1,h2⟩:=I.rg u hu;exact yap.2 ⟨u.toNat,ycz.2 (by omega),by omega⟩
 simpa using this
theorem explore_row (H:zik m) {i:Nat} {x y0:yab} {ws0:yaa} (I0:ExI m y0 ws0) (hi:i<y0.length) (hx:∀ u∈x,0<=u∧u<(↑m.Next.length:Int)) (hxl:x.length<=64) :
  ∃ r:yab×yaa,iter (fun (s:yab×yaa×Nat)=>zbk.s18 i x s.1 s.2.1 s.2.2) fuel (y0,ws0,0)=some r∧ExI m r.1 r.2∧y0 <+: r.1∧∀ u∈x,u∈r.1 :=
 zg9 (step:=fun (s:yab×yaa×Nat)=>zbk.s18 i x s.1 s.2.1 s.2.2) (fun s=>ExI m s.1 s.2.1∧y0 <+: s.1∧s.2.2<=x.length∧∀ u∈x.take s.2.2,u∈s.1) (fun s=>x.length-s.2.2)
  (fun r=>ExI m r.1 r.2∧y0 <+: r.1∧∀ u∈x,u∈r.1) (fun ⟨y,ws,k⟩ ⟨I,hp,hk,ht⟩=>by
  simp only at I hp hk ht
  have hle:=I.le
  have hn:=H.n2
  have hpl:=hp.length_le
  simp only [zbk.s18]
  by_cases h:k<x.length
  ·left
   have hxk:=get_at h
   rw [zlc hxk,zkD,zbg hxk,contains_eqR (by omega),zbz]
   have hnew:∀ (y':yab),(∀ u∈y,u∈y')->x[k]∈y'->∀ u∈x.take (k+1),u∈y':=fun y' h1 h2 u hu=>by
    rw [zft hxk] at hu
    rcases yal.1 hu with hu | hu
    ·exact h1 u (ht u hu)
    ·rw [yaw.1 hu];exact h2
   by_cases hm:x[k]∈y
   ·rw [zkB hm]
    exact ⟨(y,ws,k+1),rfl,⟨I,hp,h,hnew y (fun u h=>h) hm⟩,by simp only;omega⟩
   ·have hw:=get_at (l:=ws) (i:=i) (by have:=I.ln;omega)
    have hwl:=I.wl i _ hw
    rw [zkA hm,Bool.not_false,zkD,zb7 (by unfold za2;omega),zbg hw,zsg _ (by simp) (by simp;omega),zbz,zb7 (by have:=I.ln;unfold za2;omega)]
    refine ⟨(y++[x[k]],ws++[ws[i]'(by have:=I.ln;omega)++[(↑k:Int)]],k+1),by simp,⟨⟨?_,?_,?_,?_,?_⟩,hp.trans (yc9 _ _),h,hnew _ (fun u h=>yai _ h) (by simp)⟩,by simp only;omega⟩
    ·rw [ybc]
     exact ⟨I.nd,by simp,fun a ha b hb e=>hm (by rw [yaw] at hb;rw [<- hb,<- e];exact ha)⟩
    ·intro u hu
     rcases yal.1 hu with hu | hu
     ·exact I.rg u hu
     ·rw [yaw.1 hu];exact hx _ (yb5 h)
    ·have:=I.ln;simp;omega
    ·intro j w hj
     have hln:=I.ln
     rcases ya8 j ws.length with h1 | h1
     ·rw [ya2 h1] at hj
      exact I.wl j w hj
     ·have hj1:=(zkI.1 hj).1
      simp at hj1
      have e:j=ws.length:=by omega
      subst e
      rw [ya5 (yam _),ycf] at hj
      injection hj with hj
      rw [<- hj,zkJ,yde]
      omega
    ·exact yai _ I.st
  ·right
   refine ⟨(y,ws),by rw [zkA (by omega),zkC],I,hp,fun u hu=>ht u ?_⟩
   rw [ybh (by omega)]
   exact hu) fuel _ ⟨I0,ycs _,yas _,fun u hu=>by simp at hu⟩ (by have:=zh3;simp only;omega)
structure RchS (m:zaa) (y:yab):Prop where
 st:m.Start∈y
 rg:∀ u∈y,0<=u∧u<(↑m.Next.length:Int)
 cl:∀ s:Nat,(↑s:Int)∈y->∀ a,a<m.Inputs.toNat->(↑(nx m s a):Int)∈y
 le:y.length<=128
theorem mem_row (H:zik m) {s:Nat} {x:yab} (hx:m.Next[s]?=some x) {a:Nat} (ha:a<m.Inputs.toNat):(↑(nx m s a):Int)∈x:=by
 have hs:=(zkI.1 hx).1;obtain ⟨_,_,_,x',y',e1,_,e3,_⟩:=H.at hs ha;rw [e1] at hx;injection hx with hx
 subst hx;exact zkH e3
theorem explore_eq (hv:zhm m=0):∃ (y:yab) (ws:yaa) (c:yab),zbk m=some ⟨m,y,ws,c⟩∧RchS m y∧ClsF m m.Next.length c:=by
 have H:=zj5 hv;have hn:=H.n2;obtain ⟨c,hc,C⟩:=zpd hv
 have key:=zg9 (step:=fun (s:yab×yaa×Nat)=>zbk.s20 m s.1 s.2.1 s.2.2) (fun s=>ExI m s.1 s.2.1∧s.2.2<=s.1.length∧∀ (j:Nat) (u:Int),j<s.2.2->s.1[j]?=some u->∀ a,a<m.Inputs.toNat->(↑(nx m u.toNat a):Int)∈s.1) (fun s=>128-s.2.2)
  (fun (r:yab×yaa)=>RchS m r.1) (fun ⟨y,ws,i⟩ ⟨I,hi,a2⟩=>by
  simp only at I hi a2
  have a3:=I.le
  simp only [zbk.s20]
  by_cases h:i<y.length
  ·left
   have hy:=get_at h
   obtain ⟨h1,h2⟩:=I.rg _ (yb5 h)
   obtain ⟨x,z,e1,_,e3,_,e5,_⟩:=H.row y[i].toNat (by omega)
   have a4:=H.i2
   obtain ⟨r,f1,f2,f3,f4⟩:=explore_row H I h e5 (by omega)
   rw [zlc hy,zkD,zbg hy,zg4 (i:=y[i].toNat) (by omega) e1,f1,zbz]
   refine ⟨(r.1,r.2,i+1),rfl,⟨f2,by simp only;have:=f3.length_le;omega,fun j u hj hu a ha=>?_⟩,by simp only;omega⟩
   simp only at hj hu ⊢
   have a0:y[j]?=some u:=by
    obtain ⟨t,ht⟩:=f3
    rw [<- ht,ya2 (by omega)] at hu
    exact hu
   rcases ya8 j i with h3 | h3
   ·exact f3.subset (a2 j u h3 a0 a ha)
   ·have e:j=i:=by omega
    subst e
    rw [hy] at a0
    injection a0 with a0
    rw [<- a0]
    exact f4 _ (mem_row H e1 ha)
  ·right
   refine ⟨(y,ws),by rw [zkA (by omega),zkC],I.st,I.rg,fun s hs a ha=>?_,by simp only;omega⟩
   have hs:(↑s:Int)∈y:=hs
   obtain ⟨j,hj,e⟩:=ybn.1 hs
   have:=a2 j y[j] (by omega) (get_at hj) a ha
   rw [e] at this
   simpa using this) fuel ([m.Start],[[]],0) ⟨⟨by simp,fun u hu=>by rw [yaw.1 hu];exact H.st,rfl,fun j w hj=>by
    match j,hj with
    | 0,hj=>injection hj with hj;rw [<- hj];simp
    | j+1,hj=>simp at hj,by simp⟩,yas _,fun j u hj=>by simp at hj⟩ (by have:=zh3;simp only;omega)
 obtain ⟨⟨y,ws⟩,e,hR⟩:=key;refine ⟨y,ws,c,?_,hR,C⟩;unfold zbk;rw [hc,zbz,e,zbz];rfl
end
end
section
def FoundI (l:yab) (g:Int->Bool) (r:Int):Prop:=(r=-1∧∀ x∈l,g x=false)∨∃ (i:Nat) (x:Int),r=(↑i:Int)∧l[i]?=some x∧g x=true
theorem zwa {l:yab} (g:Int->Bool):∃ r:Int,FoundI l g r∧(match scan (fun (i:Nat) (x:Int)=>if g x=true then some (↑i:Int) else none) 0 l with | some r=>r | none=>-1)=r:=by
 cases e:scan (fun (i:Nat) (x:Int)=>if g x=true then some (↑i:Int) else none) 0 l with
 | none =>
  refine ⟨-1,.inl ⟨rfl,fun x hx=>?_⟩,rfl⟩;obtain ⟨i,hi,rfl⟩:=ybn.1 hx;have:=zkl.1 e i _ (get_at hi);cases h:g l[i] with
  | false=>rfl
  | true=>rw [h] at this;simp at this
 | some r =>
  obtain ⟨i,x,h1,h2⟩:=scan_mem e;rw [yae] at h2;split at h2
  ·rename_i h;injection h2 with h2
   exact ⟨r,.inr ⟨i,x,h2.symm,h1,h⟩,rfl⟩
  ·cases h2
theorem indexF3 {l:yab} {f:Int->Option Bool} (g:Int->Bool) (hl:l.length<=2000000) (hf:∀ x∈l,f x=some (g x)):∃ r:Int,zbj l f=some r∧FoundI l g r:=by
 obtain ⟨r,hr,e⟩:=zwa (l:=l) g;refine ⟨r,?_,hr⟩;unfold zbj;rw [zho (l:=l) (fun (i:Nat) (x:Int)=>if g x=true then some (↑i:Int) else none) (fun i x hx=>?_) ?_ (by omega),zbz]
 ·rw [<- e];cases scan (fun (i:Nat) (x:Int)=>if g x=true then some (↑i:Int) else none) 0 l<;>rfl
 ·simp only [zbj.s2];rw [zte,zkC]
 ·simp only [zbj.s2];rw [zlc hx,zkD,zbg hx,hf x (zkH hx),zbz];cases g x<;>rfl
theorem indexF2 {l:yab} {f:Int->Option Bool} (g:Int->Bool) (hl:l.length<=2000000) (hf:∀ x∈l,f x=some (g x)):∃ r:Int,zbu l f=some r∧FoundI l g r:=by
 obtain ⟨r,hr,e⟩:=zwa (l:=l) g;refine ⟨r,?_,hr⟩;unfold zbu;rw [zho (l:=l) (fun (i:Nat) (x:Int)=>if g x=true then some (↑i:Int) else none) (fun i x hx=>?_) ?_ (by omega),zbz]
 ·rw [<- e];cases scan (fun (i:Nat) (x:Int)=>if g x=true then some (↑i:Int) else none) 0 l<;>rfl
 ·simp only [zbu.s2];rw [zte,zkC]
 ·simp only [zbu.s2];rw [zlc hx,zkD,zbg hx,hf x (zkH hx),zbz];cases g x<;>rfl
section
variable {m:zaa} {c y:yab} {ws:yaa}
def AgP (m:zaa) (c:yab) (s i j:Nat):Prop:=ot m s i=ot m s j∧c[nx m s i]?=c[nx m s j]?
instance (m:zaa) (c:yab) (s i j:Nat):Decidable (AgP m c s i j):=by unfold AgP;infer_instance
def TogP (m:zaa) (c y:yab) (i j:Nat):Prop:=∀ s∈y,AgP m c s.toNat i j
instance (m:zaa) (c y:yab) (i j:Nat):Decidable (TogP m c y i j):=by unfold TogP;infer_instance
theorem agree_eq (H:zik m) (C:ClsF m m.Next.length c) {s i j:Nat} (hs:s<m.Next.length) (hi:i<m.Inputs.toNat) (hj:j<m.Inputs.toNat):ze3 ⟨m,y,ws,c⟩ (↑s:Int) (↑i:Int) (↑j:Int)=some (decide (AgP m c s i j)):=by
 obtain ⟨a1,_,_,x,z,e1,e2,e3,e4⟩:=H.at hs hi;obtain ⟨b1,_,_,x',z',f1,f2,f3,f4⟩:=H.at hs hj;rw [e1] at f1;injection f1 with f1
 subst f1;rw [e2] at f2;injection f2 with f2
 subst f2;obtain ⟨u,c1,_⟩:=C.cls.rng _ a1;obtain ⟨v,c2,_⟩:=C.cls.rng _ b1;unfold ze3;simp only [znu];rw [zbg e2,zbg e4,zbg e2,zbg f4];by_cases h:ot m s i=ot m s j
 ·rw [zkB h,zkD,zbg e1,zbg e3,znu,zbg c1,zbg e1,zbg f3,znu,zbg c2,zbz];congr 1;refine decide_eq_decide.2 ?_;unfold AgP;rw [c1,c2];simp [h]
 ·rw [zkA h,zkC,zbz,zkA fun q=>h q.1]
theorem together_eq (H:zik m) (C:ClsF m m.Next.length c) (R:RchS m y) {i j:Nat} (hi:i<m.Inputs.toNat) (hj:j<m.Inputs.toNat):zhb (↑i:Int) (↑j:Int) ⟨m,y,ws,c⟩=some (decide (TogP m c y i j)):=by
 unfold zhb zdq
 obtain ⟨r,e,hr⟩:=indexF3 (l:=y) (f:=fun u0=>zgn u0 ⟨m,y,ws,c⟩ (↑i:Int) (↑j:Int)) (fun s=>!decide (AgP m c s.toNat i j)) (by have:=R.le;omega) fun s hs=>by
  obtain ⟨h1,h2⟩:=R.rg s hs;obtain ⟨k,rfl⟩:∃ k:Nat,s=(↑k:Int):=⟨s.toNat,by omega⟩;unfold zgn;rw [agree_eq H C (by omega) hi hj,zbz,ybz]
 show ((zbj y _).bind _).bind _=_;rw [e,zbz,zbz];rcases hr with ⟨rfl,h⟩ | ⟨k,x,rfl,h1,h2⟩
 ·have:TogP m c y i j:=fun s hs=>by have:=h s hs;simpa using this
  rw [zkB this];rfl
 ·have:¬ TogP m c y i j:=fun q=>by
   have:=q x (zkH h1);simp [this] at h2
  rw [zkA this,zkB (by omega)];rfl
end
structure NumOk (T:Nat->Nat->Prop) (N:Nat) (out:yab):Prop where
 len:out.length=N
 nat:∀ j,j<N->∃ k:Nat,out[j]?=some (↑k:Int)
 fo:zs9 out
 snd:∀ i j k:Nat,out[i]?=some (↑k:Int)->out[j]?=some (↑k:Int)->T i j
structure NumI (T:Nat->Nat->Prop) (c:Nat) (out first:yab):Prop where
 len:out.length=c
 fl:first.length<=c
 fr:∀ (k:Nat) (f:Int),first[k]?=some f->∃ i:Nat,f=(↑i:Int)∧i<c∧out[i]?=some (↑k:Int)
 og:∀ j,j<c->∃ k i:Nat,out[j]?=some (↑k:Int)∧first[k]?=some (↑i:Int)∧T i j
 fo:zs9 out
theorem NumI.push {T:Nat->Nat->Prop} {c:Nat} {out first first':yab} (I:NumI T c out first) {k i:Nat} (hp:first <+: first') (hf:first'[k]?=some (↑i:Int)) (hi:T i c) (hk:k<=first.length) (hl:first'.length<=c+1) (hn:first'.length=first.length∨(i=c∧first'.length=first.length+1∧k=first.length)) :
  NumI T (c+1) (out++[(↑k:Int)]) first':=by
 have a0:=I.len
 have h1:∀ (j:Nat) (v:Int),out[j]?=some v->(out++[(↑k:Int)])[j]?=some v:=fun j v h=>by
  rw [ya2 (zkI.1 h).1];exact h
 have h2:(out++[(↑k:Int)])[c]?=some (↑k:Int):=by rw [ya5 (by omega),a0,ycf];rfl
 have h3:∀ (q:Nat) (v:Int),first[q]?=some v->first'[q]?=some v:=fun q v h=>by
  obtain ⟨t,ht⟩:=hp;rw [<- ht,ya2 (zkI.1 h).1];exact h
 have h4:∀ (q:Nat) (v:Int),first'[q]?=some v->q<first.length->first[q]?=some v:=fun q v h hq=>by
  obtain ⟨t,ht⟩:=hp;rw [<- ht,ya2 hq] at h;exact h
 refine ⟨by simp [a0],hl,fun q f hq=>?_,fun j hj=>?_,fun s x hs u hu=>?_⟩
 ·rcases ya8 q first.length with h | h
  ·obtain ⟨a,e1,e2,e3⟩:=I.fr q f (h4 q f hq h);exact ⟨a,e1,by omega,h1 _ _ e3⟩
  ·have a3:=(zkI.1 hq).1;rcases hn with hn | ⟨rfl,hn,rfl⟩
   ·omega
   ·have e:q=first.length:=by omega
    subst e;rw [hf] at hq;injection hq with hq
    exact ⟨i,hq.symm,by omega,h2⟩
 ·rcases ya8 j c with h | h
  ·obtain ⟨q,a,e1,e2,e3⟩:=I.og j h;exact ⟨q,a,h1 _ _ e1,h3 _ _ e2,e3⟩
  ·have e:j=c:=by omega
   subst e;exact ⟨k,i,h2,hf,hi⟩
 ·rcases ya8 s c with h | h
  ·rw [ya2 (by omega)] at hs;obtain ⟨s',e1,e2⟩:=I.fo s x hs u hu;exact ⟨s',e1,h1 _ _ e2⟩
  ·have a2:=(zkI.1 hs).1;simp [a0] at a2;have e:s=c:=by omega
   subst e;rw [h2] at hs;injection hs with hs
   have hx:x=k:=by omega
   obtain ⟨a,e1,e2,e3⟩:=I.fr u _ (get_at (by omega));exact ⟨a,e2,h1 _ _ e3⟩
theorem numbered_eq {T:Nat->Nat->Prop} [∀ i j,Decidable (T i j)] {N:Nat} (hN:N<=64) {p:Int->Int->Option Bool} (hp:∀ i j,i<N->j<N->p (↑i:Int) (↑j:Int)=some (decide (T i j))) (hr:∀ i,T i i) (hs:∀ i j,T i j->T j i) (ht:∀ i j k,T i j->T j k->T i k) :
  ∃ (out:yab) (k:Int),zbe (↑N:Int) p=some (out,k)∧NumOk T N out:=by
 have key:=znr (step:=fun (s:yab×yab×Nat)=>zbe.s8 (↑N:Int) p s.1 s.2.1 s.2.2) (fun s=>s.2.2<=N∧NumI T s.2.2 s.1 s.2.1) (fun s=>N-s.2.2) (fun (r:yab×yab)=>NumOk T N r.1) (fun ⟨out,first,c⟩ ⟨hc,I⟩=>by
  simp only at hc I
  simp only [zbe.s8]
  have a0:=I.fl
  by_cases h:c<N
  ·left
   obtain ⟨r,e,hf⟩:=indexF2 (l:=first) (f:=fun u0=>zej u0 p (↑c:Int)) (fun x=>decide (T x.toNat c)) (by omega) fun x hx=>by
    obtain ⟨q,hq,rfl⟩:=ybn.1 hx
    obtain ⟨i,e1,e2,_⟩:=I.fr q _ (get_at hq)
    rw [e1]
    unfold zej
    rw [hp i c (by omega) h,zbz,ybz]
   rw [zkB (by omega),zkD,e,zbz]
   rcases hf with ⟨rfl,a3⟩ | ⟨k,x,rfl,h1,h2⟩
   ·rw [zkB (by omega),zkD,zb7 (by unfold za2;omega),zbz]
    unfold zbe.k7
    rw [zb7 (by have:=I.len;unfold za2;omega),zb7 (by unfold inR;omega)]
    refine ⟨(out++[(↑first.length:Int)],first++[(↑c:Int)],c+1),rfl,⟨h,I.push (k:=first.length) (i:=c) (yc9 _ _) (by simp) (hr c) (yam _) (by simp;omega) (.inr ⟨rfl,by simp,rfl⟩)⟩,by simp only;omega⟩
   ·obtain ⟨i,e1,e2,_⟩:=I.fr k _ h1
    subst e1
    have hk:=(zkI.1 h1).1
    have hT:T i c:=by simpa using h2
    rw [zkA (by omega),zkC,zbz]
    unfold zbe.k7
    rw [zb7 (by have:=I.len;unfold za2;omega),zb7 (by unfold inR;omega)]
    exact ⟨(out++[(↑k:Int)],first,c+1),rfl,⟨h,I.push (ycs _) h1 hT (Nat.le_of_lt hk) (Nat.le_succ_of_le a0) (.inl rfl)⟩,by simp only;omega⟩
  ·right
   have e:c=N:=by omega
   subst e
   refine ⟨(out,first),by rw [zkA (by omega),zkC],I.len,fun j hj=>?_,I.fo,fun i j k h1 h2=>?_⟩
   ·obtain ⟨k,_,e,_⟩:=I.og j hj
    exact ⟨k,e⟩
   ·have a2:=I.len
    have h1:out[i]?=some (↑k:Int):=h1
    have h2:out[j]?=some (↑k:Int):=h2
    have hi:=(zkI.1 h1).1
    have hj:=(zkI.1 h2).1
    obtain ⟨k1,a,e1,e2,e3⟩:=I.og i (by omega)
    obtain ⟨k2,b,f1,f2,f3⟩:=I.og j (by omega)
    rw [h1] at e1
    rw [h2] at f1
    injection e1 with e1
    injection f1 with f1
    have g1:k1=k:=by omega
    have g2:k2=k:=by omega
    subst g1
    subst g2
    rw [e2] at f2
    injection f2 with f2
    have g3:a=b:=by omega
    subst g3
    exact ht _ _ _ (hs _ _ e3) f3) ([],[],0) ⟨yas _,rfl,yam _,fun k f h=>by simp at h,fun j h=>absurd h (ybr _),fun s x h=>by simp at h⟩
 obtain ⟨⟨out,first⟩,e,hN⟩:=key;refine ⟨out,(↑first.length:Int),?_,hN⟩;unfold zbe;rw [e,zbz];rfl
section
variable {m:zaa} {c y:yab}
theorem zqx (hv:zhm m=0):∃ (cl:yab) (k:Int) (y c:yab),zig m=some (cl,k,0)∧RchS m y∧ClsF m m.Next.length c∧NumOk (TogP m c y) m.Inputs.toNat cl:=by
 have H:=zj5 hv;have h1:=H.i1;have h2:=H.i2;obtain ⟨y,ws,c,e,R,C⟩:=explore_eq hv;obtain ⟨out,k,e2,hN⟩:=numbered_eq (T:=TogP m c y) (N:=m.Inputs.toNat) (by omega) (p:=fun u0 u1=>zhb u0 u1 ⟨m,y,ws,c⟩) (fun i j hi hj=>together_eq H C R hi hj) (fun i s _=>⟨rfl,rfl⟩) (fun i j h s hs=>⟨(h s hs).1.symm,(h s hs).2.symm⟩) fun i j k h g s hs=>⟨(h s hs).1.trans (g s hs).1,(h s hs).2.trans (g s hs).2⟩;refine ⟨out,k,y,c,?_,R,C,hN⟩;unfold zig;rw [zfd,zbz,hv,zkA (by decide),zkC,e,zbz];have e3:(↑m.Inputs.toNat:Int)=m.Inputs:=by omega
 rw [e3] at e2;rw [e2,zbz]
theorem zvk (hv:zhm m≠0):zig m=some ([],0,zhm m):=by
 unfold zig;rw [zfd,zbz,zkB hv,zkD]
end
end
theorem zsf {w:yab} {n:Int} (h:zhq w n=0):w.length<=1024∧∀ a∈w,0<=a∧a<n:=by
 unfold zhq at h;split at h
 ·split at h
  ·cases h
  ·split at h
   ·rename_i g1 g2 g3;exact ⟨by omega,fun a ha=>by simpa using ybf.1 g3 a ha⟩
   ·cases h
 ·cases h
structure ClK (N K:Nat) (cl:yab):Prop where
 len:cl.length=N
 nat:∀ j,j<N->∃ k:Nat,cl[j]?=some (↑k:Int)∧k<K
 on:∀ k,k<K->∃ j,j<N∧cl[j]?=some (↑k:Int)
 k1:1<=K
 k2:K<=N
def clC (cl:yab) (j:Nat):Nat:=((cl[j]?).getD 0).toNat
theorem ClK.at {N K:Nat} {cl:yab} (L:ClK N K cl) {j:Nat} (hj:j<N):cl[j]?=some (↑(clC cl j):Int)∧clC cl j<K:=by
 obtain ⟨k,h1,h2⟩:=L.nat j hj
 have e:clC cl j=k:=by
  unfold clC;rw [h1,yba];omega
 rw [e];exact ⟨h1,h2⟩
theorem fo_le {cl:yab} (h:zs9 cl):∀ (x s:Nat),cl[s]?=some (↑x:Int)->x<=s
 | 0,_,_=>yas _
 | x+1,s,hs=>by
  obtain ⟨s',h1,h2⟩:=h s (x+1) hs x (by omega);have:=fo_le h x s' h2;omega
abbrev mapC (N K:Nat) (cl:yab):zbt:=⟨(↑N:Int),(↑K:Int),0,[List.replicate N 0],[cl]⟩
theorem zrx {T:Nat->Nat->Prop} {N:Nat} {cl:yab} (h1:1<=N) (h2:N<=64) (C:NumOk T N cl):∃ K,ClK N K cl∧zd4 cl=some (mapC N K cl,0):=by
 have a0:=C.len
 have key:=zg9 (step:=fun (s:Int×Nat)=>zd4.s2 cl s.1 s.2) (fun s=>s.2<=N∧∃ K:Nat,s.1=(↑K:Int)∧K<=s.2∧(∀ (j k:Nat),j<s.2->cl[j]?=some (↑k:Int)->k<K)∧∀ k,k<K->∃ j,j<s.2∧cl[j]?=some (↑k:Int)) (fun s=>N-s.2)
  (fun (r:Int⊕(zbt×Int))=>∃ K:Nat,r=.inl (↑K:Int)∧ClK N K cl) (fun ⟨n,j⟩ ⟨hj,K,hK,a2,ha,hb⟩=>by
  simp only at hj hK a2 ha hb
  subst hK
  simp only [zd4.s2]
  by_cases h:j<N
  ·left
   obtain ⟨x,hx⟩:=C.nat j h
   have a4:x<=K:=by
    rcases yb4 x with h0 | h0
    ·omega
    ·obtain ⟨s',e1,e2⟩:=C.fo j x hx (x-1) (by omega)
     have:=ha s' (x-1) e1 e2
     omega
   rw [zkB (by omega),zkD,zbg hx,zkA (by omega),zkC,zkA (by omega),zbz,zkC,zb7 (by unfold inR;omega)]
   refine ⟨(max (↑K:Int) ((↑x:Int)+1),j+1),rfl,⟨h,max K (x+1),by simp only;omega,by simp only;have:=fo_le C.fo x j hx;omega,fun i k hi hk=>?_,fun k hk=>?_⟩,by simp only;omega⟩
   ·rcases ya8 i j with h3 | h3
    ·have:=ha i k h3 hk;omega
    ·simp only at hi
     have e:i=j:=by omega
     subst e
     rw [hx] at hk
     injection hk with hk
     omega
   ·rcases ya8 k K with h3 | h3
    ·obtain ⟨i,e1,e2⟩:=hb k h3
     exact ⟨i,by simp only;omega,e2⟩
    ·have e:k=x:=by omega
     subst e
     exact ⟨j,by simp only;omega,hx⟩
  ·right
   have e:j=N:=by omega
   subst e
   have a3:1<=K:=by
    obtain ⟨x,hx⟩:=C.nat 0 (by omega)
    have:=ha 0 x (by omega) hx
    omega
   exact ⟨_,by rw [zkA (by omega),zkC],K,rfl,a0,fun i hi=>by
    obtain ⟨x,hx⟩:=C.nat i hi
    exact ⟨x,hx,ha i x hi hx⟩,hb,a3,a2⟩) fuel ((0:Int),0) ⟨yas _,0,rfl,yam _,fun j k h=>absurd h (ybr _),fun k h=>absurd h (ybr _)⟩ (by have:=zh3;simp only;omega)
 obtain ⟨r,e,K,rfl,L⟩:=key;refine ⟨K,L,?_⟩;unfold zd4;rw [zkA (by omega),zkC,zkA (by omega),zbz,zkC,e,zbz,Sum.elim_inl,zb7 (by unfold za2;omega)];unfold zdg zs8;rw [zb7 (by unfold za2;omega),zbz,a0]
theorem znj {N K:Nat} {cl:yab} (h2:N<=64) (L:ClK N K cl):zcz (mapC N K cl)=some 0:=by
 have a3:=L.k1;have a2:=L.k2;unfold zcz
 have key:iter (fun (s:Nat)=>zcz.s14 (mapC N K cl) s) fuel 0=some (.inl ():Unit⊕Int):=by
  refine (zho (l:=[List.replicate N (0:Int)]) (fun _ _=>(none:Option Int)) (fun i x hx=>?_) ?_ (by simp)).trans rfl
  ·match i,hx with
   | 0,hx =>
    injection hx with hx
    subst hx;simp only [zcz.s14]
    have a0:iter (fun (s:Nat)=>zcz.s13 (mapC N K cl) 0 s) fuel 0=some (.inl ():Unit⊕(Nat⊕(Unit⊕Int))):=by
     refine (zho (l:=cl) (fun _ _=>(none:Option (Nat⊕(Unit⊕Int)))) (fun j x hx=>?_) ?_ (by rw [L.len];omega)).trans (by rw [zkl.2 fun _ _ _=>rfl])
     ·have hj:j<N:=by rw [<- L.len];exact (zkI.1 hx).1
      obtain ⟨e1,e2⟩:=L.at hj;have h0:(List.replicate N (0:Int))[j]?=some 0:=by rw [ycc,if_pos hj]
      simp only [zcz.s13];rw [zkB (by omega),zkD,zbg (l:=[List.replicate N (0:Int)]) (i:=0) rfl,zbg h0,zbg (l:=[cl]) (i:=0) rfl,zbg e1,zkA (by omega),zkC,zkA (by simp),zkC,zkA (by omega),zkC,zkA (by omega),zbz,zkC,zb7 (by unfold inR;omega)]
     ·simp only [zcz.s13];rw [L.len,zkA (by omega),zkC]
    rw [show decide ((↑(0:Nat):Int)<(↑([List.replicate N (0:Int)].length):Int))=true from rfl,zkD,zbg (l:=[List.replicate N (0:Int)]) (i:=0) rfl,zkA (by simp),zkC,zbg (l:=[cl]) (i:=0) rfl,zkA (by rw [L.len];simp),zbz,zkC];exact (congrArg (fun z=>Option.bind z _) a0).trans rfl
   | i+1,hx=>simp at hx
  ·simp only [zcz.s14];rfl
 rw [zkA (by simp only;omega),zkC,zkA (by simp only;omega),zkC,zkA (by simp only;omega),zkC,zkA (by simp only;omega),zbz,zkC,zkA (by simp),zkC,zkA (by simp),zkC,zkA (by simp),zkC,zkA (by simp),zbz,zkC,zkA (by simp),zkC];exact (congrArg (fun z=>Option.bind z _) key).trans rfl
def absW (cl w:yab):yab:=w.map fun a=>(↑(clC cl a.toNat):Int)
theorem zp6 {N K:Nat} {cl w:yab} (h2:N<=64) (L:ClK N K cl) (hw:zhq w (↑N:Int)=0):zdj (mapC N K cl) w=some (absW cl w,0):=by
 have hl:=zru hw;have a0:=(zsf hw).2
 have key:=zof (step:=fun (s:yaa×yaa×Int×yab×Nat)=>zdj.s2 w ⟨mapC N K cl,0⟩ s.1 s.2.1 s.2.2.1 s.2.2.2.1 s.2.2.2.2) (r:=absW cl w) (fun s=>s.2.2.2.2<=w.length∧s.1=[List.replicate N 0]∧s.2.1=[cl]∧s.2.2.1=0∧s.2.2.2.1=absW cl (w.take s.2.2.2.2)) (fun s=>w.length-s.2.2.2.2) (fun ⟨n,y,q,o,k⟩ ⟨g1,g2,g3,g4,g5⟩=>by
  simp only at g1 g2 g3 g4 g5
  subst g2 g3 g4 g5
  simp only [zdj.s2]
  by_cases h:k<w.length
  ·left
   have hx:=get_at h
   obtain ⟨a1,a2⟩:=a0 _ (yb5 h)
   obtain ⟨e1,e2⟩:=L.at (j:=w[k].toNat) (by omega)
   have h0:(List.replicate N (0:Int))[w[k].toNat]?=some 0:=by rw [ycc,if_pos (by omega)]
   have hs:zfw (⟨mapC N K cl,0⟩:zc1) w[k]=some ((↑(clC cl w[k].toNat):Int),(⟨mapC N K cl,0⟩:zc1)):=by
    unfold zfw
    refine (zg4 (l:=[cl]) (i:=0) (x:=cl) rfl rfl).trans ?_
    refine (zg4 (i:=w[k].toNat) (by omega) e1).trans ?_
    refine (zg4 (l:=[List.replicate N (0:Int)]) (i:=0) (x:=List.replicate N 0) rfl rfl).trans ?_
    exact zg4 (i:=w[k].toNat) (by omega) h0
   rw [zlc hx,zkD,zbg hx]
   refine ⟨([List.replicate N 0],[cl],0,absW cl (w.take k)++[(↑(clC cl w[k].toNat):Int)],k+1),?_,⟨h,rfl,rfl,rfl,?_⟩,by simp only;omega⟩
   ·refine (congrArg (fun z=>Option.bind z _) hs).trans ?_
    rw [zbz,zb7 (by unfold absW za2;simp;omega)]
   ·show absW cl (w.take k)++[(↑(clC cl w[k].toNat):Int)]=absW cl (w.take (k+1))
    rw [zft hx]
    unfold absW
    rw [ya9]
    rfl
  ·right
   rw [zkA (by omega),zkC,ybh (by omega)]) (n:=fuel) (s:=([List.replicate N (0:Int)],[cl],(0:Int),[],0)) ⟨yas _,rfl,rfl,rfl,by simp [absW]⟩
 unfold zdj zlf;rw [znj h2 L,zbz,zkA (by decide),zkC,zqp _ _ (by unfold SmW;omega),zbz,hw,zkA (by decide),zkC,zbz];exact (congrArg (fun z=>Option.bind z _) key).trans rfl
section
theorem zt1 (x:Int):∀ l:yab,(insZ x l).Perm (x::l)
 | []=>List.Perm.refl _
 | y::l=>by
  unfold insZ;by_cases h:x<=y
  ·rw [zkB h,zkD]
  ·rw [zkA h,zkC];exact ((zt1 x l).cons y).trans (List.Perm.swap x y l)
theorem zph:∀ l:yab,(zko l).Perm l
 | []=>List.Perm.refl _
 | x::l=>(zt1 x _).trans ((zph l).cons x)
theorem zuw (x:Int):∀ l:yab,l.Pairwise (·<=·)->(insZ x l).Pairwise (·<=·)
 | [],_=>by simp [insZ]
 | y::l,h=>by
  have hc:=ybi.1 h;unfold insZ;by_cases hx:x<=y
  ·rw [zkB hx,zkD]
   exact ybi.2 ⟨fun z hz=>by
    rcases yau.1 hz with rfl | hz
    ·exact hx
    ·exact Int.le_trans hx (hc.1 z hz),h⟩
  ·rw [zkA hx,zkC]
   exact ybi.2 ⟨fun z hz=>by
    rcases yau.1 ((zt1 x l).mem_iff.1 hz) with rfl | hz
    ·omega
    ·exact hc.1 z hz,zuw x l hc.2⟩
theorem zp9:∀ l:yab,(zko l).Pairwise (·<=·)
 | []=>List.Pairwise.nil
 | x::l=>zuw x _ (zp9 l)
theorem zos {l:yab} (h:l.length<=1000):zgb l=some (zko l):=by
 unfold zgb;rw [zb7 (by omega)]
def zsl (l:yab) (n:Nat) (z:yab):Prop:=z.Pairwise (·<·)∧∀ x,x∈z↔x∈l.take n
theorem zsl.step {l z:yab} (hs:l.Pairwise (·<=·)) {n:Nat} (h:zsl l (n+1) z) (hn:n+1<l.length):(l[n+1]=l[n]->zsl l (n+2) z)∧(l[n+1]≠l[n]->zsl l (n+2) (z++[l[n+1]])):=by
 have hx:=get_at hn
 have a0:∀ i,(hi:i<=n)->l[i]<=l[n]:=fun i hi=>by
  rcases ya8 i n with h1 | h1
  ·exact yca.1 hs i n (by omega) (by omega) h1
  ·have e:i=n:=by omega
   subst e;exact Int.le_refl _
 have a2:l[n]<=l[n+1]:=yca.1 hs n (n+1) (by omega) hn (by omega);refine ⟨fun e=>⟨h.1,fun x=>?_⟩,fun e=>⟨?_,fun x=>?_⟩⟩
 ·rw [zft hx,yal,yaw,<- h.2 x];refine ⟨.inl,fun q=>q.elim id fun q=>?_⟩;rw [q,e,h.2,zft (get_at (show n<l.length by omega))];exact yaf _ (yaw.2 rfl)
 ·rw [ycy];refine ⟨h.1,yc6 _ _,fun a ha b hb=>?_⟩;rw [yaw] at hb;subst hb;obtain ⟨i,hi,rfl⟩:=ybn.1 ((h.2 a).1 ha);rw [yak] at hi;rw [List.getElem_take];have:=a0 i (by omega);omega
 ·rw [zft hx,yal,yal,h.2 x]
theorem take_set_step {y:yab} {p:Nat} {u:Int} (hp:p<y.length):(y.set p u).take (p+1)=y.take p++[u]:=by
 rw [zft (x:=u) (by simp [hp])];congr 1;apply yb7;intro j;simp only [yax];by_cases h:j<p
 ·rw [if_pos h,if_pos h,yb1 (by omega)]
 ·rw [if_neg h,if_neg h]
theorem compact_once {l:yab} (hl:l.length<=1000) (hs:l.Pairwise (·<=·)):∃ z,zan l=some z∧z.Pairwise (·<·)∧∀ x,x∈z↔x∈l:=by
 unfold zan;by_cases h2:l.length<2
 ·rw [zkB (by omega),zkD];refine ⟨l,rfl,?_,fun x=>Iff.rfl⟩
  match l,h2 with
  | [],_=>exact List.Pairwise.nil
  | [x],_=>exact yc6 _ _
  | _::_::_,h2=>simp at h2;omega
 rw [zkA (by omega),zkC]
 have a2:∀ k,1<=k->k<l.length->zsl l (k+1) (l.take k)->∃ z:yab×Nat,iter (fun (s:yab×Nat×Nat)=>zan.s18 k s.1 s.2.1 s.2.2) fuel (l,k,1)=some z∧z.1.length=l.length∧z.2<=l.length∧zsl l l.length (z.1.take z.2):=fun k a3 hk hO =>
  znr (step:=fun (s:yab×Nat×Nat)=>zan.s18 k s.1 s.2.1 s.2.2) (fun s=>s.1.length=l.length∧1<=s.2.2∧s.2.1+1<=k+s.2.2∧k+s.2.2<=l.length∧k<=s.2.1∧(∀ j,k+s.2.2-1<=j->s.1[j]?=l[j]?)∧zsl l (k+s.2.2) (s.1.take s.2.1)) (fun s=>(l.length+2)-s.2.2) (fun z=>z.1.length=l.length∧z.2<=l.length∧zsl l l.length (z.1.take z.2)) (fun ⟨y,p,q⟩ ⟨g1,g2,g3,g4,g5,g6,g7⟩=>by
   simp only at g1 g2 g3 g4 g5 g6 g7
   simp only [zan.s18]
   by_cases h:k+q<l.length
   ·left
    have u1:y[k+q]?=some l[k+q]:=by rw [g6 _ (by omega)];exact get_at h
    have v1:y[k+(Int.toNat ((↑q:Int)-1))]?=some (l[k+q-1]'(by omega)):=by
     rw [show k+(Int.toNat ((↑q:Int)-1))=k+q-1 by omega,g6 _ (by omega)];exact get_at _
    have w1:=get_at (l:=y) (i:=p) (by omega)
    obtain ⟨n,hn⟩:∃ n,k+q=n+1:=⟨k+q-1,by omega⟩
    have a0:=zsl.step hs (n:=n) (by rw [<- hn];exact g7) (by omega)
    have e1:l[k+q]=l[n+1]'(by omega):=by simp only [hn]
    have e2:l[k+q-1]'(by omega)=l[n]'(by omega):=by simp only [hn];rfl
    rw [zkB (by omega),zkD,zbg u1,zb7 (by omega),zbg v1]
    by_cases hc:l[k+q]=l[k+q-1]
    ·rw [zkA (fun h=>h hc),zkC]
     exact ⟨(y,p,q+1),rfl,⟨g1,by simp only;omega,by simp only;omega,by simp only;omega,g5,fun j hj=>g6 j (by simp only at hj;omega),by
      have:=a0.1 (by rw [<- e1,<- e2];exact hc)
      simp only
      rw [show k+(q+1)=n+2 by omega]
      exact this⟩,by simp only;omega⟩
    ·rw [zkB hc,zkD,zbg u1,zbg w1,zb7 (by unfold inR;omega)]
     refine ⟨(y.set p l[k+q],p+1,q+1),rfl,⟨by simp [g1],by simp only;omega,by simp only;omega,by simp only;omega,by simp only;omega,fun j hj=>?_,?_⟩,by simp only;omega⟩
     ·simp only at hj ⊢
      rw [yb1 (by omega),g6 j (by omega)]
     ·simp only
      rw [take_set_step (by omega),show k+(q+1)=n+2 by omega,e1]
      exact a0.2 (by rw [<- e1,<- e2];exact hc)
   ·right
    refine ⟨(y,p),by rw [zkA (by omega),zkC],g1,by simp only;omega,?_⟩
    have e:k+q=l.length:=by omega
    rw [e] at g7
    exact g7) _ ⟨rfl,yam _,yam _,hk,yam _,fun j _=>rfl,hO⟩
 obtain ⟨r,e,h⟩:=znr (step:=fun (s:Nat)=>zan.s20 l s) (fun s=>1<=s∧s<=l.length∧zsl l s (l.take s)) (fun s=>l.length-s) (fun r=>match r with
  | .inl ()=>l.Pairwise (·<·)
  | .inr z=>z.Pairwise (·<·)∧∀ x,x∈z↔x∈l) (fun k ⟨g1,g2,g3⟩=>by
  simp only [zan.s20]
  by_cases h:k<l.length
  ·have hx:=get_at h
   have hy:=get_at (l:=l) (i:=k-1) (by omega)
   obtain ⟨n,rfl⟩:∃ n,k=n+1:=⟨k-1,by omega⟩
   have a0:=zsl.step hs g3 h
   have e2:l[n+1-1]'(by omega)=l[n]'(by omega):=rfl
   rw [zkB (by omega),zkD,zbg hx,zg4 (i:=n+1-1) (by omega) hy]
   by_cases hc:l[n+1]=l[n+1-1]
   ·right
    obtain ⟨⟨z,p⟩,e,z1,z2,z3⟩:=a2 (n+1) g1 h (a0.1 hc)
    simp only at z1 z2 z3
    rw [zkB hc,zkD,zb7 (by omega),e,zbz]
    unfold zan.k19
    simp only
    rw [zb7 (by omega),zb7 (by omega),zb7 (by rw [zkJ,yak,ybv];omega)]
    refine ⟨_,rfl,?_⟩
    show List.Pairwise _ _∧_
    rw [yb0 (by rw [yak];omega),ydn,Nat.min_self]
    exact ⟨z3.1,fun x=>by rw [z3.2,ycm]⟩
   ·left
    rw [zkA hc,zkC]
    refine ⟨n+1+1,rfl,⟨by omega,h,?_⟩,by omega⟩
    rw [zft hx]
    exact a0.2 hc
  ·right
   have e:k=l.length:=by omega
   subst e
   rw [zkA (by omega),zkC]
   refine ⟨.inl (),rfl,?_⟩
   have:=g3.1
   rw [ycm] at this
   exact this) 1 ⟨yam _,by omega,by
    match l,h2 with
    | [],h2=>simp at h2
    | x::l,_=>simp [zsl],fun x=>Iff.rfl⟩
 rw [e,zbz];cases r with
 | inl u=>exact ⟨l,rfl,h,fun x=>Iff.rfl⟩
 | inr z=>exact ⟨z,rfl,h⟩
theorem zpn {l:yab} (h:l.length<=1000):∃ z,((zgb l).bind fun c=>zan c)=some z∧z.Pairwise (·<·)∧∀ x,x∈z↔x∈l:=by
 obtain ⟨z,h1,h2,h3⟩:=compact_once (l:=zko l) (by rw [(zph l).length_eq];exact h) (zp9 l);exact ⟨z,by rw [zos h,zbz,h1],h2,fun x=>by rw [h3,(zph l).mem_iff]⟩
section
variable {m:zaa}
theorem znc (hv:zhm m=0) (hn:m.Next.length<=6) (hi:m.Inputs<=3):∃ z,zd8 m=some z∧z.Pairwise (·<·)∧∀ s a,s<m.Next.length->a<m.Inputs.toNat->ot m s a∈z:=by
 have H:=zj5 hv
 have key:=zof (step:=fun (s:yab×Nat)=>zd8.s2 m s.1 s.2) (r:=m.Out.flatten) (fun s=>s.2<=m.Out.length∧s.1=(m.Out.take s.2).flatten∧s.1.length<=3*s.2) (fun s=>m.Out.length-s.2) (fun ⟨y,k⟩ ⟨g1,g2,g3⟩=>by
  simp only at g1 g2 g3
  have a2:=H.ol
  simp only [zd8.s2]
  by_cases h:k<m.Out.length
  ·left
   have hx:=get_at h
   obtain ⟨_,z,_,e2,_,e4,_⟩:=H.row k (by omega)
   have ez:z=m.Out[k]:=by rw [hx] at e2;injection e2 with e2;exact e2.symm
   rw [ez] at e4
   rw [zlc hx,zkD,zbg hx,zb7 (by unfold za2;omega)]
   exact ⟨(y++m.Out[k],k+1),rfl,⟨h,by show y++m.Out[k]=(m.Out.take (k+1)).flatten;rw [g2,zft hx,ybt];simp,by simp only [zkJ];omega⟩,by simp only;omega⟩
  ·right
   rw [zkA (by omega),zkC,g2,ybh (by omega)]) (n:=fuel) (s:=([],0)) ⟨yas _,rfl,yam _⟩ (by have:=zh3;have:=H.ol;simp only;omega)
 have a0:m.Out.flatten.length<=1000:=by
  have a2:=H.ol
  have:∀ (l:yaa),(∀ x∈l,x.length<=3)->l.flatten.length<=3*l.length:=by
   intro l
   induction l with
   | nil=>intro _;simp
   | cons x l ih =>
    intro h;have h1:=h x (by simp);have h2:=ih fun y hy=>h y (yay _ hy);simp only [ya4,zkJ,zkL];omega
  have h3:=this m.Out fun x hx=>by
   obtain ⟨k,hk,rfl⟩:=ybn.1 hx;obtain ⟨_,z,_,e2,_,e4,_⟩:=H.row k (by omega);rw [get_at hk] at e2;injection e2 with e2
   rw [<- e2] at e4;omega
  omega
 obtain ⟨z,h1,h2,h3⟩:=zpn a0;refine ⟨z,?_,h2,fun s a hs ha=>?_⟩
 ·unfold zd8;rw [zfd,zbz,hv,zkA (by decide),zkC,key,zbz];rw [zos a0,zbz] at h1;rw [zos a0,zbz,h1,zbz]
 ·rw [h3];obtain ⟨_,_,_,x,w,_,e2,_,e4⟩:=H.at hs ha;exact yc0.2 ⟨w,zkH e2,zkH e4⟩
end
end
section
section
variable {m:zaa} {cl c y:yab} {N K:Nat}
structure GoodL (m:zaa) (c y L:yab):Prop where
 asc:L.Pairwise (·<·)
 ne:L≠[]
 inn:∀ u∈L,u∈y
 eqv:∀ u∈L,∀ v∈L,c[u.toNat]?=c[v.toNat]?
theorem range_le {l:yab} {n:Nat} (h:l.Pairwise (·<·)) (hr:∀ u∈l,0<=u∧u<(↑n:Int)):l.length<=n:=by
 have:=zsy (l:=l) (l':=(List.range n).map fun (i:Nat)=>(↑i:Int)) (h.imp fun h=>by omega) fun u hu=>by
  obtain ⟨h1,h2⟩:=hr u hu;exact yap.2 ⟨u.toNat,ycz.2 (by omega),by omega⟩
 simpa using this
structure Rnd (m:zaa) (cl c y:yab) (N K:Nat):Prop where
 ok:zik m
 n6:m.Next.length<=6
 n3:N<=3
 ni:(↑N:Int)=m.Inputs
 rch:RchS m y
 cls:ClsF m m.Next.length c
 num:NumOk (TogP m c y) N cl
 clk:ClK N K cl
theorem Rnd.same (R:Rnd m cl c y N K) {s t a b:Nat} (hs:(↑s:Int)∈y) (ht:(↑t:Int)∈y) (he:c[s]?=c[t]?) (ha:a<N) (hb:b<N) (hab:clC cl a=clC cl b):ot m s a=ot m t b∧c[nx m s a]?=c[nx m t b]?:=by
 have H:=R.ok;have h1:=(R.rch.rg _ hs).2;have h2:=(R.rch.rg _ ht).2;have a2:=R.ni;have hE:=(R.cls.cls.cls s t (by omega) (by omega)).1 he;have a0:=E_all H (by omega) (by omega) hE (m.Next.length+1);obtain ⟨e1,e2⟩:=a0.2 a (by omega);have e3:=(R.cls.cls.cls _ _ (H.at (s:=s) (by omega) (by omega)).1 (H.at (s:=t) (by omega) (by omega)).1).2 e2;obtain ⟨a1,_⟩:=R.clk.at ha;obtain ⟨b1,_⟩:=R.clk.at hb;obtain ⟨g1,g2⟩:=R.num.snd a b _ a1 (by rw [hab];exact b1) (↑t:Int) ht;rw [ybz] at g1 g2;exact ⟨e1.trans g1,e3.trans g2⟩
abbrev bldC (m:zaa) (N K:Nat) (cl:yab) (sets:List zas) (of:List (ByteArray×Int)):zbw:=⟨m,mapC N K cl,sets,of⟩
structure AftI (m:zaa) (cl:yab) (N x:Nat) (o:Int) (L:yab) (k:Nat) (os ns:yab):Prop where
 o1:∀ u∈os,u=1+o
 o2:0<k->os≠[]
 n1:∀ u∈ns,∃ s a:Nat,(↑s:Int)∈L∧a<N∧clC cl a=x∧u=(↑(nx m s a):Int)
 n2:∀ (i s:Nat),i<k->L[i]?=some (↑s:Int)->∀ a,a<N->clC cl a=x->(↑(nx m s a):Int)∈ns
 l1:os.length<=3*k
 l2:ns.length<=3*k
theorem after_row (R:Rnd m cl c y N K) {sets:List zas} {of:List (ByteArray×Int)} {x:Nat} (hx:x<K) {o:Int} {L:yab} (hL:∀ u∈L,u∈y) (ho:∀ s a:Nat,(↑s:Int)∈L->a<N->clC cl a=x->ot m s a=o) (ho2:0<=o∧o<=1048576) {k s:Nat} (hk:L[k]?=some (↑s:Int)) (hk6:k<6) {os ns:yab} (A:AftI m cl N x o L k os ns) :
  ∃ r:yab×yab×Bool,iter (fun (q:yab×yab×Bool×Nat)=>zap.s18 (bldC m N K cl sets of) (↑x:Int) (↑s:Int) q.1 q.2.1 q.2.2.1 q.2.2.2) fuel (os,ns,false,0)=some r∧r.2.2=true∧AftI m cl N x o L (k+1) r.1 r.2.1:=by
 have H:=R.ok;have a9:=R.ni;have b0:=R.n3;have a6:=zkH hk;obtain ⟨s0,s1⟩:=R.rch.rg _ (hL _ a6);have a8:=H.n1;have a7:=H.n2;have hd:(↑s:Int) / (↑m.Next.length:Int)=0:=Int.ediv_eq_zero_of_lt s0 s1;have hm:(↑s:Int)%(↑m.Next.length:Int)=(↑s:Int):=Int.emod_eq_of_lt s0 s1
 refine zg9 (step:=fun (q:yab×yab×Bool×Nat)=>zap.s18 (bldC m N K cl sets of) (↑x:Int) (↑s:Int) q.1 q.2.1 q.2.2.1 q.2.2.2)
  (fun q=>q.2.2.2<=N∧(∀ u∈q.1,u=1+o)∧(0<k->q.1≠[])∧(q.2.2.1=true->q.1≠[])∧(∀ u∈q.2.1,∃ s a:Nat,(↑s:Int)∈L∧a<N∧clC cl a=x∧u=(↑(nx m s a):Int))∧(∀ u∈ns,u∈q.2.1)∧(∀ a,a<q.2.2.2->clC cl a=x->(↑(nx m s a):Int)∈q.2.1∧q.2.2.1=true)∧q.1.length<=3*k+q.2.2.2∧q.2.1.length<=3*k+q.2.2.2)
  (fun q=>N-q.2.2.2) (fun r=>r.2.2=true∧AftI m cl N x o L (k+1) r.1 r.2.1) (fun ⟨p,q,b,j⟩ ⟨g1,g2,g3,g4,g5,g6,g7,g8,g9⟩=>?_) fuel _ ⟨yas _,A.o1,A.o2,(by intro h;cases h),A.n1,fun u h=>h,fun a h=>absurd h (ybr _),A.l1,A.l2⟩ (by have:=zh3;simp only;omega)
 simp only at g1 g2 g3 g4 g5 g6 g7 g8 g9;simp only [zap.s18];rw [hd,hm];by_cases h:j<N
 ·left;obtain ⟨c1,c2⟩:=R.clk.at h;obtain ⟨a1,a2,a3,xr,zr,e1,e2,e3,e4⟩:=H.at (s:=s) (a:=j) (by omega) (by omega);have h0:(List.replicate N (0:Int))[j]?=some 0:=by rw [ycc,if_pos h]
  rw [zkB (by omega),zkD];by_cases hc:clC cl j=x
  ·refine ⟨(p++[1+ot m s j],q++[(↑(nx m s j):Int)],true,j+1),?_,⟨h,?_,fun _=>by simp,fun _=>by simp,?_,fun u hu=>yai _ (g6 u hu),?_,?_,?_⟩,by simp only;omega⟩
   ·refine (zg4 (l:=[cl]) (i:=0) (x:=cl) rfl rfl).trans ?_;rw [zbg c1,zkB (by omega),zkD,znu,zbg e2,zbg e4,zb7 (by unfold inR;omega),zb7 (by unfold za2;omega)];refine (zg4 (l:=[List.replicate N (0:Int)]) (i:=0) (x:=List.replicate N 0) rfl rfl).trans ?_;rw [zbg h0,Int.zero_mul,zb7 (by unfold inR;omega),znu,zbg e1,zbg e3,Int.zero_add,zb7 (by unfold inR;omega),zb7 (by unfold za2;omega),zb7 (by unfold inR;omega)]
   ·intro u hu;rcases yal.1 hu with hu | hu
    ·exact g2 u hu
    ·rw [yaw.1 hu,ho s j a6 h hc]
   ·intro u hu;rcases yal.1 hu with hu | hu
    ·exact g5 u hu
    ·exact ⟨s,j,a6,h,hc,yaw.1 hu⟩
   ·intro a ha a4;refine ⟨?_,rfl⟩;rcases ya8 a j with h3 | h3
    ·exact yai _ (g7 a h3 a4).1
    ·have e:a=j:=by simp only at ha;omega
     subst e;simp
   ·simp;omega
   ·simp;omega
  ·refine ⟨(p,q,b,j+1),?_,⟨h,g2,g3,g4,g5,g6,fun a ha a4=>?_,by simp only;omega,by simp only;omega⟩,by simp only;omega⟩
   ·refine (zg4 (l:=[cl]) (i:=0) (x:=cl) rfl rfl).trans ?_;rw [zbg c1,zkA (by omega),zkC,zb7 (by unfold inR;omega)]
   ·rcases ya8 a j with h3 | h3
    ·exact g7 a h3 a4
    ·have e:a=j:=by simp only at ha;omega
     subst e;exact absurd a4 hc
 ·right;have ej:j=N:=by omega
  subst ej;obtain ⟨a,ha,a0⟩:=R.clk.on x hx
  have a0:clC cl a=x:=by
   unfold clC;rw [a0,yba];omega
  have hb:=(g7 a ha a0).2;refine ⟨(p,q,b),by rw [zkA (by omega),zkC],hb,g2,fun _=>g4 hb,g5,fun i s' hi a5 a ha a0=>?_,by simp only;omega,by simp only;omega⟩;rcases ya8 i k with h3 | h3
  ·exact g6 _ (A.n2 i s' h3 a5 a ha a0)
  ·have e:i=k:=by omega
   subst e;rw [hk] at a5;injection a5 with a5
   have e:s=s':=by omega
   subst e;exact (g7 a ha a0).1
theorem once_one {z:yab} {v:Int} (h:z.Pairwise (·<·)) (hv:∀ u∈z,u=v) (hn:z≠[]):z=[v]:=by
 match z,hn with
 | [a],_=>rw [hv a (by simp)]
 | a::b::z,_ =>
  have h1:=hv a (by simp);have h2:=hv b (by simp);have h3:=(ybi.1 h).1 b (by simp);omega
theorem after_eq (R:Rnd m cl c y N K) {sets:List zas} {of:List (ByteArray×Int)} {x:Nat} (hx:x<K) {L:yab} (G:GoodL m c y L) :
  ∃ (o:Int) (z:yab),zap (bldC m N K cl sets of) L (↑x:Int)=some ([1+o],z,bldC m N K cl sets of)∧(∀ s a:Nat,(↑s:Int)∈L->a<N->clC cl a=x->ot m s a=o∧(↑(nx m s a):Int)∈z)∧GoodL m c y z∧(∃ s a:Nat,s<m.Next.length∧a<m.Inputs.toNat∧o=ot m s a)∧0<=o∧o<=1048576:=by
 have H:=R.ok;have b8:=R.ni;have b5:=R.n6
 obtain ⟨u0,a6⟩:∃ u,u∈L:=by
  match L,G.ne with
  | u::_,_=>exact ⟨u,by simp⟩
 obtain ⟨s0,rfl⟩:∃ s:Nat,u0=(↑s:Int):=⟨u0.toNat,by have:=(R.rch.rg _ (G.inn _ a6)).1;omega⟩;have b9:=(R.rch.rg _ (G.inn _ a6)).2;obtain ⟨a0,a8,a7⟩:=R.clk.on x hx
 have a7:clC cl a0=x:=by
  unfold clC;rw [a7,yba];omega
 have b7:L.length<=6:=yce (range_le G.asc fun u hu=>R.rch.rg u (G.inn u hu)) b5;have a4:∀ s a:Nat,(↑s:Int)∈L->a<N->clC cl a=x->ot m s a=ot m s0 a0∧c[nx m s a]?=c[nx m s0 a0]?:=fun s a hs ha a3=>R.same (G.inn _ hs) (G.inn _ a6) (by have:=G.eqv _ hs _ a6;simpa using this) ha a8 (a3.trans a7.symm);obtain ⟨_,p1,p2,_⟩:=H.at (s:=s0) (a:=a0) (by omega) (by omega)
 have key:=zg9 (step:=fun (s:yab×yab×Nat)=>zap.s20 (bldC m N K cl sets of) L (↑x:Int) s.1 s.2.1 s.2.2) (fun s=>s.2.2<=L.length∧AftI m cl N x (ot m s0 a0) L s.2.2 s.1 s.2.1) (fun s=>L.length-s.2.2)
  (fun (r:yab×yab)=>AftI m cl N x (ot m s0 a0) L L.length r.1 r.2) (fun ⟨p,q,k⟩ ⟨g1,g2⟩=>by
  simp only at g1 g2
  simp only [zap.s20]
  by_cases h:k<L.length
  ·left
   have hk:=get_at h
   have a5:=yb5 h
   obtain ⟨r1,r2⟩:=R.rch.rg _ (G.inn _ a5)
   obtain ⟨s,hs⟩:∃ s:Nat,L[k]=(↑s:Int):=⟨L[k].toNat,by omega⟩
   rw [hs] at hk r1 r2
   obtain ⟨r,e,f1,f2⟩:=after_row R hx (sets:=sets) (of:=of) G.inn (fun s a hs ha a3=>(a4 s a hs ha a3).1) ⟨p1,p2⟩ hk (by omega) g2
   have hd:(↑s:Int) / (↑m.Next.length:Int)=0:=Int.ediv_eq_zero_of_lt r1 r2
   have hm:(↑s:Int)%(↑m.Next.length:Int)=(↑s:Int):=Int.emod_eq_of_lt r1 r2
   have:=f2.l1
   refine ⟨(r.1,r.2.1,k+1),?_,⟨h,f2⟩,by simp only;omega⟩
   rw [zlc hk,zkD,zbg hk,hd,hm,zb7 (by unfold inR;omega),zb7 (by unfold inR;omega)]
   refine (congrArg (fun z=>Option.bind z _) e).trans ?_
   rw [zbz]
   unfold zap.k19
   rw [f1]
   rfl
  ·right
   have e:k=L.length:=by omega
   subst e
   exact ⟨(p,q),by rw [zkA (by omega),zkC],g2⟩) fuel ([],[],0) ⟨yas _,fun u h=>by simp at h,fun h=>absurd h (Nat.lt_irrefl _),fun u h=>by simp at h,fun i s h=>absurd h (ybr _),yam _,yam _⟩ (by have:=zh3;simp only;omega)
 obtain ⟨⟨p,q⟩,e,A⟩:=key;have a9:0<L.length:=ydq a6;have l1:p.length<=3*L.length:=A.l1;have l2:q.length<=3*L.length:=A.l2;obtain ⟨z1,e1,a1,b1⟩:=zpn (l:=p) (by omega);obtain ⟨z2,e2,a2,b2⟩:=zpn (l:=q) (by omega)
 have b4:z1=[1+ot m s0 a0]:=once_one a1 (fun u hu=>A.o1 u ((b1 u).1 hu)) fun h=>by
  have:=A.o2 a9
  match p,this with
  | v::_,_=>have:=(b1 v).2 (by simp);rw [h] at this;cases this
 have a5:∀ s a:Nat,(↑s:Int)∈L->a<N->clC cl a=x->(↑(nx m s a):Int)∈z2:=fun s a hs ha a3=>by
  obtain ⟨i,hi,e⟩:=ybn.1 hs;exact (b2 _).2 (A.n2 i s hi (by rw [get_at hi,e]) a ha a3)
 have hq:q≠[]:=fun h=>by
  have:=(b2 _).1 (a5 s0 a0 a6 a8 a7);rw [h] at this;cases this
 have c0:0<q.length:=List.length_pos_iff.2 hq;refine ⟨ot m s0 a0,z2,?_,fun s a hs ha a3=>⟨(a4 s a hs ha a3).1,a5 s a hs ha a3⟩,⟨a2,fun h=>?_,fun u hu=>?_,fun u hu v hv=>?_⟩,⟨s0,a0,by omega,by omega,rfl⟩,p1,p2⟩
 ·unfold zap;rw [e,zbz];unfold zap.k21;simp only;rw [zkA (by omega),zkC,zbz];rw [zos (by omega),zbz] at e1 e2;rw [zos (by omega),zbz,zos (by omega),zbz,e1,zbz,e2,zbz,b4]
 ·have:=a5 s0 a0 a6 a8 a7;rw [h] at this;cases this
 ·obtain ⟨s,a,hs,ha,a3,rfl⟩:=A.n1 u ((b2 u).1 hu);exact R.rch.cl s (G.inn _ hs) a (by omega)
 ·obtain ⟨s,a,hs,ha,a3,rfl⟩:=A.n1 u ((b2 u).1 hu);obtain ⟨s',a',b6,b3,b0,rfl⟩:=A.n1 v ((b2 v).1 hv);rw [ybz,ybz,(a4 s a hs ha a3).2,(a4 s' a' b6 b3 b0).2]
def kB (l:yab):ByteArray:=⟨(keyL l).toArray⟩
theorem kB_inj {a b:yab} (h:kB a=kB b):a=b:=keyL_inj (by
 unfold kB at h
 injection h with h
 simpa using congrArg Array.toList h)
structure SetI (sets:List zas) (of:List (ByteArray×Int)):Prop where
 nd:(sets.map (·.list)).Nodup
 to:∀ (i:Nat) (q:zas),sets[i]?=some q->mget (kB q.list) of=some (↑i:Int)
 back:∀ (l:yab) (v:Int),mget (kB l) of=some v->∃ (i:Nat) (q:zas),v=(↑i:Int)∧sets[i]?=some q∧q.list=l
theorem number_eq {sets:List zas} {of:List (ByteArray×Int)} (I:SetI sets of) {l w:yab} (hr:∀ u∈l,inR u) (hl:l.length<=1000) (hs:sets.length<128) :
  ∃ (t:Nat) (sets':List zas) (of':List (ByteArray×Int)),zec (bldC m N K cl sets of) l w=some ((↑t:Int),true,bldC m N K cl sets' of')∧SetI sets' of'∧sets <+: sets'∧(∃ q,sets'[t]?=some q∧q.list=l)∧(sets'=sets∨sets'=sets++[⟨l,w⟩]):=by
 unfold zec
 have hk:zol l=some (kB l):=by
  unfold zol;rw [zb7 hr,zb7 (by omega)];rfl
 rw [hk,zbz];simp only;cases e:mget (kB l) of with
 | some v =>
  obtain ⟨i,q,h1,h2,h3⟩:=I.back l v e;refine ⟨i,sets,of,?_,I,ycs _,⟨q,h2,h3⟩,.inl rfl⟩;rw [ydm,zkD,yba,h1]
 | none =>
  refine ⟨sets.length,sets++[⟨l,w⟩],mset (kB l) (↑sets.length:Int) of,?_,⟨?_,fun i q hq=>?_,fun l' v hv=>?_⟩,yc9 _ _,⟨⟨l,w⟩,by rw [ya5 (yam _),ycf];rfl,rfl⟩,.inr rfl⟩
  ·rw [yc8,zkC,zkA (by omega),zkC,zb7 (by unfold za2;omega),zkJ,yde,zb7 (by unfold inR;omega)];have e1:(↑(sets.length+1):Int)-1=(↑sets.length:Int):=by omega
   rw [e1]
  ·rw [ya9,ybc];refine ⟨I.nd,by simp,fun a ha b hb a0=>?_⟩;obtain ⟨q,hq,rfl⟩:=yap.1 ha;obtain ⟨i,hi,rfl⟩:=ybn.1 hq;have:=I.to i _ (get_at hi);have hb:b=l:=by simpa using hb
   rw [a0,hb,e] at this;cases this
  ·rcases ya8 i sets.length with h | h
   ·rw [ya2 h] at hq;have h1:=I.to i q hq;rw [zjw ba_beq (fun h2=>by rw [h2,e] at h1;cases h1)];exact h1
   ·have h2:=(zkI.1 hq).1;simp at h2;have e2:i=sets.length:=by omega
    subst e2;rw [ya5 (yam _),ycf] at hq;injection hq with hq
    rw [<- hq];exact zjo ba_beq _
  ·by_cases h:l'=l
   ·subst h;rw [zjo ba_beq] at hv;injection hv with hv
    exact ⟨sets.length,⟨l',w⟩,hv.symm,by rw [ya5 (yam _),ycf];rfl,rfl⟩
   ·rw [zjw ba_beq (fun h2=>h (kB_inj h2))] at hv;obtain ⟨i,q,h1,h2,h3⟩:=I.back l' v hv;exact ⟨i,q,h1,by rw [ya2 (zkI.1 h2).1];exact h2,h3⟩
def subsZ:Nat->yaa
 | 0=>[[]]
 | n+1=>subsZ n++(subsZ n).map fun l=>l++[(↑n:Int)]
theorem subsZ_len:∀ n,(subsZ n).length=2^n
 | 0=>rfl
 | n+1=>by
  unfold subsZ;rw [zkJ,zkK,subsZ_len n];omega
theorem zum:∀ (n:Nat) (l:yab),l.Pairwise (·<·)->(∀ u∈l,0<=u∧u<(↑n:Int))->l∈subsZ n
 | 0,l,_,hr=>by
  match l with
  | []=>simp [subsZ]
  | u::l=>have:=hr u (by simp);omega
 | n+1,l,h,hr=>by
  unfold subsZ;by_cases hn:(↑n:Int)∈l
  ·refine yaf _ (yap.2 ⟨l.dropLast,zum n _ (h.sublist (List.dropLast_sublist l)) (fun u hu=>?_),?_⟩)
   ·have hne:l≠[]:=fun q=>by rw [q] at hn;cases hn
    have hlast:=yd2 hne;rw [<- hlast,ycy] at h;have h1:=h.2.2 u hu _ (yaw.2 rfl);have h2:=(hr _ (List.getLast_mem hne)).2;have h3:=hr u ((List.dropLast_sublist l).subset hu);omega
   ·have hne:l≠[]:=fun q=>by rw [q] at hn;cases hn
    have hlast:=yd2 hne
    have:l.getLast hne=(↑n:Int):=by
     have h2:=(hr _ (List.getLast_mem hne)).2;rw [<- hlast,ycy] at h;rw [<- hlast] at hn;rcases yal.1 hn with h3 | h3
     ·have:=h.2.2 _ h3 _ (yaw.2 rfl);omega
     ·simpa using (yaw.1 h3).symm
    rw [<- this];exact hlast
  ·refine yai _ (zum n l h fun u hu=>⟨(hr u hu).1,?_⟩);have h1:=(hr u hu).2;have h2:u≠(↑n:Int):=fun q=>hn (by rw [<- q];exact hu);omega
theorem sets_le (R:Rnd m cl c y N K) {sets:List zas} {of:List (ByteArray×Int)} (I:SetI sets of) (hG:∀ q∈sets,GoodL m c y q.list):sets.length<=64:=by
 have:=zsy (l:=sets.map (·.list)) (l':=subsZ m.Next.length) I.nd fun l hl=>by
  obtain ⟨q,hq,rfl⟩:=yap.1 hl;exact zum _ _ (hG q hq).asc fun u hu=>R.rch.rg u ((hG q hq).inn u hu)
 rw [zkK,subsZ_len] at this;have h2:2^m.Next.length<=2^6:=Nat.pow_le_pow_right (by decide) R.n6;omega
end
end
section
section
variable {m:zaa} {cl c y:yab} {N K:Nat}
structure BldI (m:zaa) (c y:yab) (sets:List zas) (of:List (ByteArray×Int)):Prop where
 si:SetI sets of
 good:∀ q∈sets,GoodL m c y q.list
 wl:∀ (j:Nat) (q:zas),sets[j]?=some q->q.word.length<=j
def zq5 (m:zaa) (cl:yab) (N:Nat) (sets:List zas) (L:yab) (x:Nat) (rn ro:yab):Prop :=
 ∃ (t:Nat) (q:zas) (o:Int),rn[x]?=some (↑t:Int)∧ro[x]?=some o∧sets[t]?=some q∧0<=o∧o<=1048576∧∀ s a:Nat,(↑s:Int)∈L->a<N->clC cl a=x->(↑(nx m s a):Int)∈q.list∧o=ot m s a+1
theorem ztr {α:Type} {l l':List α} (h:l <+: l') {i:Nat} {x:α} (e:l[i]?=some x):l'[i]?=some x:=by
 obtain ⟨t,rfl⟩:=h;rw [ya2 (zkI.1 e).1];exact e
theorem zq5.mono {sets sets':List zas} {L:yab} {x:Nat} {rn ro rn' ro':yab} (h:zq5 m cl N sets L x rn ro) (hs:sets <+: sets') (hn:rn <+: rn') (ho:ro <+: ro'):zq5 m cl N sets' L x rn' ro':=by
 obtain ⟨t,q,o,h1,h2,h3,h4⟩:=h;exact ⟨t,q,o,ztr hn h1,ztr ho h2,ztr hs h3,h4⟩
theorem model_row (R:Rnd m cl c y N K) (hmax:∀ s a:Nat,s<m.Next.length->a<m.Inputs.toNat->ot m s a<1048576) {sets:List zas} {of:List (ByteArray×Int)} (B:BldI m c y sets of) {i:Nat} {q:zas} (hi:sets[i]?=some q) (hi2:i<64) :
  ∃ (sets':List zas) (of':List (ByteArray×Int)) (rn ro:yab),iter (fun (s:yaa×yaa×Int×yaa×yaa×List zas×List (ByteArray×Int)×yab×yab×Nat)=>zb1.s18 m (mapC N K cl) i s.1 s.2.1 s.2.2.1 s.2.2.2.1 s.2.2.2.2.1 s.2.2.2.2.2.1 s.2.2.2.2.2.2.1 s.2.2.2.2.2.2.2.1 s.2.2.2.2.2.2.2.2.1 s.2.2.2.2.2.2.2.2.2) fuel (m.Next,m.Out,(↑N:Int),[List.replicate N 0],[cl],sets,of,[],[],0) =
   some (.inl (m.Next,m.Out,(↑N:Int),[List.replicate N 0],[cl],sets',of',rn,ro))∧BldI m c y sets' of'∧sets <+: sets'∧rn.length=K∧ro.length=K∧∀ x,x<K->zq5 m cl N sets' q.list x rn ro:=by
 have a6:=R.clk.k2;have b4:=R.n3
 have key:=zg9 (step:=fun (s:yaa×yaa×Int×yaa×yaa×List zas×List (ByteArray×Int)×yab×yab×Nat)=>zb1.s18 m (mapC N K cl) i s.1 s.2.1 s.2.2.1 s.2.2.2.1 s.2.2.2.2.1 s.2.2.2.2.2.1 s.2.2.2.2.2.2.1 s.2.2.2.2.2.2.2.1 s.2.2.2.2.2.2.2.2.1 s.2.2.2.2.2.2.2.2.2)
  (fun s=>∃ (st:List zas) (o:List (ByteArray×Int)) (rn ro:yab) (x:Nat),s=(m.Next,m.Out,(↑N:Int),[List.replicate N 0],[cl],st,o,rn,ro,x)∧x<=K∧BldI m c y st o∧sets <+: st∧rn.length=x∧ro.length=x∧∀ x',x'<x->zq5 m cl N st q.list x' rn ro)
  (fun s=>K-s.2.2.2.2.2.2.2.2.2)
  (fun r=>∃ (st:List zas) (o:List (ByteArray×Int)) (rn ro:yab),r=.inl (m.Next,m.Out,(↑N:Int),[List.replicate N 0],[cl],st,o,rn,ro)∧BldI m c y st o∧sets <+: st∧rn.length=K∧ro.length=K∧∀ x,x<K->zq5 m cl N st q.list x rn ro) (fun s hs=>by
  obtain ⟨st,o,rn,ro,x,rfl,g1,g2,g3,g4,g5,g6⟩:=hs
  simp only [zb1.s18]
  by_cases h:x<K
  ·left
   have hq:=ztr g3 hi
   have a9:=g2.wl i q hq
   have a7:=sets_le R g2.si g2.good
   obtain ⟨u,z,e1,e2,e3,⟨s0,a0,b1,b2,b3⟩,e4,e5⟩:=after_eq R h (sets:=st) (of:=o) (g2.good q (zkH hq))
   have b0:=hmax s0 a0 b1 b2
   have a4:∀ v∈z,0<=v∧v<(↑m.Next.length:Int):=fun v hv=>R.rch.rg v (e3.inn v hv)
   have a8:=range_le e3.asc a4
   have b5:=R.n6
   obtain ⟨t,a2,o',f1,f2,f3,⟨q',f4,f5⟩,f6⟩:=number_eq (m:=m) (N:=N) (K:=K) (cl:=cl) g2.si (l:=z) (w:=q.word++[(↑x:Int)]) (fun v hv=>by have:=a4 v hv;unfold inR;omega) (by omega) (by omega)
   have a3:zq5 m cl N a2 q.list x (rn++[(↑t:Int)]) (ro++[1+u]):=by
    refine ⟨t,q',1+u,by rw [ya5 (by omega),g4,ycf];rfl,by rw [ya5 (by omega),g5,ycf];rfl,f4,by omega,by omega,fun s a hs ha a5=>?_⟩
    obtain ⟨p1,p2⟩:=e2 s a hs ha a5
    rw [f5,p1]
    exact ⟨p2,by omega⟩
   refine ⟨(m.Next,m.Out,(↑N:Int),[List.replicate N 0],[cl],a2,o',rn++[(↑t:Int)],ro++[1+u],x+1),?_,⟨a2,o',_,_,x+1,rfl,h,⟨f2,fun p hp=>?_,fun j p hp=>?_⟩,g3.trans f3,by simp [g4],by simp [g5],fun x' b6=>?_⟩,by simp only;omega⟩
   ·rw [zkB (by omega),zkD,zbg hq,zsg _ (by simp) (by simp;omega),zbz,zbg hq]
    refine (congrArg (fun z=>Option.bind z _) e1).trans ?_
    rw [zbz]
    simp only [yde,zbg (l:=[1+u]) (i:=0) (x:=1+u) rfl]
    rw [zkA (by omega),zkC,zkA (by omega),zkC]
    have hj:[q.word,[(↑x:Int)]].flatten=q.word++[(↑x:Int)]:=by simp
    rw [hj]
    refine (congrArg (fun z=>Option.bind z _) f1).trans ?_
    rw [zbz]
    simp only [yc7,zkC]
    rw [zb7 (by unfold za2;omega),zb7 (by unfold za2;omega),zb7 (by unfold inR;omega)]
   ·rcases f6 with rfl | rfl
    ·exact g2.good p hp
    ·rcases yal.1 hp with hp | hp
     ·exact g2.good p hp
     ·rw [yaw.1 hp];exact e3
   ·rcases f6 with rfl | rfl
    ·exact g2.wl j p hp
    ·rcases ya8 j st.length with h3 | h3
     ·rw [ya2 h3] at hp
      exact g2.wl j p hp
     ·have h4:=(zkI.1 hp).1
      simp at h4
      have e:j=st.length:=by omega
      subst e
      rw [ya5 (yam _),ycf] at hp
      injection hp with hp
      have:=(zkI.1 hq).1
      rw [<- hp]
      simp
      omega
   ·rcases ya8 x' x with h3 | h3
    ·exact (g6 x' h3).mono f3 (yc9 _ _) (yc9 _ _)
    ·have e:x'=x:=by omega
     subst e
     exact a3
  ·right
   have e:x=K:=by omega
   subst e
   exact ⟨_,by rw [zkA (by omega),zkC],st,o,rn,ro,rfl,g2,g3,g4,g5,g6⟩) fuel _ ⟨sets,of,[],[],0,rfl,yas _,B,ycs _,rfl,rfl,fun x h=>absurd h (ybr _)⟩ (by have:=zh3;simp only;omega)
 obtain ⟨r,e,st,o,rn,ro,rfl,h⟩:=key;exact ⟨st,o,rn,ro,e,h⟩
structure ModOk (m:zaa) (cl:yab) (N K:Nat) (sets:List zas) (X:zaa):Prop where
 inp:X.Inputs=(↑K:Int)
 st:X.Start=0
 nl:X.Next.length=sets.length
 ol:X.Out.length=sets.length
 s0:∃ q,sets[0]?=some q∧m.Start∈q.list
 le:sets.length<=64
 row:∀ (j:Nat) (q:zas),sets[j]?=some q->∃ rn ro:yab,X.Next[j]?=some rn∧X.Out[j]?=some ro∧rn.length=K∧ro.length=K∧∀ x,x<K->zq5 m cl N sets q.list x rn ro
theorem ztn (R:Rnd m cl c y N K) (hv:zhm m=0) (hmax:∀ s a:Nat,s<m.Next.length->a<m.Inputs.toNat->ot m s a<1048576):∃ (X:zaa) (z:zeq) (sets:List zas),zb1 m (mapC N K cl)=some (X,z,true,0)∧ModOk m cl N K sets X:=by
 have H:=R.ok;have a9:=H.st;have a8:=H.n2;have b2:=R.n3;have b0:=R.ni;obtain ⟨t,a5,o',f1,f2,f3,⟨q',f4,f5⟩,f6⟩:=number_eq (m:=m) (N:=N) (K:=K) (cl:=cl) (sets:=[]) (of:=[]) ⟨yb8,fun i q h=>by simp at h,fun l v h=>by simp [mget] at h⟩ (l:=[m.Start]) (w:=[]) (fun v hv=>by rw [yaw.1 hv];unfold inR;omega) (by simp) (by simp)
 have f6:a5=[⟨[m.Start],[]⟩]:=by
  rcases f6 with rfl | rfl
  ·simp at f4
  ·rfl
 subst f6
 have B0:BldI m c y [⟨[m.Start],[]⟩] o':=⟨f2,fun q hq=>by
  rw [yaw.1 hq]
  exact ⟨yc6 _ _,by simp,fun u hu=>by rw [yaw.1 hu];exact R.rch.st,fun u hu v hv=>by rw [yaw.1 hu,yaw.1 hv]⟩,fun j q hq=>by
  match j,hq with
  | 0,hq=>injection hq with hq;rw [<- hq];simp
  | j+1,hq=>simp at hq⟩
 have key:=zg9 (step:=fun (s:yaa×yaa×Int×yaa×yaa×List zas×List (ByteArray×Int)×yaa×yaa×Nat)=>zb1.s20 m (mapC N K cl) s.1 s.2.1 s.2.2.1 s.2.2.2.1 s.2.2.2.2.1 s.2.2.2.2.2.1 s.2.2.2.2.2.2.1 s.2.2.2.2.2.2.2.1 s.2.2.2.2.2.2.2.2.1 s.2.2.2.2.2.2.2.2.2)
  (fun s=>∃ (st:List zas) (o:List (ByteArray×Int)) (nn oo:yaa) (i:Nat),s=(m.Next,m.Out,(↑N:Int),[List.replicate N 0],[cl],st,o,nn,oo,i)∧i<=st.length∧BldI m c y st o∧[⟨[m.Start],[]⟩] <+: st∧nn.length=i∧oo.length=i∧∀ (j:Nat) (q:zas),j<i->st[j]?=some q->∃ rn ro:yab,nn[j]?=some rn∧oo[j]?=some ro∧rn.length=K∧ro.length=K∧∀ x,x<K->zq5 m cl N st q.list x rn ro)
  (fun s=>65-s.2.2.2.2.2.2.2.2.2)
  (fun r=>∃ (st:List zas) (nn oo:yaa),r=.inl (nn,oo)∧ModOk m cl N K st ⟨(↑K:Int),0,nn,oo⟩) (fun s hs=>by
  obtain ⟨st,o,nn,oo,i,rfl,g1,g2,g3,g4,g5,g6⟩:=hs
  have a4:=sets_le R g2.si g2.good
  simp only [zb1.s20]
  by_cases h:i<st.length
  ·left
   have hq:=get_at h
   obtain ⟨a2,o2,rn,ro,e1,e2,e3,e4,e5,e6⟩:=model_row R hmax g2 hq (by omega)
   refine ⟨(m.Next,m.Out,(↑N:Int),[List.replicate N 0],[cl],a2,o2,nn++[rn],oo++[ro],i+1),?_,⟨a2,o2,_,_,i+1,rfl,by have:=e3.length_le;omega,e2,g3.trans e3,by simp [g4],by simp [g5],fun j q hj a0=>?_⟩,by simp only;omega⟩
   ·rw [zkB (by omega),zkD]
    refine (congrArg (fun z=>Option.bind z _) e1).trans ?_
    rw [zbz,Sum.elim_inl]
    unfold zb1.k19
    rw [zb7 (by unfold za2;omega),zb7 (by unfold za2;omega)]
   ·rcases ya8 j i with h3 | h3
    ·have a3:=get_at (show j<st.length by omega)
     have e:a2[j]?=some st[j]:=ztr e3 a3
     rw [e] at a0
     injection a0 with a0
     obtain ⟨a6,a7,p1,p2,p3,p4,p5⟩:=g6 j _ h3 a3
     refine ⟨a6,a7,by rw [ya2 (by omega)];exact p1,by rw [ya2 (by omega)];exact p2,p3,p4,fun x hx=>?_⟩
     rw [<- a0]
     exact (p5 x hx).mono e3 (ycs _) (ycs _)
    ·have e:j=i:=by omega
     subst e
     have e:a2[j]?=some st[j]:=ztr e3 hq
     rw [e] at a0
     injection a0 with a0
     refine ⟨rn,ro,by rw [ya5 (by omega),g4,ycf];rfl,by rw [ya5 (by omega),g5,ycf];rfl,e4,e5,fun x hx=>?_⟩
     rw [<- a0]
     exact e6 x hx
  ·right
   have e:i=st.length:=by omega
   refine ⟨.inl (nn,oo),by rw [zkA (by omega),zkC],st,nn,oo,rfl,rfl,rfl,g4.trans e,g5.trans e,?_,a4,fun j q hq=>g6 j q (by rw [e];exact (zkI.1 hq).1) hq⟩
   exact ⟨⟨[m.Start],[]⟩,ztr g3 rfl,by simp⟩) fuel (m.Next,m.Out,(↑N:Int),[List.replicate N 0],[cl],[⟨[m.Start],[]⟩],o',[],[],0) ⟨_,o',[],[],0,rfl,yas _,B0,ycs _,rfl,rfl,fun j q h=>absurd h (ybr _)⟩ (by have:=zh3;simp only;omega)
 obtain ⟨r,e,st,nn,oo,rfl,hM⟩:=key;refine ⟨⟨(↑K:Int),0,nn,oo⟩,⟨[],0,0⟩,st,?_,hM⟩;unfold zb1;rw [zfd,zbz,hv,zkA (by decide),zkC,znj (by omega) R.clk,zbz,zkA (by decide),zkC,zkA (by simp only;omega),zkC];simp only [Int.zero_mul,Int.zero_add];rw [zb7 (by unfold inR;omega),zb7 (by unfold inR;omega)];refine (congrArg (fun z=>Option.bind z _) f1).trans ?_;rw [zbz];refine (congrArg (fun z=>Option.bind z _) e).trans ?_;rw [zbz,Sum.elim_inl];rfl
theorem ModOk.mac {sets:List zas} {X:zaa} (M:ModOk m cl N K sets X) (L:ClK N K cl) (h3:N<=3):zik X:=by
 have h1:=L.k1;have h2:=L.k2;have hi:=M.inp;have hn:=M.nl;have a2:=M.le;obtain ⟨q0,a0,_⟩:=M.s0;have h0:=(zkI.1 a0).1;refine ⟨by omega,by omega,by omega,by omega,by rw [M.st];omega,by rw [M.ol,M.nl],fun s hs=>?_⟩;obtain ⟨rn,ro,e1,e2,e3,e4,e5⟩:=M.row s _ (get_at (by omega));refine ⟨rn,ro,e1,e2,by omega,by omega,fun u hu=>?_,fun v hv=>?_⟩
 ·obtain ⟨x,hx,rfl⟩:=ybn.1 hu;obtain ⟨t,q,o,f1,f2,f3,f4⟩:=e5 x (by omega);rw [get_at hx] at f1;injection f1 with f1
  have:=(zkI.1 f3).1;omega
 ·obtain ⟨x,hx,rfl⟩:=ybn.1 hv;obtain ⟨t,q,o,f1,f2,f3,f4,f5,_⟩:=e5 x (by omega);rw [get_at hx] at f2;injection f2 with f2
  omega
theorem ModOk.outs {sets:List zas} {X:zaa} (M:ModOk m cl N K sets X) (L:ClK N K cl) (hN:(↑N:Int)=m.Inputs):∀ (w:yab) (j s:Nat) (q:zas),WOk m.Inputs w->sets[j]?=some q->(↑s:Int)∈q.list->Sym.outs X j (absW cl w)=(Sym.outs m s w).map (·+1)
 | [],_,_,_,_,_,_=>rfl
 | a::w,j,s,q,hw,hj,hs=>by
  have ha:=hw.head;obtain ⟨_,hK⟩:=L.at (j:=a.toNat) (by omega);obtain ⟨rn,ro,e1,e2,e3,e4,e5⟩:=M.row j q hj;obtain ⟨t,q',o,f1,f2,f3,f4,f5,f6⟩:=e5 _ hK;obtain ⟨p1,p2⟩:=f6 s a.toNat hs (by omega) rfl
  have g1:nx X j (clC cl a.toNat)=t:=by
   unfold nx;rw [e1,yba,f1,yba,ybz]
  have g2:ot X j (clC cl a.toNat)=o:=by
   unfold ot;rw [e2,yba,f2,yba]
  show ot X j (Int.toNat (↑(clC cl a.toNat):Int))::Sym.outs X (nx X j (Int.toNat (↑(clC cl a.toNat):Int))) (absW cl w)=(ot m s a.toNat+1)::(Sym.outs m (nx m s a.toNat) w).map (·+1);rw [ybz,g1,g2,p2,ModOk.outs M L hN w t _ q' hw.tail f3 p1]
end
end
section
section
variable {M I:zaa} {sM sI k:Nat} {U:yaa} {T:Nat->yaa}
structure Pass (M I:zaa) (sM sI k:Nat) (U:yaa) (T:Nat->yaa):Prop where
 two:Two M I
 hM:sM<M.Next.length
 hI:sI<I.Next.length
 nil:[]∈U
 ok:∀ u∈U,WOk M.Inputs u
 cov:∀ s,s<M.Next.length->∃ u∈U,dest M sM u=s
 tne:∀ s,s<M.Next.length->∃ x,x∈T s
 tok:∀ s,∀ x∈T s,WOk M.Inputs x
 sep:∀ s s',s<M.Next.length->s'<M.Next.length->s≠s'->∃ x,x∈T s∧x∈T s'∧outs M s x≠outs M s' x
 pass:∀ u∈U,∀ v,WOk M.Inputs v->v.length<=k+1->∀ x∈T (dest M sM (u++v)),outs M sM (u++v++x)=outs I sI (u++v++x)
 few:∀ l:List Nat,l.Nodup->(∀ q∈l,∃ w,WOk M.Inputs w∧dest I sI w=q)->l.length<=M.Next.length+k
variable (P:Pass M I sM sI k U T)
include P
end
end
section
section
variable {m b M:zaa}
abbrev outS (m:zaa) (w:yab):yab:=outs m m.Start.toNat w
theorem zr9 (hv:zhm m=0) {w:yab} (hw:zhq w m.Inputs=0):zgy m w=some (outS m w,0):=by
 have hl:=zru hw;have a0:=(zj5 hv).st;unfold zgy;rw [zql (by unfold SmW;omega),zbz,fromM_start (by unfold SmW;omega) hv,if_neg (fun h=>h hw)]
end
end
section
set_option maxRecDepth 1000000
end
section
theorem zvy:zd1=some true:=by decide +kernel
theorem cdzF {α:Type} {p:Prop} [Decidable p] {a b:α} (h:¬ p):cond (decide p) a b=b:=by rw [zkA h];rfl
section
variable {m:zaa}
theorem last_le {z:yab} (h:z.Pairwise (·<·)) (hn:0<z.length) {u:Int} (hu:u∈z):u<=z[z.length-1]:=by
 obtain ⟨i,hi,rfl⟩:=ybn.1 hu;rcases ya8 i (z.length-1) with h1 | h1
 ·exact Int.le_of_lt (yca.1 h i (z.length-1) hi (by omega) h1)
 ·have e:i=z.length-1:=by omega
  subst e;exact Int.le_refl _
theorem mealy_Run_any (w:yab) (hw:w.length<=40):∃ (o:yab) (e:Int),zgy m w=some (o,e)∧(e=0->zhm m=0∧zhq w m.Inputs=0):=by
 unfold zgy;rw [zql (by unfold SmW;omega),zbz];refine ⟨_,_,rfl,fun h=>?_⟩;unfold fromM at h;by_cases hv:zhm m=0
 ·have H:=zj5 hv;have hs:=H.st;rw [if_neg (fun q=>q hv),if_neg (by omega)] at h;by_cases hc:zhq w m.Inputs=0
  ·exact ⟨hv,hc⟩
  ·rw [if_pos hc] at h;exact absurd h hc
 ·rw [if_pos hv] at h;exact absurd h hv
theorem zrm (m:zaa) (w:yab):zch m w=some true:=by
 unfold zch;rw [zvy]
 have a8:zgk m=some (decide (m.Next.length<=6∧m.Out.length<=6∧m.Inputs<=3)):=by
  unfold zgk;by_cases h1:m.Next.length<=6
  ·rw [zkB (by omega),zkD];by_cases h2:m.Out.length<=6
   ·rw [zkB (by omega),zkD,zbz];congr 1;exact decide_eq_decide.2 ⟨fun h=>⟨h1,h2,h⟩,fun h=>h.2.2⟩
   ·rw [zkA (by omega),zkC,zbz,zkA fun h=>h2 h.2.1]
  ·rw [zkA (by omega),zkC,zbz,zkA fun h=>h1 h.1]
 rw [a8,zbz];by_cases hS:m.Next.length<=6∧m.Out.length<=6∧m.Inputs<=3
 case neg=>rw [zkA hS];rfl
 rw [zkB hS,yc7,zkC,zbz];by_cases a4:40<(↑w.length:Int)
 ·rw [zkB a4];rfl
 rw [zkA a4,zkC];obtain ⟨o,e,h1,h2⟩:=mealy_Run_any (m:=m) w (by omega);rw [h1,zbz];by_cases he:e=0
 case neg =>
  by_cases hv:zhm m=0
  ·obtain ⟨cl,k,y,c,r1,_⟩:=zqx hv;obtain ⟨z,z1,_⟩:=znc hv hS.1 hS.2.2;rw [r1,zbz,z1,zbz];simp only;rw [zkB he];rfl
  ·rw [zvk hv,zbz];unfold zd8;rw [zfd,zbz,zkB hv,zkD,zbz];simp only;rw [zkB he];rfl
 obtain ⟨hv,hc⟩:=h2 he;subst he;have H:=zj5 hv;have i1:=H.i1;have b4:=H.st
 have ho:o=outS m w:=by
  rw [zr9 hv hc] at h1;injection h1 with h1
  injection h1 with h1
  exact h1.symm
 obtain ⟨cl,k,y,c,r1,R,C,hN⟩:=zqx hv;obtain ⟨z,z1,z2,z3⟩:=znc hv hS.1 hS.2.2;have a9:=z3 m.Start.toNat 0 (by omega) (by omega);have b0:0<z.length:=ydq a9;rw [r1,zbz,z1,zbz];simp only;rw [cdzF (by decide),cdzF (by decide),zkA (by omega),zbz,zkC,zg4 (i:=z.length-1) (by omega) (get_at (by omega))];by_cases a2:1048576<=z[z.length-1]
 ·rw [zkB a2];rfl
 have a5:∀ s a:Nat,s<m.Next.length->a<m.Inputs.toNat->ot m s a<1048576:=fun s a hs ha=>by
  have:=last_le z2 b0 (z3 s a hs ha);omega
 obtain ⟨K,L,m1⟩:=zrx (T:=TogP m c y) (by omega) (by omega) hN;have Rd:Rnd m cl c y m.Inputs.toNat K:=⟨H,hS.1,by omega,by omega,R,C,hN,L⟩;obtain ⟨X,cz,sets,x1,M⟩:=ztn Rd hv a5;have HX:=M.mac L (by omega);have hI:(↑m.Inputs.toNat:Int)=m.Inputs:=by omega
 have a0:=(zsf hc).2
 have hu:zhq (absW cl w) X.Inputs=0:=check_of HX (fun a ha=>by
  obtain ⟨b,hb,rfl⟩:=yap.1 ha
  have:=a0 b hb
  obtain ⟨_,g⟩:=L.at (j:=b.toNat) (by omega)
  have:=M.inp
  exact ⟨by omega,by omega⟩) (by unfold absW;rw [zkK];omega)
 have b2:=validM_of HX;rw [zkA a2,zkC,m1,zbz];simp only;rw [zkA (by decide),zkC];refine (congrArg (fun z=>Option.bind z _) x1).trans ?_;rw [zbz,zp6 (by omega) L (by rw [hI];exact hc),zbz];simp only;rw [zr9 b2 hu,zbz];obtain ⟨q,q1,q2⟩:=M.s0
 have a6:outS X (absW cl w)=o.map (·+1):=by
  show outs X X.Start.toNat (absW cl w)=_;rw [M.st,ho];exact M.outs L hI w 0 m.Start.toNat q (fun a ha=>a0 a ha) q1 (by rw [show (↑m.Start.toNat:Int)=m.Start by omega];exact q2)
 rw [a6]
 have b3:∀ u∈o,0<=u∧u<=1048576:=fun u hu=>by
  rw [ho] at hu
  have:∀ (w:yab) (s:Nat),WOk m.Inputs w->s<m.Next.length->∀ u∈outs m s w,0<=u∧u<=1048576:=by
   intro w
   induction w with
   | nil=>intro s _ _ u hu;cases hu
   | cons a w ih =>
    intro s hw hs u hu;have ha:=hw.head;obtain ⟨p1,p2,p3,_⟩:=H.at hs (a:=a.toNat) (by omega);rcases yau.1 hu with rfl | hu
    ·exact ⟨p2,p3⟩
    ·exact ih _ hw.tail p1 u hu
  exact this w _ (fun a ha=>a0 a ha) (by omega) u hu
 have b5:o.length=w.length:=by rw [ho];exact outs_len w _
 simp only [zkK];rw [cdzF (by decide),yc7,zkC,cdzF (by decide),cdzF (by decide),zkA (fun h=>h rfl),zbz,zkC];rw [zho (l:=o.map (·+1)) (fun _ _=>(none:Option Bool)) (fun i x hx=>?_) ?_ (by rw [zkK];omega),zbz,zkl.2 fun _ _ _=>rfl]
 ·rfl
 ·simp only [zch.s2];rw [zte,zkC]
 ·simp only [zch.s2];have hi:i<o.length:=by have:=(zkI.1 hx).1;simpa using this
  have a3:=get_at hi
  have a7:x=o[i]+1:=by
   rw [yat,a3] at hx;injection hx with hx
   exact hx.symm
  have hr:=b3 _ (yb5 hi);rw [zlc hx,zkD,zbg hx,zbg a3,zb7 (by unfold inR;omega),zkA (fun h=>h a7),zkC]
end
end
theorem zk6 (x0:zaa) (x1:yab) (_:zsi x0) (_:zr5 x0<=1048576) (_:okL inR x1) (_:szL sz1 x1<=1048576):zch x0 x1=some true :=
 zrm x0 x1
end Go.Proofs.YtkiajpbdicaceaaGreatDoor.Sym
