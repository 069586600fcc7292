/- Parts of the proof. -/
import Derived.Test.YtinjiilchafleaaGreatDoorM3
set_option linter.all false
set_option maxRecDepth 100000
set_option maxHeartbeats 4000000
open Go.RowKit
namespace Go.Proofs.YtinjiilchafleaaGreatDoor.Sym
def zde.s2 (s_:yab) (f_:Int->Option Bool) (a2:Nat):Option (Nat⊕(Unit⊕Int)):=cond (decide ((↑a2:Int)<(↑s_.length:Int))) (idxn s_ a2 fun a6=>(f_ a6).bind fun a7=>cond (a7) (some (.inr (.inr (↑a2:Int)))) (some (.inl (a2+1)))) (some (.inr (.inl ())))
def zde (s_:yab) (f_:Int->Option Bool):Option Int:=(iter (fun (s:Nat)=>zde.s2 s_ f_ s) fuel 0).bind (Sum.elim (fun _=>some (-1:Int)) some)
def zea (s_:yab) (f_:Int->Option Bool):Option Bool:=(zde s_ f_).bind fun a2=>some (decide (0<=a2))
def zhh (inputs_:Int):Option Bool:=(cond (decide (1<=inputs_)) (some (decide (inputs_<=1024))) (some false)).bind (fun a2=>some a2)
def zh4 (a_:Int) (p1_:Int):Option Bool:=(cond (decide (a_<0)) (some true) (some (decide (p1_<=a_)))).bind (fun a2=>some a2)
def zbv.s2 (s_:yab) (f_:Int->Option Bool) (a2:Nat):Option (Nat⊕(Unit⊕Int)):=cond (decide ((↑a2:Int)<(↑s_.length:Int))) (idxn s_ a2 fun a6=>(f_ a6).bind fun a7=>cond (a7) (some (.inr (.inr (↑a2:Int)))) (some (.inl (a2+1)))) (some (.inr (.inl ())))
def zbv (s_:yab) (f_:Int->Option Bool):Option Int:=(iter (fun (s:Nat)=>zbv.s2 s_ f_ s) fuel 0).bind (Sum.elim (fun _=>some (-1:Int)) some)
def zdq (s_:yab) (f_:Int->Option Bool):Option Bool:=(zbv s_ f_).bind fun a2=>some (decide (0<=a2))
def zc3 (w_:yab) (inputs_:Int):Option Int:=(zhh inputs_).bind fun a2=>cond ((!a2)) (some 2) (cond (decide (1024<(↑w_.length:Int))) (some 3) ((zdq w_ (fun u0=>zh4 u0 inputs_)).bind fun a6=>cond (a6) (some 1) (some 0)))
def zgm (m_:zdm) (s_:Int) (a_:Int):Option (Int×Int):=idx m_.Mealy.Next s_ fun a2=>idx a2 a_ fun a6=>idx m_.Mealy.Out s_ fun a7=>idx a7 a_ fun a8=>some (a6,a8)
def zb8.s2 (r_:zcz) (w_:yab) (a7:Int) (a2:yab) (a6:Nat):Option ((Int×yab×Nat)⊕(Int×yab)):=cond (decide ((↑a6:Int)<(↑w_.length:Int))) (idxn w_ a6 fun b0=>(zgm r_.machine a7 b0).bind fun a8=>chk (za1 (List.length a2+1) 8) (some (.inl (a8.1,(a2++[a8.2]),(a6+1))))) (some (.inr (a7,a2)))
def zb8.k3 (r_:zcz) (a2:Int) (a6:yab):Option (yab×zcz):=some (a6,(⟨r_.machine,a2⟩:zcz))
def zb8 (r_:zcz) (w_:yab):Option (yab×zcz):=(iter (fun (s:Int×yab×Nat)=>zb8.s2 r_ w_ s.1 s.2.1 s.2.2) fuel (r_.at_,[],0)).bind (fun s=>zb8.k3 r_ s.1 s.2)
def zbk.s13 (m_:zaa) (a6:Nat) (a2:Nat):Option (Nat⊕(Unit⊕(Nat⊕(Unit⊕Int)))):=cond (decide ((↑a2:Int)<m_.Inputs)) (idxn m_.Next a6 fun b0=>idxn b0 a2 fun a7=>idxn m_.Out a6 fun b2=>idxn b2 a2 fun a8=>(cond (decide (a7<0)) (some true) (cond (decide ((↑m_.Next.length:Int)<=a7)) (some true) (cond (decide (a8<0)) (some true) (some (decide (1048576<a8)))))).bind (fun b3=>cond (b3) (some (.inr (.inr (.inr (.inr 2))))) (chk (inR ((↑a2:Int)+1)) (some (.inl (a2+1)))))) (some (.inr (.inl ())))
def zbk.s14 (m_:zaa) (a2:Nat):Option (Nat⊕(Unit⊕Int)):=cond (decide ((↑a2:Int)<(↑m_.Next.length:Int))) ((idxn m_.Next a2 fun a6=>cond (decide ((↑a6.length:Int)≠m_.Inputs)) (some true) (idxn m_.Out a2 fun a7=>some (decide ((↑a7.length:Int)≠m_.Inputs)))).bind (fun a8=>cond (a8) (some (.inr (.inr 1))) ((iter (fun (s:Nat)=>zbk.s13 m_ a2 s) fuel 0).bind (Sum.elim (fun _=>some (.inl (a2+1))) some)))) (some (.inr (.inl ())))
def zbk (m_:zaa):Option Int:=(cond (decide (m_.Inputs<1)) (some true) (some (decide (64<m_.Inputs)))).bind (fun a2=>cond (a2) (some 2) (cond (decide ((↑m_.Next.length:Int)=0)) (some 19) (cond (decide (128<(↑m_.Next.length:Int))) (some 11) ((cond (decide (m_.Start<0)) (some true) (some (decide ((↑m_.Next.length:Int)<=m_.Start)))).bind (fun a6=>cond (a6) (some 2) (cond (decide ((↑m_.Out.length:Int)≠(↑m_.Next.length:Int))) (some 1) ((iter (fun (s:Nat)=>zbk.s14 m_ s) fuel 0).bind (Sum.elim (fun _=>some 0) some))))))))
def zmq (m_:zaa) (s_:Int):Option Int:=(zbk m_).bind fun a2=>cond (decide (a2≠0)) (some a2) ((cond (decide (s_<0)) (some true) (some (decide ((↑m_.Next.length:Int)<=s_)))).bind (fun a6=>cond (a6) (some 2) (some 0)))
def ziq (m_:zaa) (s_:Int) (w_:yab):Option (yab×Int×Int):=(zmq m_ s_).bind fun a2=>cond (decide (a2≠0)) (some ([],0,a2)) ((zc3 w_ m_.Inputs).bind fun a6=>cond (decide (a6≠0)) (some ([],0,a6)) ((zb8 (⟨(⟨m_⟩:zdm),s_⟩:zcz) w_).bind fun a7=>some (a7.1,a7.2.at_,0)))
def zie (m_:zaa) (w_:yab):Option (yab×Int):=(ziq m_ m_.Start w_).bind fun a2=>some (a2.1,a2.2.2)
def zbm.s2 (s1_:yab) (s2_:yab) (a2:Nat):Option (Nat⊕(Unit⊕Bool)):=cond (decide ((↑a2:Int)<(↑s1_.length:Int))) (idxn s1_ a2 fun a6=>idxn s2_ a2 fun a7=>cond (decide (a6≠a7)) (some (.inr (.inr false))) (some (.inl (a2+1)))) (some (.inr (.inl ())))
def zbm (s1_:yab) (s2_:yab):Option Bool:=cond (decide ((↑s1_.length:Int)≠(↑s2_.length:Int))) (some false) ((iter (fun (s:Nat)=>zbm.s2 s1_ s2_ s) fuel 0).bind (Sum.elim (fun _=>some true) some))
def zef.s2 (m_:zaa) (n_:zaa) (words_:yaa) (a2:Nat):Option (Nat⊕(Unit⊕Bool)):=cond (decide ((↑a2:Int)<(↑words_.length:Int))) (idxn words_ a2 fun a6=>(zie m_ a6).bind fun a7=>(zie n_ a6).bind fun a8=>(zbm a7.1 a8.1).bind fun b0=>cond ((!b0)) (some (.inr (.inr false))) (some (.inl (a2+1)))) (some (.inr (.inl ())))
def zef (m_:zaa) (n_:zaa) (words_:yaa):Option Bool:=(iter (fun (s:Nat)=>zef.s2 m_ n_ words_ s) fuel 0).bind (Sum.elim (fun _=>some true) some)
def cmp_isNaN_int (x_:Int):Option Bool:=some (decide (x_≠x_))
def cmp_Less_int (x_:Int) (y_:Int):Option Bool:=((cmp_isNaN_int x_).bind fun a2=>cond (a2) ((cmp_isNaN_int y_).bind fun a6=>cond ((!a6)) (some true) (some (decide (x_<y_)))) (some (decide (x_<y_)))).bind (fun a7=>some a7)
def zao.s13 (a_:Int) (a6:yab) (a2:Int):Option ((yab×Int)⊕yab):=(cond (decide (a_<a2)) (idx a6 a2 fun a8=>chk (inR (a2-1)) (idx a6 (a2-1) fun b0=>(cmp_Less_int a8 b0).bind fun b2=>some b2)) (some false)).bind (fun b3=>cond (b3) (chk (inR (a2-1)) (chk (inR (a2-1)) (idx a6 (a2-1) fun a7=>idx a6 a2 fun b4=>idx a6 a2 fun b5=>idx (List.set a6 a2.toNat a7) (a2-1) fun b6=>chk (inR (a2-1)) (some (.inl ((List.set (List.set a6 a2.toNat a7) ((a2-1).toNat) b4),(a2-1))))))) (some (.inr a6)))
def zao.s14 (a_:Int) (b_:Int) (a6:yab) (a2:Int):Option ((yab×Int)⊕yab):=cond (decide (a2<b_)) ((iter (fun (s:yab×Int)=>zao.s13 a_ s.1 s.2) fuel (a6,a2)).bind (fun a7=>chk (inR (a2+1)) (some (.inl (a7,(a2+1)))))) (some (.inr a6))
def zao (data_:yab) (a_:Int) (b_:Int):Option yab:=chk (inR (a_+1)) ((iter (fun (s:yab×Int)=>zao.s14 a_ b_ s.1 s.2) fuel (data_,(a_+1))).bind (fun a2=>some a2))
def zjl (l:yab):Option yab:=chk (l.length<=12) (zao l 0 l.length)
def zat.s2 (m_:zaa) (s_:Int) (a_:Int) (outs_:yab) (a2:List zah) (a6:Nat):Option ((List zah×Nat)⊕List zah):=cond (decide ((↑a6:Int)<(↑outs_.length:Int))) (idxn outs_ a6 fun a7=>idx m_.Out s_ fun a8=>idx a8 a_ fun b0=>cond (decide (a7≠b0)) (chk (za1 (List.length a2+1) 40) (some (.inl ((a2++[(⟨1,s_,a_,a7,0⟩:zah)]),(a6+1))))) (some (.inl (a2,(a6+1))))) (some (.inr a2))
def zat.s4 (m_:zaa) (s_:Int) (a_:Int) (a7:Int) (a6:List zah) (a2:Nat):Option ((List zah×Nat)⊕List zah):=cond (decide ((↑a2:Int)<(↑m_.Next.length:Int))) (cond (decide ((↑a2:Int)≠a7)) (chk (za1 (List.length a6+1) 40) (some (.inl ((a6++[(⟨2,s_,a_,(↑a2:Int),0⟩:zah)]),(a2+1))))) (some (.inl (a6,(a2+1))))) (some (.inr a6))
def zat.s17 (m_:zaa) (s_:Int) (a_:Int) (outs_:yab) (b3:Int) (a7:Nat) (a2:List zah) (a6:Nat):Option ((List zah×Nat)⊕List zah):=cond (decide ((↑a6:Int)<(↑outs_.length:Int))) (idxn outs_ a6 fun a8=>idx m_.Out b3 fun b0=>idxn b0 a7 fun b2=>cond (decide (a8≠b2)) (chk (za1 (List.length a2+1) 40) (some (.inl ((a2++[(⟨3,s_,a_,a8,(↑a7:Int)⟩:zah)]),(a6+1))))) (some (.inl (a2,(a6+1))))) (some (.inr a2))
def zat.s18 (m_:zaa) (s_:Int) (a_:Int) (outs_:yab) (a8:Int) (a6:List zah) (a2:Nat):Option ((List zah×Nat)⊕List zah):=cond (decide ((↑a2:Int)<m_.Inputs)) ((iter (fun (s:List zah×Nat)=>zat.s17 m_ s_ a_ outs_ a8 a2 s.1 s.2) fuel (a6,0)).bind (fun a7=>chk (inR ((↑a2:Int)+1)) (some (.inl (a7,(a2+1)))))) (some (.inr a6))
def zat (m_:zaa) (s_:Int) (a_:Int) (outs_:yab):Option (List zah):=idx m_.Next s_ fun a8=>idx a8 a_ fun a7=>(iter (fun (s:List zah×Nat)=>zat.s2 m_ s_ a_ outs_ s.1 s.2) fuel ([],0)).bind (fun b0=>(iter (fun (s:List zah×Nat)=>zat.s4 m_ s_ a_ a7 s.1 s.2) fuel (b0,0)).bind (fun a2=>cond (decide (128<=(↑m_.Next.length:Int))) (some a2) ((iter (fun (s:List zah×Nat)=>zat.s18 m_ s_ a_ outs_ a7 s.1 s.2) fuel (a2,0)).bind (fun a6=>some a6))))
def zcj.s18 (b0:yab) (a2:List Bool) (a6:yab) (a7:Nat):Option ((List Bool×yab×Nat)⊕(List Bool×yab)):=cond (decide ((↑a7:Int)<(↑b0.length:Int))) (idxn b0 a7 fun a8=>idx a2 a8 fun b2=>cond ((!b2)) (idx a2 a8 fun b3=>chk (za1 (List.length a6+1) 8) (some (.inl ((List.set a2 a8.toNat true),(a6++[a8]),(a7+1))))) (some (.inl (a2,a6,(a7+1))))) (some (.inr (a2,a6)))
def zcj.k19 (a2:Nat) (a6:List Bool) (a7:yab):Option ((List Bool×yab×Nat)⊕yab):=some (.inl (a6,a7,(a2+1)))
def zcj.s20 (m_:zaa) (a7:List Bool) (a2:yab) (a6:Nat):Option ((List Bool×yab×Nat)⊕yab):=cond (decide ((↑a6:Int)<(↑a2.length:Int))) (idxn a2 a6 fun a8=>idx m_.Next a8 fun b0=>(iter (fun (s:List Bool×yab×Nat)=>zcj.s18 b0 s.1 s.2.1 s.2.2) fuel (a7,a2,0)).bind (fun s=>zcj.k19 a6 s.1 s.2)) (some (.inr a2))
def zcj (m_:zaa):Option yab:=(zbk m_).bind fun a6=>cond (decide (a6≠0)) (some []) (chk ((0:Int)<=(↑m_.Next.length:Int)∧(↑m_.Next.length:Int)<=(↑m_.Next.length:Int)∧za1 (Int.toNat (↑m_.Next.length:Int)) 1) (idx (List.replicate m_.Next.length false) m_.Start fun a7=>(iter (fun (s:List Bool×yab×Nat)=>zcj.s20 m_ s.1 s.2.1 s.2.2) fuel ((List.set (List.replicate m_.Next.length false) m_.Start.toNat true),[m_.Start],0)).bind (fun a2=>some a2)))
def zaw.s18 (a8:Nat) (a2:yab) (a7:Nat) (a6:Nat):Option ((yab×Nat×Nat)⊕(yab×Nat)):=cond (decide ((↑a6:Int)<(↑(List.length a2-a8):Int))) (idxn a2 (a8+a6) fun b0=>chk ((0:Int)<=((↑a6:Int)-1)) (idxn a2 (a8+(Int.toNat ((↑a6:Int)-1))) fun b2=>cond (decide (b0≠b2)) (idxn a2 (a8+a6) fun b3=>idxn a2 a7 fun b4=>chk (inR ((↑a7:Int)+1)) (some (.inl ((List.set a2 a7 b3),(a7+1),(a6+1))))) (some (.inl (a2,a7,(a6+1)))))) (some (.inr (a2,a7)))
def zaw.k19 (a6:yab) (a2:Nat):Option (Nat⊕(Unit⊕yab)):=chk ((0:Int)<=(↑a2:Int)∧(↑a2:Int)<=(↑a6.length:Int)∧0<List.length a6) (chk (a2<=List.length a6) (chk ((0:Int)<=(↑a2:Int)∧(↑a2:Int)<=(↑(List.length (List.take a2 a6++List.replicate (List.length a6-a2) 0)):Int)∧0<List.length (List.take a2 a6++List.replicate (List.length a6-a2) 0)) (some (.inr (.inr (List.take a2 (List.take a2 a6++List.replicate (List.length a6-a2) 0)))))))
def zaw.s20 (s_:yab) (a2:Nat):Option (Nat⊕(Unit⊕yab)):=cond (decide ((↑a2:Int)<(↑s_.length:Int))) (idxn s_ a2 fun a6=>idx s_ ((↑a2:Int)-1) fun a7=>cond (decide (a6=a7)) (chk ((0:Int)<=(↑a2:Int)∧(↑a2:Int)<=(↑s_.length:Int)∧0<List.length s_) ((iter (fun (s:yab×Nat×Nat)=>zaw.s18 a2 s.1 s.2.1 s.2.2) fuel (s_,a2,1)).bind (fun s=>zaw.k19 s.1 s.2))) (some (.inl (a2+1)))) (some (.inr (.inl ())))
def zaw (s_:yab):Option yab:=cond (decide ((↑s_.length:Int)<2)) (some s_) ((iter (fun (s:Nat)=>zaw.s20 s_ s) fuel 1).bind (Sum.elim (fun _=>some s_) some))
def zd3.s2 (m_:zaa) (a2:yab) (a6:Nat):Option ((yab×Nat)⊕yab):=cond (decide ((↑a6:Int)<(↑m_.Out.length:Int))) (idxn m_.Out a6 fun a7=>chk (za1 (List.length a2+List.length a7) 8) (some (.inl ((a2++a7),(a6+1))))) (some (.inr a2))
def zd3 (m_:zaa):Option yab:=(zbk m_).bind fun a2=>cond (decide (a2≠0)) (some []) ((iter (fun (s:yab×Nat)=>zd3.s2 m_ s.1 s.2) fuel ([],0)).bind (fun a6=>(zjl a6).bind fun a7=>(zaw a7).bind fun a8=>some a8))
def zdw.s13 (m_:zaa) (b0:yab) (a8:Int) (a2:List zah) (a6:Nat):Option ((List zah×Nat)⊕(List zah⊕((List zah×Nat)⊕(List zah⊕(List zah×Int))))):=cond (decide ((↑a6:Int)<m_.Inputs)) ((zat m_ a8 (↑a6:Int) b0).bind fun a7=>chk (za1 (List.length a2+List.length a7) 40) (cond (decide (10000<(↑(List.length (a2++a7)):Int))) (some (.inr (.inr (.inr (.inr ([],11)))))) (chk (inR ((↑a6:Int)+1)) (some (.inl ((a2++a7),(a6+1))))))) (some (.inr (.inl a2)))
def zdw.s14 (m_:zaa) (b0:yab) (b2:yab) (a6:List zah) (a2:Nat):Option ((List zah×Nat)⊕(List zah⊕(List zah×Int))):=cond (decide ((↑a2:Int)<(↑b0.length:Int))) (idxn b0 a2 fun a7=>(iter (fun (s:List zah×Nat)=>zdw.s13 m_ b2 a7 s.1 s.2) fuel (a6,0)).bind (Sum.elim (fun a8=>some (.inl (a8,(a2+1)))) some)) (some (.inr (.inl a6)))
def zdw (m_:zaa):Option (List zah×Int):=(zbk m_).bind fun a6=>cond (decide (a6≠0)) (some ([],a6)) ((zcj m_).bind fun a7=>(zjl a7).bind fun a8=>(zd3 m_).bind fun b0=>(iter (fun (s:List zah×Nat)=>zdw.s14 m_ a8 b0 s.1 s.2) fuel ([],0)).bind (Sum.elim (fun a2=>some (a2,0)) some))
def zdn.s2 (m_:zaa) (a7:yaa) (a8:yaa) (a6:Nat):Option ((yaa×yaa×Nat)⊕(yaa×yaa)):=cond (decide ((↑a6:Int)<(↑m_.Next.length:Int))) (idxn m_.Next a6 fun b2=>(zco b2).bind fun b0=>chk (za1 (List.length a7+List.length [b0]) 24) (idxn m_.Out a6 fun b3=>(zco b3).bind fun a2=>chk (za1 (List.length a8+List.length [a2]) 24) (some (.inl ((a7++[b0]),(a8++[a2]),(a6+1)))))) (some (.inr (a7,a8)))
def zdn.k3 (m_:zaa) (a2:yaa) (a6:yaa):Option zaa:=some (⟨m_.Inputs,m_.Start,a2,a6⟩:zaa)
def zdn (m_:zaa):Option zaa:=(iter (fun (s:yaa×yaa×Nat)=>zdn.s2 m_ s.1 s.2.1 s.2.2) fuel ([],[],0)).bind (fun s=>zdn.k3 m_ s.1 s.2)
def zhl (m_:zaa) (x_:zah):Option zaa:=(zdn m_).bind fun a2=>cond (decide (x_.Kind=1)) (idx a2.Out x_.State fun a8=>idx a8 x_.Input fun b7=>some (⟨a2.Inputs,a2.Start,a2.Next,(List.set a2.Out (Int.toNat x_.State) (List.set a8 (Int.toNat x_.Input) x_.Value))⟩:zaa)) (cond (decide (x_.Kind=2)) (idx a2.Next x_.State fun b0=>idx b0 x_.Input fun b8=>some (⟨a2.Inputs,a2.Start,(List.set a2.Next (Int.toNat x_.State) (List.set b0 (Int.toNat x_.Input) x_.Value)),a2.Out⟩:zaa)) (cond (decide (x_.Kind=3)) (idx m_.Next x_.State fun b4=>idx b4 x_.Input fun b2=>idx m_.Out b2 fun b5=>(zco b5).bind fun a6=>idx a6 x_.Value2 fun b9=>idx m_.Next b2 fun b6=>(zco b6).bind fun a7=>chk (za1 (List.length a2.Next+List.length [a7]) 24) (chk (za1 (List.length a2.Out+List.length [(List.set a6 x_.Value2.toNat x_.Value)]) 24) (idx (a2.Next++[a7]) x_.State fun b3=>idx b3 x_.Input fun c0=>some (⟨a2.Inputs,a2.Start,(List.set (a2.Next++[a7]) (Int.toNat x_.State) (List.set b3 (Int.toNat x_.Input) (↑m_.Next.length:Int))),(a2.Out++[(List.set a6 x_.Value2.toNat x_.Value)])⟩:zaa)))) (some a2)))
def zfp.s2 (a_:zaa) (b_:zaa) (a2:Nat):Option (Nat⊕(Unit⊕Int)):=cond (decide ((↑a2:Int)<2)) (cond (decide ((↑a2:Int)=0)) ((zbk a_).bind fun a6=>cond (decide (a6≠0)) (some (.inr (.inr a6))) (some (.inl (a2+1)))) (chk ((↑a2:Int)=1) ((zbk b_).bind fun a7=>cond (decide (a7≠0)) (some (.inr (.inr a7))) (some (.inl (a2+1)))))) (some (.inr (.inl ())))
def zfp (a_:zaa) (b_:zaa):Option Int:=(iter (fun (s:Nat)=>zfp.s2 a_ b_ s) fuel 0).bind (Sum.elim (fun _=>cond (decide (a_.Inputs≠b_.Inputs)) (some 15) (some 0)) some)
def zbn.s2 (slices_:yaa) (size73:Nat) (a2:Nat):Option ((Nat×Nat)⊕Nat):=cond (decide ((↑a2:Int)<(↑slices_.length:Int))) (idxn slices_ a2 fun a6=>chk (inR ((↑size73:Int)+(↑a6.length:Int))) (cond (decide (((↑size73:Int)+(↑a6.length:Int))<0)) (none) (some (.inl ((size73+a6.length),(a2+1)))))) (some (.inr size73))
def zbn.s4 (slices_:yaa) (a2:yab) (a6:Nat):Option ((yab×Nat)⊕yab):=cond (decide ((↑a6:Int)<(↑slices_.length:Int))) (idxn slices_ a6 fun a7=>chk (za1 (List.length a2+List.length a7) 8) (some (.inl ((a2++a7),(a6+1))))) (some (.inr a2))
def zbn (slices_:yaa):Option yab:=(iter (fun (s:Nat×Nat)=>zbn.s2 slices_ s.1 s.2) fuel (0,0)).bind (fun size68=>(znb (↑size68:Int)).bind fun a6=>(iter (fun (s:yab×Nat)=>zbn.s4 slices_ s.1 s.2) fuel (a6,0)).bind (fun a2=>some a2))
def zcs (parts_:yaa):Option yab:=(zbn parts_).bind fun a2=>some a2
def zbx.s2 (a_:zaa) (b_:zaa) (a6:List (List Bool)) (a2:Nat):Option ((List (List Bool)×Nat)⊕List (List Bool)):=cond (decide ((↑a2:Int)<(↑(List.length (List.replicate a_.Next.length ([]:List Bool))):Int))) (chk ((0:Int)<=(↑b_.Next.length:Int)∧(↑b_.Next.length:Int)<=(↑b_.Next.length:Int)∧za1 (Int.toNat (↑b_.Next.length:Int)) 1) (idxn a6 a2 fun a7=>chk (inR ((↑a2:Int)+1)) (some (.inl ((List.set a6 a2 (List.replicate b_.Next.length false)),(a2+1)))))) (some (.inr a6))
def zbx.s20 (a_:zaa) (b_:zaa) (b4:Nat) (a6:zb4) (a8:List (List Bool)) (a7:List zb4) (a2:Nat):Option ((List (List Bool)×List zb4×Nat)⊕((List (List Bool)×List zb4)⊕((List (List Bool)×List zb4×Nat)⊕(Unit⊕(yab×Bool))))):=cond (decide ((↑a2:Int)<a_.Inputs)) (idx a_.Out a6.at_.s fun b5=>idxn b5 a2 fun b6=>idx b_.Out a6.at_.t fun b7=>idxn b7 a2 fun b8=>cond (decide (b6≠b8)) (idxn a7 b4 fun b9=>(zcs [b9.word,[(↑a2:Int)]]).bind fun c0=>some (.inr (.inr (.inr (.inr (c0,true)))))) (idx a_.Next a6.at_.s fun c6=>idxn c6 a2 fun b0=>idx b_.Next a6.at_.t fun c7=>idxn c7 a2 fun b2=>(cond ((!(decide (b0=a6.at_.s)&&(decide (b2=a6.at_.t)&&true)))) (idx a8 b0 fun c8=>idx c8 b2 fun c9=>some (!c9)) (some false)).bind (fun d0=>cond (d0) (idx a8 b0 fun b3=>idx b3 b2 fun d3=>idxn a7 b4 fun d1=>(zcs [d1.word,[(↑a2:Int)]]).bind fun d2=>chk (za1 (List.length a7+1) 40) (chk (inR ((↑a2:Int)+1)) (some (.inl ((List.set a8 (Int.toNat b0) (List.set b3 (Int.toNat b2) true)),(a7++[(⟨(⟨b0,b2⟩:zd0),d2⟩:zb4)]),(a2+1)))))) (chk (inR ((↑a2:Int)+1)) (some (.inl (a8,a7,(a2+1)))))))) (some (.inr (.inl (a8,a7))))
def zbx.k21 (a7:Nat) (a2:List (List Bool)) (a6:List zb4):Option ((List (List Bool)×List zb4×Nat)⊕(Unit⊕(yab×Bool))):=some (.inl (a2,a6,(a7+1)))
def zbx.s22 (a_:zaa) (b_:zaa) (a8:List (List Bool)) (a6:List zb4) (a2:Nat):Option ((List (List Bool)×List zb4×Nat)⊕(Unit⊕(yab×Bool))):=cond (decide ((↑a2:Int)<(↑a6.length:Int))) (idxn a6 a2 fun a7=>(iter (fun (s:List (List Bool)×List zb4×Nat)=>zbx.s20 a_ b_ a2 a7 s.1 s.2.1 s.2.2) fuel (a8,a6,0)).bind (Sum.elim (fun s=>zbx.k21 a2 s.1 s.2) some)) (some (.inr (.inl ())))
def zbx (a_:zaa) (b_:zaa) (first_:zd0):Option (yab×Bool):=chk ((0:Int)<=(↑a_.Next.length:Int)∧(↑a_.Next.length:Int)<=(↑a_.Next.length:Int)∧za1 (Int.toNat (↑a_.Next.length:Int)) 24) ((iter (fun (s:List (List Bool)×Nat)=>zbx.s2 a_ b_ s.1 s.2) fuel ((List.replicate a_.Next.length ([]:List Bool)),0)).bind (fun a2=>idx a2 first_.s fun a6=>idx a6 first_.t fun a7=>(iter (fun (s:List (List Bool)×List zb4×Nat)=>zbx.s22 a_ b_ s.1 s.2.1 s.2.2) fuel ((List.set a2 (Int.toNat first_.s) (List.set a6 (Int.toNat first_.t) true)),[(⟨first_,[]⟩:zb4)],0)).bind (Sum.elim (fun _=>some ([],false)) some)))
def zf2 (a_:zaa) (b_:zaa):Option (yab×Bool×Int):=(zfp a_ b_).bind fun a2=>cond (decide (a2≠0)) (some ([],false,a2)) ((zbx a_ b_ (⟨a_.Start,b_.Start⟩:zd0)).bind fun a6=>some (a6.1,a6.2,0))
def zin (a_:zaa) (b_:zaa):Option (Bool×Int):=(zf2 a_ b_).bind fun a2=>(cond (decide (a2.2.2=0)) (some (!a2.2.1)) (some false)).bind (fun a6=>some (a6,a2.2.2))
def zb9.s2 (m_:zaa) (words_:yaa) (a2:Nat):Option (Nat⊕(Unit⊕(List zah×Int))):=cond (decide ((↑a2:Int)<(↑words_.length:Int))) (idxn words_ a2 fun a7=>(zc3 a7 m_.Inputs).bind fun a6=>cond (decide (a6≠0)) (some (.inr (.inr ([],a6)))) (some (.inl (a2+1)))) (some (.inr (.inl ())))
def zb9.s4 (m_:zaa) (words_:yaa) (b4:List zah×Int) (a2:List zah) (a6:Nat):Option ((List zah×Nat)⊕(List zah⊕(List zah×Int))):=cond (decide ((↑a6:Int)<(↑b4.1.length:Int))) ((idxn b4.1 a6 fun a8=>(zhl m_ a8).bind fun b0=>(zef m_ b0 words_).bind fun b2=>cond ((!b2)) (some (.inl a2)) ((zin m_ b0).bind fun a7=>cond (decide (a7.2≠0)) (some (.inr (.inr (.inr ([],a7.2))))) (cond ((!a7.1)) (chk (za1 (List.length a2+1) 40) (some (.inl (a2++[a8])))) (some (.inl a2)))):Option (List zah⊕((List zah×Nat)⊕(List zah⊕(List zah×Int))))).bind (Sum.elim (fun b3=>some (.inl (b3,(a6+1)))) some)) (some (.inr (.inl a2)))
def zb9 (m_:zaa) (words_:yaa):Option (List zah×Int):=(zdw m_).bind fun a2=>cond (decide (a2.2≠0)) (some ([],a2.2)) ((iter (fun (s:Nat)=>zb9.s2 m_ words_ s) fuel 0).bind (Sum.elim (fun _=>(iter (fun (s:List zah×Nat)=>zb9.s4 m_ words_ a2 s.1 s.2) fuel ([],0)).bind (Sum.elim (fun a6=>some (a6,0)) some)) some))
def zg2.s2 (m_:zaa) (words_:yaa) (a2:List zab) (a6:Nat):Option ((List zab×Nat)⊕(List zab⊕(List zab×Int))):=cond (decide ((↑a6:Int)<(↑words_.length:Int))) (idxn words_ a6 fun a7=>(zc3 a7 m_.Inputs).bind fun b2=>cond (decide (b2≠0)) (some (.inr (.inr ([],b2)))) ((zco a7).bind fun a8=>(zb8 (⟨(⟨m_⟩:zdm),m_.Start⟩:zcz) a7).bind fun b0=>chk (za1 (List.length a2+1) 48) (some (.inl ((a2++[(⟨a8,b0.1⟩:zab)]),(a6+1)))))) (some (.inr (.inl a2)))
def zg2 (m_:zaa) (words_:yaa):Option (List zab×Int):=(zbk m_).bind fun a2=>cond (decide (a2≠0)) (some ([],a2)) (cond (decide (10000<(↑words_.length:Int))) (some ([],11)) ((iter (fun (s:List zab×Nat)=>zg2.s2 m_ words_ s.1 s.2) fuel ([],0)).bind (Sum.elim (fun a6=>some (a6,0)) some)))
def zi8 (t_:zab):Option zab:=(zco t_.In).bind fun a2=>(zco t_.Out).bind fun a6=>some (⟨a2,a6⟩:zab)
def zf5.s2 (l_:List zab) (a2:List zab) (a6:Nat):Option ((List zab×Nat)⊕List zab):=cond (decide ((↑a6:Int)<(↑l_.length:Int))) (idxn l_ a6 fun a7=>(zi8 a7).bind fun a8=>chk (za1 (List.length a2+1) 48) (some (.inl ((a2++[a8]),(a6+1))))) (some (.inr a2))
def zf5 (l_:List zab):Option (List zab):=chk ((0:Int)<=0∧0<=((↑l_.length:Int)+1)∧za1 (Int.toNat ((↑l_.length:Int)+1)) 48) ((iter (fun (s:List zab×Nat)=>zf5.s2 l_ s.1 s.2) fuel ([],0)).bind (fun a2=>some a2))
def zej.s2 (a_:yab) (b_:yab) (a2:Nat):Option (Nat⊕(Unit⊕Int)):=cond (decide ((↑a2:Int)<(min (↑a_.length:Int) (↑b_.length:Int)))) (idxn a_ a2 fun a6=>idxn b_ a2 fun a7=>cond (decide (a6≠a7)) (some (.inr (.inr (↑a2:Int)))) (some (.inl (a2+1)))) (some (.inr (.inl ())))
def zej (a_:yab) (b_:yab):Option Int:=(iter (fun (s:Nat)=>zej.s2 a_ b_ s) fuel 0).bind (Sum.elim (fun _=>some (min (↑a_.length:Int) (↑b_.length:Int))) some)
def zeb (w_:yab) (p_:yab):Option Bool:=(zej w_ p_).bind fun a2=>some (decide (a2=(↑p_.length:Int)))
def za4.s2 (x_:List zab) (target_:zab) (cmp_:zab->zab->Option Int) (a2:Int) (a6:Int):Option ((Int×Int)⊕Int):=cond (decide (a2<a6)) (chk (inR (a2+a6)) (chk ((0:Int)<=(a2+a6)∧(a2+a6)<=18446744073709551615) (chk ((0:Int)<=(a2+a6)∧(a2+a6)<=18446744073709551615) (chk (inR ((a2+a6) / 2^1)) (idx x_ ((a2+a6) / 2^1) fun a7=>(cmp_ a7 target_).bind fun a8=>cond (decide (a8<0)) (chk (inR (((a2+a6) / 2^1)+1)) (some (.inl ((((a2+a6) / 2^1)+1),a6)))) (some (.inl (a2,((a2+a6) / 2^1))))))))) (some (.inr a2))
def za4 (x_:List zab) (target_:zab) (cmp_:zab->zab->Option Int):Option (Int×Bool):=(iter (fun (s:Int×Int)=>za4.s2 x_ target_ cmp_ s.1 s.2) fuel (0,(↑x_.length:Int))).bind (fun a2=>(cond (decide (a2<(↑x_.length:Int))) (idx x_ a2 fun a6=>(cmp_ a6 target_).bind fun a7=>some (decide (a7=0))) (some false)).bind (fun a8=>some (a2,a8)))
def zhj (a_:zab) (b_:zab):Option Int:=(zej a_.In b_.In).bind fun a2=>chk ((0:Int)<=(min (min a2 (↑a_.Out.length:Int)) (↑b_.Out.length:Int))∧(min (min a2 (↑a_.Out.length:Int)) (↑b_.Out.length:Int))<=(↑a_.Out.length:Int)) (chk ((0:Int)<=(min (min a2 (↑a_.Out.length:Int)) (↑b_.Out.length:Int))∧(min (min a2 (↑a_.Out.length:Int)) (↑b_.Out.length:Int))<=(↑b_.Out.length:Int)) ((zej (List.take (Int.toNat (min (min a2 (↑a_.Out.length:Int)) (↑b_.Out.length:Int))) a_.Out) (List.take (Int.toNat (min (min a2 (↑a_.Out.length:Int)) (↑b_.Out.length:Int))) b_.Out)).bind fun a6=>cond (decide (a6<(min (min a2 (↑a_.Out.length:Int)) (↑b_.Out.length:Int)))) (some a6) (some (-1:Int))))
def zjz (u_:zab) (p1_:zab):Option Bool:=(zeb p1_.In u_.In).bind fun a2=>some a2
def zbi.s2 (s_:List zab) (f_:zab->Option Bool) (a2:Nat):Option (Nat⊕(Unit⊕Int)):=cond (decide ((↑a2:Int)<(↑s_.length:Int))) (idxn s_ a2 fun a6=>(f_ a6).bind fun a7=>cond (a7) (some (.inr (.inr (↑a2:Int)))) (some (.inl (a2+1)))) (some (.inr (.inl ())))
def zbi (s_:List zab) (f_:zab->Option Bool):Option Int:=(iter (fun (s:Nat)=>zbi.s2 s_ f_ s) fuel 0).bind (Sum.elim (fun _=>some (-1:Int)) some)
def zax.s2 (del_:zab->Option Bool) (a2:List zab) (a6:Int) (a7:Int):Option ((List zab×Int×Int)⊕(List zab×Int)):=cond (decide (a7<(↑a2.length:Int))) (idx a2 a7 fun a8=>(del_ a8).bind fun b0=>cond ((!b0)) (idx a2 a6 fun b2=>chk (inR (a6+1)) (chk (inR (a7+1)) (some (.inl ((List.set a2 a6.toNat a8),(a6+1),(a7+1)))))) (chk (inR (a7+1)) (some (.inl (a2,a6,(a7+1)))))) (some (.inr (a2,a6)))
def zax.k3 (a6:List zab) (a2:Int):Option (List zab):=chk ((0:Int)<=a2∧a2<=(↑a6.length:Int)∧0<List.length a6) (chk ((Int.toNat a2)<=List.length a6) (chk ((0:Int)<=a2∧a2<=(↑(List.length (List.take (Int.toNat a2) a6++List.replicate (List.length a6-(Int.toNat a2)) (⟨[],[]⟩:zab))):Int)∧0<List.length (List.take (Int.toNat a2) a6++List.replicate (List.length a6-(Int.toNat a2)) (⟨[],[]⟩:zab))) (some (List.take (Int.toNat a2) (List.take (Int.toNat a2) a6++List.replicate (List.length a6-(Int.toNat a2)) (⟨[],[]⟩:zab))))))
def zax (s_:List zab) (del_:zab->Option Bool):Option (List zab):=(zbi s_ del_).bind fun a2=>cond (decide (a2=(-1:Int))) (some s_) (chk (inR (a2+1)) ((iter (fun (s:List zab×Int×Int)=>zax.s2 del_ s.1 s.2.1 s.2.2) fuel (s_,a2,(a2+1))).bind (fun s=>zax.k3 s.1 s.2)))
def cmp_Compare_int (x_:Int) (y_:Int):Option Int:=(cmp_isNaN_int x_).bind fun a6=>(cmp_isNaN_int y_).bind fun a2=>cond (a6) (cond (a2) (some 0) (some (-1:Int))) (cond (a2) (some 1) (cond (decide (x_<y_)) (some (-1:Int)) (cond (decide (y_<x_)) (some 1) (some 0))))
def zb6.s2 (s1_:yab) (s2_:yab) (a2:Nat):Option (Nat⊕(Unit⊕Int)):=cond (decide ((↑a2:Int)<(↑s1_.length:Int))) (idxn s1_ a2 fun a7=>cond (decide ((↑s2_.length:Int)<=(↑a2:Int))) (some (.inr (.inr 1))) (idxn s2_ a2 fun a8=>(cmp_Compare_int a7 a8).bind fun a6=>cond (decide (a6≠0)) (some (.inr (.inr a6))) (some (.inl (a2+1))))) (some (.inr (.inl ())))
def zb6 (s1_:yab) (s2_:yab):Option Int:=(iter (fun (s:Nat)=>zb6.s2 s1_ s2_ s) fuel 0).bind (Sum.elim (fun _=>cond (decide ((↑s1_.length:Int)<(↑s2_.length:Int))) (some (-1:Int)) (some 0)) some)
def zfg.s2 (vals_:yab) (a2:Nat):Option (Nat⊕(Unit⊕Int)):=cond (decide ((↑a2:Int)<(↑vals_.length:Int))) (idxn vals_ a2 fun a6=>cond (decide (a6≠0)) (some (.inr (.inr a6))) (some (.inl (a2+1)))) (some (.inr (.inl ())))
def zfg (vals_:yab):Option Int:=(iter (fun (s:Nat)=>zfg.s2 vals_ s) fuel 0).bind (Sum.elim (fun _=>some 0) some)
def zes (a_:yab) (b_:yab):Option Int:=(cmp_Compare_int (↑a_.length:Int) (↑b_.length:Int)).bind fun a2=>(zb6 a_ b_).bind fun a6=>(zfg [a2,a6]).bind fun a7=>some a7
def zif (a_:zab) (b_:zab):Option Int:=(zes a_.In b_.In).bind fun a2=>some a2
def zhy.s2 (l_:List zab) (t_:zab) (inside79:Bool) (a2:Nat):Option ((Bool×Nat)⊕(Bool⊕(List zab×Int))):=cond (decide ((↑a2:Int)<(↑l_.length:Int))) (idxn l_ a2 fun a6=>(zhj a6 t_).bind fun a7=>cond (decide (0<=a7)) (some (.inr (.inr ([],13)))) (cond (inside79) (some (.inl (true,(a2+1)))) ((zeb a6.In t_.In).bind fun a8=>some (.inl (a8,(a2+1)))))) (some (.inr (.inl inside79)))
def zhy (l_:List zab) (t_:zab):Option (List zab×Int):=(iter (fun (s:Bool×Nat)=>zhy.s2 l_ t_ s.1 s.2) fuel (false,0)).bind (Sum.elim (fun inside73=>(cond (inside73) (some true) (some (decide ((↑t_.In.length:Int)=0)))).bind (fun b0=>cond (b0) (some (l_,0)) ((zax l_ (fun u0=>zjz u0 t_)).bind fun a2=>cond (decide ((↑a2.length:Int)=10000)) (some ([],11)) ((za4 a2 t_ (fun u0 u1=>zif u0 u1)).bind fun a6=>(zi8 t_).bind fun a7=>(zlp a2 a6.1 [a7]).bind fun a8=>some (a8,0))))) some)
def zhn (o_:Int):Option Bool:=(cond (decide (o_<0)) (some true) (some (decide (1048576<o_)))).bind (fun a2=>some a2)
def zi4 (t_:zab) (inputs_:Int):Option Int:=(zc3 t_.In inputs_).bind fun a2=>cond (decide (a2≠0)) (some a2) (cond (decide ((↑t_.Out.length:Int)≠(↑t_.In.length:Int))) (some 1) ((zea t_.Out (fun u0=>zhn u0)).bind fun a6=>cond (a6) (some 2) (some 0)))
def zgp.s2 (o_:zan) (l_:List zab) (a7:List zab) (a2:Nat):Option ((List zab×Nat)⊕(List zab⊕(zan×Int))):=cond (decide ((↑a2:Int)<(↑l_.length:Int))) (idxn l_ a2 fun a8=>(zi4 a8 o_.Inputs).bind fun b0=>cond (decide (b0≠0)) (some (.inr (.inr (o_,b0)))) ((zhy a7 a8).bind fun a6=>cond (decide (a6.2≠0)) (some (.inr (.inr (o_,a6.2)))) (some (.inl (a6.1,(a2+1)))))) (some (.inr (.inl a7)))
def zgp (o_:zan) (l_:List zab):Option (zan×Int):=(zf5 o_.Traces).bind fun a2=>(iter (fun (s:List zab×Nat)=>zgp.s2 o_ l_ s.1 s.2) fuel (a2,0)).bind (Sum.elim (fun a6=>some ((⟨o_.Inputs,a6⟩:zan),0)) some)
def zrd (m_:zaa) (words_:yaa):Option (zan×Int):=(zg2 m_ words_).bind fun a2=>cond (decide (a2.2≠0)) (some ((⟨0,[]⟩:zan),a2.2)) ((zgp (⟨m_.Inputs,[]⟩:zan) a2.1).bind fun a6=>cond (decide (a6.2≠0)) (some ((⟨0,[]⟩:zan),a6.2)) (some (a6.1,0)))
def zda:Option zaa:=some (⟨2,0,[[1,0],[1,0]],[[1,0],[1,2]]⟩:zaa)
def zb1.s2 (slices_:List (yaa)) (size73:Nat) (a2:Nat):Option ((Nat×Nat)⊕Nat):=cond (decide ((↑a2:Int)<(↑slices_.length:Int))) (idxn slices_ a2 fun a6=>chk (inR ((↑size73:Int)+(↑a6.length:Int))) (cond (decide (((↑size73:Int)+(↑a6.length:Int))<0)) (none) (some (.inl ((size73+a6.length),(a2+1)))))) (some (.inr size73))
def zb1.s4 (slices_:List (yaa)) (a2:yaa) (a6:Nat):Option ((yaa×Nat)⊕yaa):=cond (decide ((↑a6:Int)<(↑slices_.length:Int))) (idxn slices_ a6 fun a7=>chk (za1 (List.length a2+List.length a7) 24) (some (.inl ((a2++a7),(a6+1))))) (some (.inr a2))
def zb1 (slices_:List (yaa)):Option yaa:=(iter (fun (s:Nat×Nat)=>zb1.s2 slices_ s.1 s.2) fuel (0,0)).bind (fun size68=>(zov (↑size68:Int)).bind fun a6=>(iter (fun (s:yaa×Nat)=>zb1.s4 slices_ s.1 s.2) fuel (a6,0)).bind (fun a2=>some a2))
def zfz (a_:yab) (b_:yab) (p2_:(yab)->(yab)->Option Int):Option Bool:=(p2_ a_ b_).bind fun a2=>some (decide (a2=0))
def zak.s18 (eq_:(yab)->(yab)->Option Bool) (a8:Nat) (a2:yaa) (a7:Nat) (a6:Nat):Option ((yaa×Nat×Nat)⊕(yaa×Nat)):=cond (decide ((↑a6:Int)<(↑(List.length a2-a8):Int))) (idxn a2 (a8+a6) fun b0=>chk ((0:Int)<=((↑a6:Int)-1)) (idxn a2 (a8+(Int.toNat ((↑a6:Int)-1))) fun b2=>(eq_ b0 b2).bind fun b3=>cond ((!b3)) (idxn a2 (a8+a6) fun b4=>idxn a2 a7 fun b5=>chk (inR ((↑a7:Int)+1)) (some (.inl ((List.set a2 a7 b4),(a7+1),(a6+1))))) (some (.inl (a2,a7,(a6+1)))))) (some (.inr (a2,a7)))
def zak.k19 (a6:yaa) (a2:Nat):Option (Nat⊕(Unit⊕yaa)):=chk ((0:Int)<=(↑a2:Int)∧(↑a2:Int)<=(↑a6.length:Int)∧0<List.length a6) (chk (a2<=List.length a6) (chk ((0:Int)<=(↑a2:Int)∧(↑a2:Int)<=(↑(List.length (List.take a2 a6++List.replicate (List.length a6-a2) [])):Int)∧0<List.length (List.take a2 a6++List.replicate (List.length a6-a2) [])) (some (.inr (.inr (List.take a2 (List.take a2 a6++List.replicate (List.length a6-a2) [])))))))
def zak.s20 (s_:yaa) (eq_:(yab)->(yab)->Option Bool) (a2:Nat):Option (Nat⊕(Unit⊕yaa)):=cond (decide ((↑a2:Int)<(↑s_.length:Int))) (idxn s_ a2 fun a6=>idx s_ ((↑a2:Int)-1) fun a7=>(eq_ a6 a7).bind fun a8=>cond (a8) (chk ((0:Int)<=(↑a2:Int)∧(↑a2:Int)<=(↑s_.length:Int)∧0<List.length s_) ((iter (fun (s:yaa×Nat×Nat)=>zak.s18 eq_ a2 s.1 s.2.1 s.2.2) fuel (s_,a2,1)).bind (fun s=>zak.k19 s.1 s.2))) (some (.inl (a2+1)))) (some (.inr (.inl ())))
def zak (s_:yaa) (eq_:(yab)->(yab)->Option Bool):Option yaa:=cond (decide ((↑s_.length:Int)<2)) (some s_) ((iter (fun (s:Nat)=>zak.s20 s_ eq_ s) fuel 1).bind (Sum.elim (fun _=>some s_) some))
def zdj.s2 (a7:yaa) (a6:yaa) (a2:Nat):Option ((yaa×Nat)⊕yaa):=cond (decide ((↑a2:Int)<(↑a7.length:Int))) (idxn a6 a2 fun a8=>(zco a8).bind fun b0=>idxn a6 a2 fun b2=>chk (inR ((↑a2:Int)+1)) (some (.inl ((List.set a6 a2 b0),(a2+1))))) (some (.inr a6))
def zdj (l_:yaa) (order_:(yab)->(yab)->Option Int):Option yaa:=(zij l_).bind fun a6=>(zgk a6 order_).bind fun a7=>(zak a7 (fun u0 u1=>zfz u0 u1 order_)).bind fun a2=>(iter (fun (s:yaa×Nat)=>zdj.s2 a2 s.1 s.2) fuel (a2,0)).bind (fun a8=>some a8)
def zdd (l_:yaa):Option yaa:=(zdj l_ (fun u0 u1=>zes u0 u1)).bind fun a2=>some a2
def zj1 (lists_:List (yaa)):Option yaa:=(zb1 lists_).bind fun a2=>(zdd a2).bind fun a6=>some a6
def zep.s2 (l_:yaa) (a6:Int) (a2:Nat):Option ((Int×Nat)⊕Int):=cond (decide ((↑a2:Int)<(↑l_.length:Int))) (idxn l_ a2 fun a7=>some (.inl ((max a6 (↑a7.length:Int)),(a2+1)))) (some (.inr a6))
def zep (l_:yaa):Option Int:=(iter (fun (s:Int×Nat)=>zep.s2 l_ s.1 s.2) fuel (0,0)).bind (fun a2=>some a2)
def zb5.k53 (a2:Nat) (a6:List (ByteArray×Bool)) (a7:yaa):Option (((List (ByteArray×Bool))×yaa×Nat)⊕(((List (ByteArray×Bool))×yaa)⊕(((List (ByteArray×Bool))×yaa×Nat)⊕(yaa⊕(yaa×Int))))):=some (.inl (a6,a7,(a2+1)))
def zb5.s54 (b4:yaa) (b2:yab) (a6:List (ByteArray×Bool)) (a2:yaa) (a7:Nat):Option (((List (ByteArray×Bool))×yaa×Nat)⊕(((List (ByteArray×Bool))×yaa)⊕(((List (ByteArray×Bool))×yaa×Nat)⊕(yaa⊕(yaa×Int))))):=cond (decide ((↑a7:Int)<(↑b4.length:Int))) ((idxn b4 a7 fun b3=>(zcs [b2,b3]).bind fun a8=>(ztr a8).bind fun b0=>cond (((mget b0 a6).getD false)) (some (.inl (a6,a2))) (cond (decide ((↑a2.length:Int)=10000)) (some (.inr (.inr (.inr (.inr (.inr ([],11))))))) (chk (za1 (List.length a2+1) 24) (some (.inl ((mset b0 true a6),(a2++[a8])))))):Option (((List (ByteArray×Bool))×yaa)⊕(((List (ByteArray×Bool))×yaa×Nat)⊕(((List (ByteArray×Bool))×yaa)⊕(((List (ByteArray×Bool))×yaa×Nat)⊕(yaa⊕(yaa×Int))))))).bind (Sum.elim (fun s=>zb5.k53 a7 s.1 s.2) some)) (some (.inr (.inl (a6,a2))))
def zb5.k55 (a2:Nat) (a6:List (ByteArray×Bool)) (a7:yaa):Option (((List (ByteArray×Bool))×yaa×Nat)⊕(yaa⊕(yaa×Int))):=some (.inl (a6,a7,(a2+1)))
def zb5.s56 (b0:yaa) (b2:yaa) (a7:List (ByteArray×Bool)) (a6:yaa) (a2:Nat):Option (((List (ByteArray×Bool))×yaa×Nat)⊕(yaa⊕(yaa×Int))):=cond (decide ((↑a2:Int)<(↑b0.length:Int))) (idxn b0 a2 fun a8=>(iter (fun (s:(List (ByteArray×Bool))×yaa×Nat)=>zb5.s54 b2 a8 s.1 s.2.1 s.2.2) fuel (a7,a6,0)).bind (Sum.elim (fun s=>zb5.k55 a2 s.1 s.2) some)) (some (.inr (.inl a6)))
def zb5 (a_:yaa) (b_:yaa):Option (yaa×Int):=(cond (decide ((↑a_.length:Int)=0)) (some true) (some (decide ((↑b_.length:Int)=0)))).bind (fun b3=>cond (b3) (some ([],0)) ((zep a_).bind fun a7=>(zep b_).bind fun a8=>chk (inR (a7+a8)) (cond (decide (1024<(a7+a8))) (some ([],3)) ((zdd a_).bind fun b0=>(zdd b_).bind fun b2=>cond (decide (10000<(max (↑b0.length:Int) (↑b2.length:Int)))) (some ([],11)) ((iter (fun (s:(List (ByteArray×Bool))×yaa×Nat)=>zb5.s56 b0 b2 s.1 s.2.1 s.2.2) fuel (([]:List (ByteArray×Bool)),[],0)).bind (Sum.elim (fun a2=>(zgk a2 (fun u0 u1=>zes u0 u1)).bind fun a6=>some (a6,0)) some))))))
def zg8 (a_:yab) (b_:yab):Option Int:=(zb6 a_ b_).bind fun a2=>some a2
def zcm.s2 (a8:yaa) (a6:yaa) (a2:Nat):Option ((yaa×Nat)⊕yaa):=cond (decide ((↑a2:Int)<(↑a8.length:Int))) (idxn a8 a2 fun a7=>(cond (decide (((↑a2:Int)+1)=(↑a8.length:Int))) (some true) (idxn a8 (a2+1) fun b0=>(zeb b0 a7).bind fun b2=>some (!b2))).bind (fun b3=>cond (b3) (chk (za1 (List.length a6+1) 24) (some (.inl ((a6++[a7]),(a2+1))))) (some (.inl (a6,(a2+1)))))) (some (.inr a6))
def zcm (l_:yaa):Option yaa:=(zdj l_ (fun u0 u1=>zg8 u0 u1)).bind fun a7=>(iter (fun (s:yaa×Nat)=>zcm.s2 a7 s.1 s.2) fuel ([],0)).bind (fun a2=>(zdd a2).bind fun a6=>some a6)
def zcf.s2 (a7:yab) (a6:yab) (a2:Nat):Option ((yab×Nat)⊕yab):=cond (decide ((↑a2:Int)<(↑a7.length:Int))) (idxn a7 a2 fun a8=>idx a6 a8 fun b0=>some (.inl ((List.set a6 a8.toNat (↑a2:Int)),(a2+1)))) (some (.inr a6))
def zcf.s15 (b2:yab) (a7:yab) (a6:yab) (a2:Nat):Option ((yab×Nat)⊕yab):=cond (decide ((↑a2:Int)<(↑a7.length:Int))) (idxn a7 a2 fun a8=>idx b2 a8 fun b0=>idxn a6 a2 fun b3=>some (.inl ((List.set a6 a2 b0),(a2+1)))) (some (.inr a6))
def zcf.s16 (m_:zaa) (b5:yab) (b6:yab) (a2:yaa) (a6:yaa) (a7:Nat):Option ((yaa×yaa×Nat)⊕(yaa×yaa)):=cond (decide ((↑a7:Int)<(↑b5.length:Int))) (idxn b5 a7 fun a8=>chk ((0:Int)<=m_.Inputs∧m_.Inputs<=m_.Inputs∧za1 (Int.toNat m_.Inputs) 8) (idx m_.Next a8 fun b0=>(iter (fun (s:yab×Nat)=>zcf.s15 b6 b0 s.1 s.2) fuel ((List.replicate (Int.toNat m_.Inputs) (0:Int)),0)).bind (fun b2=>chk (za1 (List.length a2+1) 24) (idx m_.Out a8 fun b3=>(zco b3).bind fun b4=>chk (za1 (List.length a6+1) 24) (some (.inl ((a2++[b2]),(a6++[b4]),(a7+1)))))))) (some (.inr (a2,a6)))
def zcf.k17 (m_:zaa) (a2:yaa) (a6:yaa):Option (zaa×Int):=some ((⟨m_.Inputs,0,a2,a6⟩:zaa),0)
def zcf (m_:zaa):Option (zaa×Int):=(zbk m_).bind fun a2=>cond (decide (a2≠0)) (some ((⟨0,0,[],[]⟩:zaa),a2)) ((zcj m_).bind fun a6=>chk ((0:Int)<=(↑m_.Next.length:Int)∧(↑m_.Next.length:Int)<=(↑m_.Next.length:Int)∧za1 (Int.toNat (↑m_.Next.length:Int)) 8) ((iter (fun (s:yab×Nat)=>zcf.s2 a6 s.1 s.2) fuel ((List.replicate m_.Next.length (0:Int)),0)).bind (fun a7=>(iter (fun (s:yaa×yaa×Nat)=>zcf.s16 m_ a6 a7 s.1 s.2.1 s.2.2) fuel ([],[],0)).bind (fun s=>zcf.k17 m_ s.1 s.2))))
def zbt.s18 (m_:zaa) (class_:yab) (a7:Nat) (a6:yab) (a2:Nat):Option ((yab×Nat)⊕yab):=cond (decide ((↑a2:Int)<m_.Inputs)) (idxn m_.Out a7 fun b0=>idxn b0 a2 fun a8=>chk ((↑a2:Int)<128) (idxn a6 a2 fun b5=>chk (inR (64+(↑a2:Int))) (idxn m_.Next a7 fun b2=>idxn b2 a2 fun b3=>idx class_ b3 fun b4=>chk ((64+(↑a2:Int))<128) (idxn (List.set a6 a2 a8) (64+a2) fun b6=>chk (inR ((↑a2:Int)+1)) (some (.inl ((List.set (List.set a6 a2 a8) (64+a2) b4),(a2+1)))))))) (some (.inr a6))
def zbt.k19 (a6:yab) (a2:Nat) (a7:List (yab×Int)) (a8:Int):Option (((List (yab×Int))×yab×Nat)⊕((List (yab×Int))×yab)):=idxn a6 a2 fun b0=>some (.inl (a7,(List.set a6 a2 a8),(a2+1)))
def zbt.s20 (m_:zaa) (class_:yab) (a2:List (yab×Int)) (a8:yab) (a7:Nat):Option (((List (yab×Int))×yab×Nat)⊕((List (yab×Int))×yab)):=cond (decide ((↑a7:Int)<(↑class_.length:Int))) ((iter (fun (s:yab×Nat)=>zbt.s18 m_ class_ a7 s.1 s.2) fuel ((List.replicate 128 0),0)).bind (fun a6=>chk (List.length a6=128) (chk (List.length a6=128∧∀ p∈a2,List.length p.1=128) ((cond ((!((mget a6 a2).isSome))) (chk (List.length a6=128) (chk (List.length a6=128∧∀ p∈a2,List.length p.1=128) (some ((mset a6 (↑a2.length:Int) a2),(↑a2.length:Int))))) (some (a2,((mget a6 a2).getD 0))):Option ((List (yab×Int))×Int)).bind (fun s=>zbt.k19 a8 a7 s.1 s.2))))) (some (.inr (a2,a8)))
def zbt.k21 (a2:List (yab×Int)) (a6:yab):Option (yab×Int):=some (a6,(↑a2.length:Int))
def zbt (m_:zaa) (class_:yab):Option (yab×Int):=chk ((0:Int)<=(↑class_.length:Int)∧(↑class_.length:Int)<=(↑class_.length:Int)∧za1 (Int.toNat (↑class_.length:Int)) 8) ((iter (fun (s:(List (yab×Int))×yab×Nat)=>zbt.s20 m_ class_ s.1 s.2.1 s.2.2) fuel (([]:List (yab×Int)),(List.replicate class_.length (0:Int)),0)).bind (fun s=>zbt.k21 s.1 s.2))
def zdl.s2 (m_:zaa) (k_:Int) (class71:yab) (a7:Int) (a2:Nat):Option ((yab×Int×Nat)⊕(yab⊕(yab×Int))):=cond (decide ((↑a2:Int)<(min (max k_ 0) (↑m_.Next.length:Int)))) ((zbt m_ class71).bind fun a6=>cond (decide (a6.2=a7)) (some (.inr (.inr (class71,(↑a2:Int))))) (some (.inl (a6.1,a6.2,(a2+1))))) (some (.inr (.inl class71)))
def zdl (m_:zaa) (k_:Int):Option (yab×Int):=chk ((0:Int)<=(↑m_.Next.length:Int)∧(↑m_.Next.length:Int)<=(↑m_.Next.length:Int)∧za1 (Int.toNat (↑m_.Next.length:Int)) 8) ((iter (fun (s:yab×Int×Nat)=>zdl.s2 m_ k_ s.1 s.2.1 s.2.2) fuel ((List.replicate m_.Next.length (0:Int)),1,0)).bind (Sum.elim (fun class67=>some (class67,(min (max k_ 0) (↑m_.Next.length:Int)))) some))
def zgn (m_:zaa) (k_:Int):Option (yab×Int):=(zbk m_).bind fun a2=>cond (decide (a2≠0)) (some ([],a2)) ((zdl m_ k_).bind fun a6=>some (a6.1,0))
def zgf (m_:zaa):Option (yab×Int):=(zgn m_ 128).bind fun a2=>some (a2.1,a2.2)
def zbl.s30 (b2:yab×Int) (a7:yab) (a2:yab) (a6:Nat):Option ((yab×Nat)⊕yab):=cond (decide ((↑a6:Int)<(↑a7.length:Int))) (idxn a7 a6 fun a8=>idx b2.1 a8 fun b0=>chk (za1 (List.length a2+1) 8) (some (.inl ((a2++[b0]),(a6+1))))) (some (.inr a2))
def zbl.k31 (a2:Nat) (a6:yaa) (a7:yaa):Option ((yaa×yaa×Nat)⊕(yaa×yaa)):=some (.inl (a6,a7,(a2+1)))
def zbl.s32 (b5:zaa×Int) (b0:yab×Int) (a2:yaa) (a7:yaa) (a6:Nat):Option ((yaa×yaa×Nat)⊕(yaa×yaa)):=cond (decide ((↑a6:Int)<(↑b0.1.length:Int))) ((idxn b0.1 a6 fun b2=>cond (decide (b2<(↑a2.length:Int))) (some (a2,a7)) (idxn b5.1.Next a6 fun b3=>(iter (fun (s:yab×Nat)=>zbl.s30 b0 b3 s.1 s.2) fuel ([],0)).bind (fun b4=>chk (za1 (List.length a2+1) 24) (idxn b5.1.Out a6 fun a8=>chk (za1 (List.length ([]:List Unit)+List.length a8) 8) (chk (za1 (List.length a7+1) 24) (some ((a2++[b4]),(a7++[([]++a8)]))))))):Option (yaa×yaa)).bind (fun s=>zbl.k31 a6 s.1 s.2)) (some (.inr (a2,a7)))
def zbl.k33 (a7:zaa×Int) (a2:yaa) (a6:yaa):Option (zaa×Int):=some ((⟨a7.1.Inputs,0,a2,a6⟩:zaa),0)
def zbl (m_:zaa):Option (zaa×Int):=(zcf m_).bind fun a2=>cond (decide (a2.2≠0)) (some ((⟨0,0,[],[]⟩:zaa),a2.2)) ((zgf a2.1).bind fun a6=>cond (decide (a6.2≠0)) (some ((⟨0,0,[],[]⟩:zaa),a6.2)) ((iter (fun (s:yaa×yaa×Nat)=>zbl.s32 a2 a6 s.1 s.2.1 s.2.2) fuel ([],[],0)).bind (fun s=>zbl.k33 a2 s.1 s.2)))
def zcg.s18 (b2:Nat) (b0:yab) (a2:List Bool) (a6:List zb0) (a7:Nat):Option ((List Bool×List zb0×Nat)⊕(List Bool×List zb0)):=cond (decide ((↑a7:Int)<(↑b0.length:Int))) (idxn b0 a7 fun a8=>idx a2 a8 fun b3=>cond ((!b3)) (idx a2 a8 fun b6=>idxn a6 b2 fun b4=>(zcs [b4.word,[(↑a7:Int)]]).bind fun b5=>chk (za1 (List.length a6+1) 32) (some (.inl ((List.set a2 a8.toNat true),(a6++[(⟨a8,b5⟩:zb0)]),(a7+1))))) (some (.inl (a2,a6,(a7+1))))) (some (.inr (a2,a6)))
def zcg.k19 (a2:Nat) (a6:List Bool) (a7:List zb0):Option ((List Bool×List zb0×Nat)⊕List zb0):=some (.inl (a6,a7,(a2+1)))
def zcg.s20 (m_:zaa) (a7:List Bool) (a2:List zb0) (a6:Nat):Option ((List Bool×List zb0×Nat)⊕List zb0):=cond (decide ((↑a6:Int)<(↑a2.length:Int))) (idxn a2 a6 fun a8=>idx m_.Next a8.state fun b0=>(iter (fun (s:List Bool×List zb0×Nat)=>zcg.s18 a6 b0 s.1 s.2.1 s.2.2) fuel (a7,a2,0)).bind (fun s=>zcg.k19 a6 s.1 s.2)) (some (.inr a2))
def zcg (m_:zaa) (from_:Int):Option (List zb0):=chk ((0:Int)<=(↑m_.Next.length:Int)∧(↑m_.Next.length:Int)<=(↑m_.Next.length:Int)∧za1 (Int.toNat (↑m_.Next.length:Int)) 1) (idx (List.replicate m_.Next.length false) from_ fun a6=>(iter (fun (s:List Bool×List zb0×Nat)=>zcg.s20 m_ s.1 s.2.1 s.2.2) fuel ((List.set (List.replicate m_.Next.length false) from_.toNat true),[(⟨from_,[]⟩:zb0)],0)).bind (fun a2=>some a2))
def zdf.s2 (a8:List zb0) (a2:yab) (a6:yaa) (a7:Nat):Option ((yab×yaa×Nat)⊕(yab×yaa)):=cond (decide ((↑a7:Int)<(↑a8.length:Int))) (idxn a8 a7 fun b0=>chk (za1 (List.length a2+1) 8) (chk (za1 (List.length a6+1) 24) (some (.inl ((a2++[b0.state]),(a6++[b0.word]),(a7+1)))))) (some (.inr (a2,a6)))
def zdf.k3 (a2:yab) (a6:yaa):Option (yab×yaa×Int):=some (a2,a6,0)
def zdf (m_:zaa):Option (yab×yaa×Int):=(zbk m_).bind fun a2=>cond (decide (a2≠0)) (some ([],[],a2)) ((zcg m_ m_.Start).bind fun a6=>(iter (fun (s:yab×yaa×Nat)=>zdf.s2 a6 s.1 s.2.1 s.2.2) fuel ([],[],0)).bind (fun s=>zdf.k3 s.1 s.2))
def zfh (m_:zaa):Option (yaa×Int):=(zdf m_).bind fun a2=>some (a2.2.1,a2.2.2)
def zc4.s13 (m_:zaa) (a7:yab) (a6:yaa) (a2:Nat):Option ((yaa×Nat)⊕yaa):=cond (decide ((↑a2:Int)<m_.Inputs)) ((zcs [a7,[(↑a2:Int)]]).bind fun a8=>chk (za1 (List.length a6+1) 24) (chk (inR ((↑a2:Int)+1)) (some (.inl ((a6++[a8]),(a2+1)))))) (some (.inr a6))
def zc4.s14 (m_:zaa) (b0:yab×yaa×Int) (a6:yaa) (a2:Nat):Option ((yaa×Nat)⊕yaa):=cond (decide ((↑a2:Int)<(↑b0.2.1.length:Int))) (idxn b0.2.1 a2 fun a7=>(iter (fun (s:yaa×Nat)=>zc4.s13 m_ a7 s.1 s.2) fuel (a6,0)).bind (fun a8=>some (.inl (a8,(a2+1))))) (some (.inr a6))
def zc4 (m_:zaa):Option (yaa×Int):=(zdf m_).bind fun a2=>cond (decide (a2.2.2≠0)) (some ([],a2.2.2)) ((iter (fun (s:yaa×Nat)=>zc4.s14 m_ a2 s.1 s.2) fuel ([],0)).bind (fun a6=>(zdd a6).bind fun a7=>some (a7,0)))
def zfi.s2 (m_:zaa) (w_:yab) (b4:Int) (a6:yab) (a7:Nat):Option ((Int×yab×Nat)⊕yab):=cond (decide ((↑a7:Int)<(↑w_.length:Int))) (idxn w_ a7 fun a2=>idx m_.Out b4 fun a8=>idx a8 a2 fun b0=>chk (za1 (List.length a6+1) 8) (idx m_.Next b4 fun b2=>idx b2 a2 fun b3=>some (.inl (b3,(a6++[b0]),(a7+1))))) (some (.inr a6))
def zfi (m_:zaa) (s_:Int) (w_:yab):Option yab:=chk ((0:Int)<=0∧0<=(↑w_.length:Int)∧za1 (Int.toNat (↑w_.length:Int)) 8) ((iter (fun (s:Int×yab×Nat)=>zfi.s2 m_ w_ s.1 s.2.1 s.2.2) fuel (s_,[],0)).bind (fun a2=>some a2))
def zfs (w_:yab) (p1_:zaa) (p2_:Int) (p3_:Int):Option Bool:=(zfi p1_ p2_ w_).bind fun a2=>(zfi p1_ p3_ w_).bind fun a6=>(zbm a2 a6).bind fun a7=>some (!a7)
def zd9.s2 (l_:yaa) (has_:(yab)->Option Bool) (a2:Nat):Option (Nat⊕(Unit⊕Bool)):=cond (decide ((↑a2:Int)<(↑l_.length:Int))) (idxn l_ a2 fun a6=>(has_ a6).bind fun a7=>cond (a7) (some (.inr (.inr true))) (some (.inl (a2+1)))) (some (.inr (.inl ())))
def zd9 (l_:yaa) (has_:(yab)->Option Bool):Option Bool:=(iter (fun (s:Nat)=>zd9.s2 l_ has_ s) fuel 0).bind (Sum.elim (fun _=>some false) some)
def zic (m_:zaa) (words_:yaa) (s_:Int) (t_:Int):Option Bool:=(zd9 words_ (fun u0=>zfs u0 m_ s_ t_)).bind fun a2=>some a2
def zgc (m_:zaa):Option Bool:=((zbk m_).bind fun a6=>cond (decide (a6≠0)) (some true) ((zcj m_).bind fun a7=>some (decide ((↑a7.length:Int)≠(↑m_.Next.length:Int))))).bind (fun a8=>cond (a8) (some false) ((zbl m_).bind fun a2=>(cond (decide (a2.2=0)) (some (decide ((↑a2.1.Next.length:Int)=(↑m_.Next.length:Int)))) (some false)).bind (fun b0=>some b0)))
def zgg (m_:zaa):Option Int:=(zbk m_).bind fun a2=>cond (decide (a2≠0)) (some a2) ((zgc m_).bind fun a6=>cond ((!a6)) (some 1) (some 0))
def zh2 (m_:zaa) (s_:Int) (t_:Int):Option (yab×Bool×Int):=(zbk m_).bind fun a2=>cond (decide (a2≠0)) (some ([],false,a2)) ((cond (decide (s_<0)) (some true) (cond (decide ((↑m_.Next.length:Int)<=s_)) (some true) (cond (decide (t_<0)) (some true) (some (decide ((↑m_.Next.length:Int)<=t_)))))).bind (fun a7=>cond (a7) (some ([],false,2)) ((zbx m_ m_ (⟨s_,t_⟩:zd0)).bind fun a6=>some (a6.1,a6.2,0))))
def zdb.s13 (m_:zaa) (a8:Nat) (a2:yaa) (a6:Nat):Option ((yaa×Nat)⊕(yaa⊕((yaa×Nat)⊕(yaa⊕(yaa×Int))))):=cond (decide ((↑a6:Int)<(↑m_.Next.length:Int))) (((zic m_ a2 (↑a8:Int) (↑a6:Int)).bind fun b0=>cond (b0) (some (.inl a2)) ((zh2 m_ (↑a8:Int) (↑a6:Int)).bind fun a7=>cond (decide (a7.2.2≠0)) (some (.inr (.inr (.inr (.inr (.inr ([],a7.2.2))))))) (chk (za1 (List.length a2+1) 24) (some (.inl (a2++[a7.1]))))):Option (yaa⊕((yaa×Nat)⊕(yaa⊕((yaa×Nat)⊕(yaa⊕(yaa×Int))))))).bind (Sum.elim (fun b2=>some (.inl (b2,(a6+1)))) some)) (some (.inr (.inl a2)))
def zdb.s14 (m_:zaa) (a6:yaa) (a2:Nat):Option ((yaa×Nat)⊕(yaa⊕(yaa×Int))):=cond (decide ((↑a2:Int)<(↑m_.Next.length:Int))) ((iter (fun (s:yaa×Nat)=>zdb.s13 m_ a2 s.1 s.2) fuel (a6,(a2+1))).bind (Sum.elim (fun a7=>some (.inl (a7,(a2+1)))) some)) (some (.inr (.inl a6)))
def zdb (m_:zaa):Option (yaa×Int):=(zgg m_).bind fun a7=>cond (decide (a7≠0)) (some ([],a7)) ((iter (fun (s:yaa×Nat)=>zdb.s14 m_ s.1 s.2) fuel ([],0)).bind (Sum.elim (fun a2=>(zdd a2).bind fun a6=>some (a6,0)) some))
def znd (m_:zaa):Option (yaa×Int):=(zbk m_).bind fun a7=>cond (decide (a7≠0)) (some ([],a7)) ((zbl m_).bind fun a2=>(zfh a2.1).bind fun b2=>(zc4 a2.1).bind fun a8=>(zdb a2.1).bind fun b0=>(cond (decide ((↑b0.1.length:Int)=0)) (some [[]]) (some b0.1):Option yaa).bind (fun ends60=>(zj1 [b2.1,a8.1]).bind fun b3=>(zb5 b3 ends60).bind fun a6=>cond (decide (a6.2≠0)) (some ([],a6.2)) ((zj1 [a8.1,a6.1]).bind fun b4=>(zcm b4).bind fun b5=>some (b5,0))))
def zfu.s25 (red_:List Bool) (a7:yab) (best1109:Int) (a2:Nat):Option ((Int×Nat)⊕Int):=cond (decide ((↑a2:Int)<(↑a7.length:Int))) (idxn a7 a2 fun a6=>(cond (decide (a6≠(-1:Int))) (idx red_ a6 fun a8=>some (!a8)) (some false)).bind (fun b0=>cond (b0) (some (.inl ((min best1109 a6),(a2+1)))) (some (.inl (best1109,(a2+1)))))) (some (.inr best1109))
def zfu.s26 (p_:zap) (red_:List Bool) (best777:Int) (a2:Nat):Option ((Int×Nat)⊕Int):=cond (decide ((↑a2:Int)<(↑red_.length:Int))) ((idxn red_ a2 fun a6=>cond ((!a6)) (some best777) (idxn p_.Next a2 fun a7=>(iter (fun (s:Int×Nat)=>zfu.s25 red_ a7 s.1 s.2) fuel (best777,0)).bind (fun best1096=>some best1096)):Option Int).bind (fun best1050=>some (.inl (best1050,(a2+1))))) (some (.inr best777))
def zfu (p_:zap) (red_:List Bool):Option (Int×Bool):=(iter (fun (s:Int×Nat)=>zfu.s26 p_ red_ s.1 s.2) fuel ((↑red_.length:Int),0)).bind (fun best596=>some (best596,decide (best596<(↑red_.length:Int))))
def zcy.s1 (b_:zbq) (a2:Int):Option (Int⊕(Int×(List (Int×Int)))):=cond ((!((mget a2 b_.up).isSome))) (some (.inr (a2,b_.up))) (some (.inl ((mget a2 b_.up).getD 0)))
def zcy (b_:zbq) (x_:Int):Option (Int×(List (Int×Int))):=iter (fun (s:Int)=>zcy.s1 b_ s) fuel x_
def zg3 (b_:zbq) (x_:Int) (y_:Int):Option (List (Int×Int)):=some (mset y_ x_ b_.up)
def zfv.s2 (inputs_:Int) (a6:yab) (a2:Nat):Option ((yab×Nat)⊕yab):=cond (decide ((↑a2:Int)<(↑(List.length (List.replicate (Int.toNat inputs_) (0:Int))):Int))) (idxn a6 a2 fun a7=>chk (inR ((↑a2:Int)+1)) (some (.inl ((List.set a6 a2 (-1:Int)),(a2+1))))) (some (.inr a6))
def zfv (inputs_:Int):Option yab:=chk ((0:Int)<=inputs_∧inputs_<=inputs_∧za1 (Int.toNat inputs_) 8) ((iter (fun (s:yab×Nat)=>zfv.s2 inputs_ s.1 s.2) fuel ((List.replicate (Int.toNat inputs_) (0:Int)),0)).bind (fun a2=>some a2))
def zar.s18 (b0:yab) (a2:yab) (a6:yab) (a8:Nat):Option ((yab×yab×Nat)⊕(yab×yab)):=cond (decide ((↑a8:Int)<(↑b0.length:Int))) (idxn b0 a8 fun a7=>(cond (decide (a7≠(-1:Int))) (idx a2 a7 fun b2=>some (decide (b2=(-1:Int)))) (some false)).bind (fun b3=>cond (b3) (idx a2 a7 fun b4=>chk (za1 (List.length a6+1) 8) (some (.inl ((List.set a2 a7.toNat (↑a6.length:Int)),(a6++[a7]),(a8+1))))) (some (.inl (a2,a6,(a8+1)))))) (some (.inr (a2,a6)))
def zar.k19 (a2:Nat) (a6:yab) (a7:yab):Option ((yab×yab×Nat)⊕(yab×yab)):=some (.inl (a6,a7,(a2+1)))
def zar.s20 (p_:zap) (a7:yab) (a2:yab) (a6:Nat):Option ((yab×yab×Nat)⊕(yab×yab)):=cond (decide ((↑a6:Int)<(↑a2.length:Int))) (idxn a2 a6 fun a8=>idx p_.Next a8 fun b0=>(iter (fun (s:yab×yab×Nat)=>zar.s18 b0 s.1 s.2.1 s.2.2) fuel (a7,a2,0)).bind (fun s=>zar.k19 a6 s.1 s.2)) (some (.inr (a7,a2)))
def zar.s38 (p_:zap) (b6:yab) (b2:Int) (a8:yab) (a6:yab) (a7:yab) (a2:Nat):Option ((yab×yab×Nat)⊕(yab×yab)):=cond (decide ((↑a2:Int)<(↑a8.length:Int))) (idxn a8 a2 fun b0=>cond (decide (b0≠(-1:Int))) (idx b6 b0 fun b3=>idx p_.Out b2 fun b4=>idxn b4 a2 fun b5=>idxn a6 a2 fun b7=>idxn a7 a2 fun b8=>some (.inl ((List.set a6 a2 b3),(List.set a7 a2 b5),(a2+1)))) (some (.inl (a6,a7,(a2+1))))) (some (.inr (a6,a7)))
def zar.k39 (a2:yaa) (a6:yaa) (a7:Nat) (a8:yab) (b0:yab):Option ((yaa×yaa×Nat)⊕(yaa×yaa)):=chk (za1 (List.length a2+1) 24) (chk (za1 (List.length a6+1) 24) (some (.inl ((a2++[a8]),(a6++[b0]),(a7+1)))))
def zar.s40 (p_:zap) (b5:yab) (b0:yab) (a6:yaa) (a7:yaa) (a2:Nat):Option ((yaa×yaa×Nat)⊕(yaa×yaa)):=cond (decide ((↑a2:Int)<(↑b0.length:Int))) (idxn b0 a2 fun a8=>(zfv p_.Inputs).bind fun b2=>(zfv p_.Inputs).bind fun b3=>idx p_.Next a8 fun b4=>(iter (fun (s:yab×yab×Nat)=>zar.s38 p_ b5 a8 b4 s.1 s.2.1 s.2.2) fuel (b2,b3,0)).bind (fun s=>zar.k39 a6 a7 a2 s.1 s.2)) (some (.inr (a6,a7)))
def zar.k41 (p_:zap) (a7:yab) (a2:yaa) (a6:yaa):Option (zap×yab):=some ((⟨p_.Inputs,0,a2,a6⟩:zap),a7)
def zar.k42 (p_:zap) (a2:yab) (a6:yab):Option (zap×yab):=(iter (fun (s:yaa×yaa×Nat)=>zar.s40 p_ a2 a6 s.1 s.2.1 s.2.2) fuel ([],[],0)).bind (fun s=>zar.k41 p_ a2 s.1 s.2)
def zar (p_:zap):Option (zap×yab):=(zfv (↑p_.Next.length:Int)).bind fun a2=>idx a2 p_.Start fun a6=>(iter (fun (s:yab×yab×Nat)=>zar.s20 p_ s.1 s.2.1 s.2.2) fuel ((List.set a2 p_.Start.toNat 0),[p_.Start],0)).bind (fun s=>zar.k42 p_ s.1 s.2)
def zav.s2 (p_:zap) (a6:yaa) (a7:yaa) (a2:Nat):Option ((yaa×yaa×Nat)⊕(yaa×yaa)):=cond (decide ((↑a2:Int)<(↑p_.Next.length:Int))) (idxn p_.Next a2 fun a8=>chk (za1 (List.length ([]:List Unit)+List.length a8) 8) (chk (za1 (List.length a6+List.length [([]++a8)]) 24) (idxn p_.Out a2 fun b0=>chk (za1 (List.length ([]:List Unit)+List.length b0) 8) (chk (za1 (List.length a7+List.length [([]++b0)]) 24) (some (.inl ((a6++[([]++a8)]),(a7++[([]++b0)]),(a2+1)))))))) (some (.inr (a6,a7)))
def zav.s43 (a6:Int×(List (Int×Int))) (a7:Int×(List (Int×Int))) (b6:yab) (a8:yaa) (b0:yaa) (b2:List T_A2) (a2:Nat):Option ((yaa×yaa×List T_A2×Nat)⊕((yaa×yaa×List T_A2)⊕((yaa×yaa×(List (Int×Int))×List T_A2)⊕((yaa×yaa×(List (Int×Int))×List T_A2)⊕((yaa×yaa×(List (Int×Int)))⊕(zap×yab×Bool)))))):=cond (decide ((↑a2:Int)<(↑b6.length:Int))) (idxn a8 (Int.toNat (max a6.1 a7.1)) fun b7=>idxn b7 a2 fun b3=>cond (decide (b3=(-1:Int))) (chk (inR ((↑a2:Int)+1)) (some (.inl (a8,b0,b2,(a2+1))))) (idx a8 (min a6.1 a7.1) fun b8=>idxn b8 a2 fun b9=>cond (decide (b9=(-1:Int))) (idx a8 (min a6.1 a7.1) fun b4=>idx b0 (min a6.1 a7.1) fun b5=>idx b0 (max a6.1 a7.1) fun c0=>idxn c0 a2 fun c6=>idxn b4 a2 fun d3=>idxn b5 a2 fun d4=>chk (inR ((↑a2:Int)+1)) (some (.inl ((List.set a8 (Int.toNat (min a6.1 a7.1)) (List.set b4 a2 b3)),(List.set b0 (Int.toNat (min a6.1 a7.1)) (List.set b5 a2 c6)),b2,(a2+1))))) (idx b0 (min a6.1 a7.1) fun c7=>idxn c7 a2 fun c8=>idx b0 (max a6.1 a7.1) fun c9=>idxn c9 a2 fun d0=>cond (decide (c8≠d0)) (some (.inr (.inr (.inr (.inr (.inr ((⟨0,0,[],[]⟩:zap),[],false))))))) (idx a8 (min a6.1 a7.1) fun d1=>idxn d1 a2 fun d2=>chk (za1 (List.length b2+1) 16) (chk (inR ((↑a2:Int)+1)) (some (.inl (a8,b0,(b2++[(⟨d2,b3⟩:T_A2)]),(a2+1))))))))) (some (.inr (.inl (a8,b0,b2))))
def zav.k44 (a2:List (Int×Int)) (a6:yaa) (a7:yaa) (a8:List T_A2):Option ((yaa×yaa×(List (Int×Int))×List T_A2)⊕((yaa×yaa×(List (Int×Int))×List T_A2)⊕((yaa×yaa×(List (Int×Int)))⊕(zap×yab×Bool)))):=some (.inl (a6,a7,a2,a8))
def zav.k45 (a2:yaa) (a6:yaa) (a7:List (Int×Int)) (a8:List T_A2):Option ((yaa×yaa×(List (Int×Int))×List T_A2)⊕((yaa×yaa×(List (Int×Int)))⊕(zap×yab×Bool))):=some (.inl (a2,a6,a7,a8))
def zav.s46 (a8:yaa) (b0:yaa) (b2:List (Int×Int)) (a6:List T_A2):Option ((yaa×yaa×(List (Int×Int))×List T_A2)⊕((yaa×yaa×(List (Int×Int)))⊕(zap×yab×Bool))):=cond (decide (0<(↑a6.length:Int))) ((idxn a6 0 fun b3=>(zcy (⟨b2⟩:zbq) b3.f0).bind fun a7=>idxn a6 0 fun b4=>(zcy (⟨a7.2⟩:zbq) b4.f1).bind fun a2=>chk (1<=List.length a6) (cond (decide (a7.1=a2.1)) (some (.inl (a8,b0,a2.2,(List.drop 1 a6)))) ((zg3 (⟨a2.2⟩:zbq) (min a7.1 a2.1) (max a7.1 a2.1)).bind fun b5=>idx a8 (max a7.1 a2.1) fun b6=>(iter (fun (s:yaa×yaa×List T_A2×Nat)=>zav.s43 a7 a2 b6 s.1 s.2.1 s.2.2.1 s.2.2.2) fuel (a8,b0,(List.drop 1 a6),0)).bind (Sum.elim (fun s=>zav.k44 b5 s.1 s.2.1 s.2.2) some))):Option ((yaa×yaa×(List (Int×Int))×List T_A2)⊕((yaa×yaa×(List (Int×Int))×List T_A2)⊕((yaa×yaa×(List (Int×Int)))⊕(zap×yab×Bool))))).bind (Sum.elim (fun s=>zav.k45 s.1 s.2.1 s.2.2.1 s.2.2.2) some)) (some (.inr (.inl (a8,b0,b2))))
def zav.s64 (a7:Nat) (b4:yab) (a6:yaa) (a8:List (Int×Int)) (a2:Nat):Option ((yaa×(List (Int×Int))×Nat)⊕(yaa×(List (Int×Int)))):=cond (decide ((↑a2:Int)<(↑b4.length:Int))) (idxn a6 a7 fun b5=>idxn b5 a2 fun b0=>cond (decide (b0≠(-1:Int))) (idxn a6 a7 fun b2=>(zcy (⟨a8⟩:zbq) b0).bind fun b3=>idxn b2 a2 fun b6=>chk (inR ((↑a2:Int)+1)) (some (.inl ((List.set a6 a7 (List.set b2 a2 b3.1)),b3.2,(a2+1))))) (chk (inR ((↑a2:Int)+1)) (some (.inl (a6,a8,(a2+1)))))) (some (.inr (a6,a8)))
def zav.k65 (a2:Nat) (a6:yaa) (a7:List (Int×Int)):Option ((yaa×(List (Int×Int))×Nat)⊕(yaa×(List (Int×Int)))):=some (.inl (a6,a7,(a2+1)))
def zav.s66 (a8:yaa) (a6:yaa) (a7:List (Int×Int)) (a2:Nat):Option ((yaa×(List (Int×Int))×Nat)⊕(yaa×(List (Int×Int)))):=cond (decide ((↑a2:Int)<(↑a8.length:Int))) (idxn a6 a2 fun b0=>(iter (fun (s:yaa×(List (Int×Int))×Nat)=>zav.s64 a2 b0 s.1 s.2.1 s.2.2) fuel (a6,a7,0)).bind (fun s=>zav.k65 a2 s.1 s.2)) (some (.inr (a6,a7)))
def zav.s68 (a7:zap×yab) (b0:List (Int×Int)) (a6:yab) (a2:Nat):Option (((List (Int×Int))×yab×Nat)⊕yab):=cond (decide ((↑a2:Int)<(↑(List.length (List.replicate a7.2.length (0:Int))):Int))) ((zcy (⟨b0⟩:zbq) (↑a2:Int)).bind fun a8=>idx a7.2 a8.1 fun b2=>idxn a6 a2 fun b3=>chk (inR ((↑a2:Int)+1)) (some (.inl (a8.2,(List.set a6 a2 b2),(a2+1))))) (some (.inr a6))
def zav.k69 (p_:zap) (a7:yaa) (a8:yaa) (b0:List (Int×Int)):Option (zap×yab×Bool):=(zcy (⟨b0⟩:zbq) p_.Start).bind fun a6=>(zar (⟨p_.Inputs,a6.1,a8,a7⟩:zap)).bind fun a2=>chk ((0:Int)<=(↑a2.2.length:Int)∧(↑a2.2.length:Int)<=(↑a2.2.length:Int)∧za1 (Int.toNat (↑a2.2.length:Int)) 8) ((iter (fun (s:(List (Int×Int))×yab×Nat)=>zav.s68 a2 s.1 s.2.1 s.2.2) fuel (a6.2,(List.replicate a2.2.length (0:Int)),0)).bind (fun b2=>some (a2.1,b2,true)))
def zav.k70 (p_:zap) (a2:yaa) (a6:yaa) (a7:List (Int×Int)):Option (zap×yab×Bool):=(iter (fun (s:yaa×(List (Int×Int))×Nat)=>zav.s66 a2 s.1 s.2.1 s.2.2) fuel (a2,a7,0)).bind (fun s=>zav.k69 p_ a6 s.1 s.2)
def zav.k71 (p_:zap) (s_:Int) (t_:Int) (a2:yaa) (a6:yaa):Option (zap×yab×Bool):=(iter (fun (s:yaa×yaa×(List (Int×Int))×List T_A2)=>zav.s46 s.1 s.2.1 s.2.2.1 s.2.2.2) fuel (a2,a6,([]:List (Int×Int)),[(⟨s_,t_⟩:T_A2)])).bind (Sum.elim (fun s=>zav.k70 p_ s.1 s.2.1 s.2.2) some)
def zav (p_:zap) (s_:Int) (t_:Int):Option (zap×yab×Bool):=(iter (fun (s:yaa×yaa×Nat)=>zav.s2 p_ s.1 s.2.1 s.2.2) fuel ([],[],0)).bind (fun s=>zav.k71 p_ s_ t_ s.1 s.2)
def ze8.s25 (red_:List Bool) (a7:zap×yab×Bool) (a6:List Bool) (a2:Nat):Option ((List Bool×Nat)⊕List Bool):=cond (decide ((↑a2:Int)<(↑red_.length:Int))) (idxn red_ a2 fun b0=>(cond (b0) (idxn a7.2.1 a2 fun b2=>some (decide (b2≠(-1:Int)))) (some false)).bind (fun b3=>cond (b3) (idxn a7.2.1 a2 fun a8=>idx a6 a8 fun b4=>some (.inl ((List.set a6 a8.toNat true),(a2+1)))) (some (.inl (a6,(a2+1)))))) (some (.inr a6))
def ze8.s26 (p_:zap) (red_:List Bool) (b_:Int) (a6:Nat):Option (Nat⊕(Unit⊕(zap×List Bool))):=cond (decide ((↑a6:Int)<(↑red_.length:Int))) ((idxn red_ a6 fun a7=>cond ((!a7)) (some (.inl ())) ((zav p_ (↑a6:Int) b_).bind fun a2=>cond ((!a2.2.2)) (some (.inl ())) (chk ((0:Int)<=(↑a2.1.Next.length:Int)∧(↑a2.1.Next.length:Int)<=(↑a2.1.Next.length:Int)∧za1 (Int.toNat (↑a2.1.Next.length:Int)) 1) ((iter (fun (s:List Bool×Nat)=>ze8.s25 red_ a2 s.1 s.2) fuel ((List.replicate a2.1.Next.length false),0)).bind (fun a8=>some (.inr (.inr (.inr (a2.1,a8)))))))):Option (Unit⊕(Nat⊕(Unit⊕(zap×List Bool))))).bind (Sum.elim (fun _=>some (.inl (a6+1))) some)) (some (.inr (.inl ())))
def ze8 (p_:zap) (red_:List Bool) (b_:Int):Option (zap×List Bool):=(iter (fun (s:Nat)=>ze8.s26 p_ red_ b_ s) fuel 0).bind (Sum.elim (fun _=>chk (za1 (List.length ([]:List Unit)+List.length red_) 1) (idx ([]++red_) b_ fun a2=>some (p_,(List.set ([]++red_) b_.toNat true)))) some)
def zhk (a_:zab) (b_:zab):Option Int:=(zg8 a_.In b_.In).bind fun a2=>some a2
def zh0.s2 (a6:List zab) (a2:Nat):Option (Nat⊕(Unit⊕Bool)):=cond (decide ((↑a2:Int)<(↑a6.length:Int))) ((idxn a6 a2 fun a7=>idx a6 ((↑a2:Int)-1) fun a8=>(zeb a7.In a8.In).bind fun b0=>cond (b0) (some true) (idx a6 ((↑a2:Int)-1) fun b2=>idxn a6 a2 fun b3=>(zhj b2 b3).bind fun b4=>some (decide (0<=b4)))).bind (fun b5=>cond (b5) (some (.inr (.inr false))) (some (.inl (a2+1))))) (some (.inr (.inl ())))
def zh0 (l_:List zab):Option Bool:=(zm0 l_).bind fun a2=>(zj4 a2 (fun u0 u1=>zhk u0 u1)).bind fun a6=>(iter (fun (s:Nat)=>zh0.s2 a6 s) fuel 1).bind (Sum.elim (fun _=>some true) some)
def zii (u_:zab) (p1_:zab):Option Bool:=(zeb u_.In p1_.In).bind fun a2=>some a2
def zik (u_:zab) (p1_:zab):Option Bool:=(zhj p1_ u_).bind fun a2=>some (decide (0<=a2))
def zci (s_:List zab) (f_:zab->Option Bool):Option Bool:=(zbi s_ f_).bind fun a2=>some (decide (0<=a2))
def ze0.s2 (o_:zan) (a2:Nat):Option (Nat⊕(Unit⊕Int)):=cond (decide ((↑a2:Int)<(↑o_.Traces.length:Int))) (idxn o_.Traces a2 fun a6=>(zc3 a6.In o_.Inputs).bind fun a7=>cond (decide (a7≠0)) (some (.inr (.inr a7))) (cond (decide ((↑a6.In.length:Int)=0)) (some (.inr (.inr 19))) ((zi4 a6 o_.Inputs).bind fun a8=>cond (decide (a8≠0)) (some (.inr (.inr a8))) ((cond (decide (0<(↑a2:Int))) (idx o_.Traces ((↑a2:Int)-1) fun b0=>(zif b0 a6).bind fun b2=>some (decide (0<=b2))) (some false)).bind (fun b3=>cond (b3) (some (.inr (.inr 10))) (some (.inl (a2+1)))))))) (some (.inr (.inl ())))
def ze0.s4 (o_:zan) (a2:Nat):Option (Nat⊕(Unit⊕Int)):=cond (decide ((↑a2:Int)<(↑o_.Traces.length:Int))) (idxn o_.Traces a2 fun a6=>chk ((0:Int)<=((↑a2:Int)+1)∧((↑a2:Int)+1)<=(↑o_.Traces.length:Int)) ((zci (List.drop (a2+1) o_.Traces) (fun u0=>zii u0 a6)).bind fun a7=>cond (a7) (some (.inr (.inr 7))) ((zci (List.drop (a2+1) o_.Traces) (fun u0=>zik u0 a6)).bind fun a8=>cond (a8) (some (.inr (.inr 13))) (some (.inl (a2+1)))))) (some (.inr (.inl ())))
def ze0 (o_:zan):Option Int:=(cond (decide (o_.Inputs<1)) (some true) (some (decide (64<o_.Inputs)))).bind (fun a6=>cond (a6) (some 2) (cond (decide (10000<(↑o_.Traces.length:Int))) (some 11) ((iter (fun (s:Nat)=>ze0.s2 o_ s) fuel 0).bind (Sum.elim (fun _=>(zh0 o_.Traces).bind fun a2=>cond (a2) (some 0) ((iter (fun (s:Nat)=>ze0.s4 o_ s) fuel 0).bind (Sum.elim (fun _=>some 0) some))) some))))
def zc5.k53 (a6:Int) (a7:Nat) (a8:Int) (a2:yaa) (b0:yaa):Option ((yaa×yaa×Int×Nat)⊕((yaa×yaa)⊕((yaa×yaa×Nat)⊕((yaa×yaa)⊕(zap×Int))))):=idx a2 a6 fun b2=>idx b2 a8 fun b3=>some (.inl (a2,b0,b3,(a7+1)))
def zc5.s54 (o_:zan) (b2:zab) (a2:yaa) (a8:yaa) (a6:Int) (b0:Nat):Option ((yaa×yaa×Int×Nat)⊕((yaa×yaa)⊕((yaa×yaa×Nat)⊕((yaa×yaa)⊕(zap×Int))))):=cond (decide ((↑b0:Int)<(↑b2.In.length:Int))) (idxn b2.In b0 fun a7=>(idx a2 a6 fun b8=>idx b8 a7 fun b9=>cond (decide (b9=(-1:Int))) (cond (decide ((↑a2.length:Int)=4096)) (some (.inr (.inr (.inr (.inr (.inr ((⟨0,0,[],[]⟩:zap),11))))))) (idx a2 a6 fun b3=>idx a8 a6 fun b4=>idxn b2.Out b0 fun b5=>idx b3 a7 fun c0=>idx b4 a7 fun c6=>(zfv o_.Inputs).bind fun b6=>chk (za1 (List.length (List.set a2 (Int.toNat a6) (List.set b3 (Int.toNat a7) (↑a2.length:Int)))+List.length [b6]) 24) ((zfv o_.Inputs).bind fun b7=>chk (za1 (List.length (List.set a8 (Int.toNat a6) (List.set b4 (Int.toNat a7) b5))+List.length [b7]) 24) (some (.inl (((List.set a2 (Int.toNat a6) (List.set b3 (Int.toNat a7) (↑a2.length:Int)))++[b6]),((List.set a8 (Int.toNat a6) (List.set b4 (Int.toNat a7) b5))++[b7]))))))) (some (.inl (a2,a8))):Option ((yaa×yaa)⊕((yaa×yaa×Int×Nat)⊕((yaa×yaa)⊕((yaa×yaa×Nat)⊕((yaa×yaa)⊕(zap×Int))))))).bind (Sum.elim (fun s=>zc5.k53 a6 b0 a7 s.1 s.2) some)) (some (.inr (.inl (a2,a8))))
def zc5.k55 (a2:Nat) (a6:yaa) (a7:yaa):Option ((yaa×yaa×Nat)⊕((yaa×yaa)⊕(zap×Int))):=some (.inl (a6,a7,(a2+1)))
def zc5.s56 (o_:zan) (a6:yaa) (a7:yaa) (a2:Nat):Option ((yaa×yaa×Nat)⊕((yaa×yaa)⊕(zap×Int))):=cond (decide ((↑a2:Int)<(↑o_.Traces.length:Int))) (idxn o_.Traces a2 fun a8=>(iter (fun (s:yaa×yaa×Int×Nat)=>zc5.s54 o_ a8 s.1 s.2.1 s.2.2.1 s.2.2.2) fuel (a6,a7,0,0)).bind (Sum.elim (fun s=>zc5.k55 a2 s.1 s.2) some)) (some (.inr (.inl (a6,a7))))
def zc5.k57 (o_:zan) (a6:yaa) (a7:yaa):Option (zap×Int):=(zar (⟨o_.Inputs,0,a6,a7⟩:zap)).bind fun a2=>some (a2.1,0)
def zc5 (o_:zan):Option (zap×Int):=(ze0 o_).bind fun a2=>cond (decide (a2≠0)) (some ((⟨0,0,[],[]⟩:zap),a2)) ((zfv o_.Inputs).bind fun a6=>(zfv o_.Inputs).bind fun a7=>(iter (fun (s:yaa×yaa×Nat)=>zc5.s56 o_ s.1 s.2.1 s.2.2) fuel ([a6],[a7],0)).bind (Sum.elim (fun s=>zc5.k57 o_ s.1 s.2) some))
def zhu.s1 (a6:Int) (a7:Int) (a8:yaa) (b0:yaa) (red62:List Bool):Option ((Int×Int×yaa×yaa×List Bool)⊕(zap×Int)):=(zfu (⟨a6,a7,a8,b0⟩:zap) red62).bind fun b2=>cond ((!b2.2)) (some (.inr ((⟨a6,a7,a8,b0⟩:zap),0))) ((ze8 (⟨a6,a7,a8,b0⟩:zap) red62 b2.1).bind fun a2=>some (.inl (a2.1.Inputs,a2.1.Start,a2.1.Next,a2.1.Out,a2.2)))
def zhu (o_:zan):Option (zap×Int):=(zc5 o_).bind fun a2=>cond (decide (a2.2≠0)) (some ((⟨0,0,[],[]⟩:zap),a2.2)) (chk ((0:Int)<=(↑a2.1.Next.length:Int)∧(↑a2.1.Next.length:Int)<=(↑a2.1.Next.length:Int)∧za1 (Int.toNat (↑a2.1.Next.length:Int)) 1) (idx (List.replicate a2.1.Next.length false) a2.1.Start fun a6=>iter (fun (s:Int×Int×yaa×yaa×List Bool)=>zhu.s1 s.1 s.2.1 s.2.2.1 s.2.2.2.1 s.2.2.2.2) fuel (a2.1.Inputs,a2.1.Start,a2.1.Next,a2.1.Out,(List.set (List.replicate a2.1.Next.length false) a2.1.Start.toNat true))))
def zf6.s13 (p_:zap) (b0:Nat) (a8:yab) (a2:Nat):Option (Nat⊕(Unit⊕(Nat⊕(Unit⊕Int)))):=cond (decide ((↑a2:Int)<(↑a8.length:Int))) (idxn a8 a2 fun a6=>idxn p_.Out b0 fun b2=>idxn b2 a2 fun a7=>(cond (decide (a6<(-1:Int))) (some true) (cond (decide ((↑p_.Next.length:Int)<=a6)) (some true) (cond (decide (a7<(-1:Int))) (some true) (some (decide (1048576<a7)))))).bind (fun b3=>cond (b3) (some (.inr (.inr (.inr (.inr 2))))) (cond ((!((decide (a6=(-1:Int)))==(decide (a7=(-1:Int)))))) (some (.inr (.inr (.inr (.inr 1))))) (some (.inl (a2+1)))))) (some (.inr (.inl ())))
def zf6.s14 (p_:zap) (a2:Nat):Option (Nat⊕(Unit⊕Int)):=cond (decide ((↑a2:Int)<(↑p_.Next.length:Int))) ((idxn p_.Next a2 fun a6=>cond (decide ((↑a6.length:Int)≠p_.Inputs)) (some true) (idxn p_.Out a2 fun a7=>some (decide ((↑a7.length:Int)≠p_.Inputs)))).bind (fun a8=>cond (a8) (some (.inr (.inr 1))) (idxn p_.Next a2 fun b0=>(iter (fun (s:Nat)=>zf6.s13 p_ a2 b0 s) fuel 0).bind (Sum.elim (fun _=>some (.inl (a2+1))) some)))) (some (.inr (.inl ())))
def zf6 (p_:zap):Option Int:=(cond (decide (p_.Inputs<1)) (some true) (some (decide (64<p_.Inputs)))).bind (fun a2=>cond (a2) (some 2) (cond (decide ((↑p_.Next.length:Int)=0)) (some 19) (cond (decide (4096<(↑p_.Next.length:Int))) (some 11) ((cond (decide (p_.Start<0)) (some true) (some (decide ((↑p_.Next.length:Int)<=p_.Start)))).bind (fun a6=>cond (a6) (some 2) (cond (decide ((↑p_.Out.length:Int)≠(↑p_.Next.length:Int))) (some 1) ((iter (fun (s:Nat)=>zf6.s14 p_ s) fuel 0).bind (Sum.elim (fun _=>some 0) some))))))))
def zcb.s18 (p_:zap) (out_:Int) (b2:Nat) (b3:yab) (a6:yab) (a7:yab) (a2:Nat):Option ((yab×yab×Nat)⊕(yab×yab)):=cond (decide ((↑a2:Int)<(↑b3.length:Int))) (idxn b3 a2 fun a8=>idxn p_.Out b2 fun b4=>idxn b4 a2 fun b0=>idxn a6 a2 fun b5=>idxn a7 a2 fun b6=>cond (decide (a8=(-1:Int))) (idxn (List.set a6 a2 a8) a2 fun b7=>idxn (List.set a7 a2 b0) a2 fun b8=>some (.inl ((List.set (List.set a6 a2 a8) a2 (↑b2:Int)),(List.set (List.set a7 a2 b0) a2 out_),(a2+1)))) (some (.inl ((List.set a6 a2 a8),(List.set a7 a2 b0),(a2+1))))) (some (.inr (a6,a7)))
def zcb.k19 (a2:yaa) (a6:yaa) (a7:Nat) (a8:yab) (b0:yab):Option ((yaa×yaa×Nat)⊕(yaa×yaa)):=chk (za1 (List.length a2+1) 24) (chk (za1 (List.length a6+1) 24) (some (.inl ((a2++[a8]),(a6++[b0]),(a7+1)))))
def zcb.s20 (p_:zap) (out_:Int) (a6:yaa) (a7:yaa) (a2:Nat):Option ((yaa×yaa×Nat)⊕(yaa×yaa)):=cond (decide ((↑a2:Int)<(↑p_.Next.length:Int))) (chk ((0:Int)<=p_.Inputs∧p_.Inputs<=p_.Inputs∧za1 (Int.toNat p_.Inputs) 8) (chk ((0:Int)<=p_.Inputs∧p_.Inputs<=p_.Inputs∧za1 (Int.toNat p_.Inputs) 8) (idxn p_.Next a2 fun a8=>(iter (fun (s:yab×yab×Nat)=>zcb.s18 p_ out_ a2 a8 s.1 s.2.1 s.2.2) fuel ((List.replicate (Int.toNat p_.Inputs) (0:Int)),(List.replicate (Int.toNat p_.Inputs) (0:Int)),0)).bind (fun s=>zcb.k19 a6 a7 a2 s.1 s.2)))) (some (.inr (a6,a7)))
def zcb.k21 (p_:zap) (a2:yaa) (a6:yaa):Option (zaa×Int):=some ((⟨p_.Inputs,p_.Start,a2,a6⟩:zaa),0)
def zcb (p_:zap) (out_:Int):Option (zaa×Int):=(zf6 p_).bind fun a2=>cond (decide (a2≠0)) (some ((⟨0,0,[],[]⟩:zaa),a2)) ((cond (decide (out_<0)) (some true) (some (decide (1048576<out_)))).bind (fun a6=>cond (a6) (some ((⟨0,0,[],[]⟩:zaa),2)) (cond (decide (128<(↑p_.Next.length:Int))) (some ((⟨0,0,[],[]⟩:zaa),11)) ((iter (fun (s:yaa×yaa×Nat)=>zcb.s20 p_ out_ s.1 s.2.1 s.2.2) fuel ([],[],0)).bind (fun s=>zcb.k21 p_ s.1 s.2)))))
def zb3.s2 (s1_:yaa) (s2_:yaa) (eq_:(yab)->(yab)->Option Bool) (a2:Nat):Option (Nat⊕(Unit⊕Bool)):=cond (decide ((↑a2:Int)<(↑s1_.length:Int))) (idxn s1_ a2 fun a6=>idxn s2_ a2 fun a7=>(eq_ a6 a7).bind fun a8=>cond ((!a8)) (some (.inr (.inr false))) (some (.inl (a2+1)))) (some (.inr (.inl ())))
def zb3 (s1_:yaa) (s2_:yaa) (eq_:(yab)->(yab)->Option Bool):Option Bool:=cond (decide ((↑s1_.length:Int)≠(↑s2_.length:Int))) (some false) ((iter (fun (s:Nat)=>zb3.s2 s1_ s2_ eq_ s) fuel 0).bind (Sum.elim (fun _=>some true) some))
def zkq (x_:yab) (y_:yab):Option Bool:=(zbm x_ y_).bind fun a2=>some a2
def zoe (a_:yaa) (b_:yaa):Option Bool:=(zb3 a_ b_ (fun u0 u1=>zkq u0 u1)).bind fun a2=>some a2
def zlt (a_:zaa) (b_:zaa):Option Bool:=(cond (decide (a_.Inputs=b_.Inputs)) (cond (decide (a_.Start=b_.Start)) ((zoe a_.Next b_.Next).bind fun a2=>cond (a2) ((zoe a_.Out b_.Out).bind fun a6=>some a6) (some false)) (some false)) (some false)).bind (fun a7=>some a7)
def zez.s2 (m_:zaa) (words_:yaa) (a2:Nat):Option (Nat⊕(Unit⊕(yab×Bool×Int))):=cond (decide ((↑a2:Int)<(↑words_.length:Int))) (idxn words_ a2 fun a7=>(zc3 a7 m_.Inputs).bind fun a6=>cond (decide (a6≠0)) (some (.inr (.inr ([],false,a6)))) (some (.inl (a2+1)))) (some (.inr (.inl ())))
def zez.s4 (m_:zaa) (impl_:zaa) (words_:yaa) (a7:Nat):Option (Nat⊕(Unit⊕(yab×Bool×Int))):=cond (decide ((↑a7:Int)<(↑words_.length:Int))) (idxn words_ a7 fun a2=>(zie m_ a2).bind fun a8=>cond (decide (a8.2≠0)) (some (.inr (.inr ([],false,a8.2)))) ((zie impl_ a2).bind fun b0=>cond (decide (b0.2≠0)) (some (.inr (.inr ([],false,b0.2)))) ((zej a8.1 b0.1).bind fun a6=>cond (decide (a6<(↑a2.length:Int))) (chk (inR (a6+1)) (chk ((0:Int)<=(a6+1)∧(a6+1)<=(↑a2.length:Int)) ((zcs [(List.take (Int.toNat (a6+1)) a2)]).bind fun b2=>some (.inr (.inr (b2,false,0)))))) (some (.inl (a7+1)))))) (some (.inr (.inl ())))
def zez (m_:zaa) (impl_:zaa) (words_:yaa):Option (yab×Bool×Int):=(zbk m_).bind fun a2=>cond (decide (a2≠0)) (some ([],false,a2)) ((zbk impl_).bind fun a6=>cond (decide (a6≠0)) (some ([],false,a6)) (cond (decide (m_.Inputs≠impl_.Inputs)) (some ([],false,15)) ((iter (fun (s:Nat)=>zez.s2 m_ words_ s) fuel 0).bind (Sum.elim (fun _=>(iter (fun (s:Nat)=>zez.s4 m_ impl_ words_ s) fuel 0).bind (Sum.elim (fun _=>some ([],true,0)) some)) some))))
def zfc.s2 (ids_:List (yaa)) (a6:Int) (a2:Nat):Option ((Int×Nat)⊕Int):=cond (decide ((↑a2:Int)<(↑ids_.length:Int))) (idxn ids_ a2 fun a7=>some (.inl ((max a6 (↑a7.length:Int)),(a2+1)))) (some (.inr a6))
def zfc (ids_:List (yaa)):Option Int:=(iter (fun (s:Int×Nat)=>zfc.s2 ids_ s.1 s.2) fuel (1,0)).bind (fun a2=>some a2)
def zdu.s2 (u_:yab) (tails_:yaa) (a2:yaa) (a6:Nat):Option ((yaa×Nat)⊕yaa):=cond (decide ((↑a6:Int)<(↑tails_.length:Int))) (idxn tails_ a6 fun a7=>(zcs [u_,a7]).bind fun a8=>chk (za1 (List.length a2+1) 24) (some (.inl ((a2++[a8]),(a6+1))))) (some (.inr a2))
def zdu (u_:yab) (tails_:yaa):Option yaa:=(iter (fun (s:yaa×Nat)=>zdu.s2 u_ tails_ s.1 s.2) fuel ([],0)).bind (fun a2=>some a2)
def zjk (m_:zaa) (ids_:List (yaa)) (w_:yab):Option (yaa×Int):=(ziq m_ m_.Start w_).bind fun a2=>cond (decide (a2.2.2≠0)) (some ([],a2.2.2)) (cond (decide ((↑ids_.length:Int)≠(↑m_.Next.length:Int))) (some ([],1)) (idx ids_ a2.2.1 fun a6=>cond (decide ((↑a6.length:Int)=0)) (some ([[]],0)) (idx ids_ a2.2.1 fun a7=>(zdu [] a7).bind fun a8=>some (a8,0))))
def zj3.s2 (inputs_:Int) (a6:yab) (a2:Int):Option ((yab×Int)⊕(yab⊕(yab×Bool))):=cond (decide (0<=a2)) (idx a6 a2 fun a7=>chk (inR (a7+1)) (cond (decide ((a7+1)<inputs_)) (idx a6 a2 fun a8=>chk (inR (a8+1)) (idx a6 a2 fun b0=>some (.inr (.inr ((List.set a6 a2.toNat (a8+1)),true))))) (idx a6 a2 fun b2=>chk (inR (a2-1)) (some (.inl ((List.set a6 a2.toNat 0),(a2-1))))))) (some (.inr (.inl a6)))
def zj3 (w_:yab) (inputs_:Int):Option (yab×Bool):=(zc3 w_ inputs_).bind fun a7=>cond (decide (a7≠0)) (some ([],false)) ((zco w_).bind fun a2=>chk (inR ((↑a2.length:Int)-1)) ((iter (fun (s:yab×Int)=>zj3.s2 inputs_ s.1 s.2) fuel (a2,((↑a2.length:Int)-1))).bind (Sum.elim (fun a6=>cond (decide ((↑a6.length:Int)=1024)) (some ([],false)) (chk (za1 (List.length a6+1) 8) (some ((a6++[0]),true)))) some)))
def ze6.s2 (inputs_:Int) (n_:Int) (a2:yaa) (a6:yab) (ok103:Bool):Option ((yaa×yab×Bool)⊕(yaa⊕(yaa×Int))):=(cond (ok103) (some (decide ((↑a6.length:Int)<=n_))) (some false)).bind (fun a8=>cond (a8) (cond (decide ((↑a2.length:Int)=10000)) (some (.inr (.inr ([],11)))) (chk (za1 (List.length a2+1) 24) ((zj3 a6 inputs_).bind fun a7=>some (.inl ((a2++[a6]),a7.1,a7.2))))) (some (.inr (.inl a2))))
def ze6 (inputs_:Int) (n_:Int):Option (yaa×Int):=((zc3 [] inputs_).bind fun a2=>cond (decide (a2≠0)) (some true) (cond (decide (n_<0)) (some true) (some (decide (1024<n_))))).bind (fun a6=>cond (a6) (some ([],2)) ((iter (fun (s:yaa×yab×Bool)=>ze6.s2 inputs_ n_ s.1 s.2.1 s.2.2) fuel ([],[],true)).bind (Sum.elim (fun a7=>some (a7,0)) some)))
def za0.s13 (m_:zaa) (a2:Nat) (a6:List (yaa)) (a7:Nat):Option ((List (yaa)×Nat)⊕(List (yaa)⊕((List (yaa)×Nat)⊕(List (yaa)⊕(List (yaa)×Int))))):=cond (decide ((↑a7:Int)<(↑m_.Next.length:Int))) ((zh2 m_ (↑a2:Int) (↑a7:Int)).bind fun a8=>cond (decide (a8.2.2≠0)) (some (.inr (.inr (.inr (.inr ([],a8.2.2)))))) (idxn a6 a2 fun b0=>chk (za1 (List.length b0+1) 24) (idxn a6 a2 fun b3=>idxn (List.set a6 a2 (b0++[a8.1])) a7 fun b2=>chk (za1 (List.length b2+1) 24) (idxn (List.set a6 a2 (b0++[a8.1])) a7 fun b4=>some (.inl ((List.set (List.set a6 a2 (b0++[a8.1])) a7 (b2++[a8.1])),(a7+1))))))) (some (.inr (.inl a6)))
def za0.s14 (m_:zaa) (a6:List (yaa)) (a2:Nat):Option ((List (yaa)×Nat)⊕(List (yaa)⊕(List (yaa)×Int))):=cond (decide ((↑a2:Int)<(↑m_.Next.length:Int))) ((iter (fun (s:List (yaa)×Nat)=>za0.s13 m_ a2 s.1 s.2) fuel (a6,(a2+1))).bind (Sum.elim (fun a7=>some (.inl (a7,(a2+1)))) some)) (some (.inr (.inl a6)))
def za0.s16 (a7:List (yaa)) (a2:List (yaa)) (a6:Nat):Option ((List (yaa)×Nat)⊕List (yaa)):=cond (decide ((↑a6:Int)<(↑a7.length:Int))) (idxn a7 a6 fun a8=>(zdd a8).bind fun b0=>chk (za1 (List.length a2+1) 24) (some (.inl ((a2++[b0]),(a6+1))))) (some (.inr a2))
def za0 (m_:zaa):Option (List (yaa)×Int):=(zgg m_).bind fun a7=>cond (decide (a7≠0)) (some ([],a7)) (chk ((0:Int)<=(↑m_.Next.length:Int)∧(↑m_.Next.length:Int)<=(↑m_.Next.length:Int)∧za1 (Int.toNat (↑m_.Next.length:Int)) 24) ((iter (fun (s:List (yaa)×Nat)=>za0.s14 m_ s.1 s.2) fuel ((List.replicate m_.Next.length ([]:yaa)),0)).bind (Sum.elim (fun a2=>chk ((0:Int)<=0∧0<=(↑a2.length:Int)∧za1 (Int.toNat (↑a2.length:Int)) 24) ((iter (fun (s:List (yaa)×Nat)=>za0.s16 a2 s.1 s.2) fuel ([],0)).bind (fun a6=>some (a6,0)))) some)))
def zcp.s13 (b5:zaa×Int) (b4:yaa×Int) (b6:List (yaa)×Int) (b2:yab) (a2:yaa) (a6:Nat):Option ((yaa×Nat)⊕(yaa⊕((yaa×Nat)⊕(yaa⊕(yaa×Int))))):=cond (decide ((↑a6:Int)<(↑b4.1.length:Int))) (idxn b4.1 a6 fun b3=>(zcs [b2,b3]).bind fun a8=>(zjk b5.1 b6.1 a8).bind fun a7=>cond (decide (a7.2≠0)) (some (.inr (.inr (.inr (.inr ([],a7.2)))))) ((zdu a8 a7.1).bind fun b0=>chk (za1 (List.length a2+List.length b0) 24) (some (.inl ((a2++b0),(a6+1)))))) (some (.inr (.inl a2)))
def zcp.s14 (b2:zaa×Int) (b0:yaa×Int) (b3:yaa×Int) (b4:List (yaa)×Int) (a6:yaa) (a2:Nat):Option ((yaa×Nat)⊕(yaa⊕(yaa×Int))):=cond (decide ((↑a2:Int)<(↑b0.1.length:Int))) (idxn b0.1 a2 fun a7=>(iter (fun (s:yaa×Nat)=>zcp.s13 b2 b3 b4 a7 s.1 s.2) fuel (a6,0)).bind (Sum.elim (fun a8=>some (.inl (a8,(a2+1)))) some)) (some (.inr (.inl a6)))
def zcp (m_:zaa) (extra_:Int):Option (yaa×Int):=(zbk m_).bind fun b3=>cond (decide (b3≠0)) (some ([],b3)) ((cond (decide (extra_<0)) (some true) (some (decide (3<extra_)))).bind (fun b5=>cond (b5) (some ([],2)) ((zbl m_).bind fun a2=>cond (decide (a2.2≠0)) (some ([],a2.2)) ((zfh a2.1).bind fun a6=>cond (decide (a6.2≠0)) (some ([],a6.2)) (chk (inR (extra_+1)) ((ze6 a2.1.Inputs (extra_+1)).bind fun a7=>cond (decide (a7.2≠0)) (some ([],a7.2)) ((za0 a2.1).bind fun a8=>cond (decide (a8.2≠0)) (some ([],a8.2)) (chk (inR ((↑a6.1.length:Int)*(↑a7.1.length:Int))) ((zfc a8.1).bind fun b4=>chk (inR (((↑a6.1.length:Int)*(↑a7.1.length:Int))*b4)) (cond (decide (10000<(((↑a6.1.length:Int)*(↑a7.1.length:Int))*b4))) (some ([],11)) ((iter (fun (s:yaa×Nat)=>zcp.s14 a2 a6 a7 a8 s.1 s.2) fuel ([],0)).bind (Sum.elim (fun b0=>(zcm b0).bind fun b2=>some (b2,0)) some))))))))))))
def zo6 (o_:zan) (t_:zab):Option (zan×Int):=(zgp o_ [t_]).bind fun a2=>some (a2.1,a2.2)
def zcu.s2 (m_:zaa) (words_:yaa) (a6:Int) (a7:List zab) (a8:Nat):Option ((Int×List zab×Nat)⊕((Int×List zab)⊕(zan×Int))):=cond (decide ((↑a8:Int)<(↑words_.length:Int))) (idxn words_ a8 fun b2=>(zie m_ b2).bind fun b0=>cond (decide (b0.2≠0)) (some (.inr (.inr ((⟨a6,a7⟩:zan),b0.2)))) ((zo6 (⟨a6,a7⟩:zan) (⟨b2,b0.1⟩:zab)).bind fun a2=>cond (decide (a2.2≠0)) (some (.inr (.inr (a2.1,a2.2)))) (some (.inl (a2.1.Inputs,a2.1.Traces,(a8+1)))))) (some (.inr (.inl (a6,a7))))
def zcu.k3 (a2:Int) (a6:List zab):Option (zan×Int):=some ((⟨a2,a6⟩:zan),0)
def zcu (m_:zaa) (o_:zan) (words_:yaa):Option (zan×Int):=(iter (fun (s:Int×List zab×Nat)=>zcu.s2 m_ words_ s.1 s.2.1 s.2.2) fuel (o_.Inputs,o_.Traces,0)).bind (Sum.elim (fun s=>zcu.k3 s.1 s.2) some)
def zhr (t_:zab) (p1_:yab):Option Bool:=(zeb t_.In p1_).bind fun a2=>some a2
def ze7 (o_:zan) (w_:yab):Option (yab×Bool):=cond (decide ((↑w_.length:Int)=0)) (some ([],true)) ((zbi o_.Traces (fun u0=>zhr u0 w_)).bind fun a6=>cond (decide (a6<0)) (some ([],false)) (idx o_.Traces a6 fun a2=>chk ((0:Int)<=(min (↑w_.length:Int) (↑a2.Out.length:Int))∧(min (↑w_.length:Int) (↑a2.Out.length:Int))<=(↑a2.Out.length:Int)) ((zco (List.take (Int.toNat (min (↑w_.length:Int) (↑a2.Out.length:Int))) a2.Out)).bind fun a7=>some (a7,true))))
def zeu.s2 (h_:zb2) (a2:Nat):Option (Nat⊕(Unit⊕Int)):=cond (decide ((↑a2:Int)<(↑h_.Access.length:Int))) (idxn h_.Access a2 fun a7=>(ziq h_.M h_.M.Start a7).bind fun a6=>cond (decide (a6.2.2≠0)) (some (.inr (.inr a6.2.2))) (cond (decide (a6.2.1≠(↑a2:Int))) (some (.inr (.inr 15))) (some (.inl (a2+1))))) (some (.inr (.inl ())))
def zeu (h_:zb2):Option Int:=(zbk h_.M).bind fun a2=>cond (decide (a2≠0)) (some a2) (cond (decide ((↑h_.Access.length:Int)≠(↑h_.M.Next.length:Int))) (some 1) ((iter (fun (s:Nat)=>zeu.s2 h_ s) fuel 0).bind (Sum.elim (fun _=>idx h_.Access h_.M.Start fun a6=>cond (decide ((↑a6.length:Int)≠0)) (some 10) (some 0)) some)))
def zed.s2 (h_:zb2) (w_:yab) (a2:yab) (a6:yab) (a8:Int) (a7:Nat):Option ((yab×yab×Int×Nat)⊕(yab×yab)):=cond (decide ((↑a7:Int)<(↑w_.length:Int))) (idxn w_ a7 fun b0=>idx h_.M.Out a8 fun b3=>idx b3 b0 fun b4=>chk (za1 (List.length a6+1) 8) (idx h_.M.Next a8 fun b5=>idx b5 b0 fun b2=>chk (za1 (List.length a2+1) 8) (some (.inl ((a2++[b2]),(a6++[b4]),b2,(a7+1)))))) (some (.inr (a2,a6)))
def zed.k3 (h_:zb2) (o_:zan) (w_:yab) (a7:yab×Bool) (a8:yab) (a6:yab):Option (Option zb7×Int):=(zbm a7.1 a6).bind fun a2=>cond (a2) (some (none,8)) (some ((some (⟨h_,o_,w_,a8,a6⟩:zb7)),0))
def zed (h_:zb2) (o_:zan) (w_:yab):Option (Option zb7×Int):=(zeu h_).bind fun a2=>cond (decide (a2≠0)) (some (none,a2)) (cond (decide (h_.M.Inputs≠o_.Inputs)) (some (none,15)) ((zc3 w_ o_.Inputs).bind fun a6=>cond (decide (a6≠0)) (some (none,a6)) ((ze7 o_ w_).bind fun a7=>cond ((!a7.2)) (some (none,12)) ((iter (fun (s:yab×yab×Int×Nat)=>zed.s2 h_ w_ s.1 s.2.1 s.2.2.1 s.2.2.2) fuel ([h_.M.Start],[],h_.M.Start,0)).bind (fun s=>zed.k3 h_ o_ w_ a7 s.1 s.2)))))
def zfk (x_:zb7) (i_:Int):Option yab:=idx x_.states i_ fun a2=>idx x_.h.Access a2 fun a6=>chk ((0:Int)<=i_∧i_<=(↑x_.w.length:Int)) ((zcs [a6,(List.drop (Int.toNat i_) x_.w)]).bind fun a7=>some a7)
def zfr (x_:zb7) (i_:Int):Option yab:=(zfk x_ i_).bind fun a6=>(ze7 x_.o a6).bind fun a2=>chk (inR ((↑x_.w.length:Int)-i_)) (chk (inR ((↑a2.1.length:Int)-((↑x_.w.length:Int)-i_))) (chk ((0:Int)<=((↑a2.1.length:Int)-((↑x_.w.length:Int)-i_))∧((↑a2.1.length:Int)-((↑x_.w.length:Int)-i_))<=(↑a2.1.length:Int)) (some (List.drop (Int.toNat ((↑a2.1.length:Int)-((↑x_.w.length:Int)-i_))) a2.1))))
def zfx (i_:Int) (p1_:zb7):Option Bool:=(zfr p1_ i_).bind fun a2=>chk ((0:Int)<=i_∧i_<=(↑p1_.outs.length:Int)) ((zbm a2 (List.drop (Int.toNat i_) p1_.outs)).bind fun a6=>some (!a6))
def zgr (x_:zb7) (i_:Int):Option (zc6×yab×Int):=(zfr x_ i_).bind fun a2=>idxn a2 0 fun a6=>idx x_.outs i_ fun a7=>cond (decide (a6≠a7)) (some ((⟨[],0,[]⟩:zc6),[],15)) (idx x_.states i_ fun a8=>idx x_.h.Access a8 fun b0=>(zco b0).bind fun b2=>idx x_.w i_ fun b3=>chk (inR (i_+1)) (chk ((0:Int)<=(i_+1)∧(i_+1)<=(↑x_.w.length:Int)) ((zco (List.drop (Int.toNat (i_+1)) x_.w)).bind fun b4=>some ((⟨b2,b3,b4⟩:zc6),[],0))))
def zdg.s2 (x_:zb7) (next_:Int->Int->Option Int) (lo90:Int) (hi91:Int):Option ((Int×Int)⊕(Int⊕(zc6×yab×Int))):=chk (inR (hi91-lo90)) (cond (decide (1<(hi91-lo90))) ((next_ lo90 hi91).bind fun a2=>(zfk x_ a2).bind fun a6=>cond (decide (1024<(↑a6.length:Int))) (some (.inr (.inr ((⟨[],0,[]⟩:zc6),[],3)))) ((ze7 x_.o a6).bind fun a7=>cond ((!a7.2)) (some (.inr (.inr ((⟨[],0,[]⟩:zc6),a6,0)))) ((zfx a2 x_).bind fun a8=>cond (a8) (some (.inl (a2,hi91))) (some (.inl (lo90,a2)))))) (some (.inr (.inl lo90))))
def zdg (x_:zb7) (next_:Int->Int->Option Int):Option (zc6×yab×Int):=(iter (fun (s:Int×Int)=>zdg.s2 x_ next_ s.1 s.2) fuel (0,(↑x_.w.length:Int))).bind (Sum.elim (fun lo81=>(zgr x_ lo81).bind fun a2=>some (a2.1,a2.2.1,a2.2.2)) some)
def zi9 (lo_:Int) (hi_:Int):Option Int:=chk (inR (lo_+hi_)) (chk (inR ((lo_+hi_) / 2)∧(0:Int)<=(lo_+hi_)∧(1:Int)<=2) (some ((lo_+hi_) / 2)))
def zkz (h_:zb2) (o_:zan) (w_:yab):Option (zc6×yab×Int):=(zed h_ o_ w_).bind fun a2=>cond (decide (a2.2≠0)) (some ((⟨[],0,[]⟩:zc6),[],a2.2)) (a2.1.bind fun a7=>(zdg a7 (fun u0 u1=>zi9 u0 u1)).bind fun a6=>some (a6.1,a6.2.1,a6.2.2))
def zbr.s2 (x_:yaa) (target_:yab) (cmp_:(yab)->(yab)->Option Int) (a2:Int) (a6:Int):Option ((Int×Int)⊕Int):=cond (decide (a2<a6)) (chk (inR (a2+a6)) (chk ((0:Int)<=(a2+a6)∧(a2+a6)<=18446744073709551615) (chk ((0:Int)<=(a2+a6)∧(a2+a6)<=18446744073709551615) (chk (inR ((a2+a6) / 2^1)) (idx x_ ((a2+a6) / 2^1) fun a7=>(cmp_ a7 target_).bind fun a8=>cond (decide (a8<0)) (chk (inR (((a2+a6) / 2^1)+1)) (some (.inl ((((a2+a6) / 2^1)+1),a6)))) (some (.inl (a2,((a2+a6) / 2^1))))))))) (some (.inr a2))
def zbr (x_:yaa) (target_:yab) (cmp_:(yab)->(yab)->Option Int):Option (Int×Bool):=(iter (fun (s:Int×Int)=>zbr.s2 x_ target_ cmp_ s.1 s.2) fuel (0,(↑x_.length:Int))).bind (fun a2=>(cond (decide (a2<(↑x_.length:Int))) (idx x_ a2 fun a6=>(cmp_ a6 target_).bind fun a7=>some (decide (a7=0))) (some false)).bind (fun a8=>some (a2,a8)))
def zo9 (x_:zam) (outs_:yab):Option (Int×Bool):=(zbr x_.Outs outs_ (fun u0 u1=>zg8 u0 u1)).bind fun a2=>some (a2.1,a2.2)
def zrh (x_:zam):Option Int:=cond (decide (0<(((↑x_.Suffix.length:Int)+(↑x_.Outs.length:Int))+(↑x_.Kids.length:Int)))) (some 1) ((zc3 x_.Access 64).bind fun a2=>some a2)
def zi3 (o_:Int):Option Bool:=(cond (decide (o_<0)) (some true) (some (decide (1048576<o_)))).bind (fun a2=>some a2)
def zji (outs_:yab) (suffix_:yab):Option Int:=cond (decide ((↑outs_.length:Int)≠(↑suffix_.length:Int))) (some 1) ((zea outs_ (fun u0=>zi3 u0)).bind fun a2=>cond (a2) (some 2) (some 0))
def ziw.s2 (x_:zam) (nodes_:Int) (a2:Nat):Option (Nat⊕(Unit⊕Int)):=cond (decide ((↑a2:Int)<(↑x_.Outs.length:Int))) (idxn x_.Outs a2 fun a6=>(zji a6 x_.Suffix).bind fun a7=>cond (decide (a7≠0)) (some (.inr (.inr a7))) ((cond (decide (0<(↑a2:Int))) (idx x_.Outs ((↑a2:Int)-1) fun a8=>(zg8 a8 a6).bind fun b0=>some (decide (0<=b0))) (some false)).bind (fun b2=>cond (b2) (some (.inr (.inr 10))) ((idxn x_.Kids a2 fun b3=>cond (decide (b3<0)) (some true) (idxn x_.Kids a2 fun b4=>some (decide (nodes_<=b4)))).bind (fun b5=>cond (b5) (some (.inr (.inr 2))) (some (.inl (a2+1)))))))) (some (.inr (.inl ())))
def ziw (x_:zam) (nodes_:Int):Option Int:=cond (decide (0<(↑x_.Access.length:Int))) (some 1) (cond (decide ((↑x_.Suffix.length:Int)=0)) (some 19) ((zc3 x_.Suffix 64).bind fun a2=>cond (decide (a2≠0)) (some a2) (cond (decide ((↑x_.Outs.length:Int)≠(↑x_.Kids.length:Int))) (some 1) ((iter (fun (s:Nat)=>ziw.s2 x_ nodes_ s) fuel 0).bind (Sum.elim (fun _=>some 0) some)))))
def zfb.s2 (t_:zba) (a8:List Bool) (a7:yab) (b0:Nat):Option ((List Bool×yab×Nat)⊕(yab⊕Bool)):=cond (decide ((↑b0:Int)<(↑a7.length:Int))) (idxn a7 b0 fun a2=>idx a8 a2 fun b2=>cond (b2) (some (.inr (.inr false))) (idx a8 a2 fun b3=>idx t_.Nodes a2 fun a6=>chk (za1 (List.length a7+List.length a6.Kids) 8) (cond (decide ((↑t_.Nodes.length:Int)<(↑(List.length (a7++a6.Kids)):Int))) (some (.inr (.inr false))) (some (.inl ((List.set a8 a2.toNat true),(a7++a6.Kids),(b0+1))))))) (some (.inr (.inl a7)))
def zfb (t_:zba):Option Bool:=chk ((0:Int)<=(↑t_.Nodes.length:Int)∧(↑t_.Nodes.length:Int)<=(↑t_.Nodes.length:Int)∧za1 (Int.toNat (↑t_.Nodes.length:Int)) 1) ((iter (fun (s:List Bool×yab×Nat)=>zfb.s2 t_ s.1 s.2.1 s.2.2) fuel ((List.replicate t_.Nodes.length false),[0],0)).bind (Sum.elim (fun a2=>some (decide ((↑a2.length:Int)=(↑t_.Nodes.length:Int)))) some))
def zfl.s2 (t_:zba) (a2:yaa) (a6:Nat):Option ((yaa×Nat)⊕yaa):=cond (decide ((↑a6:Int)<(↑t_.Nodes.length:Int))) (idxn t_.Nodes a6 fun a7=>cond (a7.Leaf) ((zcs [a7.Access]).bind fun a8=>chk (za1 (List.length a2+1) 24) (some (.inl ((a2++[a8]),(a6+1))))) (some (.inl (a2,(a6+1))))) (some (.inr a2))
def zfl (t_:zba):Option yaa:=(iter (fun (s:yaa×Nat)=>zfl.s2 t_ s.1 s.2) fuel ([],0)).bind (fun a2=>some a2)
def zf8.s2 (t_:zba) (a2:Nat):Option (Nat⊕(Unit⊕Int)):=cond (decide ((↑a2:Int)<(↑t_.Nodes.length:Int))) (idxn t_.Nodes a2 fun a6=>(cond (a6.Leaf) ((zrh a6).bind fun a8=>some a8) ((ziw a6 (↑t_.Nodes.length:Int)).bind fun b0=>some b0):Option Int).bind (fun a7=>cond (decide (a7≠0)) (some (.inr (.inr a7))) (some (.inl (a2+1))))) (some (.inr (.inl ())))
def zf8 (t_:zba):Option Int:=cond (decide ((↑t_.Nodes.length:Int)=0)) (some 19) (cond (decide (4096<(↑t_.Nodes.length:Int))) (some 11) ((iter (fun (s:Nat)=>zf8.s2 t_ s) fuel 0).bind (Sum.elim (fun _=>(zfb t_).bind fun a6=>cond ((!a6)) (some 1) ((zfl t_).bind fun a2=>(zdd a2).bind fun a7=>cond (decide ((↑a7.length:Int)≠(↑a2.length:Int))) (some 7) (some 0))) some)))
def zit.s2 (t_:zba) (o_:zan) (w_:yab) (at108:Int):Option (Int⊕(Int⊕(Int×yab×Int))):=idx t_.Nodes at108 fun b2=>cond ((!b2.Leaf)) (idx t_.Nodes at108 fun a2=>(zcs [w_,a2.Suffix]).bind fun a6=>(zc3 a6 o_.Inputs).bind fun a8=>cond (decide (a8≠0)) (some (.inr (.inr (0,[],a8)))) ((ze7 o_ a6).bind fun a7=>cond ((!a7.2)) (some (.inr (.inr (0,a6,0)))) (chk ((0:Int)<=(↑w_.length:Int)∧(↑w_.length:Int)<=(↑a7.1.length:Int)) ((zo9 a2 (List.drop w_.length a7.1)).bind fun b0=>cond ((!b0.2)) (some (.inr (.inl at108))) (idx a2.Kids b0.1 fun b3=>some (.inl b3)))))) (some (.inr (.inl at108)))
def zit (t_:zba) (o_:zan) (w_:yab):Option (Int×yab×Int):=(zf8 t_).bind fun a2=>cond (decide (a2≠0)) (some (0,[],a2)) ((zc3 w_ o_.Inputs).bind fun a6=>cond (decide (a6≠0)) (some (0,[],a6)) ((iter (fun (s:Int)=>zit.s2 t_ o_ w_ s) fuel 0).bind (Sum.elim (fun at95=>some (at95,[],0)) some)))
def ze2 (l_:zai) (w_:yab):Option Bool:=(ze7 l_.o w_).bind fun a2=>some a2.2
def zd1 (l_:zai) (w_:yab) (suffix_:yab):Option yab:=(zcs [w_,suffix_]).bind fun a6=>(ze7 l_.o a6).bind fun a2=>chk (inR ((↑a2.1.length:Int)-(↑suffix_.length:Int))) (chk ((0:Int)<=((↑a2.1.length:Int)-(↑suffix_.length:Int))∧((↑a2.1.length:Int)-(↑suffix_.length:Int))<=(↑a2.1.length:Int)) (some (List.drop (Int.toNat ((↑a2.1.length:Int)-(↑suffix_.length:Int))) a2.1)))
def zjw (v_:yab) (p1_:yab):Option Bool:=(zbm v_ p1_).bind fun a2=>some a2
def zcd.s2 (s_:yaa) (f_:(yab)->Option Bool) (a2:Nat):Option (Nat⊕(Unit⊕Int)):=cond (decide ((↑a2:Int)<(↑s_.length:Int))) (idxn s_ a2 fun a6=>(f_ a6).bind fun a7=>cond (a7) (some (.inr (.inr (↑a2:Int)))) (some (.inl (a2+1)))) (some (.inr (.inl ())))
def zcd (s_:yaa) (f_:(yab)->Option Bool):Option Int:=(iter (fun (s:Nat)=>zcd.s2 s_ f_ s) fuel 0).bind (Sum.elim (fun _=>some (-1:Int)) some)
def zec (s_:yaa) (f_:(yab)->Option Bool):Option Bool:=(zcd s_ f_).bind fun a2=>some (decide (0<=a2))
def zpd (l_:yaa) (w_:yab):Option Bool:=(zec l_ (fun u0=>zjw u0 w_)).bind fun a2=>some a2
def zo1 (t_:zba) (w_:yab):Option Int:=(zc3 w_ 64).bind fun a2=>cond (decide (a2≠0)) (some a2) ((zfl t_).bind fun a6=>(zpd a6 w_).bind fun a7=>cond (a7) (some 7) (some 0))
def zq2 (t_:zba) (n_:Int) (leaf_:Bool):Option Int:=(cond (decide (n_<0)) (some true) (some (decide ((↑t_.Nodes.length:Int)<=n_)))).bind (fun a2=>cond (a2) (some 2) (idx t_.Nodes n_ fun a6=>cond ((!(a6.Leaf==leaf_))) (some 10) (some 0)))
def zm7 (t_:zba) (n_:Int) (suffix_:yab) (outs_:yab) (w_:yab) (other_:yab):Option Int:=(zq2 t_ n_ true).bind fun a2=>cond (decide (a2≠0)) (some a2) (cond (decide ((↑suffix_.length:Int)=0)) (some 19) ((zc3 suffix_ 64).bind fun a6=>cond (decide (a6≠0)) (some a6) ((zji outs_ suffix_).bind fun a7=>cond (decide (a7≠0)) (some a7) ((zo1 t_ w_).bind fun a8=>cond (decide (a8≠0)) (some a8) ((zji other_ suffix_).bind fun b0=>cond (decide (b0≠0)) (some b0) ((zbm outs_ other_).bind fun b2=>cond (b2) (some 15) (cond (decide (4094<(↑t_.Nodes.length:Int))) (some 11) (some 0))))))))
def zcv.s2 (a6:yaa) (a2:Nat) (a7:Int):Option ((yaa×Nat×Int)⊕yaa):=cond (decide ((↑a2:Int)<a7)) (idx a6 a7 fun a8=>idxn a6 a2 fun b0=>idxn a6 a2 fun b2=>idx (List.set a6 a2 a8) a7 fun b3=>chk (inR ((↑a2:Int)+1)) (chk (inR (a7-1)) (some (.inl ((List.set (List.set a6 a2 a8) a7.toNat b0),(a2+1),(a7-1)))))) (some (.inr a6))
def zcv (s_:yaa):Option yaa:=(iter (fun (s:yaa×Nat×Int)=>zcv.s2 s.1 s.2.1 s.2.2) fuel (s_,0,((↑s_.length:Int)-1))).bind (fun a2=>some a2)
def zc9.s2 (a6:yab) (a2:Nat) (a7:Int):Option ((yab×Nat×Int)⊕yab):=cond (decide ((↑a2:Int)<a7)) (idx a6 a7 fun a8=>idxn a6 a2 fun b0=>idxn a6 a2 fun b2=>idx (List.set a6 a2 a8) a7 fun b3=>chk (inR ((↑a2:Int)+1)) (chk (inR (a7-1)) (some (.inl ((List.set (List.set a6 a2 a8) a7.toNat b0),(a2+1),(a7-1)))))) (some (.inr a6))
def zc9 (s_:yab):Option yab:=(iter (fun (s:yab×Nat×Int)=>zc9.s2 s.1 s.2.1 s.2.2) fuel (s_,0,((↑s_.length:Int)-1))).bind (fun a2=>some a2)
def zeo.s13 (a7:zam) (a2:yaa) (a6:Nat):Option ((yaa×Nat)⊕yaa):=cond (decide ((↑a6:Int)<(↑a7.Outs.length:Int))) (idxn a7.Outs a6 fun a8=>(zcs [a8]).bind fun b0=>chk (za1 (List.length a2+1) 24) (some (.inl ((a2++[b0]),(a6+1))))) (some (.inr a2))
def zeo.s14 (t_:zba) (a7:List zam) (a6:Nat):Option ((List zam×Nat)⊕List zam):=cond (decide ((↑a6:Int)<(↑(List.length (List.take (List.length ((List.replicate t_.Nodes.length (⟨false,[],[],[],[]⟩:zam)):List zam)) t_.Nodes++List.drop t_.Nodes.length ((List.replicate t_.Nodes.length (⟨false,[],[],[],[]⟩:zam)):List zam))):Int))) (idxn a7 a6 fun a2=>chk (inR ((↑a2.Outs.length:Int)+1)) (chk ((0:Int)<=0∧0<=((↑a2.Outs.length:Int)+1)∧za1 (Int.toNat ((↑a2.Outs.length:Int)+1)) 24) ((iter (fun (s:yaa×Nat)=>zeo.s13 a2 s.1 s.2) fuel ([],0)).bind (fun a8=>(zcs [a2.Access]).bind fun b0=>(zcs [a2.Suffix]).bind fun b2=>(zco a2.Kids).bind fun b3=>idxn a7 a6 fun b4=>chk (inR ((↑a6:Int)+1)) (some (.inl ((List.set a7 a6 (⟨a2.Leaf,b0,b2,a8,b3⟩:zam)),(a6+1)))))))) (some (.inr a7))
def zeo (t_:zba):Option zba:=chk ((0:Int)<=(↑t_.Nodes.length:Int)∧(↑t_.Nodes.length:Int)<=(↑t_.Nodes.length:Int)∧za1 (Int.toNat (↑t_.Nodes.length:Int)) 104) (chk (0<List.length ((List.replicate t_.Nodes.length (⟨false,[],[],[],[]⟩:zam)):List zam)∧0<List.length t_.Nodes) ((iter (fun (s:List zam×Nat)=>zeo.s14 t_ s.1 s.2) fuel ((List.take (List.length ((List.replicate t_.Nodes.length (⟨false,[],[],[],[]⟩:zam)):List zam)) t_.Nodes++List.drop t_.Nodes.length ((List.replicate t_.Nodes.length (⟨false,[],[],[],[]⟩:zam)):List zam)),0)).bind (fun a2=>some (⟨a2⟩:zba))))
def zhx.k1 (n_:Int) (w_:yab) (a2:zba) (b0:zam) (a6:yab) (a7:yaa) (a8:yab):Option (zba×Int):=idx a2.Nodes n_ fun b3=>(zcs [w_]).bind fun b2=>chk (za1 (List.length (List.set a2.Nodes n_.toNat (⟨false,[],a6,a7,a8⟩:zam))+2) 104) (some ((⟨((List.set a2.Nodes n_.toNat (⟨false,[],a6,a7,a8⟩:zam))++[b0,(⟨true,b2,[],[],[]⟩:zam)])⟩:zba),0))
def zhx (t_:zba) (n_:Int) (suffix_:yab) (outs_:yab) (w_:yab) (other_:yab):Option (zba×Int):=(zf8 t_).bind fun a2=>cond (decide (a2≠0)) (some (t_,a2)) ((zm7 t_ n_ suffix_ outs_ w_ other_).bind fun a6=>cond (decide (a6≠0)) (some (t_,a6)) ((zeo t_).bind fun a7=>idx a7.Nodes n_ fun b2=>(zcs [suffix_]).bind fun b3=>(zcs [outs_]).bind fun a8=>(zcs [other_]).bind fun b0=>((zg8 outs_ other_).bind fun b4=>cond (decide (0<b4)) ((zcv [a8,b0]).bind fun b5=>(zc9 [(↑t_.Nodes.length:Int),((↑t_.Nodes.length:Int)+1)]).bind fun b6=>some (b5,b6)) (some ([a8,b0],[(↑t_.Nodes.length:Int),((↑t_.Nodes.length:Int)+1)])):Option (yaa×yab)).bind (fun s=>zhx.k1 n_ w_ a7 b2 b3 s.1 s.2)))
def zbu.s2 (l_:zai) (leaves99:Nat) (empty100:Bool) (a2:Nat):Option ((Nat×Bool×Nat)⊕((Nat×Bool)⊕Int)):=cond (decide ((↑a2:Int)<(↑l_.TreeState.Tree.Nodes.length:Int))) (idxn l_.TreeState.Tree.Nodes a2 fun a6=>(zc3 a6.Access l_.TreeState.Inputs).bind fun a7=>cond (decide (a7≠0)) (some (.inr (.inr a7))) ((zc3 a6.Suffix l_.TreeState.Inputs).bind fun a8=>cond (decide (a8≠0)) (some (.inr (.inr a8))) (cond (a6.Leaf) (chk (inR ((↑leaves99:Int)+1)) (cond (empty100) (some (.inl ((leaves99+1),true,(a2+1)))) (some (.inl ((leaves99+1),decide ((↑a6.Access.length:Int)=0),(a2+1)))))) (some (.inl (leaves99,empty100,(a2+1))))))) (some (.inr (.inl (leaves99,empty100))))
def zbu.k3 (l_:zai) (leaves90:Nat) (empty91:Bool):Option Int:=cond ((!empty91)) (some 1) (cond (decide (128<(↑leaves90:Int))) (some 11) (cond (decide (l_.TreeState.Inputs≠l_.o.Inputs)) (some 15) (some 0)))
def zbu (l_:zai):Option Int:=(cond (decide (l_.TreeState.Inputs<1)) (some true) (some (decide (64<l_.TreeState.Inputs)))).bind (fun a6=>cond (a6) (some 2) ((zf8 l_.TreeState.Tree).bind fun a2=>cond (decide (a2≠0)) (some a2) ((iter (fun (s:Nat×Bool×Nat)=>zbu.s2 l_ s.1 s.2.1 s.2.2) fuel (0,false,0)).bind (Sum.elim (fun s=>zbu.k3 l_ s.1 s.2) some))))
def zf7 (l_:zai) (s_:zc6):Option Int:=(zbu l_).bind fun a2=>cond (decide (a2≠0)) (some a2) ((zc3 s_.Prefix l_.TreeState.Inputs).bind fun a6=>cond (decide (a6≠0)) (some a6) ((cond (decide (s_.Symbol<0)) (some true) (some (decide (l_.TreeState.Inputs<=s_.Symbol)))).bind (fun a7=>cond (a7) (some 2) (cond (decide ((↑s_.Suffix.length:Int)=0)) (some 19) ((zc3 s_.Suffix l_.TreeState.Inputs).bind fun a8=>some a8)))))
def zeh (l_:zai) (n_:Int):Option Bool:=idx l_.TreeState.Tree.Nodes n_ fun a2=>some a2.Leaf
def zh3 (t_:zba):Option yaa:=(zf8 t_).bind fun a2=>cond (decide (a2≠0)) (some []) ((zfl t_).bind fun a6=>(zdd a6).bind fun a7=>some a7)
def zet.s2 (l_:zbf) (o_:zan) (b0:yab) (b2:yab) (a6:yaa) (a7:Nat):Option ((yaa×Nat)⊕(yaa⊕(zbf×yaa×Int))):=cond (decide ((↑a7:Int)<(↑(List.length [b0,b2]):Int))) (idxn [b0,b2] a7 fun a2=>cond (decide (1024<(↑a2.length:Int))) (some (.inr (.inr (l_,[],3)))) ((ze2 (⟨l_,o_⟩:zai) a2).bind fun a8=>cond ((!a8)) (chk (za1 (List.length a6+1) 24) (some (.inl ((a6++[a2]),(a7+1))))) (some (.inl (a6,(a7+1)))))) (some (.inr (.inl a6)))
def zet (l_:zbf) (o_:zan) (s_:zc6):Option (zbf×yaa×Int):=(zf7 (⟨l_,o_⟩:zai) s_).bind fun b4=>cond (decide (b4≠0)) (some (l_,[],b4)) ((zcs [s_.Prefix,[s_.Symbol]]).bind fun a7=>(zit l_.Tree o_ a7).bind fun a2=>cond (decide (a2.2.2≠0)) (some (l_,[],a2.2.2)) (cond (decide (0<(↑a2.2.1.length:Int))) (some (l_,[a2.2.1],0)) ((zeh (⟨l_,o_⟩:zai) a2.1).bind fun b7=>cond ((!b7)) (some (l_,[],10)) (idx l_.Tree.Nodes a2.1 fun b5=>(zcs [b5.Access,s_.Suffix]).bind fun b8=>(zcs [a7,s_.Suffix]).bind fun b9=>(iter (fun (s:yaa×Nat)=>zet.s2 l_ o_ b8 b9 s.1 s.2) fuel ([],0)).bind (Sum.elim (fun b6=>cond (decide (0<(↑b6.length:Int))) ((zcm b6).bind fun a8=>some (l_,a8,0)) ((zh3 l_.Tree).bind fun b0=>cond (decide (128<=(↑b0.length:Int))) (some (l_,[],11)) ((zd1 (⟨l_,o_⟩:zai) b5.Access s_.Suffix).bind fun b2=>(zd1 (⟨l_,o_⟩:zai) a7 s_.Suffix).bind fun b3=>(zhx l_.Tree a2.1 s_.Suffix b2 a7 b3).bind fun a6=>cond (decide (a6.2≠0)) (some (l_,[],a6.2)) (some ((⟨l_.Inputs,a6.1⟩:zbf),[],0))))) some)))))
def zbc.s2 (l_:zai) (m_:zaa) (h_:zb2) (w_:yab) (a7:Int) (a8:List zab) (b0:Int) (b2:yab) (b3:Int) (b4:yab) (query136:yab):Option ((Int×List zab×Int×yab×Int×yab×yab)⊕((Int×List zab×Int×yab×Int×yab)⊕(zai×Int))):=(cond (decide (b0=0)) (some (decide (0<(↑query136.length:Int)))) (some false)).bind (fun b5=>cond (b5) ((zcu m_ (⟨a7,a8⟩:zan) [query136]).bind fun a2=>cond (decide (a2.2≠0)) (some (.inr (.inr (l_,a2.2)))) ((zkz h_ a2.1 w_).bind fun a6=>some (.inl (a2.1.Inputs,a2.1.Traces,a6.2.2,a6.1.Prefix,a6.1.Symbol,a6.1.Suffix,a6.2.1)))) (some (.inr (.inl (a7,a8,b0,b2,b3,b4)))))
def zbc.s3 (l_:zai) (m_:zaa) (b0:yab) (b2:Int) (b3:yab) (a7:Int) (a8:List zab):Option ((Int×List zab)⊕(zai×Int)):=(zet l_.TreeState (⟨a7,a8⟩:zan) (⟨b0,b2,b3⟩:zc6)).bind fun a2=>cond (decide (a2.2.2≠0)) (some (.inr (l_,a2.2.2))) (cond (decide ((↑a2.2.1.length:Int)=0)) (some (.inr ((⟨a2.1,(⟨a7,a8⟩:zan)⟩:zai),0))) ((zcu m_ (⟨a7,a8⟩:zan) a2.2.1).bind fun a6=>cond (decide (a6.2≠0)) (some (.inr (l_,a6.2))) (some (.inl (a6.1.Inputs,a6.1.Traces)))))
def zbc.k4 (l_:zai) (m_:zaa) (a6:Int) (a7:List zab) (a2:Int) (a8:yab) (b0:Int) (b2:yab):Option (zai×Int):=cond (decide (a2≠0)) (some (l_,a2)) (iter (fun (s:Int×List zab)=>zbc.s3 l_ m_ a8 b0 b2 s.1 s.2) fuel (a6,a7))
def zbc (l_:zai) (m_:zaa) (h_:zb2) (w_:yab):Option (zai×Int):=(zcu m_ l_.o [w_]).bind fun a2=>cond (decide (a2.2≠0)) (some (l_,a2.2)) ((zkz h_ a2.1 w_).bind fun a6=>(iter (fun (s:Int×List zab×Int×yab×Int×yab×yab)=>zbc.s2 l_ m_ h_ w_ s.1 s.2.1 s.2.2.1 s.2.2.2.1 s.2.2.2.2.1 s.2.2.2.2.2.1 s.2.2.2.2.2.2) fuel (a2.1.Inputs,a2.1.Traces,a6.2.2,a6.1.Prefix,a6.1.Symbol,a6.1.Suffix,a6.2.1)).bind (Sum.elim (fun s=>zbc.k4 l_ m_ s.1 s.2.1 s.2.2.1 s.2.2.2.1 s.2.2.2.2.1 s.2.2.2.2.2) some))
def zum:Option zba:=some (⟨[(⟨true,[],[],[],[]⟩:zam)]⟩:zba)
def zl8 (inputs_:Int):Option (zbf×Int):=(cond (decide (inputs_<1)) (some true) (some (decide (64<inputs_)))).bind (fun a2=>cond (a2) (some ((⟨0,(⟨[]⟩:zba)⟩:zbf),2)) ((zum).bind fun a6=>some ((⟨inputs_,a6⟩:zbf),0)))
def zri (t_:zba) (n_:Int) (outs_:yab) (w_:yab):Option (zba×Int):=none
def za6.s18 (l_:zai) (b3:yab) (b0:List zal) (a6:yaa) (a7:Nat):Option ((List zal×yaa×Nat)⊕((List zal×yaa)⊕((List zal×yaa×Nat)⊕((List zal×yaa)⊕(List zal×yaa×Int))))):=cond (decide ((↑a7:Int)<l_.TreeState.Inputs)) ((zcs [b3,[(↑a7:Int)]]).bind fun a8=>(zit l_.TreeState.Tree l_.o a8).bind fun a2=>cond (decide (a2.2.2≠0)) (some (.inr (.inr (.inr (.inr ([],[],a2.2.2)))))) (((ze2 l_ a8).bind fun b4=>cond ((!b4)) (chk (za1 (List.length a6+1) 24) (some (a6++[a8]))) (some a6):Option yaa).bind (fun b2=>(cond (decide (0<(↑a2.2.1.length:Int))) (chk (za1 (List.length b2+1) 24) (some (b2++[a2.2.1]))) (some b2):Option yaa).bind (fun b5=>chk (za1 (List.length b0+1) 32) (chk (inR ((↑a7:Int)+1)) (some (.inl ((b0++[(⟨a8,a2.1⟩:zal)]),b5,(a7+1))))))))) (some (.inr (.inl (b0,a6))))
def za6.k19 (a7:Nat) (a2:List zal) (a6:yaa):Option ((List zal×yaa×Nat)⊕((List zal×yaa)⊕(List zal×yaa×Int))):=some (.inl (a2,a6,(a7+1)))
def za6.s20 (l_:zai) (b0:yaa) (a6:List zal) (a7:yaa) (a2:Nat):Option ((List zal×yaa×Nat)⊕((List zal×yaa)⊕(List zal×yaa×Int))):=cond (decide ((↑a2:Int)<(↑b0.length:Int))) (idxn b0 a2 fun a8=>(iter (fun (s:List zal×yaa×Nat)=>za6.s18 l_ a8 s.1 s.2.1 s.2.2) fuel (a6,a7,0)).bind (Sum.elim (fun s=>za6.k19 a2 s.1 s.2) some)) (some (.inr (.inl (a6,a7))))
def za6.k21 (a6:List zal) (a7:yaa):Option (List zal×yaa×Int):=(zcm a7).bind fun a2=>some (a6,a2,0)
def za6 (l_:zai):Option (List zal×yaa×Int):=(zh3 l_.TreeState.Tree).bind fun a2=>(iter (fun (s:List zal×yaa×Nat)=>za6.s20 l_ a2 s.1 s.2.1 s.2.2) fuel ([],[],0)).bind (Sum.elim (fun s=>za6.k21 s.1 s.2) some)
def zgh.s2 (l_:zbf) (o_:zan) (b4:List zal×yaa×Int) (a6:Nat):Option (Nat⊕(Unit⊕(zbf×yaa×Bool×Int))):=cond (decide ((↑a6:Int)<(↑b4.1.length:Int))) ((idxn b4.1 a6 fun a2=>(zeh (⟨l_,o_⟩:zai) a2.node).bind fun a8=>cond (a8) (some (.inl ())) ((zh3 l_.Tree).bind fun b0=>cond (decide (128<=(↑b0.length:Int))) (some (.inr (.inr (.inr (l_,[],false,11))))) (idx l_.Tree.Nodes a2.node fun b2=>(zd1 (⟨l_,o_⟩:zai) a2.w b2.Suffix).bind fun b3=>(zri l_.Tree a2.node b3 a2.w).bind fun a7=>cond (decide (a7.2≠0)) (some (.inr (.inr (.inr (l_,[],false,a7.2))))) (some (.inr (.inr (.inr ((⟨l_.Inputs,a7.1⟩:zbf),[],false,0))))))):Option (Unit⊕(Nat⊕(Unit⊕(zbf×yaa×Bool×Int))))).bind (Sum.elim (fun _=>some (.inl (a6+1))) some)) (some (.inr (.inl ())))
def zgh (l_:zbf) (o_:zan):Option (zbf×yaa×Bool×Int):=(zbu (⟨l_,o_⟩:zai)).bind fun a6=>cond (decide (a6≠0)) (some (l_,[],false,a6)) ((za6 (⟨l_,o_⟩:zai)).bind fun a2=>cond (decide (a2.2.2≠0)) (some (l_,[],false,a2.2.2)) (cond (decide (0<(↑a2.2.1.length:Int))) (some (l_,a2.2.1,false,0)) ((iter (fun (s:Nat)=>zgh.s2 l_ o_ a2 s) fuel 0).bind (Sum.elim (fun _=>some (l_,[],true,0)) some))))
def zfd (w_:yab) (p1_:yab):Option Bool:=(zbm w_ p1_).bind fun a2=>some a2
def zbh.s18 (l_:zbf) (o_:zan) (b6:List zal×yaa×Int) (b7:yaa) (a6:Nat) (a7:yab) (a8:yab) (b0:Nat):Option ((yab×yab×Nat)⊕((yab×yab)⊕((yaa×yaa×Nat)⊕((yaa×yaa)⊕(zb2×Int))))):=cond (decide ((↑b0:Int)<(↑(List.length (List.drop (Int.toNat ((↑a6:Int)*l_.Inputs)) (List.take (Int.toNat (((↑a6:Int)+1)*l_.Inputs)) b6.1))):Int))) (idxn (List.drop (Int.toNat ((↑a6:Int)*l_.Inputs)) (List.take (Int.toNat (((↑a6:Int)+1)*l_.Inputs)) b6.1)) b0 fun a2=>(zeh (⟨l_,o_⟩:zai) a2.node).bind fun b3=>cond ((!b3)) (some (.inr (.inr (.inr (.inr ((⟨(⟨0,0,[],[]⟩:zaa),[]⟩:zb2),10)))))) (idx l_.Tree.Nodes a2.node fun b4=>(zcd b7 (fun u0=>zfd u0 b4.Access)).bind fun b5=>chk (za1 (List.length a7+1) 8) (chk (inR ((↑a2.w.length:Int)-1)) (chk ((0:Int)<=((↑a2.w.length:Int)-1)∧((↑a2.w.length:Int)-1)<=(↑a2.w.length:Int)) (chk (inR ((↑a2.w.length:Int)-1)) (chk ((0:Int)<=((↑a2.w.length:Int)-1)∧((↑a2.w.length:Int)-1)<=(↑a2.w.length:Int)) ((zd1 (⟨l_,o_⟩:zai) (List.take (Int.toNat ((↑a2.w.length:Int)-1)) a2.w) (List.drop (Int.toNat ((↑a2.w.length:Int)-1)) a2.w)).bind fun b2=>chk (za1 (List.length a8+List.length b2) 8) (some (.inl ((a7++[b5]),(a8++b2),(b0+1))))))))))) (some (.inr (.inl (a7,a8))))
def zbh.k19 (a2:yaa) (a6:yaa) (a7:Nat) (a8:yab) (b0:yab):Option ((yaa×yaa×Nat)⊕((yaa×yaa)⊕(zb2×Int))):=chk (za1 (List.length a2+1) 24) (chk (za1 (List.length a6+1) 24) (some (.inl ((a2++[a8]),(a6++[b0]),(a7+1)))))
def zbh.s20 (l_:zbf) (o_:zan) (a8:List zal×yaa×Int) (b0:yaa) (a6:yaa) (a7:yaa) (a2:Nat):Option ((yaa×yaa×Nat)⊕((yaa×yaa)⊕(zb2×Int))):=cond (decide ((↑a2:Int)<(↑b0.length:Int))) (chk (inR ((↑a2:Int)*l_.Inputs)) (chk (inR (((↑a2:Int)+1)*l_.Inputs)) (chk ((0:Int)<=((↑a2:Int)*l_.Inputs)∧((↑a2:Int)*l_.Inputs)<=(((↑a2:Int)+1)*l_.Inputs)∧(((↑a2:Int)+1)*l_.Inputs)<=(↑a8.1.length:Int)) ((iter (fun (s:yab×yab×Nat)=>zbh.s18 l_ o_ a8 b0 a2 s.1 s.2.1 s.2.2) fuel ([],[],0)).bind (Sum.elim (fun s=>zbh.k19 a6 a7 a2 s.1 s.2) some))))) (some (.inr (.inl (a6,a7))))
def zbh.k21 (l_:zbf) (a8:yaa) (a2:yaa) (a6:yaa):Option (zb2×Int):=(zeu (⟨(⟨l_.Inputs,0,a2,a6⟩:zaa),a8⟩:zb2)).bind fun a7=>cond (decide (a7≠0)) (some ((⟨(⟨0,0,[],[]⟩:zaa),[]⟩:zb2),15)) (some ((⟨(⟨l_.Inputs,0,a2,a6⟩:zaa),a8⟩:zb2),0))
def zbh (l_:zbf) (o_:zan):Option (zb2×Int):=(zbu (⟨l_,o_⟩:zai)).bind fun a6=>cond (decide (a6≠0)) (some ((⟨(⟨0,0,[],[]⟩:zaa),[]⟩:zb2),a6)) ((za6 (⟨l_,o_⟩:zai)).bind fun a2=>cond (decide (a2.2.2≠0)) (some ((⟨(⟨0,0,[],[]⟩:zaa),[]⟩:zb2),a2.2.2)) (cond (decide (0<(↑a2.2.1.length:Int))) (some ((⟨(⟨0,0,[],[]⟩:zaa),[]⟩:zb2),12)) ((zh3 l_.Tree).bind fun a7=>(iter (fun (s:yaa×yaa×Nat)=>zbh.s20 l_ o_ a2 a7 s.1 s.2.1 s.2.2) fuel ([],[],0)).bind (Sum.elim (fun s=>zbh.k21 l_ a7 s.1 s.2) some))))
def zdk.k3 (a2:Int) (a6:List zam) (a7:Int) (a8:List zab) (rounds145:Nat):Option ((Int×List zam×Int×List zab×Nat)⊕(zb2×zan×Int×Int)):=some (.inl (a2,a6,a7,a8,rounds145))
def zdk.s4 (m_:zaa) (b4:Int) (b5:List zam) (b2:Int) (b3:List zab) (rounds91:Nat):Option ((Int×List zam×Int×List zab×Nat)⊕(zb2×zan×Int×Int)):=((zgh (⟨b4,(⟨b5⟩:zba)⟩:zbf) (⟨b2,b3⟩:zan)).bind fun a2=>cond (decide (a2.2.2.2≠0)) (some (.inr (.inr ((⟨(⟨0,0,[],[]⟩:zaa),[]⟩:zb2),(⟨0,[]⟩:zan),0,a2.2.2.2)))) ((zcu m_ (⟨b2,b3⟩:zan) a2.2.1).bind fun a6=>cond (decide (a6.2≠0)) (some (.inr (.inr ((⟨(⟨0,0,[],[]⟩:zaa),[]⟩:zb2),(⟨0,[]⟩:zan),0,a6.2)))) (cond ((!a2.2.2.1)) (some (.inl (a2.1.Inputs,a2.1.Tree.Nodes,a6.1.Inputs,a6.1.Traces,rounds91))) ((zbh a2.1 a6.1).bind fun a8=>cond (decide (a8.2≠0)) (some (.inr (.inr ((⟨(⟨0,0,[],[]⟩:zaa),[]⟩:zb2),(⟨0,[]⟩:zan),0,a8.2)))) (chk (inR ((↑rounds91:Int)+1)) ((zf2 a8.1.M m_).bind fun b0=>cond (decide (b0.2.2≠0)) (some (.inr (.inr ((⟨(⟨0,0,[],[]⟩:zaa),[]⟩:zb2),(⟨0,[]⟩:zan),0,b0.2.2)))) (cond ((!b0.2.1)) (some (.inr (.inr (a8.1,a6.1,((↑rounds91:Int)+1),0)))) ((zbc (⟨a2.1,a6.1⟩:zai) m_ a8.1 b0.1).bind fun a7=>cond (decide (a7.2≠0)) (some (.inr (.inr ((⟨(⟨0,0,[],[]⟩:zaa),[]⟩:zb2),(⟨0,[]⟩:zan),0,a7.2)))) (some (.inl (a7.1.TreeState.Inputs,a7.1.TreeState.Tree.Nodes,a7.1.o.Inputs,a7.1.o.Traces,(rounds91+1))))))))))):Option ((Int×List zam×Int×List zab×Nat)⊕((Int×List zam×Int×List zab×Nat)⊕(zb2×zan×Int×Int)))).bind (Sum.elim (fun s=>zdk.k3 s.1 s.2.1 s.2.2.1 s.2.2.2.1 s.2.2.2.2) some)
def zdk (m_:zaa):Option (zb2×zan×Int×Int):=(zbk m_).bind fun a6=>cond (decide (a6≠0)) (some ((⟨(⟨0,0,[],[]⟩:zaa),[]⟩:zb2),(⟨0,[]⟩:zan),0,a6)) ((zl8 m_.Inputs).bind fun a2=>cond (decide (a2.2≠0)) (some ((⟨(⟨0,0,[],[]⟩:zaa),[]⟩:zb2),(⟨0,[]⟩:zan),0,a2.2)) (iter (fun (s:Int×List zam×Int×List zab×Nat)=>zdk.s4 m_ s.1 s.2.1 s.2.2.1 s.2.2.2.1 s.2.2.2.2) fuel (a2.1.Inputs,a2.1.Tree.Nodes,m_.Inputs,[],0)))
def zhq:Option zaa:=some (⟨2,0,[[1,0],[2,0],[1,0]],[[1,0],[1,2],[1,2]]⟩:zaa)
def zhe:Option Bool:=(zhq).bind fun a7=>(zbl a7).bind fun a2=>(zhq).bind fun a8=>(zda).bind fun b0=>(zin a8 b0).bind fun a6=>(cond (decide (a2.2=0)) ((zda).bind fun b2=>(zlt a2.1 b2).bind fun b3=>cond (b3) (cond (decide (a6.2=0)) (some a6.1) (some false)) (some false)) (some false)).bind (fun b4=>some b4)
def zix:Option Bool:=(zda).bind fun a7=>(zdk a7).bind fun a2=>(zbl a2.1.M).bind fun a6=>(cond (decide (a2.2.2.2=0)) (cond (decide (a6.2=0)) ((zda).bind fun a8=>(zlt a6.1 a8).bind fun b0=>cond (b0) ((zhe).bind fun b2=>some b2) (some false)) (some false)) (some false)).bind (fun b3=>some b3)
def zjr:Option Bool:=(zda).bind fun b0=>(zcp b0 0).bind fun a7=>(zda).bind fun a2=>idxn a2.Next 1 fun a8=>idxn a8 1 fun b5=>(zda).bind fun b2=>(zez b2 (⟨a2.Inputs,a2.Start,(List.set a2.Next 1 (List.set a8 1 1)),a2.Out⟩:zaa) a7.1).bind fun a6=>(cond (decide (a7.2=0)) (cond (decide (a6.2.2=0)) (cond ((!a6.2.1)) (cond (decide ((↑a6.1.length:Int)=3)) ((zix).bind fun b3=>some b3) (some false)) (some false)) (some false)) (some false)).bind (fun b4=>some b4)
def zek:Option Bool:=(zda).bind fun b0=>(znd b0).bind fun a2=>(zda).bind fun b2=>(zrd b2 a2.1).bind fun a6=>(zhu a6.1).bind fun a7=>(zcb a7.1 0).bind fun a8=>(cond (decide (a2.2=0)) (cond (decide (a6.2=0)) (cond (decide (a7.2=0)) (cond (decide (a8.2=0)) ((zda).bind fun b3=>(zlt a8.1 b3).bind fun b4=>cond (b4) ((zjr).bind fun b5=>some b5) (some false)) (some false)) (some false)) (some false)) (some false)).bind (fun b6=>some b6)
def zem (m_:zaa):Option Bool:=(cond (decide (4<(↑m_.Next.length:Int))) (some true) (some (decide (2<m_.Inputs)))).bind (fun a8=>cond (a8) ((zek).bind fun b0=>some b0) ((zbl m_).bind fun a2=>cond (decide (a2.2≠0)) ((zek).bind fun b2=>some b2) ((zcp a2.1 1).bind fun a6=>cond (decide (a6.2≠0)) ((zek).bind fun b3=>some b3) ((zb9 a2.1 a6.1).bind fun a7=>(cond (decide (a7.2=0)) (cond (decide ((↑a7.1.length:Int)=0)) ((zek).bind fun b4=>some b4) (some false)) (some false)).bind (fun b5=>some b5)))))
section
section
variable {S R A B α β:Type}
theorem zkk {step:S->Option (S⊕R)} (I:S->Prop) (m:S->Nat) (Q:R->Prop) (h:∀ s,I s->(∃ s',step s=some (.inl s')∧I s'∧m s'<m s)∨∃ r,step s=some (.inr r)∧Q r) :
  ∀ (n:Nat) (s:S),I s->m s<n->∃ r,iter step n s=some r∧Q r
 | 0,_,_,hm=>absurd hm (yb2 _)
 | n+1,s,hi,hm=>by
  unfold iter;rcases h s hi with ⟨s',e,hi',hm'⟩ | ⟨r,e,hq⟩
  ·rw [e];exact zkk I m Q h n s' hi' (by omega)
  ·rw [e];exact ⟨r,rfl,hq⟩
theorem zhd {step:S->Option (S⊕R)} {r:R} (I:S->Prop) (m:S->Nat) (h:∀ s,I s->(∃ s',step s=some (.inl s')∧I s'∧m s'<m s)∨step s=some (.inr r)) {n:Nat} {s:S} (hi:I s) (hm:m s<n:=by have:=zjy;(try simp only);omega):iter step n s=some r:=by
 obtain ⟨r',e,rfl⟩:=zkk I m (fun r'=>r'=r) (fun s hs=>(h s hs).imp id fun e=>⟨r,e,rfl⟩) n s hi hm;exact e
def walk (g:A->Nat->α->Option (A⊕R)) (fin:A->Option R):A->Nat->List α->Option R
 | a,_,[]=>fin a
 | a,i,x::l=>(g a i x).bind (Sum.elim (fun a'=>walk g fin a' (i+1) l) some)
theorem za8 {l:List α} {i:Nat} {x:α} {k:α->Option β} (h:l[i]?=some x):idxn l i k=k x:=by unfold idxn;rw [h]
theorem zcq {l:List α} {n:Int} {i:Nat} {x:α} {k:α->Option β} (hn:n=(i:Int)) (h:l[i]?=some x):idx l n k=k x:=by
 subst hn;unfold idx;rw [if_pos (by omega),ya6,h]
theorem zbg {c:Prop} [Decidable c] {k:Option α} (h:c):chk c k=k:=by unfold chk;rw [if_pos h]
theorem zbj {a:α} {f:α->Option β}:(some a).bind f=f a:=(yb3 a f).trans (Eq.trans rfl rfl)
theorem zjy:100000000000000<fuel:=by unfold fuel;omega
theorem zfo {S R:Type} {step:S->Option (S⊕R)} (I:S->Prop) (m:S->Nat) (Q:R->Prop) (h:∀ s,I s->(∃ s',step s=some (.inl s')∧I s'∧m s'<m s)∨∃ r,step s=some (.inr r)∧Q r) (s:S) (hi:I s) (hm:m s<fuel:=by have:=zjy;(try simp only);omega):∃ r,iter step fuel s=some r∧Q r:=zkk I m Q h fuel s hi hm
theorem zjh {l:List α} {i:Nat} {x:α} (h:l[i]?=some x):decide ((↑i:Int)<(↑l.length:Int))=true:=by
 have:=(zkI.1 h).1;simpa using this
theorem zk8 (l:List α):decide ((↑l.length:Int)<(↑l.length:Int))=false:=by simp
def scan (g:Nat->α->Option R):Nat->List α->Option R
 | _,[]=>none
 | i,x::l=>match g i x with | some r=>some r | none=>scan g (i+1) l
theorem zjo {g:Nat->α->Option R}:∀ {l:List α} {j:Nat},scan g j l=none↔∀ i x,l[i]?=some x->g (j+i) x=none
 | [],j=>by simp [scan]
 | y::l,j=>by
  constructor
  ·intro h i x hx;unfold scan at h;cases e:g j y with
   | some r=>rw [e] at h;cases h
   | none =>
    rw [e] at h
    match i,hx with
    | 0,hx =>
     simp at hx;subst hx;exact e
    | i+1,hx =>
     have:=(zjo (g:=g) (l:=l) (j:=j+1)).1 h i x (by simpa using hx)
     rwa [show j+1+i=j+(i+1) by omega] at this
  ·intro h;unfold scan;have h0:=h 0 y rfl;rw [ybs] at h0;rw [h0]
   exact (zjo (g:=g) (l:=l) (j:=j+1)).2 fun i x hx=>by
    have:=h (i+1) x (by simpa using hx)
    rwa [show j+(i+1)=j+1+i by omega] at this
theorem zjg {step:Nat->Option (Nat⊕(Unit⊕R))} {l:List α} (g:Nat->α->Option R) (h1:∀ i x,l[i]?=some x->step i=some (match g i x with | some r=>.inr (.inr r) | none=>.inl (i+1))) (h2:step l.length=some (.inr (.inl ()))) (hl:l.length<=100000000000000) :
  iter step fuel 0=some (match scan g 0 l with | some r=>.inr r | none=>.inl ()):=by
 have key:∀ (n i:Nat),i<=l.length->l.length-i<n->iter step n i=some (match scan g i (l.drop i) with | some r=>.inr r | none=>.inl ()):=by
  intro n
  induction n with
  | zero=>intro i _ h;omega
  | succ n ih =>
   intro i hi hn;rcases ya7 i l.length with h | h
   ·rw [yc8 h];unfold iter scan;rw [h1 i _ (zkM h)];cases g i l[i] with
    | some r=>rfl
    | none=>exact ih (i+1) h (by omega)
   ·have e:i=l.length:=by omega
    subst e;rw [yel];unfold iter scan;rw [h2]
 exact key fuel 0 (yak _) (by have:=zjy;omega)
def foldi (f:A->Nat->α->A):A->Nat->List α->A
 | a,_,[]=>a
 | a,i,x::l=>foldi f (f a i x) (i+1) l
theorem iter_fold {step:A×Nat->Option ((A×Nat)⊕R)} {l:List α} (f:A->Nat->α->A) (fin:A->R) (Inv:A->Nat->Prop) (h1:∀ a i x,Inv a i->l[i]?=some x->step (a,i)=some (.inl (f a i x,i+1))∧Inv (f a i x) (i+1))
  (h2:∀ a,Inv a l.length->step (a,l.length)=some (.inr (fin a))) (hl:l.length<=100000000000000) {a0:A} (h0:Inv a0 0):iter step fuel (a0,0)=some (fin (foldi f a0 0 l))∧Inv (foldi f a0 0 l) l.length:=by
 have key:∀ (n i:Nat) (a:A),Inv a i->i<=l.length->l.length-i<n->iter step n (a,i)=some (fin (foldi f a i (l.drop i)))∧Inv (foldi f a i (l.drop i)) l.length:=by
  intro n
  induction n with
  | zero=>intro i _ _ _ h;omega
  | succ n ih =>
   intro i a hv hi hn;rcases ya7 i l.length with h | h
   ·rw [yc8 h];unfold iter foldi;obtain ⟨e,a2⟩:=h1 a i _ hv (zkM h);rw [e];exact ih (i+1) _ a2 h (by omega)
   ·have e:i=l.length:=by omega
    subst e;rw [yel];unfold iter foldi;rw [h2 a hv];exact ⟨rfl,hv⟩
 exact key fuel 0 a0 h0 (yak _) (by have:=zjy;omega)
theorem foldi_eq {f:A->α->A}:∀ (l:List α) (a:A) (i:Nat),foldi (fun a _ x=>f a x) a i l=l.foldl f a
 | [],_,_=>rfl
 | x::l,a,i=>by unfold foldi;exact foldi_eq l (f a x) (i+1)
end
end
theorem zku (x y:Int):cmp_Compare_int x y=some (cmpI x y):=by
 unfold cmp_Compare_int cmp_isNaN_int cmpI;by_cases h1:x<y
 ·simp [h1]
 ·by_cases h2:y<x<;>simp [h1,h2]
theorem zlj (s t:yab) (hs:s.length<=100000000000000):zb6 s t=some (lexI s t):=by
 have key:=zkk (step:=fun k=>zb6.s2 s t k) (fun k=>k<=s.length∧k<=t.length∧lexI s t=lexI (s.drop k) (t.drop k)) (fun k=>s.length-k)
  (fun r=>Sum.elim (fun (_:Unit)=>cond (decide ((↑s.length:Int)<(↑t.length:Int))) (some (-1:Int)) (some 0)) some r=some (lexI s t)) (fun k ⟨h1,h2,h3⟩=>by
   unfold zb6.s2
   rcases ya7 k s.length with h | h
   ·have hx:=zkM h
    rw [zjh hx,zkD,za8 hx]
    by_cases h4:t.length<=k
    ·right
     refine ⟨.inr 1,by simp [h4],?_⟩
     rw [h3,lexI_long h h4]
     rfl
    ·have hy:=zkM (show k<t.length by omega)
     have a2:=lexI_step hx hy
     have d4:decide ((↑t.length:Int)<=(↑k:Int))=false:=by simp;omega
     rw [d4,zkC,za8 hy,zku]
     by_cases h5:cmpI s[k] t[k]=0
     ·left
      rw [if_pos h5] at a2
      exact ⟨k+1,by simp [h5],⟨by omega,by omega,by rw [h3,a2]⟩,by omega⟩
     ·right
      rw [if_neg h5] at a2
      exact ⟨.inr (cmpI s[k] t[k]),by simp [h5],by rw [h3,a2];rfl⟩
   ·right
    have e:k=s.length:=by omega
    subst e
    rw [zk8,zkC]
    refine ⟨.inl (),rfl,?_⟩
    rw [h3,lexI_end (yao _)]
    by_cases h4:s.length<t.length<;>simp [h4]) fuel 0 ⟨yak _,yak _,rfl⟩ (by have:=zjy;simp only [ydr];omega)
 obtain ⟨r,e,hq⟩:=key;unfold zb6;rw [e];exact hq
theorem cmp_Or_two (x y:Int):zfg [x,y]=some (if x≠0 then x else y):=by
 unfold zfg;have e:fuel=(fuel-3)+1+1+1:=by unfold fuel;omega
 rw [e];by_cases h1:x=0
 ·by_cases h2:y=0
  ·simp [iter,zfg.s2,idxn,h1,h2]
  ·simp [iter,zfg.s2,idxn,h1,h2]
 ·simp [iter,zfg.s2,idxn,h1]
theorem zpa (s t:yab) (hs:s.length<=100000000000000):zg8 s t=some (lexI s t):=by
 unfold zg8;rw [zlj s t hs];rfl
theorem zm9 (s t:yab) (hs:s.length<=100000000000000):zes s t=some (cmpW s t):=by
 unfold zes;rw [zlj s t hs,zku];show (zfg [cmpI s.length t.length,lexI s t]).bind some=_;rw [cmp_Or_two];show some _=some _;congr 1;unfold cmpI cmpW;by_cases h1:s.length<t.length
 ·simp [h1]
 ·by_cases h2:t.length<s.length
  ·simp [h1,h2]
  ·simp [h1,h2]
theorem cmpE_word_Lex:CmpE Tryz.prog 55 (fun x=>nL cI x) (fun x y=>zg8 x y) :=
 ⟨fun args w=>zex rfl rfl rfl args w,cmpG_lex fun x y r hx h=>by rw [zpa x y (by omega)] at h;injection h with h;exact h.symm⟩
theorem zlr:CmpE Tryz.prog 71 (fun x=>nL cI x) (fun x y=>zes x y) :=
 ⟨fun args w=>zex rfl rfl rfl args w,cmpG_compare fun x y r hx h=>by rw [zm9 x y (by omega)] at h;injection h with h;exact h.symm⟩
theorem zpn:CmpE Tryz.prog 157 (fun x=>.agg (zaf x)) (fun x y=>zhk x y) :=
 ⟨fun args w=>zex rfl rfl rfl args w,cmpG_fits1 (T:=zab) (i:=fun x=>x.In) (o:=fun x=>x.Out) (f:=fun x y=>zhk x y) (fun _=>rfl) fun x y r hx h=>by
  simp only [zhk] at h
  rw [zpa _ _ (by omega)] at h
  injection h with h
  exact h.symm⟩
section
section
variable {α β R:Type}
theorem get_at {l:List α} {i:Nat} (h:i<l.length):l[i]?=some l[i]:=zkM h
theorem iter_all2 [DecidableEq α] {a b:List α} {step:Nat->Option (Nat⊕(Unit⊕Bool))} (hlen:a.length=b.length) (h1:∀ i x y,a[i]?=some x->b[i]?=some y->step i=some (if x=y then .inl (i+1) else .inr (.inr false)))
  (h2:step a.length=some (.inr (.inl ()))) (hl:a.length<=100000000000000):(iter step fuel 0).bind (Sum.elim (fun _=>some true) some)=some (decide (a=b)):=by
 rw [zjg (l:=a) (fun i x=>if b[i]?=some x then none else some false) (fun i x hx=>?_) h2 hl]
 ·cases e:scan (fun i x=>if b[i]?=some x then none else some false) 0 a with
  | none =>
   have:=zjo.1 e
   have a2:a=b:=by
    apply ycl;intro i;rcases ya7 i a.length with h | h
    ·have h3:=this i _ (get_at h);rw [yae] at h3;split at h3
     ·rename_i h4;rw [get_at h,h4]
     ·cases h3
    ·rw [ybb h,ybb (by omega)]
   simp [a2]
  | some r =>
   have a3:a≠b:=fun a2=>by
    subst a2;have:scan (fun i x=>if a[i]?=some x then none else some false) 0 a=none:=zjo.2 fun i x hx=>by rw [yae,if_pos hx]
    rw [this] at e;cases e
   have hr:r=false:=by
    have key:∀ (l:List α) (j:Nat),scan (fun i x=>if b[i]?=some x then none else some false) j l=some r->r=false:=by
     intro l
     induction l with
     | nil=>intro j h;cases h
     | cons x l ih =>
      intro j h;unfold scan at h;split at h
      ·rename_i r' h3;injection h with h
       subst h;split at h3
       ·cases h3
       ·injection h3 with h3
        exact h3.symm
      ·exact ih _ h
    exact key a 0 e
   subst hr;simp [a3]
 ·have hi:=(zkI.1 hx).1;have hy:=get_at (l:=b) (i:=i) (by omega);rw [h1 i x _ hx hy];by_cases h:x=b[i]'(by omega)
  ·rw [if_pos h,hy,if_pos (by rw [h])]
  ·rw [if_neg h,hy,if_neg (fun h3=>h (by injection h3 with h3;exact h3.symm))]
end
def SmW (x:yab):Prop:=x.length<=2000000
def SmL (l:yaa):Prop:=l.length<=2000000∧∀ x∈l,SmW x
theorem zrv (n:Int):zhh n=some (decide (1<=n∧n<=1024)):=by
 unfold zhh;by_cases h1:1<=n<;>by_cases h2:n<=1024<;>simp [h1,h2]
theorem zp4 (w:yab) (n:Int) (hl:SmW w):zc3 w n=some (zgb w n):=by
 unfold zc3 zgb zdq zbv;rw [zrv];by_cases h1:1<=n∧n<=1024
 ·rw [if_pos h1];simp only [yb3,h1,and_self,decide_true,ydo,zkC];by_cases h2:1024<w.length
  ·rw [if_pos h2,show decide ((1024:Int)<(↑w.length:Int))=true from zkB (by omega),zkD]
  ·rw [if_neg h2,show decide ((1024:Int)<(↑w.length:Int))=false from zkA (by omega),zkC]
   have key:=zjg (step:=fun s=>zbv.s2 w (fun u0=>zh4 u0 n) s) (l:=w) (fun i x=>if decide (0<=x∧x<n)=true then none else some (i:Int)) (fun i x hx=>by
    simp only [zbv.s2,zh4]
    rw [zjh hx,zkD,za8 hx]
    by_cases a1:x<0
    ·simp [a1,show ¬ (0<=x) by omega]
    ·by_cases a2:n<=x
     ·simp [a1,a2,show ¬ (x<n) by omega]
     ·simp [a1,a2,show 0<=x by omega,show x<n by omega]) (by
    simp only [zbv.s2]
    rw [zk8]
    rfl) (by unfold SmW at hl;omega)
   rw [key];cases e:scan (fun i x=>if decide (0<=x∧x<n)=true then none else some (i:Int)) 0 w with
   | none =>
    have h3:=zjo.1 e
    have h:(w.all fun x=>decide (0<=x∧x<n))=true:=ya9.2 fun x hx=>by
     obtain ⟨i,hi,rfl⟩:=yci.1 hx;have:=h3 i _ (get_at hi);split at this
     ·assumption
     ·cases this
    rw [if_pos h];simp
   | some r =>
    have h:¬ (w.all fun x=>decide (0<=x∧x<n))=true:=fun h=>by
     have:scan (fun i x=>if decide (0<=x∧x<n)=true then none else some (i:Int)) 0 w=none:=zjo.2 fun i x hx=>if_pos (ya9.1 h x (zkH hx));rw [this] at e;cases e
    have hr:0<=r:=by
     have key:∀ (l:yab) (j:Nat),scan (fun i x=>if decide (0<=x∧x<n)=true then none else some (i:Int)) j l=some r->0<=r:=by
      intro l
      induction l with
      | nil=>intro j h;cases h
      | cons x l ih =>
       intro j h;unfold scan at h;split at h
       ·rename_i r' h3;injection h with h
        subst h;split at h3
        ·cases h3
        ·injection h3 with h3
         omega
       ·exact ih _ h
     exact key w 0 e
    rw [if_neg h];simp [hr]
 ·rw [if_neg h1];simp [h1]
end
end Go.Proofs.YtinjiilchafleaaGreatDoor.Sym
namespace Go.Proofs.YtinjiilchafleaaGreatDoor
def M64:Nat:=18446744073709551616
def gold:Nat:=11400714819323198485
def mulA:Nat:=13787848793156543929
def mulB:Nat:=10723151780598845931
def mix (y:Nat):Nat :=
 let z:=(y ^^^ (y >>> 30))*mulA%M64
 let u:=(z ^^^ (z >>> 27))*mulB%M64
 u ^^^ (u >>> 31)
theorem few:∀ (k a:Nat) (l:List Nat),l.Nodup->(∀ x∈l,a<=x∧x<a+k)->l.length<=k
 | 0,a,l,_,h=>by
  cases l with
  | nil=>simp
  | cons x l=>have:=h x (by simp);omega
 | k+1,a,l,hn,h=>by
  have h1:=few k a (l.erase (a+k)) (hn.erase _) fun x hx=>by
   have h2:=(hn.mem_erase_iff).1 hx;have h3:=h x h2.2;have h4:=h2.1;omega
  by_cases hm:a+k∈l
  ·have:=List.length_erase_of_mem hm;omega
  ·rw [List.erase_of_not_mem hm] at h1;omega
def drawF:Nat->Nat->Nat×Nat
 | 0,s=>(0,s)
 | f+1,s=>if mix ((s+gold)%M64)<M64-1616 then (mix ((s+gold)%M64)%10000,(s+gold)%M64) else drawF f ((s+gold)%M64)
def draw (s:Nat):Nat×Nat:=drawF 1617 s
end Go.Proofs.YtinjiilchafleaaGreatDoor
namespace Go.Proofs.YtinjiilchafleaaGreatDoor.Sym
def steps (nx:Nat->Nat):Nat->Nat->Nat
 | 0,s=>s
 | j+1,s=>steps nx j (nx s)
section
section
variable {κ ν:Type} [BEq κ]
theorem zoq {k:κ} {v:ν} (hb:∀ a b:κ,(a==b)=true↔a=b):∀ m:List (κ×ν),mget k (mset k v m)=some v
 | []=>by
  unfold mset mget;rw [(hb k k).2 rfl]
 | p::m=>by
  unfold mset;cases h:k==p.1 with
  | true =>
   show mget k ((k,v)::m)=_;unfold mget;rw [(hb k k).2 rfl]
  | false =>
   show mget k (p::mset k v m)=_;unfold mget;rw [h];exact zoq hb m
theorem zn1 {k k':κ} {v:ν} (hb:∀ a b:κ,(a==b)=true↔a=b) (hne:¬ k'=k):∀ m:List (κ×ν),mget k' (mset k v m)=mget k' m
 | []=>by
  have e:(k'==k)=false:=by
   cases e:k'==k with
   | true=>exact absurd ((hb _ _).1 e) hne
   | false=>rfl
  unfold mset mget;simp only [e];rfl
 | p::m=>by
  unfold mset;cases h:k==p.1 with
  | true =>
   have e1:k=p.1:=(hb _ _).1 h;show mget k' ((k,v)::m)=mget k' (p::m)
   have e:(k'==k)=false:=by
    cases e:k'==k with
    | true=>exact absurd ((hb _ _).1 e) hne
    | false=>rfl
   unfold mget;rw [<- e1];simp only [e]
  | false =>
   show mget k' (p::mset k v m)=mget k' (p::m);unfold mget;rw [zn1 hb hne m]
end
end

theorem ztm {w:yab} {n:Int} (h:zgb w n=0):∀ a∈w,0<=a∧a<n:=by
 unfold zgb at h;split at h
 ·split at h
  ·cases h
  ·split at h
   ·rename_i h3;intro a ha;exact of_decide_eq_true (ya9.1 h3 a ha)
   ·cases h
 ·cases h
end Go.Proofs.YtinjiilchafleaaGreatDoor.Sym
namespace Go.Proofs.YtinjiilchafleaaGreatDoor
structure zoj (cf:List Int->List Int->Int):Prop where
 range:∀ a b,cf a b=-1∨cf a b=0∨cf a b=1
 zero:∀ a b,cf a b=0↔a=b
 swap:∀ a b,cf b a=- cf a b
 trans:∀ a b c,cf a b=-1->cf b c=-1->cf a c=-1
theorem cmpW_total:zoj cmpW:=⟨zwc,zt9,ztz,zq9⟩
theorem lexI_total:zoj lexI:=⟨zrl,zqv,zpz,zrf⟩
def zd2 (l:List (List Int)):List (List Int):=l.foldl (fun acc x=>if acc.getLast?=some x then acc else acc++[x]) []
theorem zua (l:List (List Int)) (x:List Int):zd2 (l++[x])=if (zd2 l).getLast?=some x then zd2 l else zd2 l++[x]:=by
 unfold zd2;rw [List.foldl_append];rfl
theorem zt4:∀ (l acc:List (List Int)),(l.foldl (fun acc x=>if acc.getLast?=some x then acc else acc++[x]) acc).getLast?=if l=[] then acc.getLast? else l.getLast?
 | [],acc=>by rw [if_pos rfl];rfl
 | x::l,acc=>by
  have hx:(if acc.getLast?=some x then acc else acc++[x]).getLast?=some x:=by
   split
   ·assumption
   ·simp
  rw [List.foldl_cons,zt4 l,if_neg (show ¬ x::l=[] by simp)];cases l with
  | nil=>rw [if_pos rfl,hx];rfl
  | cons y l =>
   rw [if_neg (show ¬ y::l=[] by simp),List.getLast?_cons_cons]
theorem dedupA_last (l:List (List Int)):(zd2 l).getLast?=l.getLast?:=by
 unfold zd2;rw [zt4];split
 ·rename_i h;rw [h]
 ·rfl
theorem zvd {l:List (List Int)} {k:Nat} {x y:List Int} (hy:l[k]?=some y) (hx:l[k+1]?=some x) :
  zd2 (l.take (k+1+1))=if x=y then zd2 (l.take (k+1)) else zd2 (l.take (k+1))++[x]:=by
 rw [zfj hx,zua,dedupA_last,zfj hy];simp only [List.getLast?_append,List.getLast?_singleton,Option.some_or];by_cases h:y=x
 ·subst h;simp
 ·have h':¬ x=y:=fun e=>h e.symm;simp [h,h']
theorem zr6 {l:List (List Int)} (h:l.length<=1):zd2 l=l:=by
 match l,h with
 | [],_=>rfl
 | [x],_=>rfl
theorem dedup_asc {cf:List Int->List Int->Int} (T:zoj cf):∀ {l:List (List Int)},l.Pairwise (fun a b=>0<=cf b a)->(zd2 l).Pairwise (fun a b=>cf a b=-1)∧∀ x,x∈zd2 l↔x∈l:=by
 intro l
 -- from the end of the list
 suffices H:∀ n (l:List (List Int)),l.length=n->l.Pairwise (fun a b=>0<=cf b a)->(zd2 l).Pairwise (fun a b=>cf a b=-1)∧∀ x,x∈zd2 l↔x∈l from H _ l rfl
 intro n
 induction n with
 | zero =>
  intro l hl _;have:l=[]:=List.eq_nil_of_length_eq_zero hl;subst this;exact ⟨List.Pairwise.nil,fun x=>Iff.rfl⟩
 | succ n ih =>
  intro l hl hp
  obtain ⟨m,x,rfl⟩:∃ m x,l=m++[x]:=by
   have a2:l≠[]:=by intro e;rw [e] at hl;simp at hl
   exact ⟨l.dropLast,l.getLast a2,(List.dropLast_concat_getLast a2).symm⟩
  have a7:m.length=n:=by simpa using hl
  rw [List.pairwise_append] at hp;obtain ⟨a9,_,a5⟩:=hp;obtain ⟨h1,h2⟩:=ih m a7 a9;rw [zua];by_cases h:(zd2 m).getLast?=some x
  ·rw [if_pos h];refine ⟨h1,fun y=>?_⟩;have hx:x∈m:=(h2 x).1 (List.mem_of_getLast? h);rw [h2,List.mem_append,List.mem_singleton];constructor
   ·exact Or.inl
   ·rintro (h' | rfl)
    ·exact h'
    ·exact hx
  ·rw [if_neg h];refine ⟨?_,fun y=>by rw [List.mem_append,List.mem_append,h2]⟩;rw [List.pairwise_append];refine ⟨h1,by simp,fun a ha b hb=>?_⟩;rw [List.mem_singleton] at hb;subst hb;have a6:a∈m:=(h2 a).1 ha;have b3:0<=cf b a:=a5 a a6 b (by simp);have hr:=T.range b a;have b2:=T.swap b a;by_cases e:cf b a=0
   ·-- a would be the last one
    exfalso;have a8:b=a:=(T.zero _ _).1 e;subst a8
    -- the last of m is the greatest, and b is in m and not less than it
    have a2:zd2 m≠[]:=fun e=>by rw [e] at ha;cases ha
    have b0:=List.getLast?_eq_some_getLast a2;have a4:(zd2 m).getLast a2∈m:=(h2 _).1 (List.getLast_mem a2);have h3:0<=cf b ((zd2 m).getLast a2):=a5 _ a4 b (by simp);have a3:zd2 m=(zd2 m).dropLast++[(zd2 m).getLast a2]:=(List.dropLast_concat_getLast a2).symm
    have h4:b=(zd2 m).getLast a2∨cf b ((zd2 m).getLast a2)=-1:=by
     rw [a3] at ha h1;rw [List.pairwise_append] at h1;rcases List.mem_append.1 ha with h5 | h5
     ·exact Or.inr (h1.2.2 b h5 _ (by simp))
     ·exact Or.inl (List.mem_singleton.1 h5)
    rcases h4 with h4 | h4
    ·exact h (by rw [b0,<- h4])
    ·omega
   ·omega
theorem dedupA_length (l:List (List Int)):(zd2 l).length<=l.length:=by
 suffices H:∀ (l acc:List (List Int)),(l.foldl (fun acc x=>if acc.getLast?=some x then acc else acc++[x]) acc).length<=acc.length+l.length by
  simpa [zd2] using H l []
 intro l
 induction l with
 | nil=>intro acc;simp
 | cons x l ih =>
  intro acc;rw [List.foldl_cons];refine Nat.le_trans (ih _) ?_;split
  ·simp
  ·simp;omega
def prefixes (x:List Int):List (List Int):=(List.range (x.length+1)).map x.take
def suffixes (x:List Int):List (List Int):=(List.range (x.length+1)).map x.drop
def topB (all:List (List Int)) (x:List Int):Bool:=all.all fun y=>decide (y=x∨¬ x <+: y)
def maxR (l:List (List Int)):List (List Int):=(sortW l).filter (topB (sortW l))
theorem mem_maxR {l:List (List Int)} {x:List Int} (h:x∈maxR l):x∈l:=by
 unfold maxR at h;exact (zjc l x).1 (List.mem_filter.1 h).1
theorem maxR_length (l:List (List Int)):(maxR l).length<=l.length:=Nat.le_trans (List.length_filter_le _ _) (zsb l)
def zmc:List (List Int)->List (List Int)
 | []=>[]
 | [x]=>[x]
 | x::y::l=>if x <+: y then zmc (y::l) else x::zmc (y::l)
theorem keepM_end {L:List (List Int)} {k:Nat} {x:List Int} (hx:L[k]?=some x) (hl:k+1=L.length):zmc (L.drop k)=x::zmc (L.drop (k+1)):=by
 obtain ⟨h1,h2⟩:=List.getElem?_eq_some_iff.1 hx;rw [List.drop_eq_getElem_cons h1,h2,List.drop_eq_nil_of_le (by omega)];rfl
theorem keepM_step {L:List (List Int)} {k:Nat} {x y:List Int} (hx:L[k]?=some x) (hy:L[k+1]?=some y):zmc (L.drop k)=if x <+: y then zmc (L.drop (k+1)) else x::zmc (L.drop (k+1)):=by
 obtain ⟨h1,h2⟩:=List.getElem?_eq_some_iff.1 hx;obtain ⟨h3,h4⟩:=List.getElem?_eq_some_iff.1 hy;rw [List.drop_eq_getElem_cons h1,h2,List.drop_eq_getElem_cons h3,h4];rfl
theorem ztv:∀ L:List (List Int),(zmc L).Sublist L
 | []=>List.Sublist.refl _
 | [x]=>List.Sublist.refl _
 | x::y::l=>by
  rw [zmc];split
  ·exact (ztv (y::l)).cons x
  ·exact (ztv (y::l)).cons_cons x
theorem zuq:∀ (x z y:List Int),lexI x z=-1->(z=y∨lexI z y=-1)->x <+: y->x <+: z
 | [],z,_,_,_,_=>List.nil_prefix
 | a::x,[],_,h,_,_=>by simp [lexI] at h
 | a::x,b::z,[],_,_,h=>by simp at h
 | a::x,b::z,c::y,h1,h2,h3=>by
  rw [List.cons_prefix_cons] at h3;obtain ⟨rfl,h3⟩:=h3;simp only [lexI] at h1
  have hle:b<=a:=by
   rcases h2 with h2 | h2
   ·injection h2 with e1 e2;omega
   ·simp only [lexI] at h2;split at h2
    ·omega
    ·split at h2
     ·omega
     ·omega
  have a2:a=b:=by
   split at h1
   ·omega
   ·split at h1
    ·omega
    ·omega
  subst a2;rw [if_neg (by omega),if_neg (by omega)] at h1;rw [List.cons_prefix_cons];refine ⟨rfl,zuq x z y h1 ?_ h3⟩;rcases h2 with h2 | h2
  ·injection h2 with e1 e2;exact Or.inl e2
  ·simp only [lexI] at h2;rw [if_neg (by omega),if_neg (by omega)] at h2;exact Or.inr h2
theorem zwu:∀ (x y:List Int),x <+: y->x≠y->lexI x y=-1
 | [],[],_,h=>absurd rfl h
 | [],_::_,_,_=>rfl
 | a::x,[],h,_=>by simp at h
 | a::x,b::y,h,hne=>by
  rw [List.cons_prefix_cons] at h;obtain ⟨rfl,h⟩:=h;simp only [lexI];rw [if_neg (by omega),if_neg (by omega)];exact zwu x y h (fun e=>hne (by rw [e]))
theorem mem_keepM:∀ {L:List (List Int)},L.Pairwise (fun a b=>lexI a b=-1)->∀ x,x∈zmc L↔x∈L∧∀ y∈L,y=x∨¬ x <+: y
 | [],_,x=>by simp [zmc]
 | [z],_,x=>by
  simp only [zmc,List.mem_singleton];constructor
  ·rintro rfl;exact ⟨rfl,fun y hy=>Or.inl hy⟩
  ·exact fun h=>h.1
 | z::y::l,h,x=>by
  obtain ⟨h1,h2⟩:=List.pairwise_cons.1 h;have ih:=mem_keepM (L:=y::l) h2
  have hzl:∀ t∈y::l,z≠t:=fun t ht e=>by
   have:=h1 t ht;rw [e,lexI_refl] at this;omega
  have hlow:∀ t∈y::l,¬ t <+: z:=fun t ht hp=>by
   have h3:=h1 t ht;have h4:=zwu t z hp (fun e=>hzl t ht e.symm);rw [zpz] at h4;omega
  have hyl:∀ t∈y::l,y=t∨lexI y t=-1:=fun t ht=>by
   rcases List.mem_cons.1 ht with e | e
   ·exact Or.inl e.symm
   ·exact Or.inr ((List.pairwise_cons.1 h2).1 t e)
  rw [zmc];by_cases hp:z <+: y
  ·rw [if_pos hp,ih];constructor
   ·rintro ⟨ha,hb⟩;refine ⟨List.mem_cons_of_mem _ ha,fun t ht=>?_⟩;rcases List.mem_cons.1 ht with rfl | ht
    ·exact Or.inr (hlow x ha)
    ·exact hb t ht
   ·rintro ⟨ha,hb⟩;rcases List.mem_cons.1 ha with rfl | ha
    ·rcases hb y (by simp) with e | e
     ·exact absurd e.symm (hzl y (by simp))
     ·exact absurd hp e
    ·exact ⟨ha,fun t ht=>hb t (List.mem_cons_of_mem _ ht)⟩
  ·rw [if_neg hp,List.mem_cons,ih];constructor
   ·rintro (rfl | ⟨ha,hb⟩)
    ·refine ⟨by simp,fun t ht=>?_⟩;rcases List.mem_cons.1 ht with rfl | ht
     ·exact Or.inl rfl
     ·exact Or.inr fun hpt=>hp (zuq x y t (h1 y (by simp)) (hyl t ht) hpt)
    ·refine ⟨List.mem_cons_of_mem _ ha,fun t ht=>?_⟩;rcases List.mem_cons.1 ht with rfl | ht
     ·exact Or.inr (hlow x ha)
     ·exact hb t ht
   ·rintro ⟨ha,hb⟩;rcases List.mem_cons.1 ha with rfl | ha
    ·exact Or.inl rfl
    ·exact Or.inr ⟨ha,fun t ht=>hb t (List.mem_cons_of_mem _ ht)⟩
theorem zn3 (l:List (List Int)) (x:List Int):x∈maxR l↔x∈l∧∀ y∈l,y=x∨¬ x <+: y:=by
 unfold maxR;rw [List.mem_filter,zjc,topB,List.all_eq_true];simp only [zjc,decide_eq_true_eq]
theorem maxR_asc (l:List (List Int)):Asc (maxR l):=List.Pairwise.sublist List.filter_sublist (zu2 l)
theorem sortW_keepM {L l:List (List Int)} (h:L.Pairwise fun a b=>lexI a b=-1) (hm:∀ x,x∈L↔x∈l):sortW (zmc L)=maxR l :=
 asc_ext (zu2 _) (maxR_asc l) fun x=>by
  rw [zjc,mem_keepM h,zn3];simp only [hm]
end Go.Proofs.YtinjiilchafleaaGreatDoor
namespace Go.Proofs.YtinjiilchafleaaGreatDoor.Sym
theorem zow {α:Type} {l:List (List α)} {i:Nat} {x:List α} (h:l[i]?=some x):(l.take (i+1)).flatten=(l.take i).flatten++x:=by
 rw [zfj h];simp
theorem zqd {α:Type} {l:List (List α)} (i:Nat):(l.take i).flatten.length<=l.flatten.length:=by
 have h:l.flatten=(l.take i).flatten++(l.drop i).flatten:=by rw [<- yb6,List.take_append_drop]
 rw [h,zkJ];omega
theorem concat_ints (l:yaa) (hl:l.length<=100000000) (hf:l.flatten.length<=1000000000):zbn l=some l.flatten:=by
 unfold zbn
 rw [zhd (r:=l.flatten.length) (fun s=>s.2<=l.length∧s.1=(l.take s.2).flatten.length) (fun s=>l.length-s.2) (fun s ⟨h1,h2⟩=>by
  simp only [zbn.s2]
  by_cases h3:s.2<l.length
  ·left
   have hx:=get_at h3
   have h4:=zow hx
   have h5:=zqd (l:=l) (s.2+1)
   rw [h4,zkJ] at h5
   refine ⟨((l.take (s.2+1)).flatten.length,s.2+1),?_,⟨by omega,rfl⟩,by simp only;omega⟩
   rw [zjh hx,zkD,za8 hx,zbg (by unfold inR;omega),zkA (by omega),zkC,h4,zkJ,h2]
  ·right
   have e:s.2=l.length:=by omega
   rw [zkA (by omega),zkC,h2,e,ycj]) (s:=(0,0)) ⟨yak _,by simp⟩]
 simp only [yb3];unfold znb;rw [zbg (by omega)];simp only [yb3]
 rw [zhd (r:=l.flatten) (fun s=>s.2<=l.length∧s.1=(l.take s.2).flatten) (fun s=>l.length-s.2) (fun s ⟨h1,h2⟩=>by
  simp only [zbn.s4]
  by_cases h3:s.2<l.length
  ·left
   have hx:=get_at h3
   have h4:=zow hx
   have h5:=zqd (l:=l) (s.2+1)
   rw [h4,zkJ] at h5
   refine ⟨((l.take (s.2+1)).flatten,s.2+1),?_,⟨by omega,rfl⟩,by simp only;omega⟩
   rw [zjh hx,zkD,za8 hx,zbg (by rw [h2];unfold za1;omega),h4,h2]
  ·right
   have e:s.2=l.length:=by omega
   rw [zkA (by omega),zkC,h2,e,ycj]) (s:=([],0)) ⟨yak _,by simp⟩]
 rfl
theorem zjm (l:yaa) (hl:l.length<=100000000) (hf:l.flatten.length<=1000000000):zcs l=some l.flatten:=by
 unfold zcs;rw [concat_ints l hl hf];rfl
theorem totB_of {cf:yab->yab->Int} (T:zoj cf) {f:yab->yab->Option Int} {l:yaa} (hf:∀ a∈l,∀ b∈l,f a b=some (cf a b)):totB f l=true:=by
 refine ya9.2 fun a ha=>ya9.2 fun b hb=>?_;rw [hf a ha b hb,hf b hb a ha];simp only [yaq];refine ⟨⟨⟨?_,?_⟩,?_⟩,ya9.2 fun c hc=>?_⟩
 ·rw [beq_iff_eq];have:=T.zero a b;by_cases h:a=b
  ·simp [h,this.2 h];rw [<- h];exact (T.zero a a).2 rfl
  ·have h2:¬ cf a b=0:=fun e=>h (this.1 e);simp [h,h2]
 ·rw [beq_iff_eq];have:=T.swap a b;by_cases h:cf a b<0
  ·simp [h];omega
  ·simp [h];omega
 ·have:=T.range a b;exact zkB (by omega)
 ·rw [hf b hb c hc,hf a ha c hc];have r1:=T.range a b;have r2:=T.range b c;by_cases h1:cf a b<0
  ·by_cases h2:cf b c<0
   ·have:=T.trans a b c (by omega) (by omega);simp [h1,h2,this]
   ·simp [h1,h2]
  ·simp [h1]
theorem libSort_eq {cf:yab->yab->Int} (T:zoj cf) {f:yab->yab->Option Int} {l:yaa} (hl:l.length<=1000000000) (hf:∀ a∈l,∀ b∈l,f a b=some (cf a b)) :
  ∃ S,zui l f=some S∧S.Perm l∧S.Pairwise (fun a b=>0<=cf b a):=by
 refine ⟨znv f l,?_,zga f l,?_⟩
 ·unfold zui;rw [zbg hl,totB_of T hf];rfl
 ·have h:=zmp (totB_iff (totB_of T hf));rw [yck] at h ⊢;intro i j hi hj a2;have:=h i j hi hj a2;have m1:=(zga f l).mem_iff.1 (ybq hi);have m2:=(zga f l).mem_iff.1 (ybq hj);unfold NGt cfv at this;rw [hf _ m2 _ m1] at this;simp only [ybe] at this;omega
theorem compact_eq {q:yab->yab->Option Bool} {l:yaa} (hl:l.length<=1000000000) (hq:∀ a∈l,∀ b∈l,q a b=some (decide (a=b))):zak l q=some (zd2 l):=by
 unfold zak;by_cases h2:l.length<2
 ·rw [zkB (by omega),zkD,zr6 (by omega)]
 rw [zkA (by omega),zkC]
 have key:=zfo (step:=fun k=>zak.s20 l q k) (fun k=>1<=k∧k<=l.length∧zd2 (l.take k)=l.take k) (fun k=>l.length-k) (fun r=>Sum.elim (fun (_:Unit)=>some l) some r=some (zd2 l)) (fun k ⟨h1,h3,h4⟩=>by
  simp only [zak.s20]
  by_cases h5:k<l.length
  ·have hx:=get_at h5
   have hp:=get_at (l:=l) (i:=k-1) (by omega)
   have a3:=zvd (l:=l) (k:=k-1) (x:=l[k]) hp (by rw [show k-1+1=k by omega];exact hx)
   rw [show k-1+1=k by omega] at a3
   rw [zjh hx,zkD,za8 hx,zcq (i:=k-1) (by omega) hp,hq _ (ybq _) _ (ybq _)]
   simp only [yb3]
   by_cases h6:l[k]=l[k-1]'(by omega)
   ·right
    rw [if_pos h6] at a3
    rw [zkB h6,zkD,zbg (by omega)]
    have a4:=zkk (step:=fun (s:yaa×Nat×Nat)=>zak.s18 q k s.1 s.2.1 s.2.2) (fun s=>1<=s.2.2∧k+s.2.2<=l.length∧s.1.length=l.length∧s.2.1=(zd2 (l.take (k+s.2.2))).length∧s.2.1<k+s.2.2∧s.1.take s.2.1=zd2 (l.take (k+s.2.2))∧∀ j,s.2.1<=j->s.1[j]?=l[j]?) (fun s=>l.length-(k+s.2.2))
     (fun r=>r.2<=l.length∧r.1.length=l.length∧r.1.take r.2=zd2 l) (fun s ⟨g1,g2,g3,g4,g5,g6,g7⟩=>by
      obtain ⟨y,kk,t⟩:=s
      simp only at g1 g2 g3 g4 g5 g6 g7
      simp only [zak.s18]
      by_cases g8:k+t<l.length
      ·left
       have gx:=get_at (l:=l) (i:=k+t) g8
       have gp:=get_at (l:=l) (i:=k+(t-1)) (by omega)
       have yx:y[k+t]?=some l[k+t]:=by rw [g7 _ (by omega)];exact gx
       have yp:y[k+(t-1)]?=some (l[k+(t-1)]'(by omega)):=by rw [g7 _ (by omega)];exact gp
       have a2:=zvd (l:=l) (k:=k+(t-1)) (x:=l[k+t]) gp (by rw [show k+(t-1)+1=k+t by omega];exact gx)
       rw [show k+(t-1)+1=k+t by omega] at a2
       rw [zkB (show (↑t:Int)<(↑(List.length y-k):Int) by omega),zkD,za8 yx,zbg (by omega),show Int.toNat ((↑t:Int)-1)=t-1 by omega,za8 yp,hq _ (ybq _) _ (ybq _)]
       simp only [yb3]
       by_cases g9:l[k+t]=l[k+(t-1)]'(by omega)
       ·rw [if_pos g9] at a2
        refine ⟨(y,kk,t+1),by rw [zkB g9];rfl,⟨by simp only;omega,by simp only;omega,g3,?_,by simp only;omega,?_,g7⟩,by simp only;omega⟩
        ·simp only
         rw [show k+(t+1)=k+t+1 by omega,a2]
         exact g4
        ·simp only
         rw [show k+(t+1)=k+t+1 by omega,a2]
         exact g6
       ·rw [if_neg g9] at a2
        have yk:=get_at (l:=y) (i:=kk) (by omega)
        refine ⟨(y.set kk l[k+t],kk+1,t+1),?_,⟨by simp only;omega,by simp only;omega,by simp only [ya2];exact g3,?_,by simp only;omega,?_,fun j hj=>?_⟩,by simp only;omega⟩
        ·rw [zkA g9]
         simp only [ydk,zkD]
         rw [za8 yx,za8 yk,zbg (by unfold inR;omega)]
        ·simp only
         rw [show k+(t+1)=k+t+1 by omega,a2,zkJ,<- g4]
         rfl
        ·simp only
         have e1:(y.set kk l[k+t])[kk]?=some l[k+t]:=by rw [yc6];simp;omega
         rw [show k+(t+1)=k+t+1 by omega,a2,zfj e1,List.take_set_of_le (yao _),g6]
        ·simp only at hj
         rw [ybh (by omega)]
         exact g7 j (by omega)
      ·right
       have e:k+t=l.length:=by omega
       refine ⟨(y,kk),?_,by simp only;omega,g3,?_⟩
       ·rw [zkA (by omega),zkC]
       ·simp only
        rw [e,ycj] at g6
        exact g6) fuel (l,k,1) ⟨yao _,by simp only;omega,rfl,by simp only;rw [a3,h4,yah];omega,by simp only;omega,by simp only;rw [a3,h4],fun j _=>rfl⟩ (by have:=zjy;simp only;omega)
    obtain ⟨⟨y,kk⟩,e,g1,g2,g3⟩:=a4
    simp only at g1 g2 g3
    refine ⟨.inr (zd2 l),?_,rfl⟩
    rw [e]
    simp only [yb3,zak.k19]
    have e2:(List.take kk y++List.replicate (List.length y-kk) ([]:yab)).length=l.length:=by
     rw [zkJ,yah,ybj]
     omega
    rw [zbg (by omega),zbg (by omega),zbg (by rw [e2];omega),yb1 (by rw [yah];omega),ydi,Nat.min_self,g3]
   ·left
    rw [if_neg h6] at a3
    refine ⟨k+1,by rw [zkA h6];rfl,⟨by omega,by omega,?_⟩,by omega⟩
    rw [a3,h4,zfj hx]
  ·right
   have e:k=l.length:=by omega
   subst e
   refine ⟨.inl (),?_,?_⟩
   ·rw [zk8];rfl
   ·rw [ycj] at h4
    rw [h4]
    rfl) 1 ⟨yao _,by omega,zr6 (by rw [yah];omega)⟩
 obtain ⟨r,e,hr⟩:=key;rw [e];exact hr
theorem zg6 {w:yab} (h:SmW w):zco w=some w:=by
 unfold zco zqg;exact zbg (by unfold SmW at h;unfold za1;omega)
theorem zv6 {l:yaa} (h:l.length<=2000000):zij l=some l:=by
 unfold zij zqg;exact zbg (by unfold za1;omega)
theorem zwo {cf:yab->yab->Int} (T:zoj cf) {f:yab->yab->Option Int} {l:yaa} (hl:SmL l) (hf:∀ a∈l,∀ b∈l,f a b=some (cf a b)) :
  ∃ S,zdj l f=some S∧S.Pairwise (fun a b=>cf a b=-1)∧(∀ x,x∈S↔x∈l)∧S.length<=l.length:=by
 have a4:l.length<=2000000:=hl.1;obtain ⟨S,e1,hp,hs⟩:=libSort_eq T (by omega:l.length<=1000000000) hf;obtain ⟨d1,d2⟩:=dedup_asc T hs;have hm:∀ x,x∈zd2 S↔x∈l:=fun x=>by rw [d2,hp.mem_iff]
 have a2:(zd2 S).length<=l.length:=by
  have:=dedupA_length S;rw [hp.length_eq] at this;exact this
 refine ⟨zd2 S,?_,d1,hm,a2⟩;unfold zdj zgk;rw [zv6 a4];simp only [yb3];rw [e1];simp only [yb3]
 rw [compact_eq (by rw [hp.length_eq];omega) (fun a ha b hb=>by
  unfold zfz
  rw [hf a (hp.mem_iff.1 ha) b (hp.mem_iff.1 hb)]
  simp only [yb3]
  congr 1
  exact decide_eq_decide.2 (T.zero a b))]
 simp only [yb3]
 rw [zhd (r:=zd2 S) (fun s=>s.1=zd2 S) (fun s=>(zd2 S).length-s.2) (fun s h1=>by
  simp only [zdj.s2]
  by_cases h3:s.2<(zd2 S).length
  ·left
   have hx:=get_at h3
   have a3:SmW ((zd2 S)[s.2]):=hl.2 _ ((hm _).1 (ybq _))
   refine ⟨(zd2 S,s.2+1),?_,rfl,by simp only;omega⟩
   rw [zjh hx,zkD,h1,za8 hx,zg6 a3]
   simp only [yb3]
   rw [za8 hx,zbg (by unfold inR;omega),List.set_getElem_self]
  ·right
   rw [zkA (by omega),zkC,h1]) (s:=(zd2 S,0)) rfl]
 rfl
theorem zl0 {l:yaa} (hl:SmL l):zdd l=some (sortW l):=by
 obtain ⟨S,e,h1,h2,_⟩:=zwo cmpW_total (f:=fun u0 u1=>zes u0 u1) hl fun a ha b hb=>zm9 a b (by have:SmW a:=hl.2 a ha;unfold SmW at this;omega);unfold zdd;rw [e];show some S=_;congr 1;exact asc_ext h1 (zu2 l) fun x=>by rw [h2,zjc]

theorem zvt (a b:yab) (ha:SmW a):zej a b=some (zfe a b:Int):=by
 have a2:a.length<=2000000:=ha;have a3:=common_le a b;unfold zej
 have key:=zfo (step:=fun k=>zej.s2 a b k) (fun k=>k<=a.length∧k<=b.length∧zfe a b=zfe (a.drop k) (b.drop k)+k) (fun k=>a.length-k) (fun r=>Sum.elim (fun (_:Unit)=>some (min (↑a.length:Int) (↑b.length:Int))) some r=some (zfe a b:Int)) (fun k ⟨h1,h2,h3⟩=>by
  simp only [zej.s2]
  by_cases h4:k<a.length∧k<b.length
  ·have hx:=get_at h4.1
   have hy:=get_at h4.2
   rw [zkB (show (↑k:Int)<min (↑a.length:Int) (↑b.length:Int) by omega),zkD,za8 hx,za8 hy]
   rw [yc8 h4.1,yc8 h4.2] at h3
   by_cases e:a[k]=b[k]
   ·left
    refine ⟨k+1,by simp [e],⟨h4.1,h4.2,?_⟩,by omega⟩
    rw [h3,e]
    simp [zfe]
    omega
   ·right
    simp only [zfe,e,if_false,yae] at h3
    exact ⟨.inr (k:Int),by simp [e],by rw [h3];rfl⟩
  ·right
   rw [zkA (by omega),zkC]
   refine ⟨.inl (),rfl,?_⟩
   rw [common_end (by omega),yae] at h3
   simp only [Sum.elim_inl]
   congr 1
   omega) 0 ⟨yak _,yak _,by simp⟩
 obtain ⟨r,e,hq⟩:=key;rw [e];exact hq
theorem zq7 (w p:yab) (hw:SmW w):zeb w p=some (decide (p <+: w)):=by
 unfold zeb;rw [zvt w p hw,zbj];congr 1;exact decide_eq_decide.2 (by rw [<- zwb w p];omega)
def PropT (n:Int) (t:zab):Prop:=zgb t.In n=0∧t.Out.length=t.In.length∧∀ y∈t.Out,0<=y∧y<=1048576
def Agree (a b:zab):Prop:=a.Out.take (zfe a.In b.In)=b.Out.take (zfe a.In b.In)
structure ObsOk (o:zan):Prop where
 inp:1<=o.Inputs∧o.Inputs<=64
 num:o.Traces.length<=10000
 prop:∀ t∈o.Traces,PropT o.Inputs t∧t.In≠[]
 asc:∀ (i j:Nat) a b,i<j->o.Traces[i]?=some a->o.Traces[j]?=some b->cmpW a.In b.In=-1
 apart:∀ (i j:Nat) a b,i<j->o.Traces[i]?=some a->o.Traces[j]?=some b->¬ a.In <+: b.In∧Agree a b

def clashO (l:List zab) (t:zab):Prop:=∃ u∈l,¬ Agree u t
instance (a b:zab):Decidable (Agree a b):=by unfold Agree;infer_instance
instance (l:List zab) (t:zab):Decidable (clashO l t):=by unfold clashO;infer_instance

def zkg.s2 (m_:zaa) (s_:Int) (a2:Nat):Option (Nat⊕(Unit⊕Int)) :=
 cond (decide ((↑a2:Int)<m_.Inputs)) ((idx m_.Next s_ fun a6=>idxn a6 a2 fun a7=>cond (decide (a7<0)) (some true) (idx m_.Next s_ fun a8=>idxn a8 a2 fun b0=>cond (decide ((↑m_.Next.length:Int)<=b0)) (some true) (idx m_.Out s_ fun b2=>idxn b2 a2 fun b3=>cond (decide (b3<0)) (some true) (idx m_.Out s_ fun b4=>idxn b4 a2 fun b5=>some (decide (1048576<b5))))):Option (Bool)).bind (fun (b6:Bool)=>cond (b6) (some (.inr (.inr 2))) (chk (inR ((↑a2:Int)+1)) (some (.inl (a2+1)))))) (some (.inr (.inl ())))
def zkg (m_:zaa) (s_:Int):Option (Int) :=
 (idx m_.Next s_ fun a2=>cond (decide ((↑a2.length:Int)≠m_.Inputs)) (some true) (idx m_.Out s_ fun a6=>some (decide ((↑a6.length:Int)≠m_.Inputs))):Option (Bool)).bind (fun (a7:Bool)=>cond (a7) (some 1) ((iter (fun (s:Nat)=>zkg.s2 m_ s_ s) fuel 0:Option (Unit⊕Int)).bind (Sum.elim (fun (_:Unit)=>some 0) some)))
def zgd.s2 (m_:zaa) (a2:Nat):Option (Nat⊕(Unit⊕Int)) :=
 cond (decide ((↑a2:Int)<(↑m_.Next.length:Int))) ((zkg m_ (↑a2:Int)).bind fun a6=>cond (decide (a6≠0)) (some (.inr (.inr a6))) (some (.inl (a2+1)))) (some (.inr (.inl ())))
def zgd (m_:zaa):Option (Int) :=
 (cond (decide (m_.Inputs<1)) (some true) (some (decide (64<m_.Inputs))):Option (Bool)).bind (fun (a2:Bool)=>cond (a2) (some 2) (cond (decide ((↑m_.Next.length:Int)=0)) (some 19) (cond (decide (128<(↑m_.Next.length:Int))) (some 11) ((cond (decide (m_.Start<0)) (some true) (some (decide ((↑m_.Next.length:Int)<=m_.Start))):Option (Bool)).bind (fun (a6:Bool)=>cond (a6) (some 2) (cond (decide ((↑m_.Out.length:Int)≠(↑m_.Next.length:Int))) (some 1) ((iter (fun (s:Nat)=>zgd.s2 m_ s) fuel 0:Option (Unit⊕Int)).bind (Sum.elim (fun (_:Unit)=>some 0) some))))))))
theorem zp0 {l:yaa} (hl:SmL l):zcm l=some (maxR l):=by
 have a4:l.length<=2000000:=hl.1;obtain ⟨L,e1,h1,h2,h3⟩:=zwo lexI_total (f:=fun u0 u1=>zg8 u0 u1) hl fun a ha b hb=>zpa a b (by have:SmW a:=hl.2 a ha;unfold SmW at this;omega);have a2:∀ x∈L,SmW x:=fun x hx=>hl.2 x ((h2 x).1 hx);unfold zcm;rw [e1,zbj]
 have key:=zhd (step:=fun (s:yaa×Nat)=>zcm.s2 L s.1 s.2) (r:=zmc L) (fun s=>s.2<=L.length∧s.1.length<=s.2∧zmc L=s.1++zmc (L.drop s.2)) (fun s=>L.length-s.2) (fun s ⟨g1,g2,g3⟩=>by
  obtain ⟨y,i⟩:=s
  simp only at g1 g2 g3
  simp only [zcm.s2]
  by_cases g4:i<L.length
  ·left
   have hx:=get_at g4
   rw [zjh hx,zkD,za8 hx]
   by_cases g5:i+1=L.length
   ·rw [keepM_end hx g5] at g3
    refine ⟨(y++[L[i]],i+1),?_,⟨by simp only;omega,by simp;omega,by simp only;rw [g3];simp⟩,by simp only;omega⟩
    rw [zkB (by omega),zkD,zbj,zkD,zbg (by unfold za1;omega)]
   ·have hy:=get_at (l:=L) (i:=i+1) (by omega)
    rw [keepM_step hx hy] at g3
    rw [zkA (by omega),zkC,za8 hy,zq7 _ _ (a2 _ (ybq _)),zbj,zbj]
    by_cases g6:L[i] <+: (L[i+1]'(by omega))
    ·rw [if_pos g6] at g3
     refine ⟨(y,i+1),?_,⟨by simp only;omega,by simp only;omega,g3⟩,by simp only;omega⟩
     rw [zkB g6]
     rfl
    ·rw [if_neg g6] at g3
     refine ⟨(y++[L[i]],i+1),?_,⟨by simp only;omega,by simp;omega,by simp only;rw [g3];simp⟩,by simp only;omega⟩
     rw [zkA g6,ydk,zkD,zbg (by unfold za1;omega)]
  ·right
   have e:i=L.length:=by omega
   subst e
   rw [yel] at g3
   rw [zkA (by omega),zkC,g3]
   simp [zmc]) (n:=fuel) (s:=([],0)) ⟨yak _,by simp,by simp⟩
 have hk:=ztv L;have a3:SmL (zmc L):=⟨by have:=hk.length_le;omega,fun x hx=>a2 x (hk.mem hx)⟩;rw [key,zbj,zl0 a3,zbj,sortW_keepM h1 h2]
section
structure zen (m:zaa):Prop where
 i1:1<=m.Inputs
 i2:m.Inputs<=64
 n1:0<m.Next.length
 n2:m.Next.length<=128
 st:0<=m.Start∧m.Start<(↑m.Next.length:Int)
 ol:m.Out.length=m.Next.length
 row:∀ s,s<m.Next.length->∃ x y,m.Next[s]?=some x∧m.Out[s]?=some y∧(↑x.length:Int)=m.Inputs∧(↑y.length:Int)=m.Inputs∧(∀ u∈x,0<=u∧u<(↑m.Next.length:Int))∧∀ v∈y,0<=v∧v<=1048576
def nx (m:zaa) (s a:Nat):Nat:=((((m.Next[s]?).getD [])[a]?).getD 0).toNat
def ot (m:zaa) (s a:Nat):Int:=(((m.Out[s]?).getD [])[a]?).getD 0
section
variable {m:zaa}
theorem zen.at (H:zen m) {s a:Nat} (hs:s<m.Next.length) (ha:a<m.Inputs.toNat):nx m s a<m.Next.length∧0<=ot m s a∧ot m s a<=1048576∧∃ x y,m.Next[s]?=some x∧m.Out[s]?=some y∧x[a]?=some (↑(nx m s a):Int)∧y[a]?=some (ot m s a):=by
 obtain ⟨x,y,h1,h2,h3,h4,h5,h6⟩:=H.row s hs;have hx:=get_at (l:=x) (i:=a) (by omega);have hy:=get_at (l:=y) (i:=a) (by omega)
 have e1:nx m s a=(x[a]'(by omega)).toNat:=by
  unfold nx;rw [h1,ybe,hx,ybe]
 have e2:ot m s a=y[a]'(by omega):=by
  unfold ot;rw [h2,ybe,hy,ybe]
 have g1:=h5 _ (ybq (by omega:a<x.length));have g2:=h6 _ (ybq (by omega:a<y.length));refine ⟨by rw [e1];omega,by rw [e2];exact g2.1,by rw [e2];exact g2.2,x,y,h1,h2,?_,by rw [e2];exact hy⟩;rw [hx,e1];congr 1;omega
def outs (m:zaa):Nat->yab->yab
 | _,[]=>[]
 | s,a::w=>ot m s a.toNat::outs m (nx m s a.toNat) w
def dest (m:zaa):Nat->yab->Nat
 | s,[]=>s
 | s,a::w=>dest m (nx m s a.toNat) w
def WOk (n:Int) (w:yab):Prop:=∀ a∈w,0<=a∧a<n
theorem zhw:∀ (w v:yab) (s:Nat),outs m s (w++v)=outs m s w++outs m (dest m s w) v
 | [],_,_=>rfl
 | a::w,v,s=>by
  show ot m s a.toNat::outs m (nx m s a.toNat) (w++v)=_;rw [zhw w v];rfl
theorem zg0:∀ (w v:yab) (s:Nat),dest m s (w++v)=dest m (dest m s w) v
 | [],_,_=>rfl
 | _::w,v,_=>zg0 w v _
theorem zml:∀ (w:yab) (s:Nat),(outs m s w).length=w.length
 | [],_=>rfl
 | a::w,s=>by
  show (outs m (nx m s a.toNat) w).length+1=w.length+1;rw [zml w]
theorem WOk.tail {n:Int} {a:Int} {w:yab} (h:WOk n (a::w)):WOk n w:=fun x hx=>h x (yaw _ hx)
theorem WOk.head {n:Int} {a:Int} {w:yab} (h:WOk n (a::w)):0<=a∧a<n:=h a (by simp)
theorem WOk.take {n:Int} {w:yab} (h:WOk n w) (k:Nat):WOk n (w.take k):=fun x hx=>h x (yaz hx)
theorem WOk.append {n:Int} {w v:yab} (h:WOk n w) (g:WOk n v):WOk n (w++v):=fun x hx=>(yap.1 hx).elim (h x) (g x)
theorem zen.dest (H:zen m):∀ {w:yab} {s:Nat},WOk m.Inputs w->s<m.Next.length->dest m s w<m.Next.length
 | [],_,_,hs=>hs
 | a::w,s,hw,hs=>by
  have:=hw.head;exact H.dest (w:=w) hw.tail (H.at hs (a:=a.toNat) (by omega)).1
def RowRng (n:Nat) (u v:Int):Prop:=(0<=u∧u<(↑n:Int))∧0<=v∧v<=1048576
theorem R06_row_tot (h1:m.Inputs<=64) {s:Nat} (hs:s<m.Next.length) (ho:m.Out.length=m.Next.length):∃ e,zkg m (↑s:Int)=some e∧(e=0->∃ x y,m.Next[s]?=some x∧m.Out[s]?=some y∧(↑x.length:Int)=m.Inputs∧(↑y.length:Int)=m.Inputs∧(∀ u∈x,0<=u∧u<(↑m.Next.length:Int))∧∀ v∈y,0<=v∧v<=1048576):=by
 obtain ⟨x,hx⟩:∃ x,m.Next[s]?=some x:=⟨_,get_at hs⟩;obtain ⟨y,hy⟩:∃ y,m.Out[s]?=some y:=⟨_,get_at (l:=m.Out) (i:=s) (by omega)⟩;unfold zkg;rw [zcq rfl hx];by_cases g1:(↑x.length:Int)=m.Inputs
 ·by_cases g2:(↑y.length:Int)=m.Inputs
  ·rw [zkA (fun h=>h g1),zkC,zcq rfl hy,zkA (fun h=>h g2),zbj,zkC]
   obtain ⟨r,hr,hq⟩:=zfo (step:=fun a=>zkg.s2 m (↑s:Int) a) (fun a=>a<=x.length∧∀ b u v,b<a->x[b]?=some u->y[b]?=some v->RowRng m.Next.length u v) (fun a=>x.length-a) (fun r=>r=.inr 2∨(r=.inl ()∧∀ b u v,b<x.length->x[b]?=some u->y[b]?=some v->RowRng m.Next.length u v)) (fun a ⟨q1,q2⟩=>by
    simp only [zkg.s2]
    by_cases q3:a<x.length
    ·obtain ⟨u,ha⟩:∃ u,x[a]?=some u:=⟨_,get_at q3⟩
     obtain ⟨v,hb⟩:∃ v,y[a]?=some v:=⟨_,get_at (l:=y) (i:=a) (by omega)⟩
     rw [zkB (by omega),zkD,zcq rfl hx,za8 ha]
     by_cases z1:u<0
     ·right
      exact ⟨.inr 2,by rw [zkB z1];rfl,Or.inl rfl⟩
     rw [zkA z1,zkC,zcq rfl hx,za8 ha]
     by_cases z2:(↑m.Next.length:Int)<=u
     ·right
      exact ⟨.inr 2,by rw [zkB z2];rfl,Or.inl rfl⟩
     rw [zkA z2,zkC,zcq rfl hy,za8 hb]
     by_cases z3:v<0
     ·right
      exact ⟨.inr 2,by rw [zkB z3];rfl,Or.inl rfl⟩
     rw [zkA z3,zkC,zcq rfl hy,za8 hb]
     by_cases z4:1048576<v
     ·right
      exact ⟨.inr 2,by rw [zkB z4];rfl,Or.inl rfl⟩
     left
     refine ⟨a+1,by rw [zkA z4,zbj,zkC,zbg (by unfold inR;omega)],⟨q3,fun b u' v' a2 hu hv=>?_⟩,by omega⟩
     rcases ya7 b a with h | h
     ·exact q2 b u' v' h hu hv
     ·have e:b=a:=by omega
      subst e
      rw [ha] at hu
      rw [hb] at hv
      injection hu with hu
      injection hv with hv
      subst hu
      subst hv
      exact ⟨⟨by omega,by omega⟩,by omega,by omega⟩
    ·right
     have e:a=x.length:=by omega
     subst e
     exact ⟨.inl (),by rw [zkA (by omega),zkC],Or.inr ⟨rfl,q2⟩⟩) 0 ⟨yak _,fun b _ _ h=>absurd h (yb2 _)⟩
   rw [hr,zbj];rcases hq with rfl | ⟨rfl,hq⟩
   ·exact ⟨2,rfl,fun h=>by cases h⟩
   ·refine ⟨0,rfl,fun _=>⟨x,y,hx,hy,g1,g2,fun u hu=>?_,fun v hv=>?_⟩⟩
    ·obtain ⟨b,hb,rfl⟩:=yci.1 hu;exact (hq b _ _ hb (get_at hb) (get_at (l:=y) (by omega))).1
    ·obtain ⟨b,hb,rfl⟩:=yci.1 hv;exact (hq b _ _ (by omega) (get_at (l:=x) (by omega)) (get_at hb)).2
  ·exact ⟨1,by rw [zkA (fun h=>h g1),zkC,zcq rfl hy,zkB g2];rfl,fun h=>by cases h⟩
 ·exact ⟨1,by rw [zkB g1];rfl,fun h=>by cases h⟩
theorem R06_Valid_tot (m:zaa):∃ e,zgd m=some e∧(e=0->zen m):=by
 unfold zgd;by_cases c1:m.Inputs<1
 ·exact ⟨2,by rw [zkB c1];rfl,fun h=>by cases h⟩
 rw [zkA c1,zkC];by_cases c2:64<m.Inputs
 ·exact ⟨2,by rw [zkB c2];rfl,fun h=>by cases h⟩
 rw [zkA c2,zbj,zkC];by_cases c3:(↑m.Next.length:Int)=0
 ·exact ⟨19,by rw [zkB c3];rfl,fun h=>by cases h⟩
 rw [zkA c3,zkC];by_cases c4:128<(↑m.Next.length:Int)
 ·exact ⟨11,by rw [zkB c4];rfl,fun h=>by cases h⟩
 rw [zkA c4,zkC];by_cases c5:m.Start<0
 ·exact ⟨2,by rw [zkB c5];rfl,fun h=>by cases h⟩
 rw [zkA c5,zkC];by_cases c6:(↑m.Next.length:Int)<=m.Start
 ·exact ⟨2,by rw [zkB c6];rfl,fun h=>by cases h⟩
 rw [zkA c6,zbj,zkC];by_cases c7:(↑m.Out.length:Int)=(↑m.Next.length:Int)
 ·rw [zkA (fun h=>h c7),zkC];have ho:m.Out.length=m.Next.length:=by omega
  obtain ⟨r,hr,hq⟩:=zfo (step:=fun s=>zgd.s2 m s) (fun a=>a<=m.Next.length∧∀ s,s<a->∃ x y,m.Next[s]?=some x∧m.Out[s]?=some y∧(↑x.length:Int)=m.Inputs∧(↑y.length:Int)=m.Inputs∧(∀ u∈x,0<=u∧u<(↑m.Next.length:Int))∧∀ v∈y,0<=v∧v<=1048576) (fun a=>m.Next.length-a) (fun r=>(∃ e,r=.inr e∧e≠0)∨(r=.inl ()∧∀ s,s<m.Next.length->∃ x y,m.Next[s]?=some x∧m.Out[s]?=some y∧(↑x.length:Int)=m.Inputs∧(↑y.length:Int)=m.Inputs∧(∀ u∈x,0<=u∧u<(↑m.Next.length:Int))∧∀ v∈y,0<=v∧v<=1048576)) (fun a ⟨q1,q2⟩=>by
   simp only [zgd.s2]
   by_cases q3:a<m.Next.length
   ·obtain ⟨e,he,hz⟩:=R06_row_tot (m:=m) (by omega) q3 ho
    rw [zkB (by omega),zkD,he,zbj]
    by_cases z:e=0
    ·left
     refine ⟨a+1,by rw [zkA (fun h=>h z),zkC],⟨q3,fun s hs=>?_⟩,by omega⟩
     rcases ya7 s a with h | h
     ·exact q2 s h
     ·have e2:s=a:=by omega
      subst e2
      exact hz z
    ·right
     exact ⟨.inr e,by rw [zkB z,zkD],Or.inl ⟨e,rfl,z⟩⟩
   ·right
    have e:a=m.Next.length:=by omega
    subst e
    exact ⟨.inl (),by rw [zkA (by omega),zkC],Or.inr ⟨rfl,q2⟩⟩) 0 ⟨yak _,fun s h=>absurd h (yb2 _)⟩
  rw [hr,zbj];rcases hq with ⟨e,rfl,hz⟩ | ⟨rfl,hq⟩
  ·exact ⟨e,rfl,fun h=>absurd h hz⟩
  ·exact ⟨0,rfl,fun _=>⟨by omega,by omega,by omega,by omega,⟨by omega,by omega⟩,ho,hq⟩⟩
 ·exact ⟨1,by rw [zkB c7];rfl,fun h=>by cases h⟩
theorem macOk_of (h:zgd m=some 0):zen m:=by
 obtain ⟨e,he,hz⟩:=R06_Valid_tot m;rw [h] at he;injection he with he
 exact hz he.symm
end
end
section
theorem zvv {m:zaa} (H:zen m):zbk m=some 0:=by
 have i1:=H.i1;have i2:=H.i2;have n1:=H.n1;have n2:=H.n2;have st:=H.st;have ol:=H.ol;unfold zbk;rw [zkA (by omega),zkC,zkA (by omega),zbj,zkC,zkA (by omega),zkC,zkA (by omega),zkC,zkA (by omega),zkC,zkA (by omega),zbj,zkC,zkA (by omega),zkC]
 have a3:∀ s,s<m.Next.length->iter (fun (a:Nat)=>zbk.s13 m s a) fuel 0=some (.inl ()):=fun s hs =>
  zhd (fun a=>a<=m.Inputs.toNat) (fun a=>m.Inputs.toNat-a) (fun a ha=>by
   simp only [zbk.s13]
   by_cases g:a<m.Inputs.toNat
   ·left
    obtain ⟨h1,h2,h3,x,y,hx,hy,a4,a5⟩:=H.at hs g
    refine ⟨a+1,?_,g,by omega⟩
    rw [zkB (by omega),zkD,za8 hx,za8 a4,za8 hy,za8 a5,zkA (by omega),zkC,zkA (by omega),zkC,zkA (by omega),zkC,zkA (by omega),zbj,zkC,zbg (by unfold inR;omega)]
   ·right
    rw [zkA (by omega),zkC]) (yak _)
 have a2:iter (fun (s:Nat)=>zbk.s14 m s) fuel 0=some (.inl ()) :=
  zhd (fun s=>s<=m.Next.length) (fun s=>m.Next.length-s) (fun s hs=>by
   simp only [zbk.s14]
   by_cases g:s<m.Next.length
   ·left
    obtain ⟨x,y,hx,hy,a6,a7,_,_⟩:=H.row s g
    refine ⟨s+1,?_,g,by omega⟩
    rw [zkB (by omega),zkD,za8 hx,zkA (by omega),zkC,za8 hy,zkA (by omega),zbj,zkC,a3 s g,zbj]
    rfl
   ·right
    rw [zkA (by omega),zkC]) (yak _)
 rw [a2,zbj];rfl
abbrev costOk (l:zqs):Prop:=(∀ c∈l.Step,0<=c∧c<=1048576)∧0<=l.Reset∧l.Reset<=1048576
abbrev cntOk (n:Int):Prop:=0<=n∧n<=1125899906842624
abbrev faultOk (f:zr2):Prop:=(0<=f.Lost∧f.Lost<=10000)∧(0<=f.Wrong∧f.Wrong<=10000)∧(0<=f.Crash∧f.Crash<=10000)∧f.Lost+f.Wrong+f.Crash<=10000
structure DevOk (d:zkv):Prop where
 v6:zgd d.M=some 0
 st:0<=d.State∧d.State<(↑d.M.Next.length:Int)
 ll:(↑d.Latency.Step.length:Int)=d.M.Inputs
 lc:costOk d.Latency
 fl:faultOk d.Faults
 c1:cntOk d.Steps
 c2:cntOk d.Resets
 c3:cntOk d.Time
section
variable {d:zkv}
end
end
section
theorem scan_map {α R R':Type} {g:Nat->α->Option R} {f:R->R'}:∀ (l:List α) (j:Nat),scan (fun i x=>(g i x).map f) j l=(scan g j l).map f
 | [],_=>rfl
 | x::l,j=>by
  unfold scan;cases g j x with
  | some r=>rfl
  | none=>exact scan_map l (j+1)
theorem scan_mem {α R:Type} {g:Nat->α->Option R} {r:R}:∀ {l:List α} {j:Nat},scan g j l=some r->∃ i x,l[i]?=some x∧g (j+i) x=some r
 | [],_,h=>by cases h
 | x::l,j,h=>by
  unfold scan at h;cases e:g j x with
  | some q =>
   rw [e] at h;exact ⟨0,x,rfl,by rw [ybs,e];exact h⟩
  | none =>
   rw [e] at h;obtain ⟨i,y,h1,h2⟩:=scan_mem (j:=j+1) h;exact ⟨i+1,y,by simpa using h1,by rw [show j+(i+1)=j+1+i by omega,h2]⟩
def celE (n:Nat) (u v:Int):Option Int:=if u<0∨(↑n:Int)<=u∨v<0∨1048576<v then some 2 else none
def rowE (m:zaa) (s:Nat) (x:yab):Option Int :=
 if (↑x.length:Int)≠m.Inputs∨(↑((m.Out[s]?).getD []).length:Int)≠m.Inputs then some 1 else scan (fun a u=>celE m.Next.length u ((((m.Out[s]?).getD [])[a]?).getD 0)) 0 x
def zdx (m:zaa):Int :=
 if m.Inputs<1∨64<m.Inputs then 2 else if m.Next.length=0 then 19 else if 128<m.Next.length then 11 else if m.Start<0∨(↑m.Next.length:Int)<=m.Start then 2 else if m.Out.length≠m.Next.length then 1
 else match scan (rowE m) 0 m.Next with | some e=>e | none=>0
section
variable {m:zaa}
theorem rowE_ne {s:Nat} {x:yab} {e:Int} (h:rowE m s x=some e):e≠0:=by
 unfold rowE at h;split at h
 ·injection h with h
  omega
 ·obtain ⟨i,u,_,h2⟩:=scan_mem h;unfold celE at h2;split at h2
  ·injection h2 with h2
   omega
  ·cases h2
theorem cel_cond {n:Nat} {u v:Int}:(cond (decide (u<0)) (some true) (cond (decide ((↑n:Int)<=u)) (some true) (cond (decide (v<0)) (some true) (some (decide (1048576<v))))):Option Bool)=some (celE n u v).isSome:=by
 unfold celE;by_cases h1:u<0<;>by_cases h2:(↑n:Int)<=u<;>by_cases h3:v<0<;>by_cases h4:1048576<v<;>simp [h1,h2,h3,h4]
theorem celE_two {n:Nat} {u v:Int}:celE n u v=if (celE n u v).isSome=true then some 2 else none:=by
 unfold celE;split<;>rfl
theorem row_len {s:Nat} {x y:yab} (hx:m.Next[s]?=some x) (hy:m.Out[s]?=some y) :
  (idxn m.Next s fun a2=>cond (decide ((↑a2.length:Int)≠m.Inputs)) (some true) (idxn m.Out s fun a6=>some (decide ((↑a6.length:Int)≠m.Inputs))):Option Bool)=some (decide ((↑x.length:Int)≠m.Inputs∨(↑y.length:Int)≠m.Inputs)):=by
 rw [za8 hx];by_cases h:(↑x.length:Int)=m.Inputs
 ·rw [zkA (fun k=>k h),zkC,za8 hy];simp [h]
 ·rw [zkB h,zkD];simp [h]
theorem idx_nat {α β:Type} {l:List α} {i:Nat} {k:α->Option β}:idx l (↑i:Int) k=idxn l i k:=by
 cases h:l[i]? with
 | some x=>rw [zcq rfl h,za8 h]
 | none =>
  unfold idx idxn;rw [h,if_pos (by omega),ya6,h]
theorem R06_row_eq (hi:m.Inputs<=64) {s:Nat} {x y:yab} (hx:m.Next[s]?=some x) (hy:m.Out[s]?=some y):zkg m (↑s:Int)=some (match rowE m s x with | some e=>e | none=>0):=by
 unfold zkg;rw [idx_nat];simp only [idx_nat];rw [row_len hx hy,zbj];unfold rowE;rw [hy,ybe];by_cases h:(↑x.length:Int)≠m.Inputs∨(↑y.length:Int)≠m.Inputs
 ·rw [zkB h,zkD,if_pos h]
 ·rw [zkA h,zkC,if_neg h];have h1:(↑x.length:Int)=m.Inputs:=yby fun q=>h (Or.inl q);have h2:(↑y.length:Int)=m.Inputs:=yby fun q=>h (Or.inr q);rw [zjg (l:=x) (fun a u=>celE m.Next.length u ((y[a]?).getD 0)) (fun a u hu=>?_) ?_ (by omega),zbj]
  ·cases scan (fun a u=>celE m.Next.length u ((y[a]?).getD 0)) 0 x<;>rfl
  ·simp only [zkg.s2];rw [zkA (by omega),zkC]
  ·have ha:=(zkI.1 hu).1;have hv:y[a]?=some y[a]:=get_at (by omega);rw [hv,ybe];simp only [zkg.s2,idx_nat];rw [zkB (by omega),zkD];simp only [za8 hx,za8 hy,za8 hu,za8 hv];rw [cel_cond,zbj];cases e:celE m.Next.length u y[a] with
   | none =>
    rw [ydu,zkC,zbg (by unfold inR;omega)]
   | some r =>
    have:=celE_two (n:=m.Next.length) (u:=u) (v:=y[a]);rw [e] at this;injection this with this
    rw [this,yec,zkD]
theorem mealy_row_eq (hi:m.Inputs<=64) {s:Nat} {x y:yab} (hx:m.Next[s]?=some x) (hy:m.Out[s]?=some y):zbk.s14 m s=some (match rowE m s x with | some e=>.inr (.inr e) | none=>.inl (s+1)):=by
 have hs:=(zkI.1 hx).1;simp only [zbk.s14];rw [zkB (by omega),zkD,row_len hx hy,zbj];unfold rowE;rw [hy,ybe];by_cases h:(↑x.length:Int)≠m.Inputs∨(↑y.length:Int)≠m.Inputs
 ·rw [zkB h,zkD,if_pos h]
 ·rw [zkA h,zkC,if_neg h];have h1:(↑x.length:Int)=m.Inputs:=yby fun q=>h (Or.inl q);have h2:(↑y.length:Int)=m.Inputs:=yby fun q=>h (Or.inr q);rw [zjg (l:=x) (fun a u=>(celE m.Next.length u ((y[a]?).getD 0)).map fun r=>(.inr (.inr r):Nat⊕(Unit⊕Int))) (fun a u hu=>?_) ?_ (by omega),zbj,scan_map]
  ·cases scan (fun a u=>celE m.Next.length u ((y[a]?).getD 0)) 0 x<;>rfl
  ·simp only [zbk.s13];rw [zkA (by omega),zkC]
  ·have ha:=(zkI.1 hu).1;have hv:y[a]?=some y[a]:=get_at (by omega);rw [hv,ybe];simp only [zbk.s13];rw [zkB (by omega),zkD];simp only [za8 hx,za8 hy,za8 hu,za8 hv];rw [cel_cond,zbj];cases e:celE m.Next.length u y[a] with
   | none =>
    rw [ydu,zkC,zbg (by unfold inR;omega)];rfl
   | some r =>
    have:=celE_two (n:=m.Next.length) (u:=u) (v:=y[a]);rw [e] at this;injection this with this
    rw [this,yec,zkD];rfl
theorem R06_Valid_eq (m:zaa):zgd m=some (zdx m):=by
 unfold zgd zdx;by_cases c1:m.Inputs<1
 ·rw [zkB c1,if_pos (Or.inl c1)];rfl
 rw [zkA c1,zkC];by_cases c2:64<m.Inputs
 ·rw [zkB c2,if_pos (Or.inr c2)];rfl
 rw [zkA c2,zbj,zkC,if_neg (by omega)];by_cases c3:m.Next.length=0
 ·rw [zkB (by omega),if_pos c3];rfl
 rw [zkA (by omega),zkC,if_neg c3];by_cases c4:128<m.Next.length
 ·rw [zkB (by omega),if_pos c4];rfl
 rw [zkA (by omega),zkC,if_neg c4];by_cases c5:m.Start<0
 ·rw [zkB c5,if_pos (Or.inl c5)];rfl
 rw [zkA c5,zkC];by_cases c6:(↑m.Next.length:Int)<=m.Start
 ·rw [zkB c6,if_pos (Or.inr c6)];rfl
 rw [zkA c6,zbj,zkC,if_neg (by omega)];by_cases c7:m.Out.length=m.Next.length
 ·rw [zkA (by omega),zkC,if_neg (by omega),zjg (l:=m.Next) (rowE m) (fun s x hx=>?_) ?_ (by omega),zbj]
  ·cases scan (rowE m) 0 m.Next<;>rfl
  ·simp only [zgd.s2];rw [zkA (by omega),zkC]
  ·have hs:=(zkI.1 hx).1;simp only [zgd.s2];rw [zkB (by omega),zkD,R06_row_eq (by omega) hx (get_at (l:=m.Out) (by omega)),zbj];cases e:rowE m s x with
   | none=>rfl
   | some r=>rw [zkB (rowE_ne e),zkD]
 ·rw [zkB (by omega),if_pos c7];rfl
theorem zcw (m:zaa):zbk m=some (zdx m):=by
 unfold zbk zdx;by_cases c1:m.Inputs<1
 ·rw [zkB c1,if_pos (Or.inl c1)];rfl
 rw [zkA c1,zkC];by_cases c2:64<m.Inputs
 ·rw [zkB c2,if_pos (Or.inr c2)];rfl
 rw [zkA c2,zbj,zkC,if_neg (by omega)];by_cases c3:m.Next.length=0
 ·rw [zkB (by omega),if_pos c3];rfl
 rw [zkA (by omega),zkC,if_neg c3];by_cases c4:128<m.Next.length
 ·rw [zkB (by omega),if_pos c4];rfl
 rw [zkA (by omega),zkC,if_neg c4];by_cases c5:m.Start<0
 ·rw [zkB c5,if_pos (Or.inl c5)];rfl
 rw [zkA c5,zkC];by_cases c6:(↑m.Next.length:Int)<=m.Start
 ·rw [zkB c6,if_pos (Or.inr c6)];rfl
 rw [zkA c6,zbj,zkC,if_neg (by omega)];by_cases c7:m.Out.length=m.Next.length
 ·rw [zkA (by omega),zkC,if_neg (by omega),zjg (l:=m.Next) (rowE m) (fun s x hx=>?_) ?_ (by omega),zbj]
  ·cases scan (rowE m) 0 m.Next<;>rfl
  ·simp only [zbk.s14];rw [zkA (by omega),zkC]
  ·have hs:=(zkI.1 hx).1;rw [mealy_row_eq (by omega) hx (get_at (l:=m.Out) (by omega))];cases rowE m s x<;>rfl
 ·rw [zkB (by omega),if_pos c7];rfl
theorem zeg (h:zdx m=0):zen m:=macOk_of (by rw [R06_Valid_eq,h])
def fromM (m:zaa) (s:Int) (w:yab):yab×Int×Int :=
 if zdx m≠0 then ([],0,zdx m) else if s<0∨(↑m.Next.length:Int)<=s then ([],0,2) else if zgb w m.Inputs≠0 then ([],0,zgb w m.Inputs) else (outs m s.toNat w,(↑(dest m s.toNat w):Int),0)
theorem zn4 {w:yab} {n:Int} (h:zgb w n=0):w.length<=1024:=by
 unfold zgb at h;split at h
 ·split at h
  ·cases h
  ·omega
 ·cases h
theorem runner_eq (H:zen m) {s:Nat} (hs:s<m.Next.length) {w:yab} (hw:WOk m.Inputs w) (hl:w.length<=100000000):zb8 (⟨(⟨m⟩:zdm),(↑s:Int)⟩:zcz) w=some (outs m s w,(⟨(⟨m⟩:zdm),(↑(dest m s w):Int)⟩:zcz)):=by
 unfold zb8
 have key:=zhd (step:=fun (q:Int×yab×Nat)=>zb8.s2 (⟨(⟨m⟩:zdm),(↑s:Int)⟩:zcz) w q.1 q.2.1 q.2.2) (r:=((↑(dest m s w):Int),outs m s w)) (fun q=>q.2.2<=w.length∧q.1=(↑(dest m s (w.take q.2.2)):Int)∧q.2.1=outs m s (w.take q.2.2)) (fun q=>w.length-q.2.2) (fun q ⟨g1,g2,g3⟩=>by
  obtain ⟨st,y,k⟩:=q
  simp only at g1 g2 g3
  subst g2
  subst g3
  simp only [zb8.s2,zgm]
  by_cases g4:k<w.length
  ·left
   have hx:=get_at g4
   obtain ⟨x0,x1⟩:=hw _ (ybq g4)
   have ha:w[k].toNat<m.Inputs.toNat:=by omega
   have hd:Sym.dest m s (w.take k)<m.Next.length:=H.dest (hw.take k) hs
   obtain ⟨_,_,_,x,y,e1,e2,e3,e4⟩:=H.at hd ha
   refine ⟨((↑(Sym.dest m s (w.take (k+1))):Int),outs m s (w.take (k+1)),k+1),?_,⟨g4,rfl,rfl⟩,by simp only;omega⟩
   rw [zjh hx,zkD,za8 hx,zcq rfl e1,zcq (i:=w[k].toNat) (by omega) e3,zcq rfl e2,zcq (i:=w[k].toNat) (by omega) e4,zbj,zbg (by unfold za1;rw [zml,yah];omega),zfj hx,zg0,zhw]
   rfl
  ·right
   have e:k=w.length:=by omega
   subst e
   rw [zkA (by omega),zkC,ycj]) (n:=fuel) (s:=((↑s:Int),[],0)) ⟨yak _,rfl,rfl⟩
 rw [key,zbj];rfl
theorem zqm {s:Int} {w:yab} (hw:SmW w):ziq m s w=some (fromM m s w):=by
 unfold ziq zmq fromM;rw [zcw,zbj];by_cases c1:zdx m=0
 ·rw [zkA (by omega),zkC,if_neg (by omega)];by_cases c2:s<0
  ·rw [zkB c2,if_pos (Or.inl c2)];rfl
  rw [zkA c2,zkC];by_cases c3:(↑m.Next.length:Int)<=s
  ·rw [zkB c3,if_pos (Or.inr c3)];rfl
  rw [zkA c3,zbj,zkC,if_neg (by omega),zbj,zkA (by omega),zkC,zp4 _ _ hw,zbj];by_cases c4:zgb w m.Inputs=0
  ·have:=zn4 c4;have hO:=runner_eq (zeg c1) (s:=s.toNat) (by omega) (w:=w) (ztm c4) (by omega);rw [show (↑s.toNat:Int)=s by omega] at hO;rw [zkA (by omega),zkC,if_neg (by omega),hO,zbj]
  ·rw [zkB c4,zkD,if_pos c4]
 ·rw [zkB c1,zkD,if_pos c1,zbj,zkB c1,zkD]
end
end
section
def greatM (m:zaa):Bool:=decide (12<m.Next.length∨12<m.Out.length∨6<m.Inputs∨(∃ x∈m.Next,12<x.length)∨∃ x∈m.Out,12<x.length)
def zwx (m:zaa):Bool:=!greatM m&&decide (m.Next.length<=8)&&decide (m.Inputs<=4)
theorem smallM_of {m:zaa} (h:zwx m=true):greatM m=false∧m.Next.length<=8∧m.Inputs<=4:=by
 unfold zwx at h;rw [yaq,yaq,yc5] at h;exact ⟨h.1.1,of_decide_eq_true h.1.2,of_decide_eq_true h.2⟩
theorem behind_eq {u:yab} {l:yaa} (hu:u.length<=100000) (hl:l.length<=1000000) (hw:∀ x∈l,x.length<=100000):zdu u l=some (l.map fun x=>u++x):=by
 unfold zdu
 have key:=(iter_fold (step:=fun (s:yaa×Nat)=>zdu.s2 u l s.1 s.2) (l:=l) (fun a _ x=>a++[u++x]) (fun a=>a) (fun a i=>a.length=i) (fun a i x ha hx=>by
  have hi:=(zkI.1 hx).1
  have:=hw x (zkH hx)
  refine ⟨?_,by simp [ha]⟩
  simp only [zdu.s2]
  rw [zkB (by omega),zkD,za8 hx,zjm [u,x] (by simp) (by simp;omega),zbj,zbg (by unfold za1;omega)]
  simp) (fun a ha=>by
  simp only [zdu.s2]
  rw [zkA (by omega),zkC]) (by omega) (a0:=[]) rfl).1
 rw [key,zbj,foldi_eq]
 have:∀ (l acc:yaa),l.foldl (fun a x=>a++[u++x]) acc=acc++l.map fun x=>u++x:=by
  intro l
  induction l with
  | nil=>intro acc;simp
  | cons x l ih=>intro acc;simp [ih]
 rw [this,ycd]
def zrx (m:zaa) (ids:List (yaa)) (w:yab):yaa :=
 if ((ids[dest m m.Start.toNat w]?).getD []).length=0 then [[]] else (ids[dest m m.Start.toNat w]?).getD []
def tailsE (m:zaa) (ids:List (yaa)) (w:yab):yaa×Int :=
 if zdx m≠0 then ([],zdx m) else if zgb w m.Inputs≠0 then ([],zgb w m.Inputs) else if ids.length≠m.Next.length then ([],1) else (zrx m ids w,0)
def SmI (ids:List (yaa)):Prop:=ids.length<=1000000∧∀ l∈ids,l.length<=1000000∧∀ x∈l,x.length<=100000
section
variable {m:zaa} {ids:List (yaa)} {w:yab}
theorem zo5 (hw:SmW w) (h:zdx m=0):fromM m m.Start w=if zgb w m.Inputs≠0 then ([],0,zgb w m.Inputs) else (outs m m.Start.toNat w,(↑(dest m m.Start.toNat w):Int),0):=by
 have H:=zeg h;have:=H.st;unfold fromM;rw [if_neg (by omega),if_neg (by omega)]
theorem zt3 (hI:SmI ids) (hw:SmW w):zjk m ids w=some (tailsE m ids w):=by
 unfold zjk tailsE;rw [zqm hw,zbj];by_cases c1:zdx m=0
 ·have H:=zeg c1;have a2:=H.st;rw [if_neg (fun h=>h c1)];by_cases c2:zgb w m.Inputs=0
  ·rw [zo5 hw c1,if_neg (fun h=>h c2),if_neg (fun h=>h c2)];simp only;rw [zkA (by omega),zkC];by_cases c3:ids.length=m.Next.length
   ·have hd:dest m m.Start.toNat w<m.Next.length:=H.dest (ztm c2) (by omega);have hx:ids[dest m m.Start.toNat w]?=some (ids[dest m m.Start.toNat w]'(by omega)):=get_at (by omega);have hm:=hI.2 _ (zkH hx);unfold zrx;generalize ids[dest m m.Start.toNat w]'(by omega)=l at hx hm;rw [zkA (by omega),zkC,if_neg (by omega),zcq rfl hx,hx,ybe];by_cases c4:l.length=0
    ·rw [zkB (by omega),zkD,if_pos c4]
    ·rw [zkA (by omega),zkC,if_neg c4,zcq rfl hx,behind_eq (by simp) hm.1 hm.2,zbj];simp
   ·rw [zkB (by omega),zkD,if_pos c3]
  ·rw [zo5 hw c1,if_pos c2,if_pos c2];simp only;rw [zkB c2,zkD]
 ·unfold fromM;rw [if_pos c1,if_pos c1,zkB c1,zkD]
end
end
section
section
variable {A:Type} [DecidableEq A]
def bfsB (e:A->Nat->A) (K:Nat) (s0:A):Nat->List (A×yab)
 | 0=>[(s0,[])]
 | r+1=>match (bfsB e K s0 r)[r / K]? with
  | none=>bfsB e K s0 r
  | some x=>if e x.1 (r%K)∈(bfsB e K s0 r).map Prod.fst then bfsB e K s0 r else bfsB e K s0 r++[(e x.1 (r%K),x.2++[(↑(r%K):Int)])]
theorem zrz {K i a:Nat} (h:a<K):(i*K+a) / K=i:=by
 rw [yca,Nat.add_mul_div_right _ _ (by omega),Nat.div_eq_of_lt h,yae]
theorem dm_mod {K i a:Nat} (h:a<K):(i*K+a)%K=a:=by
 rw [yca,Nat.add_mul_mod_self_right,Nat.mod_eq_of_lt h]
theorem zqi {i n a K:Nat} (hi:i<n) (ha:a<K):i*K+a<n*K:=by
 have:(i+1)*K<=n*K:=ya4 K hi;rw [ycv] at this;omega
variable {e:A->Nat->A} {K:Nat} {s0:A}
theorem bfs_step {i a:Nat} {x:A×yab} (ha:a<K) (hx:(bfsB e K s0 (i*K+a))[i]?=some x) :
  bfsB e K s0 (i*K+(a+1))=if e x.1 a∈(bfsB e K s0 (i*K+a)).map Prod.fst then bfsB e K s0 (i*K+a) else bfsB e K s0 (i*K+a)++[(e x.1 a,x.2++[(↑a:Int)])]:=by
 show bfsB e K s0 ((i*K+a)+1)=_;rw [bfsB,zrz ha,hx,dm_mod ha]
theorem bfs_pre1 (r:Nat):bfsB e K s0 r <+: bfsB e K s0 (r+1):=by
 rw [bfsB];split
 ·exact yda _
 ·split
  ·exact yda _
  ·exact List.prefix_append _ _
theorem znn {r:Nat}:∀ {r':Nat},r<=r'->bfsB e K s0 r <+: bfsB e K s0 r'
 | 0,h=>by
  have:r=0:=by omega
  subst this;exact yda _
 | r'+1,h=>by
  rcases ya7 r (r'+1) with g | g
  ·exact (znn (r':=r') (by omega)).trans (bfs_pre1 r')
  ·have:r=r'+1:=by omega
   subst this;exact yda _
theorem zmn {α:Type} {l l':List α} (h:l <+: l') {i:Nat} {x:α} (hx:l[i]?=some x):l'[i]?=some x:=by
 obtain ⟨t,rfl⟩:=h;rw [yba (zkI.1 hx).1,hx]
theorem bfs_pos (r:Nat):(bfsB e K s0 r)[0]?=some (s0,[]):=zmn (znn (yak r)) rfl
theorem zqu:∀ r:Nat,((bfsB e K s0 r).map Prod.fst).Nodup
 | 0=>by simp [bfsB]
 | r+1=>by
  have ih:=zqu r;rw [bfsB];split
  ·exact ih
  ·split
   ·exact ih
   ·rename_i x _ hn;rw [yay,ybi];refine ⟨ih,by simp,fun a ha b hb hab=>hn ?_⟩;have:b=e x.1 (r%K):=by simpa using hb
    rw [<- this,<- hab];exact ha
theorem bfs_from:∀ {r u:Nat} {x:A×yab},(bfsB e K s0 r)[u]?=some x->u=0∨∃ r' y,r'<r∧r' / K<u∧(bfsB e K s0 r)[r' / K]?=some y∧x=(e y.1 (r'%K),y.2++[(↑(r'%K):Int)])
 | 0,u,x,h=>by
  left;have:=(zkI.1 h).1;simp [bfsB] at this;exact this
 | r+1,u,x,h=>by
  have old:(bfsB e K s0 r)[u]?=some x->u=0∨∃ r' y,r'<r+1∧r' / K<u∧(bfsB e K s0 (r+1))[r' / K]?=some y∧x=(e y.1 (r'%K),y.2++[(↑(r'%K):Int)]):=fun h=>by
   rcases bfs_from h with h | ⟨r',y,h1,h2,h3,h4⟩
   ·exact Or.inl h
   ·exact Or.inr ⟨r',y,by omega,h2,zmn (bfs_pre1 r) h3,h4⟩
  have hh:=h;rw [bfsB] at h;split at h
  ·exact old h
  ·rename_i y hy;split at h
   ·exact old h
   ·rename_i hn;rcases ya7 u (bfsB e K s0 r).length with g | g
    ·rw [yba g] at h;exact old h
    ·right;rw [ybg g] at h
     have hu:u-(bfsB e K s0 r).length=0:=by
      have:=(zkI.1 h).1;simpa using this
     rw [hu] at h
     have hx:x=(e y.1 (r%K),y.2++[(↑(r%K):Int)]):=by
      simp at h;exact h.symm
     have hk:=(zkI.1 hy).1;exact ⟨r,y,by omega,by omega,zmn (bfs_pre1 r) hy,hx⟩
theorem bfs_to {r:Nat} {x:A×yab} (hx:(bfsB e K s0 r)[r / K]?=some x):e x.1 (r%K)∈(bfsB e K s0 (r+1)).map Prod.fst:=by
 rw [bfsB,hx];simp only;split
 ·assumption
 ·simp
structure zjj (e:A->Nat->A) (K:Nat) (s0:A) (L:List (A×yab)):Prop where
 eq:L=bfsB e K s0 (L.length*K)
variable {L:List (A×yab)}
theorem zjj.at (h:zjj e K s0 L) {r:Nat} (hr:r<=L.length*K):bfsB e K s0 r <+: L:=by
 have:=znn (e:=e) (K:=K) (s0:=s0) hr;rw [<- h.eq] at this;exact this
theorem zjj.first (h:zjj e K s0 L):L[0]?=some (s0,[]):=by
 rw [h.eq];exact bfs_pos _
theorem zjj.nodup (h:zjj e K s0 L):(L.map Prod.fst).Nodup:=by
 rw [h.eq];exact zqu _
theorem zjj.long (h:zjj e K s0 L) {i a:Nat} (hi:i<L.length) (ha:a<K):∃ x,L[i]?=some x∧(bfsB e K s0 (i*K+a))[i]?=some x:=by
 refine ⟨_,zkM hi,?_⟩;have a3:=h.at (r:=i*K+a) (by have:=zqi hi ha;omega);rcases ya7 i (bfsB e K s0 (i*K+a)).length with g | g
 ·have:=zmn a3 (zkM g);rw [zkM hi] at this;rw [zkM g,this]
 ·exfalso
  have a2:∀ d,bfsB e K s0 (i*K+a+d)=bfsB e K s0 (i*K+a):=by
   intro d
   induction d with
   | zero=>rfl
   | succ d ih =>
    show bfsB e K s0 (i*K+a+d+1)=_;rw [bfsB,ih,ybb ?_];have h1:(i*K+a) / K<=(i*K+a+d) / K:=Nat.div_le_div_right (by omega);rw [zrz ha] at h1;omega
  have h2:=a2 (L.length*K-(i*K+a));rw [show i*K+a+(L.length*K-(i*K+a))=L.length*K by have:=zqi hi ha;omega,<- h.eq] at h2;rw [<- h2] at g;omega
theorem zjj.closed (h:zjj e K s0 L) {i a:Nat} {x:A×yab} (hx:L[i]?=some x) (ha:a<K):∃ j y,L[j]?=some y∧y.1=e x.1 a∧∀ u,0<u->u<=j->∃ i' a' z w,a'<K∧i'*K+a'<=i*K+a∧i'<u∧L[i']?=some z∧L[u]?=some w∧w.1=e z.1 a':=by
 have hi:=(zkI.1 hx).1;obtain ⟨x',h1,h2⟩:=h.long hi ha;rw [hx] at h1;injection h1 with h1
 subst h1;have a7:=zqi hi ha;have a2:=h.at (r:=i*K+a+1) (by omega);have h3:=bfs_to (e:=e) (K:=K) (s0:=s0) (r:=i*K+a) (x:=x) (by rw [zrz ha];exact h2);rw [dm_mod ha] at h3;obtain ⟨y,hy,a5⟩:=yag.1 h3;obtain ⟨j,hj,a6⟩:=yci.1 hy;have a3:(bfsB e K s0 (i*K+a+1))[j]?=some y:=by rw [zkM hj,a6]
 refine ⟨j,y,zmn a2 a3,a5,fun u hu a8=>?_⟩;have a4:u<(bfsB e K s0 (i*K+a+1)).length:=by omega
 have hw:=zkM a4;rcases bfs_from hw with q | ⟨r',z,q1,q2,q3,q4⟩
 ·omega
 ·have hK:0<K:=by omega
  refine ⟨r' / K,r'%K,z,_,ydv _ hK,?_,q2,zmn a2 q3,zmn a2 hw,by rw [q4]⟩;have:=yd7 r' K;rw [yds] at this;omega
theorem zjj.from (h:zjj e K s0 L) (hK:0<K) {u:Nat} {x:A×yab} (hx:L[u]?=some x):u=0∨∃ i a y,i<u∧a<K∧L[i]?=some y∧x=(e y.1 a,y.2++[(↑a:Int)]):=by
 have a2:=hx;rw [h.eq] at a2;rcases bfs_from a2 with q | ⟨r',z,q1,q2,q3,q4⟩
 ·exact Or.inl q
 ·rw [<- h.eq] at q3;exact Or.inr ⟨r' / K,r'%K,z,q2,ydv _ hK,q3,q4⟩
end
end
section
def E (m:zaa):Nat->Nat->Nat->Prop
 | 0,_,_=>True
 | k+1,s,t=>E m k s t∧∀ a,a<m.Inputs.toNat->ot m s a=ot m t a∧E m k (nx m s a) (nx m t a)
section
variable {m:zaa}
theorem E_refl:∀ (k s:Nat),E m k s s
 | 0,_=>trivial
 | k+1,s=>⟨E_refl k s,fun _ _=>⟨rfl,E_refl k _⟩⟩
theorem E_symm:∀ {k s t:Nat},E m k s t->E m k t s
 | 0,_,_,_=>trivial
 | _+1,_,_,h=>⟨E_symm h.1,fun a ha=>⟨(h.2 a ha).1.symm,E_symm (h.2 a ha).2⟩⟩
theorem zqz:∀ {k s t u:Nat},E m k s t->E m k t u->E m k s u
 | 0,_,_,_,_,_=>trivial
 | _+1,_,_,_,h,g=>⟨zqz h.1 g.1,fun a ha=>⟨(h.2 a ha).1.trans (g.2 a ha).1,zqz (h.2 a ha).2 (g.2 a ha).2⟩⟩
theorem E_mono {k j s t:Nat} (hk:k<=j) (h:E m j s t):E m k s t:=by
 induction j with
 | zero =>
  have e:k=0:=by omega
  subst e;exact h
 | succ j ih =>
  rcases ya7 k (j+1) with h1 | h1
  ·exact ih (by omega) h.1
  ·have e:k=j+1:=by omega
   subst e;exact h
theorem zuy:∀ {k s t:Nat},(∀ w,w.length<=k->WOk m.Inputs w->outs m s w=outs m t w)->E m k s t
 | 0,_,_,_=>trivial
 | k+1,s,t,h=>⟨zuy fun w hl hw=>h w (by omega) hw,fun a ha=>by
  have hx:∀ w,w.length<=k->WOk m.Inputs w->ot m s a=ot m t a∧outs m (nx m s a) w=outs m (nx m t a) w:=fun w hl hw=>by
   have h1:=h ((↑a:Int)::w) (by simp;omega) (fun x hx=>by
    rcases yau.1 hx with rfl | hx
    ·exact ⟨by omega,by omega⟩
    ·exact hw x hx)
   have h2:ot m s a::outs m (nx m s a) w=ot m t a::outs m (nx m t a) w:=h1
   injection h2 with h3 h4
   exact ⟨h3,h4⟩
  exact ⟨(hx [] (yak _) (fun x hx=>by cases hx)).1,zuy fun w hl hw=>(hx w hl hw).2⟩⟩
structure ClsOk (m:zaa) (k:Nat) (c:yab):Prop where
 len:c.length=m.Next.length
 rng:∀ s,s<m.Next.length->∃ x:Nat,c[s]?=some (↑x:Int)∧x<m.Next.length
 cls:∀ s t,s<m.Next.length->t<m.Next.length->(c[s]?=c[t]?↔E m k s t)
structure FinOk (m:zaa) (k:Nat) (y:yab) (n s:Nat):Prop where
 ls:s<=m.Next.length
 len:y.length=s
 cnt:n<=s
 rng:∀ i,i<s->∃ x:Nat,y[i]?=some (↑x:Int)∧x<n
 cls:∀ i j,i<s->j<s->(y[i]?=y[j]?↔E m k i j)
theorem zrw {α:Type} {p q:α->Bool}:∀ {l:List α},(∀ x∈l,p x=true->q x=true)->l.countP q<=l.countP p->∀ x∈l,q x=true->p x=true
 | [],_,_,x,hx,_=>by cases hx
 | y::l,h,hc,x,hx,hq=>by
  have h1:l.countP p<=l.countP q:=List.countP_mono_left fun x hx=>h x (yaw _ hx);rw [List.countP_cons,List.countP_cons] at hc;have h2:=h y (ycc ..)
  have h3:l.countP q<=l.countP p∧(q y=true->p y=true):=by
   cases e1:q y<;>cases e2:p y<;>simp [e1,e2] at hc h2 ⊢<;>omega
  rcases yau.1 hx with rfl | hx
  ·exact h3.2 hq
  ·exact zrw (fun x hx=>h x (yaw _ hx)) h3.1 x hx hq
def Rep (m:zaa) (k s:Nat):Prop:=∀ t,t<s->¬ E m k s t
open Classical in
noncomputable def nreps (m:zaa) (k:Nat):Nat:=(List.range m.Next.length).countP fun s=>decide (Rep m k s)
theorem zwp (k:Nat):∀ (s:Nat),∃ r,r<=s∧Rep m k r∧E m k s r:=by
 intro s
 induction s using Nat.strongRecOn with
 | ind s ih =>
  by_cases h:Rep m k s
  ·exact ⟨s,yao _,h,E_refl _ _⟩
  ·have ⟨t,h1⟩:=yc9.1 h;obtain ⟨h2,h3⟩:=ydh.1 h1;have h3:=Classical.not_not.1 h3;obtain ⟨r,r1,r2,r3⟩:=ih t h2;exact ⟨r,by omega,r2,zqz h3 r3⟩
def Stab (m:zaa) (k:Nat):Prop:=∀ s t,s<m.Next.length->t<m.Next.length->E m k s t->E m (k+1) s t
theorem rep_succ {k s:Nat} (h:Rep m k s):Rep m (k+1) s:=fun t ht hE=>h t ht hE.1
open Classical in
open Classical in
theorem stab_of {k:Nat} (h:nreps m (k+1)<=nreps m k):Stab m k:=by
 intro s t hs ht hE;unfold nreps at h;have key:=zrw (l:=List.range m.Next.length) (fun s _ h=>zkB (rep_succ (of_decide_eq_true h))) h;obtain ⟨r,r1,r2,r3⟩:=zwp (m:=m) (k+1) s;obtain ⟨u,u1,u2,u3⟩:=zwp (m:=m) (k+1) t;have r4:Rep m k r:=of_decide_eq_true (key r (ya0.2 (by omega)) (zkB r2));have u4:Rep m k u:=of_decide_eq_true (key u (ya0.2 (by omega)) (zkB u2));have a2:E m k r u:=zqz (E_symm r3.1) (zqz hE u3.1)
 have e:r=u:=by
  rcases ydz r u with h1 | h1 | h1
  ·exact absurd (E_symm a2) (u4 r h1)
  ·exact h1
  ·exact absurd a2 (r4 u h1)
 subst e;exact zqz r3 (E_symm u3)
theorem stab_succ (H:zen m) {k:Nat} (h:Stab m k):Stab m (k+1):=fun s t hs ht hE =>
 ⟨hE,fun a ha=>⟨(hE.2 a ha).1,h _ _ (H.at hs ha).1 (H.at ht ha).1 (hE.2 a ha).2⟩⟩
theorem stab_add (H:zen m) {k:Nat} (h:Stab m k):∀ j,Stab m (k+j)
 | 0=>h
 | j+1=>stab_succ H (stab_add H h j)
open Classical in
theorem stab_exists (H:zen m):∃ k,k<m.Next.length∧Stab m k:=by
 refine yby fun a3=>?_
 have a2:∀ k,k<=m.Next.length->k+1<=nreps m k:=by
  intro k
  induction k with
  | zero =>
   intro _;unfold nreps;have:0<(List.range m.Next.length).countP fun s=>@decide (Rep m 0 s) (Classical.propDecidable _):=List.countP_pos_iff.2 ⟨0,ya0.2 H.n1,zkB fun t ht=>absurd ht (yb2 _)⟩;exact this
  | succ k ih =>
   intro hk;have h1:=ih (by omega);rcases ya7 (nreps m k) (nreps m (k+1)) with h2 | h2
   ·omega
   ·exact absurd ⟨k,by omega,stab_of h2⟩ a3
 have h1:=a2 _ (yao _);have h2:nreps m m.Next.length<=(List.range m.Next.length).length:=List.countP_le_length;rw [ycf] at h2;omega
theorem E_all (H:zen m) {s t:Nat} (hs:s<m.Next.length) (ht:t<m.Next.length) (h:E m m.Next.length s t) (j:Nat):E m j s t:=by
 obtain ⟨k,hk,hS⟩:=stab_exists H
 have key:∀ i,E m (k+i) s t:=by
  intro i
  induction i with
  | zero=>exact E_mono (by omega) h
  | succ i ih=>exact stab_add H hS i s t hs ht ih
 exact E_mono (by omega) (key j)
end
end
section
theorem zi7 {α:Type} [DecidableEq α]:∀ {l l':List α},l.Nodup->(∀ x∈l,x∈l')->l.length<=l'.length
 | [],_,_,_=>yak _
 | x::l,l',h,hs=>by
  have h1:=ybm.1 h;have hx:=hs x (by simp);have ih:=zi7 (l:=l) (l':=l'.erase x) h1.2 (fun y hy=>(List.mem_erase_of_ne (fun e=>h1.1 (by rw [<- e];exact hy))).2 (hs y (yaw _ hy)));rw [List.length_erase_of_mem hx] at ih;have:=List.length_pos_of_mem hx;simp only [zkL];omega
def natI (l:List Nat):yab:=l.map fun (x:Nat)=>(↑x:Int)
theorem natI_at {l:List Nat} {i u:Nat} (h:l[i]?=some u):(natI l)[i]?=some (↑u:Int):=by
 unfold natI;rw [yam,h];rfl
theorem natI_push (l:List Nat) (t:Nat):natI l++[(↑t:Int)]=natI (l++[t]):=by simp [natI]
theorem zil (l:List Nat):(natI l).length=l.length:=by simp [natI]
structure Num (m:zaa) (c:yab) (ord:List Nat) (num:yab):Prop where
 rng:∀ u∈ord,u<m.Next.length
 start:ord[0]?=some m.Start.toNat
 len:num.length=m.Next.length
 n1:∀ j u x:Nat,ord[j]?=some u->c[u]?=some (↑x:Int)->num[x]?=some (↑j:Int)
 n2:∀ x:Nat,x<m.Next.length->num[x]?=some (-1:Int)∨∃ j u:Nat,num[x]?=some (↑j:Int)∧ord[j]?=some u∧c[u]?=some (↑x:Int)
 reach:∀ j u:Nat,ord[j]?=some u->j=0∨∃ i v a:Nat,i<j∧ord[i]?=some v∧a<m.Inputs.toNat∧u=nx m v a
section
variable {m:zaa} {c num:yab} {ord:List Nat} {k:Nat}
structure RowAt (m:zaa) (c:yab) (ord:List Nat) (v:Nat) (row out:yab) (a:Nat):Prop where
 l1:row.length=a
 l2:out.length=a
 cell:∀ b,b<a->∃ j u:Nat,row[b]?=some (↑j:Int)∧ord[j]?=some u∧c[u]?=c[nx m v b]?∧out[b]?=some (ot m v b)
structure MinOk (m M:zaa) (c:yab) (ord:List Nat) (num:yab):Prop where
 cls:ClsOk m m.Next.length c
 num:Num m c ord num
 inp:M.Inputs=m.Inputs
 start:M.Start=0
 l1:M.Next.length=ord.length
 l2:M.Out.length=ord.length
 row:∀ i v:Nat,ord[i]?=some v->∃ row out,M.Next[i]?=some row∧M.Out[i]?=some out∧RowAt m c ord v row out m.Inputs.toNat
end
end
section
section
variable {m:zaa}
def mB (m:zaa) (s0 r:Nat):List (Nat×yab):=bfsB (nx m) m.Inputs.toNat s0 r
abbrev MEnd (m:zaa) (s0:Nat) (L:List (Nat×yab)):Prop:=zjj (nx m) m.Inputs.toNat s0 L
theorem zqe (H:zen m) {s0:Nat} (hs:s0<m.Next.length):∀ (r:Nat),∀ x∈mB m s0 r,x.1<m.Next.length∧x.2.length<=r∧dest m s0 x.2=x.1∧WOk m.Inputs x.2
 | 0,x,hx=>by
  have:x=(s0,[]):=by simpa [mB,bfsB] using hx
  subst this;exact ⟨hs,yao _,rfl,fun a ha=>by cases ha⟩
 | r+1,x,hx=>by
  have ih:=zqe H hs r
  have a2:x∈mB m s0 r->x.1<m.Next.length∧x.2.length<=r+1∧dest m s0 x.2=x.1∧WOk m.Inputs x.2:=fun h=>by
   have:=ih x h;exact ⟨this.1,by omega,this.2.2⟩
  unfold mB at hx;rw [bfsB] at hx;split at hx
  ·exact a2 hx
  ·rename_i y hy;split at hx
   ·exact a2 hx
   ·rcases yap.1 hx with h | h
    ·exact a2 h
    ·have hK:0<m.Inputs.toNat:=by have:=H.i1;omega
     have a3:=ih y (zkH hy);have ha:=ydv r hK;have a5:x=(nx m y.1 (r%m.Inputs.toNat),y.2++[(↑(r%m.Inputs.toNat):Int)]):=by simpa using h
     subst a5;refine ⟨(H.at a3.1 ha).1,by simp;omega,?_,?_⟩
     ·simp only;rw [zg0,a3.2.2.1];show nx m y.1 (Int.toNat _)=_;rw [ya6]
     ·refine WOk.append a3.2.2.2 fun a a4=>?_;have:a=(↑(r%m.Inputs.toNat):Int):=by simpa using a4
      subst this;omega
theorem zw0 (H:zen m) {s0:Nat} (hs:s0<m.Next.length) (r:Nat):(mB m s0 r).length<=m.Next.length:=by
 have:=zi7 (zqu (e:=nx m) (K:=m.Inputs.toNat) (s0:=s0) r) (l':=List.range m.Next.length) fun x hx=>by
  obtain ⟨y,hy,rfl⟩:=yag.1 hx;exact ya0.2 (zqe H hs r y hy).1
 rwa [zkK,ycf] at this
theorem mB_step {s0 i a:Nat} {x:Nat×yab} (ha:a<m.Inputs.toNat) (hx:(mB m s0 (i*m.Inputs.toNat+a))[i]?=some x) :
  mB m s0 (i*m.Inputs.toNat+(a+1))=if nx m x.1 a∈(mB m s0 (i*m.Inputs.toNat+a)).map Prod.fst then mB m s0 (i*m.Inputs.toNat+a) else mB m s0 (i*m.Inputs.toNat+a)++[(nx m x.1 a,x.2++[(↑a:Int)])]:=bfs_step ha hx
theorem mB_next {s0 i:Nat}:mB m s0 (i*m.Inputs.toNat+m.Inputs.toNat)=mB m s0 ((i+1)*m.Inputs.toNat):=by rw [ycv]
theorem mB_get {s0 i r:Nat} {x:Nat×yab} (hx:(mB m s0 (i*m.Inputs.toNat))[i]?=some x) (hr:i*m.Inputs.toNat<=r):(mB m s0 r)[i]?=some x:=zmn (znn hr) hx
structure zkp (n:Nat) (y:List Bool) (l:List Nat):Prop where
 len:y.length=n
 at_:∀ t,t<n->y[t]?=some (decide (t∈l))
theorem zkp.push {n t:Nat} {y:List Bool} {l:List Nat} (S:zkp n y l) (ht:t<n):zkp n (y.set t true) (l++[t]):=by
 refine ⟨by simp [S.len],fun u hu=>?_⟩;by_cases h:t=u
 ·subst h;rw [ybl (by rw [S.len];exact ht)];simp
 ·rw [ybh h,S.at_ u hu];congr 1;apply decide_eq_decide.2;rw [yap];constructor
  ·exact Or.inl
  ·rintro (q | q)
   ·exact q
   ·exact absurd (by simpa using q:u=t).symm h
theorem seen_nil (n:Nat):zkp n (List.replicate n false) []:=⟨by simp,fun t ht=>by simp [ht]⟩
theorem zi1 (hv:zdx m=0):∃ L,MEnd m m.Start.toNat L∧zcj m=some (natI (L.map Prod.fst)):=by
 have H:=zeg hv;have a9:=H.st;have hn:=H.n2;have hs:m.Start.toNat<m.Next.length:=by omega
 have a5:∀ (i:Nat) (x:Nat×yab) (row:yab) (y:List Bool),(mB m m.Start.toNat (i*m.Inputs.toNat))[i]?=some x->m.Next[x.1]?=some row->zkp m.Next.length y ((mB m m.Start.toNat (i*m.Inputs.toNat)).map Prod.fst) ->
   ∃ y',iter (fun (s:List Bool×yab×Nat)=>zcj.s18 row s.1 s.2.1 s.2.2) fuel (y,natI ((mB m m.Start.toNat (i*m.Inputs.toNat)).map Prod.fst),0)=some (y',natI ((mB m m.Start.toNat ((i+1)*m.Inputs.toNat)).map Prod.fst))∧zkp m.Next.length y' ((mB m m.Start.toNat ((i+1)*m.Inputs.toNat)).map Prod.fst):=by
  intro i x row y hx a3 S;have a4:=(zqe H hs _ x (zkH hx)).1
  have b0:row.length=m.Inputs.toNat:=by
   obtain ⟨x',y',h1,_,h3,_⟩:=H.row x.1 a4;rw [a3] at h1;injection h1 with h1
   subst h1;omega
  obtain ⟨r,hr,y',rfl,hq⟩:=zkk (step:=fun (s:List Bool×yab×Nat)=>zcj.s18 row s.1 s.2.1 s.2.2) (fun s=>s.2.2<=m.Inputs.toNat∧s.2.1=natI ((mB m m.Start.toNat (i*m.Inputs.toNat+s.2.2)).map Prod.fst)∧zkp m.Next.length s.1 ((mB m m.Start.toNat (i*m.Inputs.toNat+s.2.2)).map Prod.fst)) (fun s=>m.Inputs.toNat-s.2.2) (fun r=>∃ y',r=(y',natI ((mB m m.Start.toNat ((i+1)*m.Inputs.toNat)).map Prod.fst))∧zkp m.Next.length y' ((mB m m.Start.toNat ((i+1)*m.Inputs.toNat)).map Prod.fst)) (fun s ⟨q1,q2,q3⟩=>by
   obtain ⟨y,l,a⟩:=s
   simp only at q1 q2 q3
   subst q2
   simp only [zcj.s18]
   by_cases g:a<m.Inputs.toNat
   ·left
    have a7:=mB_get hx (r:=i*m.Inputs.toNat+a) (by omega)
    obtain ⟨h1,_,_,x',y',h2,_,h4,_⟩:=H.at a4 g
    rw [a3] at h2
    injection h2 with h2
    subst h2
    have a6:=zw0 H hs (i*m.Inputs.toNat+a)
    have a2:=mB_step g a7
    rw [zkB (by omega),zkD,za8 h4,zcq rfl (q3.at_ _ h1)]
    by_cases hm:nx m x.1 a∈(mB m m.Start.toNat (i*m.Inputs.toNat+a)).map Prod.fst
    ·rw [if_pos hm] at a2
     refine ⟨(y,natI ((mB m m.Start.toNat (i*m.Inputs.toNat+a)).map Prod.fst),a+1),by rw [zkB hm];rfl,⟨g,by simp only;rw [a2],by simp only;rw [a2];exact q3⟩,by simp only;omega⟩
    ·rw [if_neg hm] at a2
     refine ⟨(y.set (nx m x.1 a) true,natI ((mB m m.Start.toNat (i*m.Inputs.toNat+a)).map Prod.fst++[nx m x.1 a]),a+1),?_,⟨g,by simp only;rw [a2,yay];rfl,by simp only;rw [a2,yay];exact q3.push h1⟩,by simp only;omega⟩
     rw [zkA hm,ydk,zkD,zcq rfl (q3.at_ _ h1),zbg (by unfold za1;rw [zil,zkK];omega),natI_push,ya6]
   ·right
    have e':a=m.Inputs.toNat:=by omega
    subst e'
    rw [mB_next] at q3 ⊢
    exact ⟨_,by rw [zkA (by omega),zkC],_,rfl,q3⟩) fuel (y,natI ((mB m m.Start.toNat (i*m.Inputs.toNat)).map Prod.fst),0) ⟨yak _,rfl,S⟩ (by have:=zjy;have:=H.i2;simp only;omega)
  exact ⟨y',hr,hq⟩
 unfold zcj;rw [zcw,zbj,hv,zkA (by decide),zkC,zbg ⟨by omega,by omega,by unfold za1;omega⟩,zcq (i:=m.Start.toNat) (x:=false) (by omega) (by rw [ycg,if_pos hs])]
 obtain ⟨r,hr,L,hL,rfl⟩:=zfo (step:=fun (s:List Bool×yab×Nat)=>zcj.s20 m s.1 s.2.1 s.2.2) (fun s=>s.2.2<=(mB m m.Start.toNat (s.2.2*m.Inputs.toNat)).length∧s.2.1=natI ((mB m m.Start.toNat (s.2.2*m.Inputs.toNat)).map Prod.fst)∧zkp m.Next.length s.1 ((mB m m.Start.toNat (s.2.2*m.Inputs.toNat)).map Prod.fst)) (fun s=>m.Next.length+1-s.2.2) (fun r=>∃ L,MEnd m m.Start.toNat L∧r=natI (L.map Prod.fst)) (fun s ⟨q1,q2,q3⟩=>by
  obtain ⟨y,l,i⟩:=s
  simp only at q1 q2 q3
  subst q2
  simp only [zcj.s20]
  have a6:=zw0 H hs (i*m.Inputs.toNat)
  by_cases g:i<(mB m m.Start.toNat (i*m.Inputs.toNat)).length
  ·left
   have hx:=get_at g
   generalize (mB m m.Start.toNat (i*m.Inputs.toNat))[i]=x at hx
   have a4:=(zqe H hs _ x (zkH hx)).1
   have a3:=get_at a4
   obtain ⟨y',h1,h2⟩:=a5 i x _ y hx a3 q3
   have a8:=(znn (e:=nx m) (K:=m.Inputs.toNat) (s0:=m.Start.toNat) (show i*m.Inputs.toNat<=(i+1)*m.Inputs.toNat by rw [ycv];omega)).length_le
   refine ⟨(y',natI ((mB m m.Start.toNat ((i+1)*m.Inputs.toNat)).map Prod.fst),i+1),?_,⟨by simp only;unfold mB at g ⊢;omega,rfl,h2⟩,by simp only;omega⟩
   rw [zkB (by rw [zil,zkK];omega),zkD,za8 (natI_at (i:=i) (u:=x.1) (by rw [yam,hx];rfl)),zcq rfl a3,h1,zbj]
   rfl
  ·right
   refine ⟨_,by rw [zkA (by rw [zil,zkK];omega),zkC],mB m m.Start.toNat (i*m.Inputs.toNat),⟨?_⟩,rfl⟩
   rw [show (mB m m.Start.toNat (i*m.Inputs.toNat)).length=i by omega]
   rfl) ((List.replicate m.Next.length false).set m.Start.toNat true,[m.Start],0) ⟨yak _,by simp only;rw [ycr];simp [mB,bfsB,natI];omega,by
    simp only
    rw [ycr]
    exact (seen_nil m.Next.length).push hs⟩
 exact ⟨L,hL,by rw [hr,zbj]⟩
end
end
section
section
variable {m:zaa}
def zib (x:Nat×yab):zb0:=⟨(↑x.1:Int),x.2⟩
theorem zuj {l:List (Nat×yab)} {i:Nat} {x:Nat×yab} (h:l[i]?=some x):(l.map zib)[i]?=some (zib x):=by rw [yam,h];rfl
theorem zts (H:zen m) {s0:Nat} (hs:s0<m.Next.length):∃ L,MEnd m s0 L∧zcg m (↑s0:Int)=some (L.map zib):=by
 have hn:=H.n2;have hI:=H.i2
 have a5:∀ (i:Nat) (x:Nat×yab) (row:yab) (y:List Bool),i<=m.Next.length->(mB m s0 (i*m.Inputs.toNat))[i]?=some x->m.Next[x.1]?=some row->zkp m.Next.length y ((mB m s0 (i*m.Inputs.toNat)).map Prod.fst) ->
   ∃ y',iter (fun (s:List Bool×List zb0×Nat)=>zcg.s18 i row s.1 s.2.1 s.2.2) fuel (y,(mB m s0 (i*m.Inputs.toNat)).map zib,0)=some (y',(mB m s0 ((i+1)*m.Inputs.toNat)).map zib)∧zkp m.Next.length y' ((mB m s0 ((i+1)*m.Inputs.toNat)).map Prod.fst):=by
  intro i x row y b0 hx a3 S;have a4:=(zqe H hs _ x (zkH hx)).1;have b2:=(zqe H hs _ x (zkH hx)).2.1;have a9:i*m.Inputs.toNat<=128*64:=yb0 (by omega) (by omega)
  have b3:row.length=m.Inputs.toNat:=by
   obtain ⟨x',y',h1,_,h3,_⟩:=H.row x.1 a4;rw [a3] at h1;injection h1 with h1
   subst h1;omega
  obtain ⟨r,hr,y',rfl,hq⟩:=zkk (step:=fun (s:List Bool×List zb0×Nat)=>zcg.s18 i row s.1 s.2.1 s.2.2) (fun s=>s.2.2<=m.Inputs.toNat∧s.2.1=(mB m s0 (i*m.Inputs.toNat+s.2.2)).map zib∧zkp m.Next.length s.1 ((mB m s0 (i*m.Inputs.toNat+s.2.2)).map Prod.fst)) (fun s=>m.Inputs.toNat-s.2.2) (fun r=>∃ y',r=(y',(mB m s0 ((i+1)*m.Inputs.toNat)).map zib)∧zkp m.Next.length y' ((mB m s0 ((i+1)*m.Inputs.toNat)).map Prod.fst)) (fun s ⟨q1,q2,q3⟩=>by
   obtain ⟨y,l,a⟩:=s
   simp only at q1 q2 q3
   subst q2
   simp only [zcg.s18]
   by_cases g:a<m.Inputs.toNat
   ·left
    have a7:=mB_get hx (r:=i*m.Inputs.toNat+a) (by omega)
    obtain ⟨h1,_,_,x',y',h2,_,h4,_⟩:=H.at a4 g
    rw [a3] at h2
    injection h2 with h2
    subst h2
    have a6:=zw0 H hs (i*m.Inputs.toNat+a)
    have a2:=mB_step g a7
    rw [zkB (by omega),zkD,za8 h4,zcq rfl (q3.at_ _ h1)]
    by_cases hm:nx m x.1 a∈(mB m s0 (i*m.Inputs.toNat+a)).map Prod.fst
    ·rw [if_pos hm] at a2
     refine ⟨(y,(mB m s0 (i*m.Inputs.toNat+a)).map zib,a+1),by rw [zkB hm];rfl,⟨g,by simp only;rw [a2],by simp only;rw [a2];exact q3⟩,by simp only;omega⟩
    ·rw [if_neg hm] at a2
     refine ⟨(y.set (nx m x.1 a) true,(mB m s0 (i*m.Inputs.toNat+a)).map zib++[zib (nx m x.1 a,x.2++[(↑a:Int)])],a+1),?_,⟨g,by simp only;rw [a2,yay];rfl,by simp only;rw [a2,yay];exact q3.push h1⟩,by simp only;omega⟩
     rw [zkA hm,ydk,zkD,zcq rfl (q3.at_ _ h1),za8 (zuj a7)]
     show (zcs [x.2,[(↑a:Int)]]).bind _=_
     rw [zjm _ (by simp) (by simp;omega),zbj,zbg (by unfold za1;rw [zkK];omega),ya6]
     simp [zib]
   ·right
    have e':a=m.Inputs.toNat:=by omega
    subst e'
    rw [mB_next] at q3 ⊢
    exact ⟨_,by rw [zkA (by omega),zkC],_,rfl,q3⟩) fuel (y,(mB m s0 (i*m.Inputs.toNat)).map zib,0) ⟨yak _,rfl,S⟩ (by have:=zjy;have:=H.i2;simp only;omega)
  exact ⟨y',hr,hq⟩
 unfold zcg;rw [zbg ⟨by omega,by omega,by unfold za1;omega⟩,zcq (i:=s0) (x:=false) rfl (by rw [ycg,if_pos hs])]
 obtain ⟨r,hr,L,hL,rfl⟩:=zfo (step:=fun (s:List Bool×List zb0×Nat)=>zcg.s20 m s.1 s.2.1 s.2.2) (fun s=>s.2.2<=(mB m s0 (s.2.2*m.Inputs.toNat)).length∧s.2.1=(mB m s0 (s.2.2*m.Inputs.toNat)).map zib∧zkp m.Next.length s.1 ((mB m s0 (s.2.2*m.Inputs.toNat)).map Prod.fst)) (fun s=>m.Next.length+1-s.2.2) (fun r=>∃ L,MEnd m s0 L∧r=L.map zib) (fun s ⟨q1,q2,q3⟩=>by
  obtain ⟨y,l,i⟩:=s
  simp only at q1 q2 q3
  subst q2
  simp only [zcg.s20]
  have a6:=zw0 H hs (i*m.Inputs.toNat)
  by_cases g:i<(mB m s0 (i*m.Inputs.toNat)).length
  ·left
   have hx:=get_at g
   generalize (mB m s0 (i*m.Inputs.toNat))[i]=x at hx
   have a4:=(zqe H hs _ x (zkH hx)).1
   have a3:=get_at a4
   obtain ⟨y',h1,h2⟩:=a5 i x _ y (by omega) hx a3 q3
   have a8:=(znn (e:=nx m) (K:=m.Inputs.toNat) (s0:=s0) (show i*m.Inputs.toNat<=(i+1)*m.Inputs.toNat by rw [ycv];omega)).length_le
   refine ⟨(y',(mB m s0 ((i+1)*m.Inputs.toNat)).map zib,i+1),?_,⟨by simp only;unfold mB at g ⊢;omega,rfl,h2⟩,by simp only;omega⟩
   rw [zkB (by rw [zkK];omega),zkD,za8 (zuj hx),zcq (n:=(zib x).state) (i:=x.1) rfl a3,h1,zbj]
   rfl
  ·right
   refine ⟨_,by rw [zkA (by rw [zkK];omega),zkC],mB m s0 (i*m.Inputs.toNat),⟨?_⟩,rfl⟩
   rw [show (mB m s0 (i*m.Inputs.toNat)).length=i by omega]
   rfl) ((List.replicate m.Next.length false).set s0 true,[(⟨(↑s0:Int),[]⟩:zb0)],0) ⟨yak _,by simp only;rw [ycr];simp [mB,bfsB,zib],by
    simp only
    rw [ycr]
    exact (seen_nil m.Next.length).push hs⟩
 exact ⟨L,hL,by rw [ya6,hr,zbj]⟩
theorem zu6 (hv:zdx m=0):∃ L,MEnd m m.Start.toNat L∧zdf m=some (natI (L.map Prod.fst),L.map Prod.snd,0):=by
 have H:=zeg hv;have a3:=H.st;obtain ⟨L,hL,he⟩:=zts H (s0:=m.Start.toNat) (by omega);rw [show (↑m.Start.toNat:Int)=m.Start by omega] at he
 have a2:L.length<=m.Next.length:=by
  rw [hL.eq];exact zw0 H (by omega) _
 have hn:=H.n2;refine ⟨L,hL,?_⟩;unfold zdf;rw [zcw,zbj,hv,zkA (by decide),zkC,he,zbj]
 have key:=zhd (step:=fun (s:yab×yaa×Nat)=>zdf.s2 (L.map zib) s.1 s.2.1 s.2.2) (r:=(natI (L.map Prod.fst),L.map Prod.snd)) (fun s=>s.2.2<=L.length∧s.1=natI ((L.take s.2.2).map Prod.fst)∧s.2.1=(L.take s.2.2).map Prod.snd) (fun s=>L.length-s.2.2) (fun s ⟨q1,q2,q3⟩=>by
  obtain ⟨a,b,i⟩:=s
  simp only at q1 q2 q3
  subst q2
  subst q3
  simp only [zdf.s2]
  by_cases g:i<L.length
  ·left
   have hx:=get_at g
   refine ⟨(natI ((L.take (i+1)).map Prod.fst),(L.take (i+1)).map Prod.snd,i+1),?_,⟨g,rfl,rfl⟩,by simp only;omega⟩
   rw [zkB (by rw [zkK];omega),zkD,za8 (zuj hx),zbg (by unfold za1;rw [zil,zkK,yah];omega),zbg (by unfold za1;rw [zkK,yah];omega),zfj hx,yay,yay]
   simp [natI,zib]
  ·right
   have:i=L.length:=by omega
   subst this
   rw [zkA (by rw [zkK];omega),zkC,ycj]) (n:=fuel) (s:=([],[],0)) ⟨yak _,rfl,rfl⟩
 rw [key,zbj];rfl
end
end
section
theorem bfs_stay {A:Type} [DecidableEq A] {e:A->Nat->A} {K:Nat} {s0:A} {L:List (A×yab)} (h:zjj e K s0 L) (hK:0<K):∀ d,bfsB e K s0 (L.length*K+d)=L
 | 0=>h.eq.symm
 | d+1=>by
  have ih:=bfs_stay h hK d;show bfsB e K s0 (L.length*K+d+1)=L;rw [bfsB,ih,ybb ?_];have h1:(L.length*K) / K<=(L.length*K+d) / K:=Nat.div_le_div_right (by omega);rw [Nat.mul_div_cancel _ hK] at h1;exact h1
section
variable {a b:zaa}
def pE (a b:zaa) (p:Nat×Nat) (x:Nat):Nat×Nat:=(nx a p.1 x,nx b p.2 x)
def pB (a b:zaa) (p0:Nat×Nat) (r:Nat):List ((Nat×Nat)×yab):=bfsB (pE a b) a.Inputs.toNat p0 r
abbrev PEnd (a b:zaa) (p0:Nat×Nat) (L:List ((Nat×Nat)×yab)):Prop:=zjj (pE a b) a.Inputs.toNat p0 L
def difB (a b:zaa) (p0:Nat×Nat) (r:Nat):Bool:=match (pB a b p0 r)[r / a.Inputs.toNat]? with
 | some x=>decide (ot a x.1.1 (r%a.Inputs.toNat)≠ot b x.1.2 (r%a.Inputs.toNat))
 | none=>false
theorem zt5 {p0:Nat×Nat} {i c:Nat} {x:(Nat×Nat)×yab} (hc:c<a.Inputs.toNat) (hx:(pB a b p0 (i*a.Inputs.toNat+c))[i]?=some x):difB a b p0 (i*a.Inputs.toNat+c)=decide (ot a x.1.1 c≠ot b x.1.2 c):=by
 unfold difB;rw [zrz hc,hx,dm_mod hc]
structure Two (a b:zaa):Prop where
 a1:zen a
 b1:zen b
 inp:a.Inputs=b.Inputs
theorem zr1 (T:Two a b) {p0:Nat×Nat} (h1:p0.1<a.Next.length) (h2:p0.2<b.Next.length):∀ (r:Nat),∀ x∈pB a b p0 r,x.1.1<a.Next.length∧x.1.2<b.Next.length∧x.2.length<=r∧dest a p0.1 x.2=x.1.1∧dest b p0.2 x.2=x.1.2∧WOk a.Inputs x.2
 | 0,x,hx=>by
  have:x=(p0,[]):=by simpa [pB,bfsB] using hx
  subst this;exact ⟨h1,h2,yao _,rfl,rfl,fun a ha=>by cases ha⟩
 | r+1,x,hx=>by
  have ih:=zr1 T h1 h2 r
  have a3:x∈pB a b p0 r->x.1.1<a.Next.length∧x.1.2<b.Next.length∧x.2.length<=r+1∧dest a p0.1 x.2=x.1.1∧dest b p0.2 x.2=x.1.2∧WOk a.Inputs x.2:=fun h=>by
   have:=ih x h;exact ⟨this.1,this.2.1,by omega,this.2.2.2⟩
  unfold pB at hx;rw [bfsB] at hx;split at hx
  ·exact a3 hx
  ·rename_i y hy;split at hx
   ·exact a3 hx
   ·rcases yap.1 hx with h | h
    ·exact a3 h
    ·have hK:0<a.Inputs.toNat:=by have:=T.a1.i1;omega
     have a2:=ih y (zkH hy);have ha:=ydv r hK;have a5:x=(pE a b y.1 (r%a.Inputs.toNat),y.2++[(↑(r%a.Inputs.toNat):Int)]):=by simpa using h
     subst a5;refine ⟨(T.a1.at a2.1 ha).1,(T.b1.at a2.2.1 (by rw [<- T.inp];exact ha)).1,by simp;omega,?_,?_,?_⟩
     ·simp only;rw [zg0,a2.2.2.2.1];show nx a y.1.1 (Int.toNat _)=_;rw [ya6];rfl
     ·simp only;rw [zg0,a2.2.2.2.2.1];show nx b y.1.2 (Int.toNat _)=_;rw [ya6];rfl
     ·refine WOk.append a2.2.2.2.2.2 fun z a4=>?_;have:z=(↑(r%a.Inputs.toNat):Int):=by simpa using a4
      subst this;omega
theorem pB_len (T:Two a b) {p0:Nat×Nat} (h1:p0.1<a.Next.length) (h2:p0.2<b.Next.length) (r:Nat):(pB a b p0 r).length<=a.Next.length*b.Next.length:=by
 have hn:=zqu (e:=pE a b) (K:=a.Inputs.toNat) (s0:=p0) r;have:=zi7 (l:=(((pB a b p0 r).map Prod.fst).map fun p=>p.1*b.Next.length+p.2)) (l':=List.range (a.Next.length*b.Next.length)) ?_ fun x hx=>?_
 ·rwa [zkK,zkK,ycf] at this
 ·refine List.Pairwise.map _ (R:=fun p q=>p∈(pB a b p0 r).map Prod.fst∧q∈(pB a b p0 r).map Prod.fst∧p≠q) (fun p q ⟨hp,hq,a2⟩ he=>?_) (List.Pairwise.imp_of_mem (fun {p q} hp hq a2=>⟨hp,hq,a2⟩) hn);obtain ⟨x,hx,rfl⟩:=yag.1 hp;obtain ⟨y,hy,rfl⟩:=yag.1 hq;have a4:=(zr1 T h1 h2 r x hx).2.1;have a3:=(zr1 T h1 h2 r y hy).2.1;have he:x.1.1*b.Next.length+x.1.2=y.1.1*b.Next.length+y.1.2:=he;have e1:=zrz (i:=x.1.1) a4;have e2:=zrz (i:=y.1.1) a3;have e3:=dm_mod (i:=x.1.1) a4;have e4:=dm_mod (i:=y.1.1) a3;rw [he] at e1 e3;exact a2 (Prod.ext (by rw [<- e1,e2]) (by rw [<- e3,e4]))
 ·obtain ⟨p,hp,rfl⟩:=yag.1 hx;obtain ⟨y,hy,rfl⟩:=yag.1 hp;exact ya0.2 (zqi (zr1 T h1 h2 r y hy).1 (zr1 T h1 h2 r y hy).2.1)
theorem pB_step {p0:Nat×Nat} {i c:Nat} {x:(Nat×Nat)×yab} (hc:c<a.Inputs.toNat) (hx:(pB a b p0 (i*a.Inputs.toNat+c))[i]?=some x) :
  pB a b p0 (i*a.Inputs.toNat+(c+1))=if pE a b x.1 c∈(pB a b p0 (i*a.Inputs.toNat+c)).map Prod.fst then pB a b p0 (i*a.Inputs.toNat+c) else pB a b p0 (i*a.Inputs.toNat+c)++[(pE a b x.1 c,x.2++[(↑c:Int)])]:=by
 have h:=bfs_step (e:=pE a b) (s0:=p0) hc hx;by_cases g:pE a b x.1 c∈(pB a b p0 (i*a.Inputs.toNat+c)).map Prod.fst
 ·rw [if_pos g];exact h.trans (if_pos g)
 ·rw [if_neg g];exact h.trans (if_neg g)
theorem pB_next {p0:Nat×Nat} {i:Nat}:pB a b p0 (i*a.Inputs.toNat+a.Inputs.toNat)=pB a b p0 ((i+1)*a.Inputs.toNat):=by rw [ycv]
theorem pB_get {p0:Nat×Nat} {i r:Nat} {x:(Nat×Nat)×yab} (hx:(pB a b p0 (i*a.Inputs.toNat))[i]?=some x) (hr:i*a.Inputs.toNat<=r):(pB a b p0 r)[i]?=some x:=zmn (znn hr) hx
def Fst (a b:zaa) (p0:Nat×Nat) (res:yab×Bool):Prop :=
 (∃ i c x,c<a.Inputs.toNat∧(pB a b p0 (i*a.Inputs.toNat+c))[i]?=some x∧ot a x.1.1 c≠ot b x.1.2 c∧(∀ r,r<i*a.Inputs.toNat+c->difB a b p0 r=false)∧res=(x.2++[(↑c:Int)],true)) ∨
 (∃ L,PEnd a b p0 L∧(∀ r,r<L.length*a.Inputs.toNat->difB a b p0 r=false)∧res=([],false))
theorem fst_uniq (hK:0<a.Inputs.toNat) {p0:Nat×Nat} {u v:yab×Bool} (hu:Fst a b p0 u) (hv:Fst a b p0 v):u=v:=by
 have a2:∀ {u v:yab×Bool},(∃ i c x,c<a.Inputs.toNat∧(pB a b p0 (i*a.Inputs.toNat+c))[i]?=some x∧ot a x.1.1 c≠ot b x.1.2 c∧(∀ r,r<i*a.Inputs.toNat+c->difB a b p0 r=false)∧u=(x.2++[(↑c:Int)],true))->(∃ L,PEnd a b p0 L∧(∀ r,r<L.length*a.Inputs.toNat->difB a b p0 r=false)∧v=([],false))->False:=by
  rintro u v ⟨i,c,x,h1,h2,h3,h4,_⟩ ⟨L,h6,h7,_⟩;rcases ya7 (i*a.Inputs.toNat+c) (L.length*a.Inputs.toNat) with g | g
  ·have:=h7 _ g;rw [zt5 h1 h2,zkB h3] at this;cases this
  ·have hs:=bfs_stay h6 hK (i*a.Inputs.toNat+c-L.length*a.Inputs.toNat);rw [show L.length*a.Inputs.toNat+(i*a.Inputs.toNat+c-L.length*a.Inputs.toNat)=i*a.Inputs.toNat+c by omega] at hs;have a3:(bfsB (pE a b) a.Inputs.toNat p0 (i*a.Inputs.toNat+c))[i]?=some x:=h2;rw [hs] at a3;have hi:=(zkI.1 a3).1;have:=zqi hi h1;omega
 rcases hu with hu | hu<;>rcases hv with hv | hv
 ·obtain ⟨i,c,x,h1,h2,h3,h4,rfl⟩:=hu;obtain ⟨i',c',x',g1,g2,g3,g4,rfl⟩:=hv
  have hr:i*a.Inputs.toNat+c=i'*a.Inputs.toNat+c':=by
   rcases ydz (i*a.Inputs.toNat+c) (i'*a.Inputs.toNat+c') with q | q | q
   ·have:=g4 _ q;rw [zt5 h1 h2,zkB h3] at this;cases this
   ·exact q
   ·have:=h4 _ q;rw [zt5 g1 g2,zkB g3] at this;cases this
  have e1:i=i':=by rw [<- zrz (i:=i) h1,hr,zrz g1]
  subst e1;have e2:c=c':=by omega
  subst e2;rw [h2] at g2;injection g2 with g2
  rw [g2]
 ·exact (a2 hu hv).elim
 ·exact (a2 hv hu).elim
 ·obtain ⟨_,_,_,rfl⟩:=hu;obtain ⟨_,_,_,rfl⟩:=hv;rfl
end
end
section
section
variable {a b:zaa}
def plC (x:(Nat×Nat)×yab):zb4:=⟨⟨(↑x.1.1:Int),(↑x.1.2:Int)⟩,x.2⟩
theorem map_get {α β:Type} {f:α->β} {l:List α} {i:Nat} {x:α} (h:l[i]?=some x):(l.map f)[i]?=some (f x):=by rw [yam,h];rfl
structure SeenG (n k:Nat) (y:List (List Bool)) (l:yad):Prop where
 len:y.length=n
 at_:∀ s t,s<n->t<k->∃ row,y[s]?=some row∧row.length=k∧row[t]?=some (decide ((s,t)∈l))
theorem pair_mem {l:yad} {p q:Nat×Nat} (h:p≠q):p∈l↔p∈l++[q]:=by
 rw [yap,ybx];exact ⟨Or.inl,fun z=>z.elim id fun e=>absurd e h⟩
theorem SeenG.push {n k s t:Nat} {y:List (List Bool)} {l:yad} {row:List Bool} (S:SeenG n k y l) (hs:s<n) (ht:t<k) (hr:y[s]?=some row):SeenG n k (y.set s (row.set t true)) (l++[(s,t)]):=by
 refine ⟨by simp [S.len],fun u v hu hv=>?_⟩;obtain ⟨a2,h1,h2,h3⟩:=S.at_ u v hu hv;by_cases h:s=u
 ·subst h;rw [hr] at h1;injection h1 with h1
  subst h1;refine ⟨row.set t true,by rw [ybl (by rw [S.len];exact hs)],by simp [h2],?_⟩;by_cases g:t=v
  ·subst g;rw [ybl (by omega)];simp
  ·rw [ybh g,h3];congr 1;apply decide_eq_decide.2;exact pair_mem fun e=>g (congrArg Prod.snd e).symm
 ·refine ⟨a2,by rw [ybh h,h1],h2,?_⟩;rw [h3];congr 1;apply decide_eq_decide.2;exact pair_mem fun e=>h (congrArg Prod.fst e).symm
theorem seenG_nil (n k:Nat):SeenG n k (List.replicate n (List.replicate k false)) []:=⟨by simp,fun s t hs ht=>⟨List.replicate k false,by simp [hs],by simp,by simp [ht]⟩⟩
theorem big_sum {i c n k K:Nat} (hi:i<=n*k) (hn:n<=128) (hk:k<=128) (hK:K<=64) (hc:c<=64):i*K+c<=1048640:=by
 have h1:n*k<=128*128:=yb0 hn hk;have h2:i*K<=(128*128)*64:=yb0 (by omega) hK;omega
theorem search_row (T:Two a b) {p0:Nat×Nat} (h1:p0.1<a.Next.length) (h2:p0.2<b.Next.length) {i:Nat} {x:(Nat×Nat)×yab} {y:List (List Bool)} (hi:i<=a.Next.length*b.Next.length)
  (hx:(pB a b p0 (i*a.Inputs.toNat))[i]?=some x) (S:SeenG a.Next.length b.Next.length y ((pB a b p0 (i*a.Inputs.toNat)).map Prod.fst)) (hd:∀ r,r<i*a.Inputs.toNat->difB a b p0 r=false) :
  ∃ r,iter (fun (s:List (List Bool)×List zb4×Nat)=>zbx.s20 a b i (plC x) s.1 s.2.1 s.2.2) fuel (y,(pB a b p0 (i*a.Inputs.toNat)).map plC,0)=some r ∧
   ((∃ y',r=.inl (y',(pB a b p0 ((i+1)*a.Inputs.toNat)).map plC)∧SeenG a.Next.length b.Next.length y' ((pB a b p0 ((i+1)*a.Inputs.toNat)).map Prod.fst)∧∀ r,r<(i+1)*a.Inputs.toNat->difB a b p0 r=false) ∨
   (∃ res,r=.inr (.inr (.inr res))∧Fst a b p0 res)):=by
 have b2:=T.a1.n2;have b0:=T.b1.n2;have hI:=T.a1.i2;have a9:=zr1 T h1 h2 _ x (zkH hx)
 obtain ⟨r,hr,hq⟩:=zfo (step:=fun (s:List (List Bool)×List zb4×Nat)=>zbx.s20 a b i (plC x) s.1 s.2.1 s.2.2) (fun s=>s.2.2<=a.Inputs.toNat∧s.2.1=(pB a b p0 (i*a.Inputs.toNat+s.2.2)).map plC∧SeenG a.Next.length b.Next.length s.1 ((pB a b p0 (i*a.Inputs.toNat+s.2.2)).map Prod.fst)∧∀ r,r<i*a.Inputs.toNat+s.2.2->difB a b p0 r=false) (fun s=>a.Inputs.toNat-s.2.2) (fun r=>(∃ y',r=.inl (y',(pB a b p0 ((i+1)*a.Inputs.toNat)).map plC)∧SeenG a.Next.length b.Next.length y' ((pB a b p0 ((i+1)*a.Inputs.toNat)).map Prod.fst)∧∀ r,r<(i+1)*a.Inputs.toNat->difB a b p0 r=false)∨(∃ res,r=.inr (.inr (.inr res))∧Fst a b p0 res)) (fun s ⟨q1,q2,q3,q4⟩=>by
  obtain ⟨y,l,c⟩:=s
  simp only at q1 q2 q3 q4
  subst q2
  simp only [zbx.s20]
  by_cases g:c<a.Inputs.toNat
  ·have a4:=pB_get hx (r:=i*a.Inputs.toNat+c) (by omega)
   obtain ⟨g1,_,_,ra,oa,e1,e2,e3,e4⟩:=T.a1.at a9.1 g
   obtain ⟨f1,_,_,rb,ob,d1,d2,d3,d4⟩:=T.b1.at a9.2.1 (a:=c) (by rw [<- T.inp];exact g)
   have b4:=big_sum (c:=c) hi b2 b0 (K:=a.Inputs.toNat) (by omega) (by omega)
   have b5:=pB_len T h1 h2 (i*a.Inputs.toNat+c)
   have b7:a.Next.length*b.Next.length<=128*128:=yb0 b2 b0
   rw [zkB (by omega),zkD,zcq (n:=(plC x).at_.s) (i:=x.1.1) rfl e2,za8 e4,zcq (n:=(plC x).at_.t) (i:=x.1.2) rfl d2,za8 d4]
   by_cases a5:ot a x.1.1 c≠ot b x.1.2 c
   ·right
    rw [zkB a5,zkD,za8 (map_get a4)]
    show ∃ r,((zcs [x.2,[(↑c:Int)]]).bind _:Option _)=_∧_
    rw [zjm _ (by simp) (by simp;omega),zbj]
    refine ⟨_,rfl,Or.inr ⟨_,rfl,Or.inl ⟨i,c,x,g,a4,a5,q4,?_⟩⟩⟩
    simp
   ·left
    have b6:ot a x.1.1 c=ot b x.1.2 c:=yby a5
    have a8:∀ r,r<i*a.Inputs.toNat+(c+1)->difB a b p0 r=false:=fun r hr=>by
     rcases ya7 r (i*a.Inputs.toNat+c) with q | q
     ·exact q4 r q
     ·have:r=i*a.Inputs.toNat+c:=by omega
      rw [this,zt5 g a4,zkA a5]
    have a3:=pB_step g a4
    obtain ⟨row,r1,r2,r3⟩:=q3.at_ _ _ g1 f1
    have b3:x.1∈(pB a b p0 (i*a.Inputs.toNat+c)).map Prod.fst:=yag.2 ⟨x,zkH a4,rfl⟩
    have a7:((cond (!(decide ((↑(nx a x.1.1 c):Int)=(plC x).at_.s)&&(decide ((↑(nx b x.1.2 c):Int)=(plC x).at_.t)&&true))) (idx y (↑(nx a x.1.1 c):Int) fun a2=>idx a2 (↑(nx b x.1.2 c):Int) fun a6=>some (!a6)) (some false):Option Bool))=some (!decide (pE a b x.1 c∈(pB a b p0 (i*a.Inputs.toNat+c)).map Prod.fst)):=by
     by_cases z:pE a b x.1 c=x.1
     ·have z1:nx a x.1.1 c=x.1.1:=congrArg Prod.fst z
      have z2:nx b x.1.2 c=x.1.2:=congrArg Prod.snd z
      rw [zkB (show (↑(nx a x.1.1 c):Int)=(plC x).at_.s by rw [z1];rfl),zkB (show (↑(nx b x.1.2 c):Int)=(plC x).at_.t by rw [z2];rfl),z,zkB b3]
      rfl
     ·have:(!(decide ((↑(nx a x.1.1 c):Int)=(plC x).at_.s)&&(decide ((↑(nx b x.1.2 c):Int)=(plC x).at_.t)&&true)))=true:=by
       by_cases z1:nx a x.1.1 c=x.1.1
       ·have z2:nx b x.1.2 c≠x.1.2:=fun q=>z (Prod.ext z1 q)
        rw [zkA (show ¬ (↑(nx b x.1.2 c):Int)=(plC x).at_.t from fun q=>z2 (Int.ofNat_inj.1 q))]
        simp
       ·rw [zkA (show ¬ (↑(nx a x.1.1 c):Int)=(plC x).at_.s from fun q=>z1 (Int.ofNat_inj.1 q))]
        rfl
      rw [this,zkD,zcq rfl r1,zcq rfl r3]
      rfl
    rw [zkA a5,zkC,zcq (n:=(plC x).at_.s) (i:=x.1.1) rfl e1,za8 e3,zcq (n:=(plC x).at_.t) (i:=x.1.2) rfl d1,za8 d3,a7,zbj]
    by_cases hm:pE a b x.1 c∈(pB a b p0 (i*a.Inputs.toNat+c)).map Prod.fst
    ·rw [if_pos hm] at a3
     refine ⟨(y,(pB a b p0 (i*a.Inputs.toNat+c)).map plC,c+1),by rw [zkB hm,ydo,zkC,zbg (by unfold inR;omega)],⟨g,by simp only;rw [a3],by simp only;rw [a3];exact q3,a8⟩,by simp only;omega⟩
    ·rw [if_neg hm] at a3
     refine ⟨(y.set (nx a x.1.1 c) (row.set (nx b x.1.2 c) true),(pB a b p0 (i*a.Inputs.toNat+c)).map plC++[plC (pE a b x.1 c,x.2++[(↑c:Int)])],c+1),?_,⟨g,by simp only;rw [a3,yay];rfl,by simp only;rw [a3,yay];exact q3.push g1 f1 r1,a8⟩,by simp only;omega⟩
     rw [zkA hm,ydk,zkD,zcq rfl r1,zcq rfl r3,za8 (map_get a4)]
     show (zcs [x.2,[(↑c:Int)]]).bind _=_
     rw [zjm _ (by simp) (by simp;omega),zbj,zbg (by unfold za1;rw [zkK];omega),zbg (by unfold inR;omega),ya6,ya6]
     simp [plC,pE]
  ·right
   have e':c=a.Inputs.toNat:=by omega
   subst e'
   rw [pB_next] at q3 ⊢
   exact ⟨_,by rw [zkA (by omega),zkC],Or.inl ⟨_,rfl,q3,by rw [ycv];exact q4⟩⟩) (y,(pB a b p0 (i*a.Inputs.toNat)).map plC,0) ⟨yak _,rfl,S,hd⟩
 exact ⟨r,hr,hq⟩
theorem zj5 (T:Two a b) {p0:Nat×Nat} (h1:p0.1<a.Next.length) (h2:p0.2<b.Next.length):∃ res,zbx a b (⟨(↑p0.1:Int),(↑p0.2:Int)⟩:zd0)=some res∧Fst a b p0 res:=by
 have a3:=T.a1.n2;have a2:=T.b1.n2;have hI:=T.a1.i2;have a6:a.Next.length*b.Next.length<=128*128:=yb0 a3 a2;unfold zbx
 have grid:=zhd (step:=fun (s:List (List Bool)×Nat)=>zbx.s2 a b s.1 s.2) (r:=List.replicate a.Next.length (List.replicate b.Next.length false)) (fun s=>s.2<=a.Next.length∧s.1=List.replicate s.2 (List.replicate b.Next.length false)++List.replicate (a.Next.length-s.2) []) (fun s=>a.Next.length-s.2) (fun s ⟨q1,q2⟩=>by
  obtain ⟨y,k⟩:=s
  simp only at q1 q2
  subst q2
  simp only [zbx.s2]
  by_cases g:k<a.Next.length
  ·left
   refine ⟨(List.replicate (k+1) (List.replicate b.Next.length false)++List.replicate (a.Next.length-(k+1)) [],k+1),?_,⟨g,rfl⟩,by simp only;omega⟩
   have hk:(List.replicate k (List.replicate b.Next.length false)++List.replicate (a.Next.length-k) [])[k]?=some []:=by
    rw [ybg (by simp),ybj,ycs,ycg,if_pos (by omega)]
   rw [ybj,zkB (by omega),zkD,zbg ⟨by omega,by omega,by unfold za1;omega⟩,za8 hk,zbg (by unfold inR;omega)]
   congr 4
   rw [List.set_append_right _ _ (by simp),ybj,ycs,show a.Next.length-k=(a.Next.length-(k+1))+1 by omega,List.replicate_succ,List.set_cons_zero,List.replicate_succ' (n:=k)]
   simp
  ·right
   have:k=a.Next.length:=by omega
   subst this
   rw [ybj,zkA (by omega),zkC]
   simp) (n:=fuel) (s:=(List.replicate a.Next.length [],0)) ⟨yak _,by simp⟩
 obtain ⟨row,r1,r2,r3⟩:=(seenG_nil a.Next.length b.Next.length).at_ _ _ h1 h2;have hS:=(seenG_nil a.Next.length b.Next.length).push h1 h2 r1;rw [zbg ⟨by omega,by omega,by unfold za1;omega⟩,grid,zbj];simp only;rw [zcq rfl r1,zcq rfl r3,ya6,ya6]
 obtain ⟨r,hr,hq⟩:=zfo (step:=fun (s:List (List Bool)×List zb4×Nat)=>zbx.s22 a b s.1 s.2.1 s.2.2) (fun s=>s.2.2<=(pB a b p0 (s.2.2*a.Inputs.toNat)).length∧s.2.1=(pB a b p0 (s.2.2*a.Inputs.toNat)).map plC∧SeenG a.Next.length b.Next.length s.1 ((pB a b p0 (s.2.2*a.Inputs.toNat)).map Prod.fst)∧∀ r,r<s.2.2*a.Inputs.toNat->difB a b p0 r=false) (fun s=>a.Next.length*b.Next.length+1-s.2.2) (fun r=>(r=.inl ()∧Fst a b p0 ([],false))∨∃ res,r=.inr res∧Fst a b p0 res) (fun s ⟨q1,q2,q3,q4⟩=>by
  obtain ⟨y,l,i⟩:=s
  simp only at q1 q2 q3 q4
  subst q2
  simp only [zbx.s22]
  have a5:=pB_len T h1 h2 (i*a.Inputs.toNat)
  by_cases g:i<(pB a b p0 (i*a.Inputs.toNat)).length
  ·have hx:=get_at g
   generalize (pB a b p0 (i*a.Inputs.toNat))[i]=x at hx
   obtain ⟨r,z1,z2⟩:=search_row T h1 h2 (by omega) hx q3 q4
   rw [zkB (by rw [zkK];omega),zkD,za8 (map_get hx),z1,zbj]
   rcases z2 with ⟨y',rfl,z3,z4⟩ | ⟨res,rfl,z3⟩
   ·left
    have a4:=(znn (e:=pE a b) (K:=a.Inputs.toNat) (s0:=p0) (show i*a.Inputs.toNat<=(i+1)*a.Inputs.toNat by rw [ycv];omega)).length_le
    exact ⟨(y',(pB a b p0 ((i+1)*a.Inputs.toNat)).map plC,i+1),rfl,⟨by simp only;unfold pB at g ⊢;omega,rfl,z3,z4⟩,by simp only;omega⟩
   ·right
    exact ⟨.inr res,rfl,Or.inr ⟨res,rfl,z3⟩⟩
  ·right
   refine ⟨.inl (),by rw [zkA (by rw [zkK];omega),zkC],Or.inl ⟨rfl,Or.inr ⟨pB a b p0 (i*a.Inputs.toNat),⟨?_⟩,?_,rfl⟩⟩⟩
   ·rw [show (pB a b p0 (i*a.Inputs.toNat)).length=i by omega]
    rfl
   ·rw [show (pB a b p0 (i*a.Inputs.toNat)).length=i by omega]
    exact q4) ((List.replicate a.Next.length (List.replicate b.Next.length false)).set p0.1 (row.set p0.2 true),[(⟨(⟨(↑p0.1:Int),(↑p0.2:Int)⟩:zd0),[]⟩:zb4)],0) ⟨yak _,by simp only;rw [ycr];simp [pB,bfsB,plC],by
    simp only
    rw [ycr]
    exact hS,fun r hr=>by simp only at hr;omega⟩
 rw [hr,zbj];rcases hq with ⟨rfl,hq⟩ | ⟨res,rfl,hq⟩
 ·exact ⟨_,rfl,hq⟩
 ·exact ⟨_,rfl,hq⟩
end
end
section
section
variable {a b:zaa}
theorem fst_word (T:Two a b) {p0:Nat×Nat} (h1:p0.1<a.Next.length) (h2:p0.2<b.Next.length) {w:yab} (h:Fst a b p0 (w,true)):WOk a.Inputs w∧w.length<=1048640∧∃ (v:yab) (c:Nat),w=v++[(↑c:Int)]∧c<a.Inputs.toNat∧ot a (dest a p0.1 v) c≠ot b (dest b p0.2 v) c:=by
 rcases h with ⟨i,c,x,g1,g2,g3,g4,g5⟩ | ⟨L,_,_,g⟩
 ·injection g5 with g5 _
  have hr:=zr1 T h1 h2 _ x (zkH g2);have a2:=pB_len T h1 h2 (i*a.Inputs.toNat+c);have hi:=(zkI.1 g2).1;have:=big_sum (c:=c+1) (i:=i) (by omega) T.a1.n2 T.b1.n2 (K:=a.Inputs.toNat) (by have:=T.a1.i2;omega) (by have:=T.a1.i2;omega);refine ⟨?_,?_,x.2,c,g5,g1,by rw [hr.2.2.2.1,hr.2.2.2.2.1];exact g3⟩
  ·rw [g5];refine WOk.append hr.2.2.2.2.2 fun z hz=>?_;have:z=(↑c:Int):=by simpa using hz
   omega
  ·rw [g5];simp;omega
 ·injection g with _ g
  cases g
theorem zqc {m:zaa} {v:yab} {c:Nat} {s:Nat}:outs m s (v++[(↑c:Int)])=outs m s v++[ot m (dest m s v) c]:=by
 rw [zhw];show _++[ot m (dest m s v) (Int.toNat ↑c)]=_;rw [ya6]
theorem fst_ne (T:Two a b) {p0:Nat×Nat} (h1:p0.1<a.Next.length) (h2:p0.2<b.Next.length) {w:yab} (h:Fst a b p0 (w,true)):outs a p0.1 w≠outs b p0.2 w:=by
 obtain ⟨_,_,v,c,rfl,_,h3⟩:=fst_word T h1 h2 h;intro he;rw [zqc,zqc] at he;have:=List.append_inj_right' he rfl;injection this with this _
 exact h3 this
theorem fst_none {p0:Nat×Nat} {w0:yab} (h:Fst a b p0 (w0,false)):∀ w,WOk a.Inputs w->outs a p0.1 w=outs b p0.2 w:=by
 rcases h with ⟨i,c,x,_,_,_,_,g⟩ | ⟨L,g1,g2,_⟩
 ·injection g with _ g
  cases g
 ·have key:∀ (w:yab) (i:Nat) (x:(Nat×Nat)×yab),L[i]?=some x->WOk a.Inputs w->outs a x.1.1 w=outs b x.1.2 w:=by
   intro w
   induction w with
   | nil=>intro _ _ _ _;rfl
   | cons z w ih =>
    intro i x hx hw;have hz:=hw.head;have hc:z.toNat<a.Inputs.toNat:=by omega
    have hi:=(zkI.1 hx).1;obtain ⟨x',e1,e2⟩:=g1.long hi hc;rw [hx] at e1;injection e1 with e1
    subst e1;have hd:=g2 (i*a.Inputs.toNat+z.toNat) (zqi hi hc);rw [zt5 hc e2] at hd
    have a2:ot a x.1.1 z.toNat=ot b x.1.2 z.toNat:=yby fun q=>by
     rw [zkB q] at hd;cases hd
    obtain ⟨j,y,f1,f2,_⟩:=g1.closed hx hc;have:=ih j y f1 hw.tail;rw [f2] at this;show ot a x.1.1 z.toNat::outs a (nx a x.1.1 z.toNat) w=ot b x.1.2 z.toNat::outs b (nx b x.1.2 z.toNat) w;rw [a2];congr 1
  exact fun w hw=>key w 0 _ g1.first hw
end
end
section
structure Can (M:zaa):Prop where
 c4:∀ i a u,i<M.Next.length->a<M.Inputs.toNat->0<u->u<=nx M i a->∃ i' a',a'<M.Inputs.toNat∧i'*M.Inputs.toNat+a'<=i*M.Inputs.toNat+a∧i'<u∧nx M i' a'=u
 c5:∀ u,0<u->u<M.Next.length->∃ i a,i<u∧a<M.Inputs.toNat∧nx M i a=u
def Eqv (a:zaa) (s:Nat) (b:zaa) (t:Nat):Prop:=∀ w,WOk a.Inputs w->outs a s w=outs b t w
structure zwq (m M:zaa):Prop where
 ok:zen M
 inp:M.Inputs=m.Inputs
 start:M.Start=0
 eqv:Eqv M 0 m m.Start.toNat
 min:∀ i j,i<M.Next.length->j<M.Next.length->Eqv M i M j->i=j
 can:Can M
theorem Eqv.symm {a b:zaa} (hi:a.Inputs=b.Inputs) {s t:Nat} (h:Eqv a s b t):Eqv b t a s:=fun w hw=>(h w (by rw [hi];exact hw)).symm
theorem Eqv.trans {a b c:zaa} (hi:a.Inputs=b.Inputs) {s t u:Nat} (h:Eqv a s b t) (g:Eqv b t c u):Eqv a s c u:=fun w hw=>(h w hw).trans (g w (by rw [<- hi];exact hw))
theorem Eqv.dest {a b:zaa} (hi:a.Inputs=b.Inputs) {s t:Nat} (h:Eqv a s b t) {w:yab} (hw:WOk a.Inputs w):Eqv a (dest a s w) b (dest b t w):=fun v hv=>by
 have:=h (w++v) (hw.append hv);rw [zhw,zhw] at this;exact List.append_inj_right this (by rw [zml,zml])
section
variable {M M':zaa}
end
structure Shape {A:Type} [DecidableEq A] (e:A->Nat->A) (o:A->Nat->Int) (L:List (A×yab)) (M:zaa):Prop where
 len:M.Next.length=L.length
 row:∀ i x a,L[i]?=some x->a<M.Inputs.toNat->∃ y,L[nx M i a]?=some y∧y.1=e x.1 a∧ot M i a=o x.1 a
theorem nodup_at {A:Type} {l:List A} (h:l.Nodup) {i j:Nat} {x:A} (hi:l[i]?=some x) (hj:l[j]?=some x):i=j:=by
 have h1:=(zkI.1 hi);have h2:=(zkI.1 hj);obtain ⟨a1,a2⟩:=h1;obtain ⟨b1,b2⟩:=h2;rcases ydz i j with q | q | q
 ·exact absurd (a2.trans b2.symm) (yck.1 h i j a1 b1 q)
 ·exact q
 ·exact absurd (b2.trans a2.symm) (yck.1 h j i b1 a1 q)
theorem shape_can {A:Type} [DecidableEq A] {e:A->Nat->A} {o:A->Nat->Int} {s0:A} {L:List (A×yab)} {M:zaa} (hE:zjj e M.Inputs.toNat s0 L) (S:Shape e o L M) (hK:0<M.Inputs.toNat):Can M:=by
 have at_:∀ i a x y j,L[i]?=some x->a<M.Inputs.toNat->L[j]?=some y->y.1=e x.1 a->nx M i a=j:=fun i a x y j hx ha hj he=>by
  obtain ⟨y',h1,h2,_⟩:=S.row i x a hx ha;exact nodup_at hE.nodup (x:=e x.1 a) (by rw [yam,h1,<- h2];rfl) (by rw [yam,hj,<- he];rfl)
 refine ⟨fun i a u hi ha hu a2=>?_,fun u hu a3=>?_⟩
 ·have hx:=get_at (l:=L) (i:=i) (by rw [<- S.len];exact hi);obtain ⟨j,y,h1,h2,h3⟩:=hE.closed hx ha;rw [at_ i a _ y j hx ha h1 h2] at a2;obtain ⟨i',a',z,w,g1,g2,g3,g4,g5,g6⟩:=h3 u hu a2;exact ⟨i',a',g1,g2,g3,at_ i' a' z w u g4 g1 g5 g6⟩
 ·have hx:=get_at (l:=L) (i:=u) (by rw [<- S.len];exact a3);rcases hE.from hK hx with q | ⟨i,a,y,g1,g2,g3,g4⟩
  ·omega
  ·exact ⟨i,a,g1,g2,at_ i a y _ u g3 g2 hx (by rw [g4])⟩
end
section
section
variable {m:zaa}
theorem libclone_w {w:yab} (h:w.length<=1000000):zco w=some w:=zg6 (by unfold SmW;omega)
structure TrimOk (m t:zaa) (L:List (Nat×yab)):Prop where
 end_:MEnd m m.Start.toNat L
 inp:t.Inputs=m.Inputs
 start:t.Start=0
 ok:zen t
 shape:Shape (nx m) (ot m) L t
theorem zn7 (H:zen m) {s0:Nat} {L:List (Nat×yab)} (hs:s0<m.Next.length) (hE:MEnd m s0 L):L.length<=m.Next.length∧∀ x∈L,x.1<m.Next.length∧dest m s0 x.2=x.1∧WOk m.Inputs x.2:=by
 refine ⟨?_,fun x hx=>?_⟩
 ·rw [hE.eq];exact zw0 H hs _
 ·rw [hE.eq] at hx;have:=zqe H hs _ x hx;exact ⟨this.1,this.2.2⟩
theorem mealy_Trim_eq (hv:zdx m=0):∃ t L,zcf m=some (t,0)∧TrimOk m t L:=by
 have H:=zeg hv;have b4:=H.st;have hn:=H.n2;have hI:=H.i2;have b0:=H.i1;have hs:m.Start.toNat<m.Next.length:=by omega
 obtain ⟨L,hE,hR⟩:=zi1 hv;obtain ⟨b6,a3⟩:=zn7 H hs hE;have b2:=hE.nodup;unfold zcf;rw [zcw,zbj,hv,zkA (by decide),zkC,hR,zbj,zbg ⟨by omega,by omega,by unfold za1;omega⟩]
 -- the numbers
 obtain ⟨num,a5,b8,b3⟩:=zfo (step:=fun (s:yab×Nat)=>zcf.s2 (natI (L.map Prod.fst)) s.1 s.2) (fun s=>s.2<=L.length∧s.1.length=m.Next.length∧∀ (j:Nat) (x:Nat×yab),j<s.2->L[j]?=some x->s.1[x.1]?=some (↑j:Int)) (fun s=>L.length-s.2) (fun r=>r.length=m.Next.length∧∀ (j:Nat) (x:Nat×yab),L[j]?=some x->r[x.1]?=some (↑j:Int)) (fun s ⟨q1,q2,q3⟩=>by
  obtain ⟨y,i⟩:=s
  simp only at q1 q2 q3
  simp only [zcf.s2]
  by_cases g:i<L.length
  ·left
   have hx:=get_at g
   generalize L[i]=x at hx
   have a2:=(a3 x (zkH hx)).1
   have hy:=get_at (l:=y) (i:=x.1) (by omega)
   refine ⟨(y.set x.1 (↑i:Int),i+1),?_,⟨g,by simp [q2],fun j z hj hz=>?_⟩,by simp only;omega⟩
   ·rw [zkB (by rw [zil,zkK];omega),zkD,za8 (natI_at (i:=i) (u:=x.1) (by rw [yam,hx];rfl)),zcq rfl hy,ya6]
   ·simp only
    by_cases e:x.1=z.1
    ·have:i=j:=nodup_at b2 (x:=x.1) (by rw [yam,hx];rfl) (by rw [yam,hz,e];rfl)
     subst this
     rw [<- e,ybl (by omega)]
    ·rw [ybh e]
     rcases ya7 j i with h | h
     ·exact q3 j z h hz
     ·have:j=i:=by simp only at hj;omega
      subst this
      rw [hx] at hz
      injection hz with hz
      rw [hz] at e
      exact absurd rfl e
  ·right
   exact ⟨y,by rw [zkA (by rw [zil,zkK];omega),zkC],q2,fun j x hx=>q3 j x (by have:=(zkI.1 hx).1;omega) hx⟩) (List.replicate m.Next.length 0,0) ⟨yak _,by simp,fun j x h=>absurd h (yb2 _)⟩
 rw [a5,zbj]
 -- one row
 have a7:∀ (x:Nat×yab) (row:yab),x∈L->m.Next[x.1]?=some row->∃ r,iter (fun (s:yab×Nat)=>zcf.s15 num row s.1 s.2) fuel (List.replicate (Int.toNat m.Inputs) 0,0)=some r∧r.length=m.Inputs.toNat∧∀ a,a<m.Inputs.toNat->∃ (j:Nat) (y:Nat×yab),L[j]?=some y∧y.1=nx m x.1 a∧r[a]?=some (↑j:Int):=by
  intro x row hx a4;have a2:=(a3 x hx).1
  have b5:row.length=m.Inputs.toNat:=by
   obtain ⟨x',y',h1,_,h3,_⟩:=H.row x.1 a2;rw [a4] at h1;injection h1 with h1
   subst h1;omega
  obtain ⟨i,hi⟩:=List.mem_iff_getElem?.1 hx
  exact zfo (step:=fun (s:yab×Nat)=>zcf.s15 num row s.1 s.2) (fun s=>s.2<=m.Inputs.toNat∧s.1.length=m.Inputs.toNat∧∀ a,a<s.2->∃ (j:Nat) (y:Nat×yab),L[j]?=some y∧y.1=nx m x.1 a∧s.1[a]?=some (↑j:Int)) (fun s=>m.Inputs.toNat-s.2) (fun r=>r.length=m.Inputs.toNat∧∀ a,a<m.Inputs.toNat->∃ (j:Nat) (y:Nat×yab),L[j]?=some y∧y.1=nx m x.1 a∧r[a]?=some (↑j:Int)) (fun s ⟨q1,q2,q3⟩=>by
   obtain ⟨y,a⟩:=s
   simp only at q1 q2 q3
   simp only [zcf.s15]
   by_cases g:a<m.Inputs.toNat
   ·left
    obtain ⟨h1,_,_,x',y',h2,_,h4,_⟩:=H.at a2 g
    rw [a4] at h2
    injection h2 with h2
    subst h2
    obtain ⟨j,z,z1,z2,_⟩:=hE.closed hi g
    have hy:=get_at (l:=y) (i:=a) (by omega)
    have a6:=b3 j z z1
    rw [z2] at a6
    refine ⟨(y.set a (↑j:Int),a+1),?_,⟨g,by simp [q2],fun b hb=>?_⟩,by simp only;omega⟩
    ·rw [zkB (by omega),zkD,za8 h4,zcq rfl a6,za8 hy]
    ·simp only
     by_cases e:a=b
     ·subst e
      exact ⟨j,z,z1,z2,by rw [ybl (by omega)]⟩
     ·obtain ⟨j',z',w1,w2,w3⟩:=q3 b (by simp only at hb;omega)
      exact ⟨j',z',w1,w2,by rw [ybh e,w3]⟩
   ·right
    have:a=m.Inputs.toNat:=by omega
    subst this
    exact ⟨y,by rw [zkA (by omega),zkC],q2,q3⟩) (List.replicate (Int.toNat m.Inputs) 0,0) ⟨yak _,by simp,fun a h=>absurd h (yb2 _)⟩
 -- all rows
 obtain ⟨r,hr,P,Q,rfl,p1,p2,p3⟩:=zfo (step:=fun (s:yaa×yaa×Nat)=>zcf.s16 m (natI (L.map Prod.fst)) num s.1 s.2.1 s.2.2) (fun s=>s.2.2<=L.length∧s.1.length=s.2.2∧s.2.1.length=s.2.2∧∀ (i:Nat) (x:Nat×yab),i<s.2.2->L[i]?=some x->(∃ r,s.1[i]?=some r∧r.length=m.Inputs.toNat∧∀ a,a<m.Inputs.toNat->∃ (j:Nat) (y:Nat×yab),L[j]?=some y∧y.1=nx m x.1 a∧r[a]?=some (↑j:Int))∧s.2.1[i]?=m.Out[x.1]?) (fun s=>L.length-s.2.2) (fun r=>∃ P Q,r=(P,Q)∧P.length=L.length∧Q.length=L.length∧∀ (i:Nat) (x:Nat×yab),L[i]?=some x->(∃ r,P[i]?=some r∧r.length=m.Inputs.toNat∧∀ a,a<m.Inputs.toNat->∃ (j:Nat) (y:Nat×yab),L[j]?=some y∧y.1=nx m x.1 a∧r[a]?=some (↑j:Int))∧Q[i]?=m.Out[x.1]?) (fun s ⟨q1,q2,q3,q4⟩=>by
  obtain ⟨P,Q,i⟩:=s
  simp only at q1 q2 q3 q4
  simp only [zcf.s16]
  by_cases g:i<L.length
  ·left
   have hx:=get_at g
   generalize L[i]=x at hx
   have a8:=zkH hx
   have a2:=(a3 x a8).1
   obtain ⟨row,out,e1,e2,e3,e4,_⟩:=H.row x.1 a2
   obtain ⟨r,f1,f2,f3⟩:=a7 x row a8 e1
   refine ⟨(P++[r],Q++[out],i+1),?_,⟨g,by simp [q2],by simp [q3],fun j z hj hz=>?_⟩,by simp only;omega⟩
   ·rw [zkB (by rw [zil,zkK];omega),zkD,za8 (natI_at (i:=i) (u:=x.1) (by rw [yam,hx];rfl)),zbg ⟨by omega,by omega,by unfold za1;omega⟩,zcq rfl e1,f1,zbj,zbg (by unfold za1;omega),zcq rfl e2,libclone_w (by omega),zbj,zbg (by unfold za1;omega)]
   ·simp only
    rcases ya7 j i with h | h
    ·obtain ⟨⟨r',w1,w2⟩,w3⟩:=q4 j z h hz
     exact ⟨⟨r',by rw [yba (by omega),w1],w2⟩,by rw [yba (by omega),w3]⟩
    ·have:j=i:=by simp only at hj;omega
     subst this
     rw [hx] at hz
     injection hz with hz
     subst hz
     refine ⟨⟨r,?_,f2,f3⟩,?_⟩
     ·rw [ybg (by omega),q2,ycs]
      rfl
     ·rw [ybg (by omega),q3,ycs,e2]
      rfl
  ·right
   have:i=L.length:=by omega
   subst this
   exact ⟨_,by rw [zkA (by rw [zil,zkK];omega),zkC],P,Q,rfl,q2,q3,fun j x hx=>q4 j x (zkI.1 hx).1 hx⟩) ([],[],0) ⟨yak _,rfl,rfl,fun i x h=>absurd h (yb2 _)⟩
 rw [hr,zbj];have b7:0<L.length:=(zkI.1 hE.first).1
 have a9:∀ i x a,L[i]?=some x->a<m.Inputs.toNat->∃ (j:Nat) (y:Nat×yab),L[j]?=some y∧y.1=nx m x.1 a∧nx (⟨m.Inputs,0,P,Q⟩:zaa) i a=j∧ot (⟨m.Inputs,0,P,Q⟩:zaa) i a=ot m x.1 a:=fun i x a hx ha=>by
  obtain ⟨⟨r,w1,w2,w3⟩,w4⟩:=p3 i x hx;obtain ⟨j,y,z1,z2,z3⟩:=w3 a ha;refine ⟨j,y,z1,z2,?_,?_⟩
  ·unfold nx;simp only;rw [w1,ybe,z3,ybe,ya6]
  ·unfold ot;simp only;rw [w4]
 refine ⟨⟨m.Inputs,0,P,Q⟩,L,rfl,hE,rfl,rfl,⟨b0,hI,by simp only;omega,by simp only;omega,⟨Int.le_refl 0,by simp only;omega⟩,by simp only;omega,fun i hi=>?_⟩,⟨p1,fun i x a hx ha=>?_⟩⟩
 ·simp only at hi ⊢;have hx:=get_at (l:=L) (i:=i) (by omega);obtain ⟨⟨r,w1,w2,w3⟩,w4⟩:=p3 i _ hx;obtain ⟨row,out,e1,e2,e3,e4,e5,e6⟩:=H.row L[i].1 (a3 _ (zkH hx)).1;refine ⟨r,out,w1,by rw [w4,e2],by omega,e4,fun u hu=>?_,e6⟩;obtain ⟨a,ha,rfl⟩:=yci.1 hu;obtain ⟨j,y,z1,z2,z3⟩:=w3 a (by omega);rw [get_at ha] at z3;injection z3 with z3
  have:=(zkI.1 z1).1;omega
 ·obtain ⟨j,y,z1,z2,z3,z4⟩:=a9 i x a hx ha;exact ⟨y,by rw [z3];exact z1,z2,z4⟩
theorem trim_outs {t:zaa} {L:List (Nat×yab)} (T:TrimOk m t L):∀ (w:yab) (i:Nat) (x:Nat×yab),L[i]?=some x->WOk m.Inputs w->outs t i w=outs m x.1 w
 | [],_,_,_,_=>rfl
 | z::w,i,x,hx,hw=>by
  have hz:=hw.head;obtain ⟨y,h1,h2,h3⟩:=T.shape.row i x z.toNat hx (by rw [T.inp];omega);have:=trim_outs T w _ y h1 hw.tail;show ot t i z.toNat::outs t (nx t i z.toNat) w=ot m x.1 z.toNat::outs m (nx m x.1 z.toNat) w;rw [h3,this,h2]
end
end
section
section
variable {κ ν:Type} [BEq κ]
theorem mset_new {k:κ} {v:ν}:∀ {m:List (κ×ν)},mget k m=none->mset k v m=m++[(k,v)]
 | [],_=>rfl
 | p::m,h=>by
  unfold mget at h;unfold mset;cases e:k==p.1 with
  | true=>rw [e] at h;cases h
  | false =>
   rw [e] at h;show p::mset k v m=_;rw [mset_new h];rfl
end
theorem li_beq (a b:yab):(a==b)=true↔a=b:=beq_iff_eq
section
variable {m:zaa} {c:yab}
def sigV (m:zaa) (c:yab) (s a p:Nat):Int:=if p<a then ot m s p else if 64<=p∧p-64<a then (c[nx m s (p-64)]?).getD 0 else 0
def sigA (m:zaa) (c:yab) (s:Nat):yab:=(List.range 128).map (sigV m c s m.Inputs.toNat)
theorem sigA_at (s:Nat) {p:Nat} (hp:p<128):(sigA m c s)[p]?=some (sigV m c s m.Inputs.toNat p):=by
 unfold sigA;rw [yam,yb5 hp];rfl
theorem sigA_len (s:Nat):(sigA m c s).length=128:=by simp [sigA]
theorem sigV_lo {s a K:Nat} (h:a<K):sigV m c s K a=ot m s a:=if_pos h
theorem sigV_hi {s a K:Nat} (h:a<K) (hK:K<=64):sigV m c s K (64+a)=(c[nx m s a]?).getD 0:=by
 unfold sigV;have h1:¬ 64+a<K:=by omega
 have h2:64<=64+a∧64+a-64<K:=by omega
 have h3:64+a-64=a:=by omega
 rw [if_neg h1,if_pos h2,h3]
theorem sigA_eq (hI:m.Inputs<=64) {s t:Nat}:sigA m c s=sigA m c t↔∀ a,a<m.Inputs.toNat->ot m s a=ot m t a∧(c[nx m s a]?).getD 0=(c[nx m t a]?).getD 0:=by
 constructor
 ·intro h a ha;have h1:=sigA_at (m:=m) (c:=c) s (p:=a) (by omega);rw [h,sigA_at t (by omega)] at h1;injection h1 with h1
  rw [sigV_lo ha,sigV_lo ha] at h1;have h2:=sigA_at (m:=m) (c:=c) s (p:=64+a) (by omega);rw [h,sigA_at t (by omega)] at h2;injection h2 with h2
  rw [sigV_hi ha (by omega),sigV_hi ha (by omega)] at h2;exact ⟨h1.symm,h2.symm⟩
 ·intro h;unfold sigA;refine List.map_congr_left fun p _=>?_;unfold sigV;by_cases h1:p<m.Inputs.toNat
  ·rw [if_pos h1,if_pos h1,(h p h1).1]
  ·rw [if_neg h1,if_neg h1];by_cases h2:64<=p∧p-64<m.Inputs.toNat
   ·rw [if_pos h2,if_pos h2,(h _ h2.2).2]
   ·rw [if_neg h2,if_neg h2]
theorem sig_loop (H:zen m) (hc:c.length=m.Next.length) {s:Nat} (hs:s<m.Next.length):iter (fun (q:yab×Nat)=>zbt.s18 m c s q.1 q.2) fuel (List.replicate 128 0,0)=some (sigA m c s):=by
 have hI:=H.i2;refine zhd (fun q=>q.2<=m.Inputs.toNat∧q.1=(List.range 128).map (sigV m c s q.2)) (fun q=>m.Inputs.toNat-q.2) (fun q hq=>?_) ⟨yak _,?_⟩
 ·obtain ⟨y,a⟩:=q;obtain ⟨q1,q2⟩:=hq;simp only at q1 q2;rw [q2];simp only [zbt.s18];by_cases g:a<m.Inputs.toNat
  ·left;obtain ⟨h1,_,_,x,o,e1,e2,e3,e4⟩:=H.at hs g;have a2:=get_at (l:=c) (i:=nx m s a) (by omega)
   have hr:∀ p,p<128->((List.range 128).map (sigV m c s a))[p]?=some (sigV m c s a p):=fun p hp=>by
    rw [yam,yb5 hp];rfl
   refine ⟨((List.range 128).map (sigV m c s (a+1)),a+1),?_,⟨g,rfl⟩,by simp only;omega⟩;rw [zkB (by omega),zkD,za8 e2,za8 e4,zbg (by omega),za8 (hr a (by omega)),zbg (by unfold inR;omega),za8 e1,za8 e3,zcq rfl a2,zbg (by omega),za8 (x:=sigV m c s a (64+a)) (by rw [ybh (by omega),hr _ (by omega)]),zbg (by unfold inR;omega)];congr 4;refine ycl fun p=>?_;rcases ya7 p 128 with hp | hp
   ·rw [yam (f:=sigV m c s (a+1)),yb5 hp,yal];by_cases p1:64+a=p
    ·subst p1;rw [ybl (by simp;omega)];congr 1;unfold sigV;rw [if_neg (by omega),if_pos (by omega),show 64+a-64=a by omega,a2,ybe]
    ·rw [ybh p1];by_cases p2:a=p
     ·subst p2;rw [ybl (by simp;omega)];congr 1;unfold sigV;rw [if_pos (by omega)]
     ·rw [ybh p2,hr p hp];congr 1;unfold sigV;by_cases p3:p<a
      ·rw [if_pos p3,if_pos (by omega)]
      ·have p5:¬ p<a+1:=by omega
       rw [if_neg p3,if_neg p5];by_cases p4:64<=p∧p-64<a
       ·have p6:64<=p∧p-64<a+1:=by omega
        rw [if_pos p4,if_pos p6]
       ·have p6:¬ (64<=p∧p-64<a+1):=by omega
        rw [if_neg p4,if_neg p6]
   ·rw [ybb (by simp;omega),ybb (by simp;omega)]
  ·right;have:a=m.Inputs.toNat:=by omega
   subst this;rw [zkA (by omega),zkC];rfl
 ·simp only;refine ycl fun p=>?_;rcases ya7 p 128 with hp | hp
  ·rw [ycg,if_pos hp,yam,yb5 hp,yal];unfold sigV;rw [if_neg (by omega),if_neg (by omega)]
  ·rw [ybb (by simp;omega),ybb (by simp;omega)]
def FirstOcc (o:yab):Prop:=∀ (s x:Nat),o[s]?=some (↑x:Int)->∀ u:Nat,u<x->∃ s',s'<s∧o[s']?=some (↑u:Int)
structure ClsF (m:zaa) (k:Nat) (c:yab):Prop where
 cls:ClsOk m k c
 first:FirstOcc c
theorem E_of_next (H:zen m):∀ {k s t:Nat},s<m.Next.length->t<m.Next.length->(∀ a,a<m.Inputs.toNat->ot m s a=ot m t a∧E m k (nx m s a) (nx m t a))->E m (k+1) s t
 | 0,_,_,_,_,h=>⟨trivial,h⟩
 | _+1,_,_,hs,ht,h=>⟨E_of_next H hs ht fun a ha=>⟨(h a ha).1,(h a ha).2.1⟩,h⟩
theorem sig_iff (H:zen m) {k:Nat} (C:ClsOk m k c) {s t:Nat} (hs:s<m.Next.length) (ht:t<m.Next.length):sigA m c s=sigA m c t↔E m (k+1) s t:=by
 rw [sigA_eq H.i2]
 have hq:∀ a,a<m.Inputs.toNat->((c[nx m s a]?).getD 0=(c[nx m t a]?).getD 0↔E m k (nx m s a) (nx m t a)):=fun a ha=>by
  have h1:=(H.at hs ha).1;have h2:=(H.at ht ha).1;rw [<- C.cls _ _ h1 h2];obtain ⟨x,x1,_⟩:=C.rng _ h1;obtain ⟨y,y1,_⟩:=C.rng _ h2;rw [x1,y1,ybe,ybe];exact ⟨fun h=>by rw [h],fun h=>by injection h⟩
 constructor
 ·exact fun h=>E_of_next H hs ht fun a ha=>⟨(h a ha).1,(hq a ha).1 (h a ha).2⟩
 ·exact fun h a ha=>⟨(h.2 a ha).1,(hq a ha).2 (h.2 a ha).2⟩
structure Giv (m:zaa) (c:yab) (mp:List (yab×Int)) (o:yab) (s:Nat):Prop where
 len:o.length=m.Next.length
 keys:∀ p∈mp,p.1.length=128
 le:mp.length<=s
 get:∀ s',s'<s->∃ x:Nat,x<mp.length∧o[s']?=some (↑x:Int)∧mget (sigA m c s') mp=some (↑x:Int)
 org:∀ k v,mget k mp=some v->∃ s',s'<s∧sigA m c s'=k
 inj:∀ s' s'',s'<s->s''<s->o[s']?=o[s'']?->sigA m c s'=sigA m c s''
 first:∀ (s' x:Nat),s'<s->o[s']?=some (↑x:Int)->∀ u:Nat,u<x->∃ s'',s''<s'∧o[s'']?=some (↑u:Int)
 all:∀ u:Nat,u<mp.length->∃ s',s'<s∧o[s']?=some (↑u:Int)
open Classical in
theorem zss (H:zen m) {k:Nat} (C:ClsOk m k c):∃ (c':yab) (n:Nat),zbt m c=some (c',(↑n:Int))∧ClsF m (k+1) c'∧n=nreps m (k+1):=by
 have hn:=H.n2;have hc:=C.len;unfold zbt;rw [zbg ⟨by omega,by omega,by unfold za1;omega⟩]
 obtain ⟨r,hr,mp,o,rfl,G,b2⟩:=zfo (step:=fun (s:(List (yab×Int))×yab×Nat)=>zbt.s20 m c s.1 s.2.1 s.2.2) (fun s=>s.2.2<=m.Next.length∧Giv m c s.1 s.2.1 s.2.2∧s.1.length=(List.range s.2.2).countP fun s=>decide (Rep m (k+1) s)) (fun s=>m.Next.length-s.2.2) (fun r=>∃ mp o,r=(mp,o)∧Giv m c mp o m.Next.length∧mp.length=nreps m (k+1)) (fun s ⟨q1,G,q3⟩=>by
  obtain ⟨mp,o,s⟩:=s
  simp only at q1 G q3
  simp only [zbt.s20]
  by_cases g:s<m.Next.length
  ·left
   have a5:=sigA_len (m:=m) (c:=c) s
   have b4:=G.le
   have ho:=get_at (l:=o) (i:=s) (by rw [G.len];exact g)
   rw [zkB (by omega),zkD,sig_loop H hc g,zbj,zbg a5,zbg ⟨a5,G.keys⟩]
   have a9:(mget (sigA m c s) mp=none)↔Rep m (k+1) s:=by
    constructor
    ·intro h t ht hE
     obtain ⟨x,_,_,x3⟩:=G.get t ht
     rw [<- (sig_iff H C g (by omega)).2 hE,h] at x3
     cases x3
    ·intro h
     cases e:mget (sigA m c s) mp with
     | none=>rfl
     | some v =>
      obtain ⟨s',h1,h2⟩:=G.org _ _ e
      exact absurd ((sig_iff H C g (by omega)).1 h2.symm) (h s' h1)
   have a6:(List.range (s+1)).countP (fun s=>decide (Rep m (k+1) s))=(List.range s).countP (fun s=>decide (Rep m (k+1) s))+if Rep m (k+1) s then 1 else 0:=by
    rw [yc4,List.countP_append]
    congr 1
    by_cases h:Rep m (k+1) s
    ·rw [if_pos h,yd6,zkB h]
     rfl
    ·rw [if_neg h,yd6,zkA h]
     rfl
   have a3:∀ {s':Nat} {v:Int},s'<s->(o.set s v)[s']?=o[s']?:=fun h=>ybh (by omega)
   have a4:∀ {v:Int},(o.set s v)[s]?=some v:=ybl (by rw [G.len];exact g)
   cases e:mget (sigA m c s) mp with
   | none =>
    have hR:=a9.1 e
    have a7:mset (sigA m c s) (↑mp.length:Int) mp=mp++[(sigA m c s,(↑mp.length:Int))]:=mset_new e
    refine ⟨(mset (sigA m c s) (↑mp.length:Int) mp,o.set s (↑mp.length:Int),s+1),?_,⟨g,?_,?_⟩,by simp only;omega⟩
    ·rw [ydu,ydk,zkD,zbg a5,zbg ⟨a5,G.keys⟩,zbj]
     simp only [zbt.k19]
     rw [za8 ho]
    ·simp only
     refine ⟨by simp [G.len],?_,by rw [a7];simp;omega,?_,?_,?_,?_,?_⟩
     ·intro p hp
      rw [a7] at hp
      rcases yap.1 hp with h | h
      ·exact G.keys p h
      ·have:p=(sigA m c s,(↑mp.length:Int)):=by simpa using h
       rw [this]
       exact a5
     ·intro s' b3
      by_cases h:s'<s
      ·obtain ⟨x,x1,x2,x3⟩:=G.get s' h
       refine ⟨x,by rw [a7];simp;omega,by rw [a3 h,x2],?_⟩
       rw [zn1 li_beq (fun q=>?_),x3]
       rw [q,e] at x3
       cases x3
      ·have:s'=s:=by omega
       subst this
       exact ⟨mp.length,by rw [a7];simp,a4,zoq li_beq mp⟩
     ·intro kk v hv
      by_cases h:kk=sigA m c s
      ·exact ⟨s,by omega,h.symm⟩
      ·rw [zn1 li_beq h] at hv
       obtain ⟨s',h1,h2⟩:=G.org _ _ hv
       exact ⟨s',by omega,h2⟩
     ·have a8:∀ s',s'<s->o[s']?≠some (↑mp.length:Int):=fun s' h q=>by
       obtain ⟨x,x1,x2,_⟩:=G.get s' h
       rw [x2] at q
       injection q with q
       omega
      intro s' s'' h1 h2 h3
      by_cases a1:s'<s<;>by_cases a2:s''<s
      ·rw [a3 a1,a3 a2] at h3
       exact G.inj _ _ a1 a2 h3
      ·have:s''=s:=by omega
       subst this
       rw [a3 a1,a4] at h3
       exact absurd h3 (a8 s' a1)
      ·have:s'=s:=by omega
       subst this
       rw [a3 a2,a4] at h3
       exact absurd h3.symm (a8 s'' a2)
      ·have:s'=s'':=by omega
       rw [this]
     ·intro s' x h1 h2 u hu
      by_cases a1:s'<s
      ·rw [a3 a1] at h2
       obtain ⟨s'',z1,z2⟩:=G.first s' x a1 h2 u hu
       exact ⟨s'',z1,by rw [a3 (by omega),z2]⟩
      ·have:s'=s:=by omega
       subst this
       rw [a4] at h2
       injection h2 with h2
       obtain ⟨s'',z1,z2⟩:=G.all u (by omega)
       exact ⟨s'',z1,by rw [a3 z1,z2]⟩
     ·intro u hu
      rw [a7] at hu
      simp at hu
      rcases ya7 u mp.length with h | h
      ·obtain ⟨s',z1,z2⟩:=G.all u h
       exact ⟨s',by omega,by rw [a3 z1,z2]⟩
      ·have:u=mp.length:=by omega
       subst this
       exact ⟨s,by omega,a4⟩
    ·simp only
     rw [a6,if_pos hR,a7,<- q3]
     simp
   | some v =>
    have hR:¬ Rep m (k+1) s:=fun q=>by
     rw [a9.2 q] at e
     cases e
    obtain ⟨t,ht,b0⟩:=G.org _ _ e
    obtain ⟨x,x1,x2,x3⟩:=G.get t ht
    have hv:v=(↑x:Int):=by
     rw [b0,e] at x3
     injection x3
    refine ⟨(mp,o.set s v,s+1),?_,⟨g,?_,?_⟩,by simp only;omega⟩
    ·rw [yec,ydo,zkC,ybe,zbj]
     simp only [zbt.k19]
     rw [za8 ho]
    ·simp only
     refine ⟨by simp [G.len],G.keys,by omega,?_,?_,?_,?_,?_⟩
     ·intro s' b3
      by_cases h:s'<s
      ·obtain ⟨x,y1,y2,y3⟩:=G.get s' h
       exact ⟨x,y1,by rw [a3 h,y2],y3⟩
      ·have:s'=s:=by omega
       subst this
       exact ⟨x,x1,by rw [a4,hv],by rw [e,hv]⟩
     ·intro kk v hv
      obtain ⟨s',h1,h2⟩:=G.org _ _ hv
      exact ⟨s',by omega,h2⟩
     ·intro s' s'' h1 h2 h3
      by_cases a1:s'<s<;>by_cases a2:s''<s
      ·rw [a3 a1,a3 a2] at h3
       exact G.inj _ _ a1 a2 h3
      ·have:s''=s:=by omega
       subst this
       rw [a3 a1,a4,hv,<- x2] at h3
       rw [<- b0]
       exact G.inj _ _ a1 ht h3
      ·have:s'=s:=by omega
       subst this
       rw [a3 a2,a4,hv,<- x2] at h3
       rw [<- b0]
       exact G.inj _ _ ht a2 h3
      ·have:s'=s'':=by omega
       rw [this]
     ·intro s' y h1 h2 u hu
      by_cases a1:s'<s
      ·rw [a3 a1] at h2
       obtain ⟨s'',z1,z2⟩:=G.first s' y a1 h2 u hu
       exact ⟨s'',z1,by rw [a3 (by omega),z2]⟩
      ·have:s'=s:=by omega
       subst this
       rw [a4] at h2
       injection h2 with h2
       obtain ⟨s'',z1,z2⟩:=G.first t x ht x2 u (by omega)
       exact ⟨s'',by omega,by rw [a3 (by omega),z2]⟩
     ·intro u hu
      obtain ⟨s',z1,z2⟩:=G.all u hu
      exact ⟨s',by omega,by rw [a3 z1,z2]⟩
    ·simp only
     rw [a6,if_neg hR,<- q3,ybs]
  ·right
   have:s=m.Next.length:=by omega
   subst this
   exact ⟨_,by rw [zkA (by omega),zkC],mp,o,rfl,G,q3⟩) ([],List.replicate c.length 0,0) ⟨yak _,⟨by simp [hc],fun p hp=>(by cases hp),yao _,fun s' h=>absurd h (yb2 _),fun k v h=>(by cases h),fun s' _ h=>absurd h (yb2 _),fun s' _ h=>absurd h (yb2 _),fun u h=>absurd h (yb2 _)⟩,rfl⟩
 refine ⟨o,mp.length,by rw [hr,zbj];rfl,⟨⟨G.len,fun s hs=>?_,fun s t hs ht=>?_⟩,fun s x hx=>G.first s x (by rw [<- G.len];exact (zkI.1 hx).1) hx⟩,b2⟩
 ·obtain ⟨x,x1,x2,_⟩:=G.get s hs;have:=G.le;exact ⟨x,x2,by omega⟩
 ·rw [<- sig_iff H C hs ht];constructor
  ·exact G.inj s t hs ht
  ·intro h;obtain ⟨x,_,x2,x3⟩:=G.get s hs;obtain ⟨y,_,y2,y3⟩:=G.get t ht;rw [h,y3] at x3;rw [x2,y2,x3]
open Classical in
theorem zp8 (H:zen m):∃ c i,zdl m 128=some (c,i)∧ClsF m m.Next.length c:=by
 have hn:=H.n2;have a3:=H.n1;have a2:(min (max (128:Int) 0) (↑m.Next.length:Int))=(↑m.Next.length:Int):=by omega
 unfold zdl;rw [zbg ⟨by omega,by omega,by unfold za1;omega⟩]
 obtain ⟨r,hr,hq⟩:=zfo (step:=fun (s:yab×Int×Nat)=>zdl.s2 m 128 s.1 s.2.1 s.2.2) (fun s=>s.2.2<=m.Next.length∧ClsF m s.2.2 s.1∧s.2.1=(↑(nreps m s.2.2):Int)) (fun s=>m.Next.length-s.2.2) (fun r=>(∃ c,r=.inl c∧ClsF m m.Next.length c)∨∃ c i,r=.inr (c,i)∧ClsF m m.Next.length c) (fun s ⟨q1,q2,q3⟩=>by
  obtain ⟨c,n,i⟩:=s
  simp only at q1 q2 q3
  simp only [zdl.s2]
  rw [a2]
  by_cases g:i<m.Next.length
  ·obtain ⟨c',n',h1,h2,h3⟩:=zss H q2.cls
   rw [zkB (by omega),zkD,h1,zbj]
   by_cases e:n'=nreps m i
   ·right
    rw [zkB (by simp only;omega),zkD]
    refine ⟨_,rfl,Or.inr ⟨c,_,rfl,⟨⟨q2.cls.len,q2.cls.rng,fun s t hs ht=>?_⟩,q2.first⟩⟩⟩
    rw [q2.cls.cls s t hs ht]
    have hS:Stab m i:=stab_of (by omega)
    constructor
    ·intro h
     have key:∀ j,E m (i+j) s t:=by
      intro j
      induction j with
      | zero=>exact h
      | succ j ih=>exact stab_add H hS j s t hs ht ih
     have:=key (m.Next.length-i)
     rwa [show i+(m.Next.length-i)=m.Next.length by omega] at this
    ·exact E_mono (by omega)
   ·left
    exact ⟨(c',(↑n':Int),i+1),by rw [zkA (by simp only;omega),zkC],⟨g,h2,by simp only;rw [h3]⟩,by simp only;omega⟩
  ·right
   have:i=m.Next.length:=by omega
   subst this
   exact ⟨_,by rw [zkA (by omega),zkC],Or.inl ⟨c,rfl,q2⟩⟩) (List.replicate m.Next.length 0,1,0) ⟨yak _,⟨⟨by simp,fun s hs=>⟨0,by simp [hs],a3⟩,fun s t hs ht=>⟨fun _=>trivial,fun _=>by simp [hs,ht]⟩⟩,fun s x hx u hu=>by
    have:=(zkI.1 hx).2
    simp at this
    omega⟩,by
    simp only
    have:nreps m 0=1:=by
     unfold nreps
     have h0:∀ n,0<n->(List.range n).countP (fun s=>decide (Rep m 0 s))=1:=by
      intro n
      induction n with
      | zero=>intro h;omega
      | succ n ih =>
       intro _
       rw [yc4,List.countP_append,yd6]
       by_cases hz:n=0
       ·subst hz
        rw [zkB (show Rep m 0 0 from fun t ht=>absurd ht (yb2 _))]
        rfl
       ·rw [ih (by omega),zkA (show ¬ Rep m 0 n from fun q=>q 0 (by omega) trivial)]
        rfl
     exact h0 _ a3
    rw [this]
    rfl⟩
 rw [hr,zbj];rcases hq with ⟨c,rfl,h⟩ | ⟨c,i,rfl,h⟩
 ·exact ⟨c,_,rfl,h⟩
 ·exact ⟨c,i,rfl,h⟩
theorem zo4 (hv:zdx m=0):∃ c,zgf m=some (c,0)∧ClsF m m.Next.length c:=by
 obtain ⟨c,i,h1,h2⟩:=zp8 (zeg hv);refine ⟨c,?_,h2⟩;unfold zgf zgn;rw [zcw,zbj,hv,zkA (by decide),zkC,h1,zbj,zbj]
end
end
section
section
variable {m t:zaa} {c:yab}
def znk (c:yab) (s u:Nat):Prop:=c[s]?=some (↑u:Int)∧∀ s',s'<s->c[s']?≠some (↑u:Int)
theorem first_lt (F:FirstOcc c) {s u i v:Nat} (hs:znk c s u) (hi:i<s) (hv:c[i]?=some (↑v:Int)):v<u:=by
 rcases ydz v u with h | h | h
 ·exact h
 ·rw [h] at hv;exact absurd hv (hs.2 i hi)
 ·obtain ⟨s',h1,h2⟩:=F i v hv u h;exact absurd h2 (hs.2 s' (by omega))
theorem first_le (F:FirstOcc c) {s u i v:Nat} (hs:znk c s u) (hv:c[i]?=some (↑v:Int)) (hu:u<=v):s<=i:=by
 rcases ya7 i s with h | h
 ·have:=first_lt F hs h hv;omega
 ·exact h
structure Quo (t M:zaa) (c:yab):Prop where
 inp:M.Inputs=t.Inputs
 start:M.Start=0
 len:M.Out.length=M.Next.length
 ub:∀ s,s<t.Next.length->∃ x:Nat,c[s]?=some (↑x:Int)∧x<M.Next.length
 row:∀ u,u<M.Next.length->∃ s r o,s<t.Next.length∧znk c s u∧M.Next[u]?=some r∧M.Out[u]?=some o∧r.length=t.Inputs.toNat∧(∀ a,a<t.Inputs.toNat->r[a]?=c[nx t s a]?)∧t.Out[s]?=some o
 le:M.Next.length<=t.Next.length
variable {M:zaa}
theorem zun (H:zen t) (Q:Quo t M c) {u:Nat} (hu:u<M.Next.length):∃ s,s<t.Next.length∧znk c s u∧∀ a,a<t.Inputs.toNat->c[nx t s a]?=some (↑(nx M u a):Int)∧ot M u a=ot t s a:=by
 obtain ⟨s,r,o,h1,h2,h3,h4,h5,h6,h7⟩:=Q.row u hu;refine ⟨s,h1,h2,fun a ha=>?_⟩;obtain ⟨x,x1,_⟩:=Q.ub _ (H.at h1 ha).1;have hr:=h6 a ha;rw [x1] at hr;refine ⟨?_,?_⟩
 ·rw [x1];unfold nx;rw [h3,ybe,hr,ybe,ya6]
 ·unfold ot;rw [h4,h7]
theorem quo_step (H:zen t) (C:ClsF t t.Next.length c) {s s' a:Nat} (hs:s<t.Next.length) (hs':s'<t.Next.length) (h:c[s]?=c[s']?) (ha:a<t.Inputs.toNat):ot t s a=ot t s' a∧c[nx t s a]?=c[nx t s' a]?:=by
 have h1:=E_all H hs hs' ((C.cls.cls s s' hs hs').1 h) (t.Next.length+1);exact ⟨(h1.2 a ha).1,(C.cls.cls _ _ (H.at hs ha).1 (H.at hs' ha).1).2 (h1.2 a ha).2⟩
theorem zsx (H:zen t) (C:ClsF t t.Next.length c) (Q:Quo t M c):∀ (w:yab) (s u:Nat),s<t.Next.length->c[s]?=some (↑u:Int)->WOk t.Inputs w->outs M u w=outs t s w
 | [],_,_,_,_,_=>rfl
 | z::w,s,u,hs,hu,hw=>by
  have hz:=hw.head;have ha:z.toNat<t.Inputs.toNat:=by omega
  obtain ⟨x,x1,x2⟩:=Q.ub s hs
  have a2:u<M.Next.length:=by
   rw [hu] at x1;injection x1 with x1
   omega
  obtain ⟨s',h1,h2,h3⟩:=zun H Q a2;obtain ⟨e1,e2⟩:=quo_step H C hs h1 (hu.trans h2.1.symm) ha;have h4:=h3 _ ha;have:=zsx H C Q w (nx t s z.toNat) (nx M u z.toNat) (H.at hs ha).1 (by rw [e2,h4.1]) hw.tail;show ot M u z.toNat::outs M (nx M u z.toNat) w=ot t s z.toNat::outs t (nx t s z.toNat) w;rw [this,h4.2,e1]
theorem quo_ok (H:zen t) (Q:Quo t M c):zen M:=by
 have hn:=H.n1;have a4:=H.n2;obtain ⟨x,_,x2⟩:=Q.ub 0 hn;have a3:=Q.le;refine ⟨by rw [Q.inp];exact H.i1,by rw [Q.inp];exact H.i2,by omega,by omega,by rw [Q.start];omega,Q.len,fun u hu=>?_⟩;have a2:=H.i1;obtain ⟨s,r,o,h1,h2,h3,h4,h5,h6,h7⟩:=Q.row u hu;obtain ⟨x',y',e1,e2,e3,e4,e5,e6⟩:=H.row s h1;rw [h7] at e2;injection e2 with e2
 subst e2;refine ⟨r,o,h3,h4,by rw [Q.inp];omega,by rw [Q.inp];exact e4,fun v hv=>?_,e6⟩;obtain ⟨a,ha,rfl⟩:=yci.1 hv;obtain ⟨z,z1,z2⟩:=Q.ub _ (H.at h1 (a:=a) (by omega)).1;have hr:=h6 a (by omega);rw [get_at ha,z1] at hr;injection hr with hr
 omega
theorem quo_can (H:zen t) (C:ClsF t t.Next.length c) (Q:Quo t M c) (K:Can t):Can M:=by
 have a4:∀ s,znk c s 0->s=0:=fun s hs=>by
  obtain ⟨x,x1,_⟩:=Q.ub 0 H.n1;have:=first_le C.first hs x1 (yak _);omega
 have a3:∀ s u,znk c s u->0<u->0<s:=fun s u hs hu=>by
  rcases yb4 s with h | h
  ·subst h;obtain ⟨s',h1,_⟩:=C.first 0 u hs.1 0 hu;omega
  ·exact h
 have a2:∀ {i a s u:Nat},i<s->i<t.Next.length->a<t.Inputs.toNat->znk c s u->nx t i a=s->∃ v:Nat,c[i]?=some (↑v:Int)∧v<u∧nx M v a=u:=fun {i a s u} h1 h2 h3 h4 h5=>by
  obtain ⟨v,v1,v2⟩:=Q.ub i h2;refine ⟨v,v1,first_lt C.first h4 h1 v1,?_⟩;obtain ⟨s',g1,g2,g3⟩:=zun H Q v2;have e:=(quo_step H C h2 g1 (v1.trans g2.1.symm) h3).2;have g4:=(g3 a h3).1;rw [<- e,h5,h4.1] at g4;injection g4 with g4
  omega
 refine ⟨fun i a u hi ha hu a8=>?_,fun u hu a7=>?_⟩
 ·rw [Q.inp] at ha ⊢;obtain ⟨s,h1,h2,h3⟩:=zun H Q hi;have hD:=(h3 a ha).1;have b0:=(H.at h1 ha).1
  have a6:u<M.Next.length:=by
   have:=(quo_ok H Q).at hi (a:=a) (by rw [Q.inp];exact ha);omega
  obtain ⟨su,g1,g2,g3⟩:=zun H Q a6;have a5:=first_le C.first g2 hD a8;obtain ⟨i',a',z1,z2,z3,z4⟩:=K.c4 s a su h1 ha (a3 su u g2 hu) a5;obtain ⟨v,v1,v2,v3⟩:=a2 z3 (by omega) z1 g2 z4;refine ⟨v,a',z1,?_,v2,v3⟩
  have a9:i'<=s:=by
   rcases ya7 s i' with q | q
   ·have:=zqi q ha;omega
   ·exact q
  rcases ya7 i' s with q | q
  ·have:=first_lt C.first h2 q v1;have:=zqi this z1;omega
  ·have e:i'=s:=by omega
   subst e;have hv:=h2.1;rw [v1] at hv;injection hv with hv
   have:v=i:=by omega
   subst this;omega
 ·rw [Q.inp];obtain ⟨su,g1,g2,g3⟩:=zun H Q a7;obtain ⟨i,a,z1,z2,z3⟩:=K.c5 su (a3 su u g2 hu) g1;obtain ⟨v,v1,v2,v3⟩:=a2 z1 (by omega) z2 g2 z3;exact ⟨v,a,v2,z2,v3⟩
theorem quo_min (H:zen t) (C:ClsF t t.Next.length c) (Q:Quo t M c) {i j:Nat} (hi:i<M.Next.length) (hj:j<M.Next.length) (h:Eqv M i M j):i=j:=by
 obtain ⟨s,h1,h2,_⟩:=zun H Q hi;obtain ⟨s',g1,g2,_⟩:=zun H Q hj
 have he:E t t.Next.length s s':=zuy fun w _ hw=>by
  rw [<- zsx H C Q w s i h1 h2.1 hw,<- zsx H C Q w s' j g1 g2.1 hw];exact h w (by rw [Q.inp];exact hw)
 have:=(C.cls.cls s s' h1 g1).2 he;rw [h2.1,g2.1] at this;injection this with this
 omega
theorem quo_sem {L:List (Nat×yab)} (T:TrimOk m t L) (C:ClsF t t.Next.length c) (Q:Quo t M c):zwq m M:=by
 have H:=T.ok;have hK:0<t.Inputs.toNat:=by have:=H.i1;omega
 have hE:zjj (nx m) t.Inputs.toNat m.Start.toNat L:=by rw [T.inp];exact T.end_
 have a2:=shape_can hE T.shape hK
 have h0:c[0]?=some (↑(0:Nat):Int):=by
  obtain ⟨x,x1,_⟩:=Q.ub 0 H.n1;rcases yb4 x with h | h
  ·rw [x1,h]
  ·obtain ⟨s',h1,_⟩:=C.first 0 x x1 0 h;omega
 refine ⟨quo_ok H Q,Q.inp.trans T.inp,Q.start,fun w hw=>?_,fun i j hi hj h=>quo_min H C Q hi hj h,quo_can H C Q a2⟩;have a3:WOk t.Inputs w:=by rw [<- Q.inp];exact hw
 rw [zsx H C Q w 0 0 H.n1 h0 a3,trim_outs T w 0 _ T.end_.first (by rw [<- T.inp];exact a3)]
theorem min_loop (H:zen t) (C:ClsF t t.Next.length c) (e e2:Int):∃ P R,iter (fun (s:yaa×yaa×Nat)=>zbl.s32 (t,e) (c,e2) s.1 s.2.1 s.2.2) fuel ([],[],0)=some (P,R)∧Quo t (⟨t.Inputs,0,P,R⟩:zaa) c:=by
 have hn:=H.n2;have a8:=H.n1;have hI:=H.i2;have a9:=H.i1;have hc:=C.cls.len
 obtain ⟨r,hr,P,R,rfl,hQ⟩:=zfo (step:=fun (s:yaa×yaa×Nat)=>zbl.s32 (t,e) (c,e2) s.1 s.2.1 s.2.2) (fun s=>s.2.2<=t.Next.length∧s.2.1.length=s.1.length∧s.1.length<=s.2.2∧(∀ s',s'<s.2.2->∃ x:Nat,c[s']?=some (↑x:Int)∧x<s.1.length)∧∀ u,u<s.1.length->∃ s' r o,s'<s.2.2∧znk c s' u∧s.1[u]?=some r∧s.2.1[u]?=some o∧r.length=t.Inputs.toNat∧(∀ a,a<t.Inputs.toNat->r[a]?=c[nx t s' a]?)∧t.Out[s']?=some o) (fun s=>t.Next.length-s.2.2) (fun r=>∃ P R,r=(P,R)∧Quo t (⟨t.Inputs,0,P,R⟩:zaa) c) (fun s ⟨q1,q2,q3,q4,q5⟩=>by
  obtain ⟨P,R,s⟩:=s
  simp only at q1 q2 q3 q4 q5
  simp only [zbl.s32]
  by_cases g:s<t.Next.length
  ·left
   obtain ⟨x,x1,x2⟩:=C.cls.rng s g
   rw [zkB (by omega),zkD,za8 x1]
   by_cases hx:x<P.length
   ·refine ⟨(P,R,s+1),?_,⟨g,q2,by simp only;omega,fun s' a2=>?_,fun u hu=>?_⟩,by simp only;omega⟩
    ·rw [zkB (by omega),zkD,zbj]
     rfl
    ·simp only at a2 ⊢
     rcases ya7 s' s with h | h
     ·exact q4 s' h
     ·have:s'=s:=by omega
      subst this
      exact ⟨x,x1,hx⟩
    ·obtain ⟨s',r,o,z1,z2⟩:=q5 u hu
     exact ⟨s',r,o,by simp only;omega,z2⟩
   ·have a6:x=P.length:=by
     rcases ya7 P.length x with h | h
     ·obtain ⟨s',h1,h2⟩:=C.first s x x1 P.length h
      obtain ⟨y,y1,y2⟩:=q4 s' h1
      rw [h2] at y1
      injection y1 with y1
      omega
     ·omega
    subst a6
    obtain ⟨row,out,e1,a4,e3,e4,e5,e6⟩:=H.row s g
    obtain ⟨r,hr,a7,a5⟩:=zfo (step:=fun (q:yab×Nat)=>zbl.s30 (c,e2) row q.1 q.2) (fun q=>q.2<=t.Inputs.toNat∧q.1.length=q.2∧∀ a,a<q.2->q.1[a]?=c[nx t s a]?) (fun q=>t.Inputs.toNat-q.2) (fun r=>r.length=t.Inputs.toNat∧∀ a,a<t.Inputs.toNat->r[a]?=c[nx t s a]?) (fun q ⟨w1,w2,w3⟩=>by
     obtain ⟨y,a⟩:=q
     simp only at w1 w2 w3
     simp only [zbl.s30]
     by_cases f:a<t.Inputs.toNat
     ·left
      obtain ⟨h1,_,_,x',y',h2,_,h4,_⟩:=H.at g f
      rw [e1] at h2
      injection h2 with h2
      subst h2
      have a3:=get_at (l:=c) (i:=nx t s a) (by omega)
      refine ⟨(y++[c[nx t s a]'(by omega)],a+1),?_,⟨f,by simp [w2],fun b hb=>?_⟩,by simp only;omega⟩
      ·rw [zkB (by omega),zkD,za8 h4,zcq rfl a3,zbg (by unfold za1;omega)]
      ·simp only at hb ⊢
       rcases ya7 b a with h | h
       ·rw [yba (by omega),w3 b h]
       ·have:b=a:=by omega
        subst this
        rw [ybg (by omega),w2,ycs,a3]
        rfl
     ·right
      have:a=t.Inputs.toNat:=by omega
      subst this
      exact ⟨y,by rw [zkA (by omega),zkC],w2,w3⟩) ([],0) ⟨yak _,rfl,fun a h=>absurd h (yb2 _)⟩
    refine ⟨(P++[r],R++[out],s+1),?_,⟨g,by simp [q2],by simp;omega,fun s' a2=>?_,fun u hu=>?_⟩,by simp only;omega⟩
    ·rw [zkA (by omega),zkC,za8 e1,hr,zbj,zbg (by unfold za1;omega),za8 a4,zbg (by unfold za1;simp;omega),zbg (by unfold za1;omega),zbj]
     rfl
    ·simp only at a2 ⊢
     rw [zkJ,ybn]
     rcases ya7 s' s with h | h
     ·obtain ⟨y,y1,y2⟩:=q4 s' h
      exact ⟨y,y1,by omega⟩
     ·have:s'=s:=by omega
      subst this
      exact ⟨_,x1,by omega⟩
    ·simp only at hu ⊢
     rw [zkJ,ybn] at hu
     rcases ya7 u P.length with h | h
     ·obtain ⟨s',r',o,z1,z2,z3,z4,z5⟩:=q5 u h
      exact ⟨s',r',o,by omega,z2,by rw [yba h,z3],by rw [yba (by omega),z4],z5⟩
     ·have:u=P.length:=by omega
      subst this
      refine ⟨s,r,out,by omega,⟨x1,fun s' a2 q=>?_⟩,by simp,?_,a7,a5,a4⟩
      ·obtain ⟨y,y1,y2⟩:=q4 s' a2
       rw [q] at y1
       injection y1 with y1
       omega
      ·rw [ybg (by omega),q2,ycs]
       rfl
  ·right
   have:s=t.Next.length:=by omega
   subst this
   exact ⟨_,by rw [zkA (by omega),zkC],P,R,rfl,⟨rfl,rfl,q2,q4,q5,q3⟩⟩) ([],[],0) ⟨yak _,rfl,yao _,fun s' h=>absurd h (yb2 _),fun u h=>absurd h (yb2 _)⟩
 exact ⟨P,R,hr,hQ⟩
theorem zqx (H:zen m):zdx m=0:=by
 have:=zvv H;rw [zcw] at this;injection this
theorem zkd (hv:zdx m=0):∃ M,zbl m=some (M,0)∧zwq m M:=by
 obtain ⟨t,L,h1,T⟩:=mealy_Trim_eq hv;obtain ⟨c,h2,C⟩:=zo4 (zqx T.ok);obtain ⟨P,R,h3,Q⟩:=min_loop T.ok C 0 0;refine ⟨⟨t.Inputs,0,P,R⟩,?_,quo_sem T C Q⟩;unfold zbl;rw [h1,zbj,zkA (fun h=>h rfl),zkC,h2,zbj,zkA (fun h=>h rfl),zkC,h3,zbj];rfl
theorem zso (hv:zdx m≠0):zbl m=some (⟨0,0,[],[]⟩,zdx m):=by
 unfold zbl zcf;rw [zcw,zbj,zkB hv,zkD,zbj,zkB (by exact hv),zkD]
end
end
section
section
variable {m:zaa} {c:yab}
def clN (c:yab) (s:Nat):Nat:=((c[s]?).getD 0).toNat
open Classical in
structure Nums (m:zaa) (c:yab) (ord:List Nat) (num:yab) (B:List (Nat×yab)):Prop where
 ol:ord.length=B.length
 oc:∀ (j u:Nat) (x:Nat×yab),ord[j]?=some u->B[j]?=some x->u<m.Next.length∧clN c u=x.1
 nl:num.length=m.Next.length
 n1:∀ (j:Nat) (x:Nat×yab),B[j]?=some x->num[x.1]?=some (↑j:Int)
 n2:∀ x:Nat,x<m.Next.length->x∉B.map Prod.fst->num[x]?=some (-1:Int)
end
end
section
theorem zug {α:Type} [DecidableEq α] {l l':List α} (h:l.Nodup) (hs:∀ x∈l,x∈l') (hl:l'.length<=l.length):∀ x∈l',x∈l:=fun x hx=>yby fun hn=>by
 have:=zi7 (l:=x::l) (l':=l') (ybm.2 ⟨hn,h⟩) fun y hy=>by
  rcases yau.1 hy with rfl | hy
  ·exact hx
  ·exact hs y hy
 simp only [zkL] at this;omega
section
variable {m M:zaa}
theorem zen.two (H:zen m):Two m m:=⟨H,H,rfl⟩
open Classical in
noncomputable def sepR (m:zaa) (s t:Nat):yab×Bool:=if h:∃ res,Fst m m (s,t) res then Classical.choose h else ([],false)
noncomputable def sepW (m:zaa) (s t:Nat):yab:=(sepR m s t).1
noncomputable def sepB (m:zaa) (s t:Nat):Bool:=(sepR m s t).2
theorem sepR_of {s t:Nat} {res:yab×Bool} (h:Fst m m (s,t) res):Fst m m (s,t) (sepW m s t,sepB m s t):=by
 have h':∃ res,Fst m m (s,t) res:=⟨res,h⟩;have:sepR m s t=Classical.choose h':=dif_pos h';show Fst m m (s,t) (sepR m s t);rw [this];exact yd5 h'
theorem zue (H:zen m) {s t:Nat} (hs:s<m.Next.length) (ht:t<m.Next.length):Fst m m (s,t) (sepW m s t,sepB m s t):=by
 obtain ⟨res,_,h⟩:=zj5 H.two (p0:=(s,t)) hs ht;exact sepR_of h
theorem States_prog (hv:zdx m=0) {s t:Nat} (hs:s<m.Next.length) (ht:t<m.Next.length):zh2 m (↑s:Int) (↑t:Int)=some (sepW m s t,sepB m s t,0):=by
 have H:=zeg hv;have hK:0<m.Inputs.toNat:=by have:=H.i1;omega
 obtain ⟨res,h1,h2⟩:=zj5 H.two (p0:=(s,t)) hs ht;have:=fst_uniq hK h2 (sepR_of h2);unfold zh2;rw [zcw,zbj,hv,zkA (by decide),zkC,zkA (by omega),zkC,zkA (by omega),zkC,zkA (by omega),zkC,zkA (by omega),zbj,zkC,h1,zbj,this]
theorem pB_swap (r:Nat) (s t:Nat):pB m m (t,s) r=(pB m m (s,t) r).map fun x=>((x.1.2,x.1.1),x.2):=by
 induction r with
 | zero=>rfl
 | succ r ih =>
  have e1:∀ p0,pB m m p0 (r+1)=match (pB m m p0 r)[r / m.Inputs.toNat]? with
    | none=>pB m m p0 r
    | some x=>if pE m m x.1 (r%m.Inputs.toNat)∈(pB m m p0 r).map Prod.fst then pB m m p0 r else pB m m p0 r++[(pE m m x.1 (r%m.Inputs.toNat),x.2++[(↑(r%m.Inputs.toNat):Int)])]:=fun p0=>by
   unfold pB;rw [bfsB];cases (bfsB (pE m m) m.Inputs.toNat p0 r)[r / m.Inputs.toNat]? with
   | none=>rfl
   | some x =>
    simp only;by_cases h:pE m m x.1 (r%m.Inputs.toNat)∈(bfsB (pE m m) m.Inputs.toNat p0 r).map Prod.fst
    ·rw [if_pos h,if_pos h]
    ·rw [if_neg h,if_neg h]
  rw [e1,e1,ih,yam];cases (pB m m (s,t) r)[r / m.Inputs.toNat]? with
  | none=>rfl
  | some x =>
   simp only [yal]
   have hm:pE m m (x.1.2,x.1.1) (r%m.Inputs.toNat)∈((pB m m (s,t) r).map fun x=>((x.1.2,x.1.1),x.2)).map Prod.fst↔pE m m x.1 (r%m.Inputs.toNat)∈(pB m m (s,t) r).map Prod.fst:=by
    rw [List.map_map];constructor
    ·intro h;obtain ⟨y,hy,he⟩:=yag.1 h;refine yag.2 ⟨y,hy,?_⟩;have he:((y.1.2,y.1.1):Nat×Nat)=(nx m x.1.2 (r%m.Inputs.toNat),nx m x.1.1 (r%m.Inputs.toNat)):=he;injection he with h1 h2
     exact Prod.ext h2 h1
    ·intro h;obtain ⟨y,hy,he⟩:=yag.1 h;refine yag.2 ⟨y,hy,?_⟩;have h1:=congrArg Prod.fst he;have h2:=congrArg Prod.snd he;exact Prod.ext h2 h1
   by_cases h:pE m m x.1 (r%m.Inputs.toNat)∈(pB m m (s,t) r).map Prod.fst
   ·rw [if_pos (hm.2 h),if_pos h]
   ·rw [if_neg (fun q=>h (hm.1 q)),if_neg h,yay];rfl
theorem dif_swap (r:Nat) (s t:Nat):difB m m (t,s) r=difB m m (s,t) r:=by
 unfold difB;rw [pB_swap,yam];cases (pB m m (s,t) r)[r / m.Inputs.toNat]? with
 | none=>rfl
 | some x =>
  show decide (ot m x.1.2 _≠ot m x.1.1 _)=decide (ot m x.1.1 _≠ot m x.1.2 _);exact decide_eq_decide.2 ⟨fun h q=>h q.symm,fun h q=>h q.symm⟩
theorem fst_swap {s t:Nat} {res:yab×Bool} (h:Fst m m (s,t) res):Fst m m (t,s) res:=by
 rcases h with ⟨i,c,x,h1,h2,h3,h4,h5⟩ | ⟨L,h1,h2,h3⟩
 ·exact Or.inl ⟨i,c,((x.1.2,x.1.1),x.2),h1,by rw [pB_swap,yam,h2];rfl,fun q=>h3 q.symm,fun r hr=>by rw [dif_swap];exact h4 r hr,h5⟩
 ·refine Or.inr ⟨L.map fun x=>((x.1.2,x.1.1),x.2),⟨?_⟩,fun r hr=>by rw [dif_swap];exact h2 r (by rwa [zkK] at hr),h3⟩;rw [zkK];have:=pB_swap (m:=m) (L.length*m.Inputs.toNat) s t;unfold pB at this;rw [this,<- h1.eq]
theorem sepW_symm (H:zen m) {s t:Nat} (hs:s<m.Next.length) (ht:t<m.Next.length):sepW m t s=sepW m s t:=by
 have hK:0<m.Inputs.toNat:=by have:=H.i1;omega
 have:=fst_uniq hK (zue H ht hs) (fst_swap (zue H hs ht));injection this
theorem sepW_sm (H:zen m) {s t:Nat} (hs:s<m.Next.length) (ht:t<m.Next.length):WOk m.Inputs (sepW m s t)∧(sepW m s t).length<=m.Next.length*m.Next.length*m.Inputs.toNat:=by
 have h:=zue H hs ht;rcases h with ⟨i,c,x,g1,g2,g3,g4,g5⟩ | ⟨L,_,_,g⟩
 ·injection g5 with g5 _
  have hr:=zr1 H.two (p0:=(s,t)) hs ht _ x (zkH g2);have a2:=pB_len H.two (p0:=(s,t)) hs ht (i*m.Inputs.toNat+c);have hi:=(zkI.1 g2).1;have:=zqi (show i<m.Next.length*m.Next.length by omega) g1;refine ⟨?_,?_⟩
  ·rw [g5];refine WOk.append hr.2.2.2.2.2 fun z hz=>?_;have:z=(↑c:Int):=by simpa using hz
   omega
  ·rw [g5];simp;omega
 ·injection g with g _
  rw [g];exact ⟨fun a ha=>(by cases ha),yak _⟩
structure zi2 (m:zaa):Prop where
 reach:∀ s,s<m.Next.length->∃ w,WOk m.Inputs w∧dest m m.Start.toNat w=s
 apart:∀ i j,i<m.Next.length->j<m.Next.length->Eqv m i m j->i=j
theorem sepB_of (H:zen m) (P:zi2 m) {s t:Nat} (hs:s<m.Next.length) (ht:t<m.Next.length) (hne:s≠t):sepB m s t=true:=by
 cases e:sepB m s t with
 | true=>rfl
 | false =>
  have h:=zue H hs ht;rw [e] at h;exact absurd (P.apart s t hs ht (fst_none h)) hne
theorem sepW_sep (H:zen m) (P:zi2 m) {s t:Nat} (hs:s<m.Next.length) (ht:t<m.Next.length) (hne:s≠t):outs m s (sepW m s t)≠outs m t (sepW m s t):=by
 have h:=zue H hs ht;rw [sepB_of H P hs ht hne] at h;exact fst_ne H.two (p0:=(s,t)) hs ht h
theorem can_reach (K:Can M) (hK:0<M.Inputs.toNat):∀ u,u<M.Next.length->∃ w,WOk M.Inputs w∧dest M 0 w=u:=by
 intro u
 induction u using Nat.strongRecOn with
 | ind u ih =>
  intro hu;by_cases hz:u=0
  ·subst hz;exact ⟨[],fun a ha=>(by cases ha),rfl⟩
  ·obtain ⟨i,a,h1,h2,h3⟩:=K.c5 u (by omega) hu;obtain ⟨w,w1,w2⟩:=ih i h1 (by omega);refine ⟨w++[(↑a:Int)],w1.append fun z hz=>?_,?_⟩
   ·have:z=(↑a:Int):=by simpa using hz
    omega
   ·rw [zg0,w2];show nx M i (Int.toNat ↑a)=u;rw [ya6,h3]
theorem zu5 (S:zwq m M):zi2 M:=⟨fun s hs=>by
 have hK:0<M.Inputs.toNat:=by have:=S.ok.i1;omega
 rw [S.start]
 exact can_reach S.can hK s hs,S.min⟩
theorem sem_le (H:zen m) (S:zwq m M):M.Next.length<=m.Next.length∧(M.Next.length=m.Next.length↔zi2 m):=by
 have hK:0<M.Inputs.toNat:=by have:=S.ok.i1;omega
 have a8:=H.st;have a4:=can_reach S.can hK
 have hf:∀ u,∃ s,u<M.Next.length->s<m.Next.length∧Eqv M u m s∧∃ w,WOk m.Inputs w∧dest m m.Start.toNat w=s:=fun u=>by
  by_cases hu:u<M.Next.length
  ·obtain ⟨w,w1,w2⟩:=a4 u hu;have hw:WOk m.Inputs w:=by rw [<- S.inp];exact w1
   refine ⟨dest m m.Start.toNat w,fun _=>⟨H.dest hw (by omega),?_,w,hw,rfl⟩⟩;have:=S.eqv.dest S.inp w1
   rwa [w2] at this
  ·exact ⟨0,fun h=>absurd h hu⟩
 obtain ⟨f,hf⟩:=ydx hf
 have a2:((List.range M.Next.length).map f).Nodup:=by
  refine ydy.2 (List.Pairwise.imp_of_mem (fun {a b} ha hb hne he=>hne ?_) (yd2 (n:=M.Next.length)));have h1:=hf a (ya0.1 ha);have h2:=hf b (ya0.1 hb);rw [<- he] at h2;exact S.min a b (ya0.1 ha) (ya0.1 hb) (h1.2.1.trans S.inp (h2.2.1.symm S.inp))
 have a3:∀ x∈(List.range M.Next.length).map f,x∈List.range m.Next.length:=fun x hx=>by
  obtain ⟨u,hu,rfl⟩:=yag.1 hx;exact ya0.2 (hf u (ya0.1 hu)).1
 have a6:=zi7 a2 a3;rw [zkK,ycf,ycf] at a6;refine ⟨a6,fun he=>⟨fun s hs=>?_,fun i j hi hj a7=>?_⟩,fun P=>?_⟩
 ·have:=zug a2 a3 (by simp [he]) s (ya0.2 hs);obtain ⟨u,hu,rfl⟩:=yag.1 this;exact (hf u (ya0.1 hu)).2.2
 ·obtain ⟨u,hu,rfl⟩:=yag.1 (zug a2 a3 (by simp [he]) i (ya0.2 hi));obtain ⟨v,hv,rfl⟩:=yag.1 (zug a2 a3 (by simp [he]) j (ya0.2 hj));have h1:=hf u (ya0.1 hu);have h2:=hf v (ya0.1 hv);have:=S.min u v (ya0.1 hu) (ya0.1 hv) ((h1.2.1.trans S.inp a7).trans S.inp (h2.2.1.symm S.inp));rw [this]
 ·have hg:∀ s,∃ u,s<m.Next.length->u<M.Next.length∧Eqv M u m s:=fun s=>by
   by_cases hs:s<m.Next.length
   ·obtain ⟨w,w1,w2⟩:=P.reach s hs;have hw:WOk M.Inputs w:=by rw [S.inp];exact w1
    refine ⟨dest M 0 w,fun _=>⟨S.ok.dest hw S.ok.n1,?_⟩⟩;have:=S.eqv.dest S.inp hw
    rwa [w2] at this
   ·exact ⟨0,fun h=>absurd h hs⟩
  obtain ⟨g,hg⟩:=ydx hg
  have a5:((List.range m.Next.length).map g).Nodup:=by
   refine ydy.2 (List.Pairwise.imp_of_mem (fun {a b} ha hb hne he=>hne ?_) (yd2 (n:=m.Next.length)));have h1:=hg a (ya0.1 ha);have h2:=hg b (ya0.1 hb);rw [<- he] at h2;exact P.apart a b (ya0.1 ha) (ya0.1 hb) ((h1.2.symm S.inp).trans S.inp.symm h2.2)
  have:=zi7 a5 (l':=List.range M.Next.length) fun x hx=>by
   obtain ⟨u,hu,rfl⟩:=yag.1 hx;exact ya0.2 (hg u (ya0.1 hu)).1
  rw [zkK,ycf,ycf] at this;omega
theorem zpy {L:List (Nat×yab)} {s0:Nat} (hE:MEnd m s0 L):∀ (w:yab) (i:Nat) (x:Nat×yab),L[i]?=some x->WOk m.Inputs w->∃ (j:Nat) (y:Nat×yab),L[j]?=some y∧y.1=dest m x.1 w
 | [],i,x,hx,_=>⟨i,x,hx,rfl⟩
 | z::w,i,x,hx,hw=>by
  have hz:=hw.head;obtain ⟨j,y,h1,h2,_⟩:=hE.closed hx (a:=z.toNat) (by omega);obtain ⟨k,v,g1,g2⟩:=zpy hE w j y h1 hw.tail;exact ⟨k,v,g1,by rw [g2,h2];rfl⟩
theorem minimal_prog (hv:zdx m=0):∃ b,zgc m=some b∧(b=true↔zi2 m):=by
 have H:=zeg hv;have a4:=H.st;obtain ⟨M,h1,S⟩:=zkd hv;obtain ⟨a5,a2⟩:=sem_le H S;obtain ⟨L,hE,hR⟩:=zi1 hv;obtain ⟨a3,a6⟩:=zn7 H (by omega) hE;refine ⟨decide (M.Next.length=m.Next.length),?_,by rw [decide_eq_true_iff];exact a2⟩;unfold zgc;rw [zcw,zbj,hv,zkA (by decide),zkC,hR,zbj,zbj];by_cases hl:L.length=m.Next.length
 ·rw [zkA (by rw [zil,zkK];omega),zkC,h1,zbj,zkB rfl,zkD,zbj];show some (decide ((↑M.Next.length:Int)=(↑m.Next.length:Int)))=_;congr 1;exact decide_eq_decide.2 (by omega)
 ·rw [zkB (by rw [zil,zkK];omega),zkD,zkA];intro he;have P:=a2.1 he
  have:=zi7 (l:=List.range m.Next.length) (l':=L.map Prod.fst) yd2 fun s hs=>by
   obtain ⟨w,w1,w2⟩:=P.reach s (ya0.1 hs);obtain ⟨j,y,g1,g2⟩:=zpy hE w 0 _ hE.first w1;exact yag.2 ⟨y,zkH g1,by rw [g2];exact w2⟩
  rw [ycf,zkK] at this;omega
open Classical in
noncomputable def chkM (m:zaa):Int:=if zdx m≠0 then zdx m else if zi2 m then 0 else 1
open Classical in
theorem check_prog (m:zaa):zgg m=some (chkM m):=by
 unfold chkM zgg;rw [zcw,zbj];by_cases hv:zdx m=0
 ·obtain ⟨b,h1,h3⟩:=minimal_prog hv;rw [zkA (by omega),zkC,h1,zbj,if_neg (fun h=>h hv)];cases b with
  | true=>rw [if_pos (h3.1 rfl)];rfl
  | false=>rw [if_neg (fun q=>by have:=h3.2 q;cases this)];rfl
 ·rw [zkB hv,zkD,if_pos hv]
open Classical in
noncomputable def idL (m:zaa) (u k:Nat):yaa:=((List.range k).filter fun v=>decide (v≠u)).map (sepW m u)
theorem idL_succ {u k:Nat} (h:k≠u):idL m u (k+1)=idL m u k++[sepW m u k]:=by
 unfold idL;rw [yc4,List.filter_append,yay];simp [h]
theorem idL_self (u:Nat):idL m u (u+1)=idL m u u:=by
 unfold idL;rw [yc4,List.filter_append,yay];simp
theorem idL_len (u k:Nat):(idL m u k).length<=k:=by
 unfold idL;rw [zkK];have:=List.length_filter_le (fun v=>decide (v≠u)) (List.range k)
 rwa [ycf] at this
theorem idL_mem {u k:Nat} {w:yab} (h:w∈idL m u k):∃ v,v<k∧v≠u∧w=sepW m u v:=by
 obtain ⟨v,hv,rfl⟩:=yag.1 h;obtain ⟨h1,h2⟩:=List.mem_filter.1 hv;exact ⟨v,ya0.1 h1,of_decide_eq_true h2,rfl⟩
theorem idL_sm (H:zen m) {u k:Nat} (hu:u<m.Next.length) (hk:k<=m.Next.length):SmL (idL m u k):=by
 have hn:=H.n2;have hI:=H.i2;refine ⟨by have:=idL_len (m:=m) u k;omega,fun w hw=>?_⟩;obtain ⟨v,h1,_,rfl⟩:=idL_mem hw;have h:=(sepW_sm H hu (t:=v) (by omega)).2;have h1:m.Next.length*m.Next.length<=128*128:=yb0 hn hn;have h2:m.Next.length*m.Next.length*m.Inputs.toNat<=128*128*64:=yb0 h1 (by omega);unfold SmW;omega
noncomputable def idsM (m:zaa):List (yaa):=(List.range m.Next.length).map fun s=>sortW (idL m s m.Next.length)
def kU (n s t u:Nat):Nat:=if u<s then n else if u=s then t else if u<t then s+1 else s
theorem ids_row (hv:zdx m=0) {s:Nat} (hs:s<m.Next.length) {S:List (yaa)} (hl:S.length=m.Next.length) (hS:∀ u,u<m.Next.length->S[u]?=some (idL m u (kU m.Next.length s (s+1) u))) :
  ∃ S',iter (fun (q:List (yaa)×Nat)=>za0.s13 m s q.1 q.2) fuel (S,s+1)=some (.inl S')∧S'.length=m.Next.length∧∀ u,u<m.Next.length->S'[u]?=some (idL m u (kU m.Next.length s m.Next.length u)):=by
 have H:=zeg hv;have hn:=H.n2
 obtain ⟨r,hr,S',rfl,h1,h2⟩:=zfo (step:=fun (q:List (yaa)×Nat)=>za0.s13 m s q.1 q.2) (fun q=>s<q.2∧q.2<=m.Next.length∧q.1.length=m.Next.length∧∀ u,u<m.Next.length->q.1[u]?=some (idL m u (kU m.Next.length s q.2 u))) (fun q=>m.Next.length-q.2) (fun r=>∃ S',r=.inl S'∧S'.length=m.Next.length∧∀ u,u<m.Next.length->S'[u]?=some (idL m u (kU m.Next.length s m.Next.length u))) (fun q ⟨q1,q2,q3,q4⟩=>by
  obtain ⟨S,t⟩:=q
  simp only at q1 q2 q3 q4
  simp only [za0.s13]
  by_cases g:t<m.Next.length
  ·left
   have e1:=q4 s hs
   have e2:=q4 t g
   have k1:kU m.Next.length s t s=t:=by unfold kU;rw [if_neg (by omega),if_pos rfl]
   have k2:kU m.Next.length s t t=s:=by unfold kU;rw [if_neg (by omega),if_neg (by omega),if_neg (by omega)]
   rw [k1] at e1
   rw [k2] at e2
   have l1:=idL_len (m:=m) s t
   have l2:=idL_len (m:=m) t s
   have e3:(S.set s (idL m s t++[sepW m s t]))[t]?=some (idL m t s):=by rw [ybh (by omega),e2]
   refine ⟨((S.set s (idL m s t++[sepW m s t])).set t (idL m t s++[sepW m s t]),t+1),?_,⟨by simp only;omega,g,by simp [q3],fun u hu=>?_⟩,by simp only;omega⟩
   ·rw [zkB (by omega),zkD,States_prog hv hs g,zbj,zkA (fun h=>h rfl),zkC,za8 e1,zbg (by unfold za1;omega),za8 e1]
    simp only
    rw [za8 e3,zbg (by unfold za1;omega),za8 e3]
   ·simp only
    by_cases a1:t=u
    ·subst a1
     rw [ybl (by simp [q3];omega)]
     have:kU m.Next.length s (t+1) t=s+1:=by unfold kU;rw [if_neg (by omega),if_neg (by omega),if_pos (by omega)]
     rw [this,idL_succ (by omega),sepW_symm H hs g]
    ·rw [ybh a1]
     by_cases a2:s=u
     ·subst a2
      rw [ybl (by omega)]
      have:kU m.Next.length s (t+1) s=t+1:=by unfold kU;rw [if_neg (by omega),if_pos rfl]
      rw [this,idL_succ (by omega)]
     ·rw [ybh a2,q4 u hu]
      have:kU m.Next.length s (t+1) u=kU m.Next.length s t u:=by
       unfold kU
       by_cases b1:u<s
       ·rw [if_pos b1,if_pos b1]
       ·have b4:¬ u=s:=by omega
        rw [if_neg b1,if_neg b1,if_neg b4,if_neg b4]
        by_cases b2:u<t
        ·have b5:u<t+1:=by omega
         rw [if_pos b2,if_pos b5]
        ·have b5:¬ u<t+1:=by omega
         rw [if_neg b2,if_neg b5]
      rw [this]
  ·right
   have:t=m.Next.length:=by omega
   subst this
   exact ⟨_,by rw [zkA (by omega),zkC],S,rfl,q3,q4⟩) (S,s+1) ⟨by simp only;omega,hs,hl,hS⟩
 exact ⟨S',hr,h1,h2⟩
theorem separate_ids (hv:zdx m=0) (P:zi2 m):za0 m=some (idsM m,0):=by
 have H:=zeg hv;have hn:=H.n2;have a3:=H.n1
 have hc:chkM m=0:=by
  unfold chkM;rw [if_neg (fun h=>h hv),if_pos P]
 unfold za0;rw [check_prog m,zbj,hc,zkA (by decide),zkC,zbg ⟨by omega,by omega,by unfold za1;omega⟩]
 obtain ⟨r,hr,S,rfl,h1,h2⟩:=zfo (step:=fun (q:List (yaa)×Nat)=>za0.s14 m q.1 q.2) (fun q=>q.2<=m.Next.length∧q.1.length=m.Next.length∧∀ u,u<m.Next.length->q.1[u]?=some (idL m u (kU m.Next.length q.2 (q.2+1) u))) (fun q=>m.Next.length-q.2) (fun r=>∃ S,r=.inl S∧S.length=m.Next.length∧∀ u,u<m.Next.length->S[u]?=some (idL m u m.Next.length)) (fun q ⟨q1,q3,q4⟩=>by
  obtain ⟨S,s⟩:=q
  simp only at q1 q3 q4
  simp only [za0.s14]
  by_cases g:s<m.Next.length
  ·left
   obtain ⟨S',z1,z2,z3⟩:=ids_row hv g q3 q4
   refine ⟨(S',s+1),by rw [zkB (by omega),zkD,z1,zbj];rfl,⟨g,z2,fun u hu=>?_⟩,by simp only;omega⟩
   simp only
   rw [z3 u hu]
   by_cases b1:u<s
   ·rw [show kU m.Next.length s m.Next.length u=m.Next.length by unfold kU;rw [if_pos b1],show kU m.Next.length (s+1) (s+1+1) u=m.Next.length by unfold kU;rw [if_pos (by omega)]]
   ·by_cases b2:u=s
    ·rw [show kU m.Next.length s m.Next.length u=m.Next.length by unfold kU;rw [if_neg b1,if_pos b2],show kU m.Next.length (s+1) (s+1+1) u=m.Next.length by unfold kU;rw [if_pos (by omega)]]
    ·rw [show kU m.Next.length s m.Next.length u=s+1 by unfold kU;rw [if_neg b1,if_neg b2,if_pos hu]]
     by_cases b3:u=s+1
     ·rw [show kU m.Next.length (s+1) (s+1+1) u=s+1+1 by unfold kU;rw [if_neg (by omega),if_pos b3],b3,idL_self]
     ·rw [show kU m.Next.length (s+1) (s+1+1) u=s+1 by unfold kU;rw [if_neg (by omega),if_neg b3,if_neg (by omega)]]
  ·right
   have:s=m.Next.length:=by omega
   subst this
   refine ⟨_,by rw [zkA (by omega),zkC],S,rfl,q3,fun u hu=>?_⟩
   rw [q4 u hu]
   rw [show kU m.Next.length m.Next.length (m.Next.length+1) u=m.Next.length by unfold kU;rw [if_pos hu]]) (List.replicate m.Next.length [],0) ⟨yak _,by simp,fun u hu=>by
    simp only
    rw [ycg,if_pos hu]
    congr 1
    by_cases b:u=0
    ·subst b
     show []=idL m 0 1
     rw [idL_self]
     rfl
    ·rw [show kU m.Next.length 0 (0+1) u=0 by unfold kU;rw [if_neg (by omega),if_neg b,if_neg (by omega)]]
     rfl⟩
 rw [hr,zbj];show (chk _ _:Option _)=_;rw [zbg ⟨by omega,by omega,by unfold za1;omega⟩]
 have a2:=zhd (step:=fun (q:List (yaa)×Nat)=>za0.s16 S q.1 q.2) (r:=idsM m) (fun q=>q.2<=m.Next.length∧q.1=(List.range q.2).map fun s=>sortW (idL m s m.Next.length)) (fun q=>m.Next.length-q.2) (fun q ⟨q1,q2⟩=>by
   obtain ⟨y,s⟩:=q
   simp only at q1 q2
   subst q2
   simp only [za0.s16]
   by_cases g:s<m.Next.length
   ·left
    refine ⟨((List.range (s+1)).map fun s=>sortW (idL m s m.Next.length),s+1),?_,⟨g,rfl⟩,by simp only;omega⟩
    rw [zkB (by omega),zkD,za8 (h2 s g),zl0 (idL_sm H g (yao _)),zbj,zbg (by unfold za1;simp;omega),yc4,yay]
    rfl
   ·right
    have:s=m.Next.length:=by omega
    subst this
    rw [zkA (by omega),zkC]
    rfl) (n:=fuel) (s:=([],0)) ⟨yak _,rfl⟩
 rw [a2,zbj]
end
end

end Go.Proofs.YtinjiilchafleaaGreatDoor.Sym
