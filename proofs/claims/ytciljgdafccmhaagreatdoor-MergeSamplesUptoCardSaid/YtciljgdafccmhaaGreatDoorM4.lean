/-
  Parts of the proof, behind each other.
-/
import Derived.Test.YtciljgdafccmhaaGreatDoorM3
set_option linter.all false
set_option maxRecDepth 100000
namespace Go.Proofs.YtciljgdafccmhaaGreatDoor.Sym
section
open Go.RowKit
set_option linter.unusedVariables false
set_option maxHeartbeats 4000000
def zed.s2 (a_:List Int) (b_:List Int) (a2:Nat):Option (Nat⊕Nat) :=
 (cond (decide ((↑a2:Int)<(↑a_.length:Int))) (cond (decide ((↑a2:Int)<(↑b_.length:Int))) (idxn a_ a2 fun a6=>idxn b_ a2 fun a7=>some (decide (a6=a7))) (some false)) (some false):Option (Bool)).bind (fun (a8:Bool)=>cond (a8) (chk (inR ((↑a2:Int)+1)) (some (.inl (a2+1)))) (some (.inr a2)))
def zed (a_:List Int) (b_:List Int):Option (Int) :=
 (iter (fun (s:Nat)=>zed.s2 a_ b_ s) fuel 0:Option (Nat)).bind (fun (a2:Nat)=>some (↑a2:Int))
def zic (a_:List Int) (b_:List Int):Option (Bool) :=
 (cond (decide ((↑a_.length:Int)=(↑b_.length:Int))) ((zed a_ b_).bind fun a2=>some (decide (a2=(↑a_.length:Int)))) (some false):Option (Bool)).bind (fun (a6:Bool)=>some a6)
def zcc.s2 (a_:List (List Int)) (b_:List (List Int)) (a2:Nat):Option (Nat⊕(Unit⊕Bool)) :=
 cond (decide ((↑a2:Int)<(↑a_.length:Int))) (idxn a_ a2 fun a6=>idxn b_ a2 fun a7=>(zic a6 a7).bind fun a8=>cond ((!a8)) (some (.inr (.inr false))) (some (.inl (a2+1)))) (some (.inr (.inl ())))
def zcc (a_:List (List Int)) (b_:List (List Int)):Option (Bool) :=
 cond (decide ((↑a_.length:Int)≠(↑b_.length:Int))) (some false) ((iter (fun (s:Nat)=>zcc.s2 a_ b_ s) fuel 0:Option (Unit⊕Bool)).bind (Sum.elim (fun (_:Unit)=>some true) some))
def zc4.s2 (m_:zaa) (a2:Nat):Option (Nat⊕(Unit⊕Bool)) :=
 (cond (decide ((↑a2:Int)<(↑m_.Next.length:Int))) (some (decide ((↑a2:Int)<7))) (some false):Option (Bool)).bind (fun (a6:Bool)=>cond (a6) (idxn m_.Next a2 fun a7=>cond (decide (3<(↑a7.length:Int))) (some (.inr (.inr true))) (chk (inR ((↑a2:Int)+1)) (some (.inl (a2+1))))) (some (.inr (.inl ()))))
def zc4.s4 (m_:zaa) (a2:Nat):Option (Nat⊕(Unit⊕Bool)) :=
 (cond (decide ((↑a2:Int)<(↑m_.Out.length:Int))) (some (decide ((↑a2:Int)<11))) (some false):Option (Bool)).bind (fun (a6:Bool)=>cond (a6) (idxn m_.Out a2 fun a7=>cond (decide (3<(↑a7.length:Int))) (some (.inr (.inr true))) (chk (inR ((↑a2:Int)+1)) (some (.inl (a2+1))))) (some (.inr (.inl ()))))
def zc4 (m_:zaa):Option (Bool) :=
 (iter (fun (s:Nat)=>zc4.s2 m_ s) fuel 0:Option (Unit⊕Bool)).bind (Sum.elim (fun (_:Unit)=>(iter (fun (s:Nat)=>zc4.s4 m_ s) fuel 0:Option (Unit⊕Bool)).bind (Sum.elim (fun (_:Unit)=>(cond (decide (6<(↑m_.Next.length:Int))) (some true) (some (decide (10<(↑m_.Out.length:Int)))):Option (Bool)).bind (fun (a2:Bool)=>some a2)) some)) some)
def zda.s13 (p_:zag) (b2:Nat) (a8:List Int) (a2:Nat):Option (Nat⊕(Unit⊕(Nat⊕(Unit⊕Int)))) :=
 cond (decide ((↑a2:Int)<(↑a8.length:Int))) (idxn a8 a2 fun a6=>idxn p_.Out b2 fun b3=>idxn b3 a2 fun a7=>(cond (decide (a6<(-1:Int))) (some true) (cond (decide ((↑p_.Next.length:Int)≤a6)) (some true) (cond (decide (a7<(-1:Int))) (some true) (some (decide (1048576<a7))))):Option (Bool)).bind (fun (b4:Bool)=>cond (b4) (some (.inr (.inr (.inr (.inr 2))))) (cond ((!((decide (a6=(-1:Int)))==(decide (a7=(-1:Int)))))) (some (.inr (.inr (.inr (.inr 1))))) (some (.inl (a2+1)))))) (some (.inr (.inl ())))
def zda.s14 (p_:zag) (a2:Nat):Option (Nat⊕(Unit⊕Int)) :=
 cond (decide ((↑a2:Int)<(↑p_.Next.length:Int))) ((idxn p_.Next a2 fun a6=>cond (decide ((↑a6.length:Int)≠p_.Inputs)) (some true) (idxn p_.Out a2 fun a7=>some (decide ((↑a7.length:Int)≠p_.Inputs))):Option (Bool)).bind (fun (a8:Bool)=>cond (a8) (some (.inr (.inr 1))) (idxn p_.Next a2 fun b2=>(iter (fun (s:Nat)=>zda.s13 p_ a2 b2 s) fuel 0:Option (Unit⊕(Nat⊕(Unit⊕Int)))).bind (Sum.elim (fun (_:Unit)=>some (.inl (a2+1))) some)))) (some (.inr (.inl ())))
def zda (p_:zag):Option (Int) :=
 (cond (decide (p_.Inputs<1)) (some true) (some (decide (64<p_.Inputs))):Option (Bool)).bind (fun (a2:Bool)=>cond (a2) (some 2) (cond (decide ((↑p_.Next.length:Int)=0)) (some 19) (cond (decide (4096<(↑p_.Next.length:Int))) (some 11) ((cond (decide (p_.Start<0)) (some true) (some (decide ((↑p_.Next.length:Int)≤p_.Start))):Option (Bool)).bind (fun (a6:Bool)=>cond (a6) (some 2) (cond (decide ((↑p_.Out.length:Int)≠(↑p_.Next.length:Int))) (some 1) ((iter (fun (s:Nat)=>zda.s14 p_ s) fuel 0:Option (Unit⊕Int)).bind (Sum.elim (fun (_:Unit)=>some 0) some))))))))
def zg8.s2 (p_:zag) (w_:List Int) (a6:Int) (a7:List Int) (a8:Nat):Option ((Int×List Int×Nat)⊕(List Int⊕(List Int×Bool))) :=
 cond (decide ((↑a8:Int)<(↑w_.length:Int))) (idxn w_ a8 fun a2=>(cond (decide (a2<0)) (some true) (cond (decide (p_.Inputs≤a2)) (some true) (idx p_.Next a6 fun b2=>idx b2 a2 fun b3=>some (decide (b3=(-1:Int))))):Option (Bool)).bind (fun (b4:Bool)=>cond (b4) (some (.inr (.inr ([],false)))) (idx p_.Out a6 fun b5=>idx b5 a2 fun b6=>chk (zaw (List.length a7+1) 8) (idx p_.Next a6 fun b7=>idx b7 a2 fun b8=>some (.inl (b8,(a7++[b6]),(a8+1))))))) (some (.inr (.inl a7)))
def zg8 (p_:zag) (w_:List Int):Option (List Int×Bool) :=
 (zda p_).bind fun a6=>cond (decide (a6≠0)) (some ([],false)) ((iter (fun (s:Int×List Int×Nat)=>zg8.s2 p_ w_ s.1 s.2.1 s.2.2) fuel (p_.Start,[],0):Option (List Int⊕(List Int×Bool))).bind (Sum.elim (fun (a2:List Int)=>some (a2,true)) some))
def zb6.s2 (s_:List Int) (f_:Int→Option Bool) (a2:Nat):Option (Nat⊕(Unit⊕Int)) :=
 cond (decide ((↑a2:Int)<(↑s_.length:Int))) (idxn s_ a2 fun a6=>(f_ a6).bind fun a7=>cond (a7) (some (.inr (.inr (↑a2:Int)))) (some (.inl (a2+1)))) (some (.inr (.inl ())))
def zb6 (s_:List Int) (f_:Int→Option Bool):Option (Int) :=
 (iter (fun (s:Nat)=>zb6.s2 s_ f_ s) fuel 0:Option (Unit⊕Int)).bind (Sum.elim (fun (_:Unit)=>some (-1:Int)) some)
def zd5 (s_:List Int) (f_:Int→Option Bool):Option (Bool) :=
 (zb6 s_ f_).bind fun a2=>some (decide (0≤a2))
def zir (inputs_:Int):Option (Bool) :=
 (cond (decide (1≤inputs_)) (some (decide (inputs_≤1024))) (some false):Option (Bool)).bind (fun (a2:Bool)=>some a2)
def zh5 (a_:Int) (p1_:Int):Option (Bool) :=
 (cond (decide (a_<0)) (some true) (some (decide (p1_≤a_))):Option (Bool)).bind (fun (a2:Bool)=>some a2)
def zbs.s2 (s_:List Int) (f_:Int→Option Bool) (a2:Nat):Option (Nat⊕(Unit⊕Int)) :=
 cond (decide ((↑a2:Int)<(↑s_.length:Int))) (idxn s_ a2 fun a6=>(f_ a6).bind fun a7=>cond (a7) (some (.inr (.inr (↑a2:Int)))) (some (.inl (a2+1)))) (some (.inr (.inl ())))
def zbs (s_:List Int) (f_:Int→Option Bool):Option (Int) :=
 (iter (fun (s:Nat)=>zbs.s2 s_ f_ s) fuel 0:Option (Unit⊕Int)).bind (Sum.elim (fun (_:Unit)=>some (-1:Int)) some)
def zds (s_:List Int) (f_:Int→Option Bool):Option (Bool) :=
 (zbs s_ f_).bind fun a2=>some (decide (0≤a2))
def zll (w_:List Int) (inputs_:Int):Option (Int) :=
 (zir inputs_).bind fun a2=>cond ((!a2)) (some 2) (cond (decide (1024<(↑w_.length:Int))) (some 3) ((zds w_ (fun u0=>zh5 u0 inputs_)).bind fun a6=>cond (a6) (some 1) (some 0)))
def zdi.s2 (a_:List Int) (b_:List Int) (a2:Nat):Option (Nat⊕(Unit⊕Int)) :=
 cond (decide ((↑a2:Int)<(min (↑a_.length:Int) (↑b_.length:Int)))) (idxn a_ a2 fun a6=>idxn b_ a2 fun a7=>cond (decide (a6≠a7)) (some (.inr (.inr (↑a2:Int)))) (some (.inl (a2+1)))) (some (.inr (.inl ())))
def zdi (a_:List Int) (b_:List Int):Option (Int) :=
 (iter (fun (s:Nat)=>zdi.s2 a_ b_ s) fuel 0:Option (Unit⊕Int)).bind (Sum.elim (fun (_:Unit)=>some (min (↑a_.length:Int) (↑b_.length:Int))) some)
def zen (w_:List Int) (p_:List Int):Option (Bool) :=
 (zdi w_ p_).bind fun a2=>some (decide (a2=(↑p_.length:Int)))
def zgz (a_:zao) (b_:zao):Option (Int) :=
 (zdi a_.In b_.In).bind fun a2=>chk ((0:Int)≤(min (min a2 (↑a_.Out.length:Int)) (↑b_.Out.length:Int))∧(min (min a2 (↑a_.Out.length:Int)) (↑b_.Out.length:Int))≤(↑a_.Out.length:Int)) (chk ((0:Int)≤(min (min a2 (↑a_.Out.length:Int)) (↑b_.Out.length:Int))∧(min (min a2 (↑a_.Out.length:Int)) (↑b_.Out.length:Int))≤(↑b_.Out.length:Int)) ((zdi (List.take (Int.toNat (min (min a2 (↑a_.Out.length:Int)) (↑b_.Out.length:Int))) a_.Out) (List.take (Int.toNat (min (min a2 (↑a_.Out.length:Int)) (↑b_.Out.length:Int))) b_.Out)).bind fun a6=>cond (decide (a6<(min (min a2 (↑a_.Out.length:Int)) (↑b_.Out.length:Int)))) (some a6) (some (-1:Int))))
def cmp_isNaN_int (x_:Int):Option (Bool) :=
 some (decide (x_≠x_))
def cmp_Compare_int (x_:Int) (y_:Int):Option (Int) :=
 (cmp_isNaN_int x_).bind fun a6=>(cmp_isNaN_int y_).bind fun a2=>cond (a6) (cond (a2) (some 0) (some (-1:Int))) (cond (a2) (some 1) (cond (decide (x_<y_)) (some (-1:Int)) (cond (decide (y_<x_)) (some 1) (some 0))))
def zbf.s2 (s1_:List Int) (s2_:List Int) (a2:Nat):Option (Nat⊕(Unit⊕Int)) :=
 cond (decide ((↑a2:Int)<(↑s1_.length:Int))) (idxn s1_ a2 fun a7=>cond (decide ((↑s2_.length:Int)≤(↑a2:Int))) (some (.inr (.inr 1))) (idxn s2_ a2 fun a8=>(cmp_Compare_int a7 a8).bind fun a6=>cond (decide (a6≠0)) (some (.inr (.inr a6))) (some (.inl (a2+1))))) (some (.inr (.inl ())))
def zbf (s1_:List Int) (s2_:List Int):Option (Int) :=
 (iter (fun (s:Nat)=>zbf.s2 s1_ s2_ s) fuel 0:Option (Unit⊕Int)).bind (Sum.elim (fun (_:Unit)=>cond (decide ((↑s1_.length:Int)<(↑s2_.length:Int))) (some (-1:Int)) (some 0)) some)
def zhe (a_:List Int) (b_:List Int):Option (Int) :=
 (zbf a_ b_).bind fun a2=>some a2
def zf1 (a_:zao) (b_:zao):Option (Int) :=
 (zhe a_.In b_.In).bind fun a2=>some a2
def zew.s2 (a6:List zao) (a2:Nat):Option (Nat⊕(Unit⊕Bool)) :=
 cond (decide ((↑a2:Int)<(↑a6.length:Int))) ((idxn a6 a2 fun a7=>idx a6 ((↑a2:Int)-1) fun a8=>(zen a7.In a8.In).bind fun b2=>cond (b2) (some true) (idx a6 ((↑a2:Int)-1) fun b3=>idxn a6 a2 fun b4=>(zgz b3 b4).bind fun b5=>some (decide (0≤b5))):Option (Bool)).bind (fun (b6:Bool)=>cond (b6) (some (.inr (.inr false))) (some (.inl (a2+1))))) (some (.inr (.inl ())))
def zew (l_:List zao):Option (Bool) :=
 (zj9 l_).bind fun a2=>(zht a2 (fun u0 u1=>zf1 u0 u1)).bind fun a6=>(iter (fun (s:Nat)=>zew.s2 a6 s) fuel 1:Option (Unit⊕Bool)).bind (Sum.elim (fun (_:Unit)=>some true) some)
def zf3 (o_:Int):Option (Bool) :=
 (cond (decide (o_<0)) (some true) (some (decide (1048576<o_))):Option (Bool)).bind (fun (a2:Bool)=>some a2)
def zil (t_:zao) (inputs_:Int):Option (Int) :=
 (zll t_.In inputs_).bind fun a2=>cond (decide (a2≠0)) (some a2) (cond (decide ((↑t_.Out.length:Int)≠(↑t_.In.length:Int))) (some 1) ((zd5 t_.Out (fun u0=>zf3 u0)).bind fun a6=>cond (a6) (some 2) (some 0)))
def zd0.s2 (vals_:List Int) (a2:Nat):Option (Nat⊕(Unit⊕Int)) :=
 cond (decide ((↑a2:Int)<(↑vals_.length:Int))) (idxn vals_ a2 fun a6=>cond (decide (a6≠0)) (some (.inr (.inr a6))) (some (.inl (a2+1)))) (some (.inr (.inl ())))
def zd0 (vals_:List Int):Option (Int) :=
 (iter (fun (s:Nat)=>zd0.s2 vals_ s) fuel 0:Option (Unit⊕Int)).bind (Sum.elim (fun (_:Unit)=>some 0) some)
def zdo (a_:List Int) (b_:List Int):Option (Int) :=
 (cmp_Compare_int (↑a_.length:Int) (↑b_.length:Int)).bind fun a2=>(zbf a_ b_).bind fun a6=>(zd0 [a2,a6]).bind fun a7=>some a7
def zjy (a_:zao) (b_:zao):Option (Int) :=
 (zdo a_.In b_.In).bind fun a2=>some a2
def zgi (u_:zao) (p1_:zao):Option (Bool) :=
 (zen u_.In p1_.In).bind fun a2=>some a2
def zgj (u_:zao) (p1_:zao):Option (Bool) :=
 (zgz p1_ u_).bind fun a2=>some (decide (0≤a2))
def za4.s2 (s_:List zao) (f_:zao→Option Bool) (a2:Nat):Option (Nat⊕(Unit⊕Int)) :=
 cond (decide ((↑a2:Int)<(↑s_.length:Int))) (idxn s_ a2 fun a6=>(f_ a6).bind fun a7=>cond (a7) (some (.inr (.inr (↑a2:Int)))) (some (.inl (a2+1)))) (some (.inr (.inl ())))
def za4 (s_:List zao) (f_:zao→Option Bool):Option (Int) :=
 (iter (fun (s:Nat)=>za4.s2 s_ f_ s) fuel 0:Option (Unit⊕Int)).bind (Sum.elim (fun (_:Unit)=>some (-1:Int)) some)
def zb4 (s_:List zao) (f_:zao→Option Bool):Option (Bool) :=
 (za4 s_ f_).bind fun a2=>some (decide (0≤a2))
def zct.s2 (o_:zcp) (a2:Nat):Option (Nat⊕(Unit⊕Int)) :=
 cond (decide ((↑a2:Int)<(↑o_.Traces.length:Int))) (idxn o_.Traces a2 fun a6=>(zll a6.In o_.Inputs).bind fun a7=>cond (decide (a7≠0)) (some (.inr (.inr a7))) (cond (decide ((↑a6.In.length:Int)=0)) (some (.inr (.inr 19))) ((zil a6 o_.Inputs).bind fun a8=>cond (decide (a8≠0)) (some (.inr (.inr a8))) ((cond (decide (0<(↑a2:Int))) (idx o_.Traces ((↑a2:Int)-1) fun b2=>(zjy b2 a6).bind fun b3=>some (decide (0≤b3))) (some false):Option (Bool)).bind (fun (b4:Bool)=>cond (b4) (some (.inr (.inr 10))) (some (.inl (a2+1)))))))) (some (.inr (.inl ())))
def zct.s4 (o_:zcp) (a2:Nat):Option (Nat⊕(Unit⊕Int)) :=
 cond (decide ((↑a2:Int)<(↑o_.Traces.length:Int))) (idxn o_.Traces a2 fun a6=>chk ((0:Int)≤((↑a2:Int)+1)∧((↑a2:Int)+1)≤(↑o_.Traces.length:Int)) ((zb4 (List.drop (a2+1) o_.Traces) (fun u0=>zgi u0 a6)).bind fun a7=>cond (a7) (some (.inr (.inr 7))) ((zb4 (List.drop (a2+1) o_.Traces) (fun u0=>zgj u0 a6)).bind fun a8=>cond (a8) (some (.inr (.inr 13))) (some (.inl (a2+1)))))) (some (.inr (.inl ())))
def zct (o_:zcp):Option (Int) :=
 (cond (decide (o_.Inputs<1)) (some true) (some (decide (64<o_.Inputs))):Option (Bool)).bind (fun (a6:Bool)=>cond (a6) (some 2) (cond (decide (10000<(↑o_.Traces.length:Int))) (some 11) ((iter (fun (s:Nat)=>zct.s2 o_ s) fuel 0:Option (Unit⊕Int)).bind (Sum.elim (fun (_:Unit)=>(zew o_.Traces).bind fun a2=>cond (a2) (some 0) ((iter (fun (s:Nat)=>zct.s4 o_ s) fuel 0:Option (Unit⊕Int)).bind (Sum.elim (fun (_:Unit)=>some 0) some))) some))))
def zem.s2 (inputs_:Int) (a6:List Int) (a2:Nat):Option ((List Int×Nat)⊕List Int) :=
 cond (decide ((↑a2:Int)<(↑(List.length (List.replicate (Int.toNat inputs_) (0:Int))):Int))) (idxn a6 a2 fun a7=>chk (inR ((↑a2:Int)+1)) (some (.inl ((List.set a6 a2 (-1:Int)),(a2+1))))) (some (.inr a6))
def zem (inputs_:Int):Option (List Int) :=
 chk ((0:Int)≤inputs_∧inputs_≤inputs_∧zaw (Int.toNat inputs_) 8) ((iter (fun (s:List Int×Nat)=>zem.s2 inputs_ s.1 s.2) fuel ((List.replicate (Int.toNat inputs_) (0:Int)),0):Option (List Int)).bind (fun (a2:List Int)=>some a2))
def zak.s18 (b2:List Int) (a2:List Int) (a6:List Int) (a8:Nat):Option ((List Int×List Int×Nat)⊕(List Int×List Int)) :=
 cond (decide ((↑a8:Int)<(↑b2.length:Int))) (idxn b2 a8 fun a7=>(cond (decide (a7≠(-1:Int))) (idx a2 a7 fun b3=>some (decide (b3=(-1:Int)))) (some false):Option (Bool)).bind (fun (b4:Bool)=>cond (b4) (idx a2 a7 fun b5=>chk (zaw (List.length a6+1) 8) (some (.inl ((List.set a2 a7.toNat (↑a6.length:Int)),(a6++[a7]),(a8+1))))) (some (.inl (a2,a6,(a8+1)))))) (some (.inr (a2,a6)))
def zak.k19 (a2:Nat) (a6:List Int) (a7:List Int):Option ((List Int×List Int×Nat)⊕(List Int×List Int)) :=
 some (.inl (a6,a7,(a2+1)))
def zak.s20 (p_:zag) (a7:List Int) (a2:List Int) (a6:Nat):Option ((List Int×List Int×Nat)⊕(List Int×List Int)) :=
 cond (decide ((↑a6:Int)<(↑a2.length:Int))) (idxn a2 a6 fun a8=>idx p_.Next a8 fun b2=>(iter (fun (s:List Int×List Int×Nat)=>zak.s18 b2 s.1 s.2.1 s.2.2) fuel (a7,a2,0):Option (List Int×List Int)).bind (fun (s:List Int×List Int)=>zak.k19 a6 s.1 s.2)) (some (.inr (a7,a2)))
def zak.s38 (p_:zag) (b7:List Int) (b3:Int) (a8:List Int) (a6:List Int) (a7:List Int) (a2:Nat):Option ((List Int×List Int×Nat)⊕(List Int×List Int)) :=
 cond (decide ((↑a2:Int)<(↑a8.length:Int))) (idxn a8 a2 fun b2=>cond (decide (b2≠(-1:Int))) (idx b7 b2 fun b4=>idx p_.Out b3 fun b5=>idxn b5 a2 fun b6=>idxn a6 a2 fun b8=>idxn a7 a2 fun b9=>some (.inl ((List.set a6 a2 b4),(List.set a7 a2 b6),(a2+1)))) (some (.inl (a6,a7,(a2+1))))) (some (.inr (a6,a7)))
def zak.k39 (a2:List (List Int)) (a6:List (List Int)) (a7:Nat) (a8:List Int) (b2:List Int):Option ((List (List Int)×List (List Int)×Nat)⊕(List (List Int)×List (List Int))) :=
 chk (zaw (List.length a2+1) 24) (chk (zaw (List.length a6+1) 24) (some (.inl ((a2++[a8]),(a6++[b2]),(a7+1)))))
def zak.s40 (p_:zag) (b6:List Int) (b2:List Int) (a6:List (List Int)) (a7:List (List Int)) (a2:Nat):Option ((List (List Int)×List (List Int)×Nat)⊕(List (List Int)×List (List Int))) :=
 cond (decide ((↑a2:Int)<(↑b2.length:Int))) (idxn b2 a2 fun a8=>(zem p_.Inputs).bind fun b3=>(zem p_.Inputs).bind fun b4=>idx p_.Next a8 fun b5=>(iter (fun (s:List Int×List Int×Nat)=>zak.s38 p_ b6 a8 b5 s.1 s.2.1 s.2.2) fuel (b3,b4,0):Option (List Int×List Int)).bind (fun (s:List Int×List Int)=>zak.k39 a6 a7 a2 s.1 s.2)) (some (.inr (a6,a7)))
def zak.k41 (p_:zag) (a7:List Int) (a2:List (List Int)) (a6:List (List Int)):Option (zag×List Int) :=
 some ((⟨p_.Inputs,0,a2,a6⟩:zag),a7)
def zak.k42 (p_:zag) (a2:List Int) (a6:List Int):Option (zag×List Int) :=
 (iter (fun (s:List (List Int)×List (List Int)×Nat)=>zak.s40 p_ a2 a6 s.1 s.2.1 s.2.2) fuel ([],[],0):Option (List (List Int)×List (List Int))).bind (fun (s:List (List Int)×List (List Int))=>zak.k41 p_ a2 s.1 s.2)
def zak (p_:zag):Option (zag×List Int) :=
 (zem (↑p_.Next.length:Int)).bind fun a2=>idx a2 p_.Start fun a6=>(iter (fun (s:List Int×List Int×Nat)=>zak.s20 p_ s.1 s.2.1 s.2.2) fuel ((List.set a2 p_.Start.toNat 0),[p_.Start],0):Option (List Int×List Int)).bind (fun (s:List Int×List Int)=>zak.k42 p_ s.1 s.2)
def zb8.k53 (a6:Int) (a7:Nat) (a8:Int) (a2:List (List Int)) (b2:List (List Int)):Option ((List (List Int)×List (List Int)×Int×Nat)⊕((List (List Int)×List (List Int))⊕((List (List Int)×List (List Int)×Nat)⊕((List (List Int)×List (List Int))⊕(zag×Int))))) :=
 idx a2 a6 fun b3=>idx b3 a8 fun b4=>some (.inl (a2,b2,b4,(a7+1)))
def zb8.s54 (o_:zcp) (b3:zao) (a2:List (List Int)) (a8:List (List Int)) (a6:Int) (b2:Nat):Option ((List (List Int)×List (List Int)×Int×Nat)⊕((List (List Int)×List (List Int))⊕((List (List Int)×List (List Int)×Nat)⊕((List (List Int)×List (List Int))⊕(zag×Int))))) :=
 cond (decide ((↑b2:Int)<(↑b3.In.length:Int))) (idxn b3.In b2 fun a7=>(idx a2 a6 fun b9=>idx b9 a7 fun c0=>cond (decide (c0=(-1:Int))) (cond (decide ((↑a2.length:Int)=4096)) (some (.inr (.inr (.inr (.inr (.inr ((⟨0,0,[],[]⟩:zag),11))))))) (idx a2 a6 fun b4=>idx a8 a6 fun b5=>idxn b3.Out b2 fun b6=>idx b4 a7 fun c6=>idx b5 a7 fun c7=>(zem o_.Inputs).bind fun b7=>chk (zaw (List.length (List.set a2 (Int.toNat a6) (List.set b4 (Int.toNat a7) (↑a2.length:Int)))+List.length [b7]) 24) ((zem o_.Inputs).bind fun b8=>chk (zaw (List.length (List.set a8 (Int.toNat a6) (List.set b5 (Int.toNat a7) b6))+List.length [b8]) 24) (some (.inl (((List.set a2 (Int.toNat a6) (List.set b4 (Int.toNat a7) (↑a2.length:Int)))++[b7]),((List.set a8 (Int.toNat a6) (List.set b5 (Int.toNat a7) b6))++[b8]))))))) (some (.inl (a2,a8))):Option ((List (List Int)×List (List Int))⊕((List (List Int)×List (List Int)×Int×Nat)⊕((List (List Int)×List (List Int))⊕((List (List Int)×List (List Int)×Nat)⊕((List (List Int)×List (List Int))⊕(zag×Int))))))).bind (Sum.elim (fun (s:List (List Int)×List (List Int))=>zb8.k53 a6 b2 a7 s.1 s.2) some)) (some (.inr (.inl (a2,a8))))
def zb8.k55 (a2:Nat) (a6:List (List Int)) (a7:List (List Int)):Option ((List (List Int)×List (List Int)×Nat)⊕((List (List Int)×List (List Int))⊕(zag×Int))) :=
 some (.inl (a6,a7,(a2+1)))
def zb8.s56 (o_:zcp) (a6:List (List Int)) (a7:List (List Int)) (a2:Nat):Option ((List (List Int)×List (List Int)×Nat)⊕((List (List Int)×List (List Int))⊕(zag×Int))) :=
 cond (decide ((↑a2:Int)<(↑o_.Traces.length:Int))) (idxn o_.Traces a2 fun a8=>(iter (fun (s:List (List Int)×List (List Int)×Int×Nat)=>zb8.s54 o_ a8 s.1 s.2.1 s.2.2.1 s.2.2.2) fuel (a6,a7,0,0):Option ((List (List Int)×List (List Int))⊕((List (List Int)×List (List Int)×Nat)⊕((List (List Int)×List (List Int))⊕(zag×Int))))).bind (Sum.elim (fun (s:List (List Int)×List (List Int))=>zb8.k55 a2 s.1 s.2) some)) (some (.inr (.inl (a6,a7))))
def zb8.k57 (o_:zcp) (a6:List (List Int)) (a7:List (List Int)):Option (zag×Int) :=
 (zak (⟨o_.Inputs,0,a6,a7⟩:zag)).bind fun a2=>some (a2.1,0)
def zb8 (o_:zcp):Option (zag×Int) :=
 (zct o_).bind fun a2=>cond (decide (a2≠0)) (some ((⟨0,0,[],[]⟩:zag),a2)) ((zem o_.Inputs).bind fun a6=>(zem o_.Inputs).bind fun a7=>(iter (fun (s:List (List Int)×List (List Int)×Nat)=>zb8.s56 o_ s.1 s.2.1 s.2.2) fuel ([a6],[a7],0):Option ((List (List Int)×List (List Int))⊕(zag×Int))).bind (Sum.elim (fun (s:List (List Int)×List (List Int))=>zb8.k57 o_ s.1 s.2) some))
def zbz.s1 (b_:zbb) (a2:Int):Option (Int⊕(Int×(List (Int×Int)))) :=
 cond ((!((mget a2 b_.up).isSome))) (some (.inr (a2,b_.up))) (some (.inl ((mget a2 b_.up).getD 0)))
def zbz (b_:zbb) (x_:Int):Option (Int×(List (Int×Int))) :=
 iter (fun (s:Int)=>zbz.s1 b_ s) fuel x_
def zfe (b_:zbb) (x_:Int) (y_:Int):Option (List (Int×Int)) :=
 some (mset y_ x_ b_.up)
def zal.s2 (p_:zag) (a6:List (List Int)) (a7:List (List Int)) (a2:Nat):Option ((List (List Int)×List (List Int)×Nat)⊕(List (List Int)×List (List Int))) :=
 cond (decide ((↑a2:Int)<(↑p_.Next.length:Int))) (idxn p_.Next a2 fun a8=>chk (zaw (List.length ([]:List Unit)+List.length a8) 8) (chk (zaw (List.length a6+List.length [([]++a8)]) 24) (idxn p_.Out a2 fun b2=>chk (zaw (List.length ([]:List Unit)+List.length b2) 8) (chk (zaw (List.length a7+List.length [([]++b2)]) 24) (some (.inl ((a6++[([]++a8)]),(a7++[([]++b2)]),(a2+1)))))))) (some (.inr (a6,a7)))
def zal.s43 (a6:Int×(List (Int×Int))) (a7:Int×(List (Int×Int))) (b7:List Int) (a8:List (List Int)) (b2:List (List Int)) (b3:List T_A2) (a2:Nat):Option ((List (List Int)×List (List Int)×List T_A2×Nat)⊕((List (List Int)×List (List Int)×List T_A2)⊕((List (List Int)×List (List Int)×(List (Int×Int))×List T_A2)⊕((List (List Int)×List (List Int)×(List (Int×Int))×List T_A2)⊕((List (List Int)×List (List Int)×(List (Int×Int)))⊕(zag×List Int×Bool)))))) :=
 cond (decide ((↑a2:Int)<(↑b7.length:Int))) (idxn a8 (Int.toNat (max a6.1 a7.1)) fun b8=>idxn b8 a2 fun b4=>cond (decide (b4=(-1:Int))) (chk (inR ((↑a2:Int)+1)) (some (.inl (a8,b2,b3,(a2+1))))) (idx a8 (min a6.1 a7.1) fun b9=>idxn b9 a2 fun c0=>cond (decide (c0=(-1:Int))) (idx a8 (min a6.1 a7.1) fun b5=>idx b2 (min a6.1 a7.1) fun b6=>idx b2 (max a6.1 a7.1) fun c6=>idxn c6 a2 fun c7=>idxn b5 a2 fun d4=>idxn b6 a2 fun d5=>chk (inR ((↑a2:Int)+1)) (some (.inl ((List.set a8 (Int.toNat (min a6.1 a7.1)) (List.set b5 a2 b4)),(List.set b2 (Int.toNat (min a6.1 a7.1)) (List.set b6 a2 c7)),b3,(a2+1))))) (idx b2 (min a6.1 a7.1) fun c8=>idxn c8 a2 fun c9=>idx b2 (max a6.1 a7.1) fun d0=>idxn d0 a2 fun d1=>cond (decide (c9≠d1)) (some (.inr (.inr (.inr (.inr (.inr ((⟨0,0,[],[]⟩:zag),[],false))))))) (idx a8 (min a6.1 a7.1) fun d2=>idxn d2 a2 fun d3=>chk (zaw (List.length b3+1) 16) (chk (inR ((↑a2:Int)+1)) (some (.inl (a8,b2,(b3++[(⟨d3,b4⟩:T_A2)]),(a2+1))))))))) (some (.inr (.inl (a8,b2,b3))))
def zal.k44 (a2:List (Int×Int)) (a6:List (List Int)) (a7:List (List Int)) (a8:List T_A2):Option ((List (List Int)×List (List Int)×(List (Int×Int))×List T_A2)⊕((List (List Int)×List (List Int)×(List (Int×Int))×List T_A2)⊕((List (List Int)×List (List Int)×(List (Int×Int)))⊕(zag×List Int×Bool)))) :=
 some (.inl (a6,a7,a2,a8))
def zal.k45 (a2:List (List Int)) (a6:List (List Int)) (a7:List (Int×Int)) (a8:List T_A2):Option ((List (List Int)×List (List Int)×(List (Int×Int))×List T_A2)⊕((List (List Int)×List (List Int)×(List (Int×Int)))⊕(zag×List Int×Bool))) :=
 some (.inl (a2,a6,a7,a8))
def zal.s46 (a8:List (List Int)) (b2:List (List Int)) (b3:List (Int×Int)) (a6:List T_A2):Option ((List (List Int)×List (List Int)×(List (Int×Int))×List T_A2)⊕((List (List Int)×List (List Int)×(List (Int×Int)))⊕(zag×List Int×Bool))) :=
 cond (decide (0<(↑a6.length:Int))) ((idxn a6 0 fun b4=>(zbz (⟨b3⟩:zbb) b4.f0).bind fun a7=>idxn a6 0 fun b5=>(zbz (⟨a7.2⟩:zbb) b5.f1).bind fun a2=>chk (1≤List.length a6) (cond (decide (a7.1=a2.1)) (some (.inl (a8,b2,a2.2,(List.drop 1 a6)))) ((zfe (⟨a2.2⟩:zbb) (min a7.1 a2.1) (max a7.1 a2.1)).bind fun b6=>idx a8 (max a7.1 a2.1) fun b7=>(iter (fun (s:List (List Int)×List (List Int)×List T_A2×Nat)=>zal.s43 a7 a2 b7 s.1 s.2.1 s.2.2.1 s.2.2.2) fuel (a8,b2,(List.drop 1 a6),0):Option ((List (List Int)×List (List Int)×List T_A2)⊕((List (List Int)×List (List Int)×(List (Int×Int))×List T_A2)⊕((List (List Int)×List (List Int)×(List (Int×Int))×List T_A2)⊕((List (List Int)×List (List Int)×(List (Int×Int)))⊕(zag×List Int×Bool)))))).bind (Sum.elim (fun (s:List (List Int)×List (List Int)×List T_A2)=>zal.k44 b6 s.1 s.2.1 s.2.2) some))):Option ((List (List Int)×List (List Int)×(List (Int×Int))×List T_A2)⊕((List (List Int)×List (List Int)×(List (Int×Int))×List T_A2)⊕((List (List Int)×List (List Int)×(List (Int×Int)))⊕(zag×List Int×Bool))))).bind (Sum.elim (fun (s:List (List Int)×List (List Int)×(List (Int×Int))×List T_A2)=>zal.k45 s.1 s.2.1 s.2.2.1 s.2.2.2) some)) (some (.inr (.inl (a8,b2,b3))))
def zal.s64 (a7:Nat) (b5:List Int) (a6:List (List Int)) (a8:List (Int×Int)) (a2:Nat):Option ((List (List Int)×(List (Int×Int))×Nat)⊕(List (List Int)×(List (Int×Int)))) :=
 cond (decide ((↑a2:Int)<(↑b5.length:Int))) (idxn a6 a7 fun b6=>idxn b6 a2 fun b2=>cond (decide (b2≠(-1:Int))) (idxn a6 a7 fun b3=>(zbz (⟨a8⟩:zbb) b2).bind fun b4=>idxn b3 a2 fun b7=>chk (inR ((↑a2:Int)+1)) (some (.inl ((List.set a6 a7 (List.set b3 a2 b4.1)),b4.2,(a2+1))))) (chk (inR ((↑a2:Int)+1)) (some (.inl (a6,a8,(a2+1)))))) (some (.inr (a6,a8)))
def zal.k65 (a2:Nat) (a6:List (List Int)) (a7:List (Int×Int)):Option ((List (List Int)×(List (Int×Int))×Nat)⊕(List (List Int)×(List (Int×Int)))) :=
 some (.inl (a6,a7,(a2+1)))
def zal.s66 (a8:List (List Int)) (a6:List (List Int)) (a7:List (Int×Int)) (a2:Nat):Option ((List (List Int)×(List (Int×Int))×Nat)⊕(List (List Int)×(List (Int×Int)))) :=
 cond (decide ((↑a2:Int)<(↑a8.length:Int))) (idxn a6 a2 fun b2=>(iter (fun (s:List (List Int)×(List (Int×Int))×Nat)=>zal.s64 a2 b2 s.1 s.2.1 s.2.2) fuel (a6,a7,0):Option (List (List Int)×(List (Int×Int)))).bind (fun (s:List (List Int)×(List (Int×Int)))=>zal.k65 a2 s.1 s.2)) (some (.inr (a6,a7)))
def zal.s68 (a7:zag×List Int) (b2:List (Int×Int)) (a6:List Int) (a2:Nat):Option (((List (Int×Int))×List Int×Nat)⊕List Int) :=
 cond (decide ((↑a2:Int)<(↑(List.length (List.replicate a7.2.length (0:Int))):Int))) ((zbz (⟨b2⟩:zbb) (↑a2:Int)).bind fun a8=>idx a7.2 a8.1 fun b3=>idxn a6 a2 fun b4=>chk (inR ((↑a2:Int)+1)) (some (.inl (a8.2,(List.set a6 a2 b3),(a2+1))))) (some (.inr a6))
def zal.k69 (p_:zag) (a7:List (List Int)) (a8:List (List Int)) (b2:List (Int×Int)):Option (zag×List Int×Bool) :=
 (zbz (⟨b2⟩:zbb) p_.Start).bind fun a6=>(zak (⟨p_.Inputs,a6.1,a8,a7⟩:zag)).bind fun a2=>chk ((0:Int)≤(↑a2.2.length:Int)∧(↑a2.2.length:Int)≤(↑a2.2.length:Int)∧zaw (Int.toNat (↑a2.2.length:Int)) 8) ((iter (fun (s:(List (Int×Int))×List Int×Nat)=>zal.s68 a2 s.1 s.2.1 s.2.2) fuel (a6.2,(List.replicate a2.2.length (0:Int)),0):Option (List Int)).bind (fun (b3:List Int)=>some (a2.1,b3,true)))
def zal.k70 (p_:zag) (a2:List (List Int)) (a6:List (List Int)) (a7:List (Int×Int)):Option (zag×List Int×Bool) :=
 (iter (fun (s:List (List Int)×(List (Int×Int))×Nat)=>zal.s66 a2 s.1 s.2.1 s.2.2) fuel (a2,a7,0):Option (List (List Int)×(List (Int×Int)))).bind (fun (s:List (List Int)×(List (Int×Int)))=>zal.k69 p_ a6 s.1 s.2)
def zal.k71 (p_:zag) (s_:Int) (t_:Int) (a2:List (List Int)) (a6:List (List Int)):Option (zag×List Int×Bool) :=
 (iter (fun (s:List (List Int)×List (List Int)×(List (Int×Int))×List T_A2)=>zal.s46 s.1 s.2.1 s.2.2.1 s.2.2.2) fuel (a2,a6,([]:List (Int×Int)),[(⟨s_,t_⟩:T_A2)]):Option ((List (List Int)×List (List Int)×(List (Int×Int)))⊕(zag×List Int×Bool))).bind (Sum.elim (fun (s:List (List Int)×List (List Int)×(List (Int×Int)))=>zal.k70 p_ s.1 s.2.1 s.2.2) some)
def zal (p_:zag) (s_:Int) (t_:Int):Option (zag×List Int×Bool) :=
 (iter (fun (s:List (List Int)×List (List Int)×Nat)=>zal.s2 p_ s.1 s.2.1 s.2.2) fuel ([],[],0):Option (List (List Int)×List (List Int))).bind (fun (s:List (List Int)×List (List Int))=>zal.k71 p_ s_ t_ s.1 s.2)
def zln (p_:zag) (s_:Int) (t_:Int):Option (zag×Bool×Int) :=
 (zda p_).bind fun a2=>cond (decide (a2≠0)) (some ((⟨0,0,[],[]⟩:zag),false,a2)) ((cond (decide ((min s_ t_)<0)) (some true) (some (decide ((↑p_.Next.length:Int)≤(max s_ t_)))):Option (Bool)).bind (fun (a7:Bool)=>cond (a7) (some ((⟨0,0,[],[]⟩:zag),false,2)) ((zal p_ s_ t_).bind fun a6=>some (a6.1,a6.2.2,0))))
def zec.s25 (red_:List Bool) (a7:List Int) (best1109:Int) (a2:Nat):Option ((Int×Nat)⊕Int) :=
 cond (decide ((↑a2:Int)<(↑a7.length:Int))) (idxn a7 a2 fun a6=>(cond (decide (a6≠(-1:Int))) (idx red_ a6 fun a8=>some (!a8)) (some false):Option (Bool)).bind (fun (b2:Bool)=>cond (b2) (some (.inl ((min best1109 a6),(a2+1)))) (some (.inl (best1109,(a2+1)))))) (some (.inr best1109))
def zec.s26 (p_:zag) (red_:List Bool) (best777:Int) (a2:Nat):Option ((Int×Nat)⊕Int) :=
 cond (decide ((↑a2:Int)<(↑red_.length:Int))) ((idxn red_ a2 fun a6=>cond ((!a6)) (some best777) (idxn p_.Next a2 fun a7=>(iter (fun (s:Int×Nat)=>zec.s25 red_ a7 s.1 s.2) fuel (best777,0):Option (Int)).bind (fun (best1096:Int)=>some best1096)):Option (Int)).bind (fun (best1050:Int)=>some (.inl (best1050,(a2+1))))) (some (.inr best777))
def zec (p_:zag) (red_:List Bool):Option (Int×Bool) :=
 (iter (fun (s:Int×Nat)=>zec.s26 p_ red_ s.1 s.2) fuel ((↑red_.length:Int),0):Option (Int)).bind (fun (best596:Int)=>some (best596,decide (best596<(↑red_.length:Int))))
def zdb.s25 (red_:List Bool) (a7:zag×List Int×Bool) (a6:List Bool) (a2:Nat):Option ((List Bool×Nat)⊕List Bool) :=
 cond (decide ((↑a2:Int)<(↑red_.length:Int))) (idxn red_ a2 fun b2=>(cond (b2) (idxn a7.2.1 a2 fun b3=>some (decide (b3≠(-1:Int)))) (some false):Option (Bool)).bind (fun (b4:Bool)=>cond (b4) (idxn a7.2.1 a2 fun a8=>idx a6 a8 fun b5=>some (.inl ((List.set a6 a8.toNat true),(a2+1)))) (some (.inl (a6,(a2+1)))))) (some (.inr a6))
def zdb.s26 (p_:zag) (red_:List Bool) (b_:Int) (a6:Nat):Option (Nat⊕(Unit⊕(zag×List Bool))) :=
 cond (decide ((↑a6:Int)<(↑red_.length:Int))) ((idxn red_ a6 fun a7=>cond ((!a7)) (some (.inl ())) ((zal p_ (↑a6:Int) b_).bind fun a2=>cond ((!a2.2.2)) (some (.inl ())) (chk ((0:Int)≤(↑a2.1.Next.length:Int)∧(↑a2.1.Next.length:Int)≤(↑a2.1.Next.length:Int)∧zaw (Int.toNat (↑a2.1.Next.length:Int)) 1) ((iter (fun (s:List Bool×Nat)=>zdb.s25 red_ a2 s.1 s.2) fuel ((List.replicate a2.1.Next.length false),0):Option (List Bool)).bind (fun (a8:List Bool)=>some (.inr (.inr (.inr (a2.1,a8)))))))):Option (Unit⊕(Nat⊕(Unit⊕(zag×List Bool))))).bind (Sum.elim (fun (_:Unit)=>some (.inl (a6+1))) some)) (some (.inr (.inl ())))
def zdb (p_:zag) (red_:List Bool) (b_:Int):Option (zag×List Bool) :=
 (iter (fun (s:Nat)=>zdb.s26 p_ red_ b_ s) fuel 0:Option (Unit⊕(zag×List Bool))).bind (Sum.elim (fun (_:Unit)=>chk (zaw (List.length ([]:List Unit)+List.length red_) 1) (idx ([]++red_) b_ fun a2=>some (p_,(List.set ([]++red_) b_.toNat true)))) some)
def zfl.s1 (a6:Int) (a7:Int) (a8:List (List Int)) (b2:List (List Int)) (red62:List Bool):Option ((Int×Int×List (List Int)×List (List Int)×List Bool)⊕(zag×Int)) :=
 (zec (⟨a6,a7,a8,b2⟩:zag) red62).bind fun b3=>cond ((!b3.2)) (some (.inr ((⟨a6,a7,a8,b2⟩:zag),0))) ((zdb (⟨a6,a7,a8,b2⟩:zag) red62 b3.1).bind fun a2=>some (.inl (a2.1.Inputs,a2.1.Start,a2.1.Next,a2.1.Out,a2.2)))
def zfl (o_:zcp):Option (zag×Int) :=
 (zb8 o_).bind fun a2=>cond (decide (a2.2≠0)) (some ((⟨0,0,[],[]⟩:zag),a2.2)) (chk ((0:Int)≤(↑a2.1.Next.length:Int)∧(↑a2.1.Next.length:Int)≤(↑a2.1.Next.length:Int)∧zaw (Int.toNat (↑a2.1.Next.length:Int)) 1) (idx (List.replicate a2.1.Next.length false) a2.1.Start fun a6=>iter (fun (s:Int×Int×List (List Int)×List (List Int)×List Bool)=>zfl.s1 s.1 s.2.1 s.2.2.1 s.2.2.2.1 s.2.2.2.2) fuel (a2.1.Inputs,a2.1.Start,a2.1.Next,a2.1.Out,(List.set (List.replicate a2.1.Next.length false) a2.1.Start.toNat true))))
def L35_gate:Option (zaa) :=
 some (⟨2,0,[[1,0],[1,0]],[[1,0],[1,2]]⟩:zaa)
def zay.s2 (slices_:List (List (List Int))) (size73:Nat) (a2:Nat):Option ((Nat×Nat)⊕Nat) :=
 cond (decide ((↑a2:Int)<(↑slices_.length:Int))) (idxn slices_ a2 fun a6=>chk (inR ((↑size73:Int)+(↑a6.length:Int))) (cond (decide (((↑size73:Int)+(↑a6.length:Int))<0)) (none) (some (.inl ((size73+a6.length),(a2+1)))))) (some (.inr size73))
def zay.s4 (slices_:List (List (List Int))) (a2:List (List Int)) (a6:Nat):Option ((List (List Int)×Nat)⊕List (List Int)) :=
 cond (decide ((↑a6:Int)<(↑slices_.length:Int))) (idxn slices_ a6 fun a7=>chk (zaw (List.length a2+List.length a7) 24) (some (.inl ((a2++a7),(a6+1))))) (some (.inr a2))
def zay (slices_:List (List (List Int))):Option (List (List Int)) :=
 (iter (fun (s:Nat×Nat)=>zay.s2 slices_ s.1 s.2) fuel (0,0):Option (Nat)).bind (fun (size68:Nat)=>(zix (↑size68:Int)).bind fun a6=>(iter (fun (s:List (List Int)×Nat)=>zay.s4 slices_ s.1 s.2) fuel (a6,0):Option (List (List Int))).bind (fun (a2:List (List Int))=>some a2))
def zeu (a_:List Int) (b_:List Int) (p2_:(List Int)→(List Int)→Option Int):Option (Bool) :=
 (p2_ a_ b_).bind fun a2=>some (decide (a2=0))
def zaf.s18 (eq_:(List Int)→(List Int)→Option Bool) (a8:Nat) (a2:List (List Int)) (a7:Nat) (a6:Nat):Option ((List (List Int)×Nat×Nat)⊕(List (List Int)×Nat)) :=
 cond (decide ((↑a6:Int)<(↑(List.length a2-a8):Int))) (idxn a2 (a8+a6) fun b2=>chk ((0:Int)≤((↑a6:Int)-1)) (idxn a2 (a8+(Int.toNat ((↑a6:Int)-1))) fun b3=>(eq_ b2 b3).bind fun b4=>cond ((!b4)) (idxn a2 (a8+a6) fun b5=>idxn a2 a7 fun b6=>chk (inR ((↑a7:Int)+1)) (some (.inl ((List.set a2 a7 b5),(a7+1),(a6+1))))) (some (.inl (a2,a7,(a6+1)))))) (some (.inr (a2,a7)))
def zaf.k19 (a6:List (List Int)) (a2:Nat):Option (Nat⊕(Unit⊕List (List Int))) :=
 chk ((0:Int)≤(↑a2:Int)∧(↑a2:Int)≤(↑a6.length:Int)∧0<List.length a6) (chk (a2≤List.length a6) (chk ((0:Int)≤(↑a2:Int)∧(↑a2:Int)≤(↑(List.length (List.take a2 a6++List.replicate (List.length a6-a2) [])):Int)∧0<List.length (List.take a2 a6++List.replicate (List.length a6-a2) [])) (some (.inr (.inr (List.take a2 (List.take a2 a6++List.replicate (List.length a6-a2) [])))))))
def zaf.s20 (s_:List (List Int)) (eq_:(List Int)→(List Int)→Option Bool) (a2:Nat):Option (Nat⊕(Unit⊕List (List Int))) :=
 cond (decide ((↑a2:Int)<(↑s_.length:Int))) (idxn s_ a2 fun a6=>idx s_ ((↑a2:Int)-1) fun a7=>(eq_ a6 a7).bind fun a8=>cond (a8) (chk ((0:Int)≤(↑a2:Int)∧(↑a2:Int)≤(↑s_.length:Int)∧0<List.length s_) ((iter (fun (s:List (List Int)×Nat×Nat)=>zaf.s18 eq_ a2 s.1 s.2.1 s.2.2) fuel (s_,a2,1):Option (List (List Int)×Nat)).bind (fun (s:List (List Int)×Nat)=>zaf.k19 s.1 s.2))) (some (.inl (a2+1)))) (some (.inr (.inl ())))
def zaf (s_:List (List Int)) (eq_:(List Int)→(List Int)→Option Bool):Option (List (List Int)) :=
 cond (decide ((↑s_.length:Int)<2)) (some s_) ((iter (fun (s:Nat)=>zaf.s20 s_ eq_ s) fuel 1:Option (Unit⊕List (List Int))).bind (Sum.elim (fun (_:Unit)=>some s_) some))
def zcl.s2 (a7:List (List Int)) (a6:List (List Int)) (a2:Nat):Option ((List (List Int)×Nat)⊕List (List Int)) :=
 cond (decide ((↑a2:Int)<(↑a7.length:Int))) (idxn a6 a2 fun a8=>(zfs a8).bind fun b2=>idxn a6 a2 fun b3=>chk (inR ((↑a2:Int)+1)) (some (.inl ((List.set a6 a2 b2),(a2+1))))) (some (.inr a6))
def zcl (l_:List (List Int)) (order_:(List Int)→(List Int)→Option Int):Option (List (List Int)) :=
 (zgl l_).bind fun a6=>(zdy a6 order_).bind fun a7=>(zaf a7 (fun u0 u1=>zeu u0 u1 order_)).bind fun a2=>(iter (fun (s:List (List Int)×Nat)=>zcl.s2 a2 s.1 s.2) fuel (a2,0):Option (List (List Int))).bind (fun (a8:List (List Int))=>some a8)
def zc3 (l_:List (List Int)):Option (List (List Int)) :=
 (zcl l_ (fun u0 u1=>zdo u0 u1)).bind fun a2=>some a2
def zfq (lists_:List (List (List Int))):Option (List (List Int)) :=
 (zay lists_).bind fun a2=>(zc3 a2).bind fun a6=>some a6
def zcb.s2 (l_:List (List Int)) (a6:Int) (a2:Nat):Option ((Int×Nat)⊕Int) :=
 cond (decide ((↑a2:Int)<(↑l_.length:Int))) (idxn l_ a2 fun a7=>some (.inl ((max a6 (↑a7.length:Int)),(a2+1)))) (some (.inr a6))
def zcb (l_:List (List Int)):Option (Int) :=
 (iter (fun (s:Int×Nat)=>zcb.s2 l_ s.1 s.2) fuel (0,0):Option (Int)).bind (fun (a2:Int)=>some a2)
def za3.s2 (slices_:List (List Int)) (size73:Nat) (a2:Nat):Option ((Nat×Nat)⊕Nat) :=
 cond (decide ((↑a2:Int)<(↑slices_.length:Int))) (idxn slices_ a2 fun a6=>chk (inR ((↑size73:Int)+(↑a6.length:Int))) (cond (decide (((↑size73:Int)+(↑a6.length:Int))<0)) (none) (some (.inl ((size73+a6.length),(a2+1)))))) (some (.inr size73))
def za3.s4 (slices_:List (List Int)) (a2:List Int) (a6:Nat):Option ((List Int×Nat)⊕List Int) :=
 cond (decide ((↑a6:Int)<(↑slices_.length:Int))) (idxn slices_ a6 fun a7=>chk (zaw (List.length a2+List.length a7) 8) (some (.inl ((a2++a7),(a6+1))))) (some (.inr a2))
def za3 (slices_:List (List Int)):Option (List Int) :=
 (iter (fun (s:Nat×Nat)=>za3.s2 slices_ s.1 s.2) fuel (0,0):Option (Nat)).bind (fun (size68:Nat)=>(zkh (↑size68:Int)).bind fun a6=>(iter (fun (s:List Int×Nat)=>za3.s4 slices_ s.1 s.2) fuel (a6,0):Option (List Int)).bind (fun (a2:List Int)=>some a2))
def zes (parts_:List (List Int)):Option (List Int) :=
 (za3 parts_).bind fun a2=>some a2
def zaz.k53 (a2:Nat) (a6:List (ByteArray×Bool)) (a7:List (List Int)):Option (((List (ByteArray×Bool))×List (List Int)×Nat)⊕(((List (ByteArray×Bool))×List (List Int))⊕(((List (ByteArray×Bool))×List (List Int)×Nat)⊕(List (List Int)⊕(List (List Int)×Int))))) :=
 some (.inl (a6,a7,(a2+1)))
def zaz.s54 (b5:List (List Int)) (b3:List Int) (a6:List (ByteArray×Bool)) (a2:List (List Int)) (a7:Nat):Option (((List (ByteArray×Bool))×List (List Int)×Nat)⊕(((List (ByteArray×Bool))×List (List Int))⊕(((List (ByteArray×Bool))×List (List Int)×Nat)⊕(List (List Int)⊕(List (List Int)×Int))))) :=
 cond (decide ((↑a7:Int)<(↑b5.length:Int))) ((idxn b5 a7 fun b4=>(zes [b3,b4]).bind fun a8=>(zjx a8).bind fun b2=>cond (((mget b2 a6).getD false)) (some (.inl (a6,a2))) (cond (decide ((↑a2.length:Int)=10000)) (some (.inr (.inr (.inr (.inr (.inr ([],11))))))) (chk (zaw (List.length a2+1) 24) (some (.inl ((mset b2 true a6),(a2++[a8])))))):Option (((List (ByteArray×Bool))×List (List Int))⊕(((List (ByteArray×Bool))×List (List Int)×Nat)⊕(((List (ByteArray×Bool))×List (List Int))⊕(((List (ByteArray×Bool))×List (List Int)×Nat)⊕(List (List Int)⊕(List (List Int)×Int))))))).bind (Sum.elim (fun (s:(List (ByteArray×Bool))×List (List Int))=>zaz.k53 a7 s.1 s.2) some)) (some (.inr (.inl (a6,a2))))
def zaz.k55 (a2:Nat) (a6:List (ByteArray×Bool)) (a7:List (List Int)):Option (((List (ByteArray×Bool))×List (List Int)×Nat)⊕(List (List Int)⊕(List (List Int)×Int))) :=
 some (.inl (a6,a7,(a2+1)))
def zaz.s56 (b2:List (List Int)) (b3:List (List Int)) (a7:List (ByteArray×Bool)) (a6:List (List Int)) (a2:Nat):Option (((List (ByteArray×Bool))×List (List Int)×Nat)⊕(List (List Int)⊕(List (List Int)×Int))) :=
 cond (decide ((↑a2:Int)<(↑b2.length:Int))) (idxn b2 a2 fun a8=>(iter (fun (s:(List (ByteArray×Bool))×List (List Int)×Nat)=>zaz.s54 b3 a8 s.1 s.2.1 s.2.2) fuel (a7,a6,0):Option (((List (ByteArray×Bool))×List (List Int))⊕(((List (ByteArray×Bool))×List (List Int)×Nat)⊕(List (List Int)⊕(List (List Int)×Int))))).bind (Sum.elim (fun (s:(List (ByteArray×Bool))×List (List Int))=>zaz.k55 a2 s.1 s.2) some)) (some (.inr (.inl a6)))
def zaz (a_:List (List Int)) (b_:List (List Int)):Option (List (List Int)×Int) :=
 (cond (decide ((↑a_.length:Int)=0)) (some true) (some (decide ((↑b_.length:Int)=0))):Option (Bool)).bind (fun (b4:Bool)=>cond (b4) (some ([],0)) ((zcb a_).bind fun a7=>(zcb b_).bind fun a8=>chk (inR (a7+a8)) (cond (decide (1024<(a7+a8))) (some ([],3)) ((zc3 a_).bind fun b2=>(zc3 b_).bind fun b3=>cond (decide (10000<(max (↑b2.length:Int) (↑b3.length:Int)))) (some ([],11)) ((iter (fun (s:(List (ByteArray×Bool))×List (List Int)×Nat)=>zaz.s56 b2 b3 s.1 s.2.1 s.2.2) fuel (([]:List (ByteArray×Bool)),[],0):Option (List (List Int)⊕(List (List Int)×Int))).bind (Sum.elim (fun (a2:List (List Int))=>(zdy a2 (fun u0 u1=>zdo u0 u1)).bind fun a6=>some (a6,0)) some))))))
def zcn.s2 (a8:List (List Int)) (a6:List (List Int)) (a2:Nat):Option ((List (List Int)×Nat)⊕List (List Int)) :=
 cond (decide ((↑a2:Int)<(↑a8.length:Int))) (idxn a8 a2 fun a7=>(cond (decide (((↑a2:Int)+1)=(↑a8.length:Int))) (some true) (idxn a8 (a2+1) fun b2=>(zen b2 a7).bind fun b3=>some (!b3)):Option (Bool)).bind (fun (b4:Bool)=>cond (b4) (chk (zaw (List.length a6+1) 24) (some (.inl ((a6++[a7]),(a2+1))))) (some (.inl (a6,(a2+1)))))) (some (.inr a6))
def zcn (l_:List (List Int)):Option (List (List Int)) :=
 (zcl l_ (fun u0 u1=>zhe u0 u1)).bind fun a7=>(iter (fun (s:List (List Int)×Nat)=>zcn.s2 a7 s.1 s.2) fuel ([],0):Option (List (List Int))).bind (fun (a2:List (List Int))=>(zc3 a2).bind fun a6=>some a6)
def zbh.s13 (m_:zaa) (a6:Nat) (a2:Nat):Option (Nat⊕(Unit⊕(Nat⊕(Unit⊕Int)))) :=
 cond (decide ((↑a2:Int)<m_.Inputs)) (idxn m_.Next a6 fun b2=>idxn b2 a2 fun a7=>idxn m_.Out a6 fun b3=>idxn b3 a2 fun a8=>(cond (decide (a7<0)) (some true) (cond (decide ((↑m_.Next.length:Int)≤a7)) (some true) (cond (decide (a8<0)) (some true) (some (decide (1048576<a8))))):Option (Bool)).bind (fun (b4:Bool)=>cond (b4) (some (.inr (.inr (.inr (.inr 2))))) (chk (inR ((↑a2:Int)+1)) (some (.inl (a2+1)))))) (some (.inr (.inl ())))
def zbh.s14 (m_:zaa) (a2:Nat):Option (Nat⊕(Unit⊕Int)) :=
 cond (decide ((↑a2:Int)<(↑m_.Next.length:Int))) ((idxn m_.Next a2 fun a6=>cond (decide ((↑a6.length:Int)≠m_.Inputs)) (some true) (idxn m_.Out a2 fun a7=>some (decide ((↑a7.length:Int)≠m_.Inputs))):Option (Bool)).bind (fun (a8:Bool)=>cond (a8) (some (.inr (.inr 1))) ((iter (fun (s:Nat)=>zbh.s13 m_ a2 s) fuel 0:Option (Unit⊕(Nat⊕(Unit⊕Int)))).bind (Sum.elim (fun (_:Unit)=>some (.inl (a2+1))) some)))) (some (.inr (.inl ())))
def zbh (m_:zaa):Option (Int) :=
 (cond (decide (m_.Inputs<1)) (some true) (some (decide (64<m_.Inputs))):Option (Bool)).bind (fun (a2:Bool)=>cond (a2) (some 2) (cond (decide ((↑m_.Next.length:Int)=0)) (some 19) (cond (decide (128<(↑m_.Next.length:Int))) (some 11) ((cond (decide (m_.Start<0)) (some true) (some (decide ((↑m_.Next.length:Int)≤m_.Start))):Option (Bool)).bind (fun (a6:Bool)=>cond (a6) (some 2) (cond (decide ((↑m_.Out.length:Int)≠(↑m_.Next.length:Int))) (some 1) ((iter (fun (s:Nat)=>zbh.s14 m_ s) fuel 0:Option (Unit⊕Int)).bind (Sum.elim (fun (_:Unit)=>some 0) some))))))))
def zb1.s18 (b2:List Int) (a2:List Bool) (a6:List Int) (a7:Nat):Option ((List Bool×List Int×Nat)⊕(List Bool×List Int)) :=
 cond (decide ((↑a7:Int)<(↑b2.length:Int))) (idxn b2 a7 fun a8=>idx a2 a8 fun b3=>cond ((!b3)) (idx a2 a8 fun b4=>chk (zaw (List.length a6+1) 8) (some (.inl ((List.set a2 a8.toNat true),(a6++[a8]),(a7+1))))) (some (.inl (a2,a6,(a7+1))))) (some (.inr (a2,a6)))
def zb1.k19 (a2:Nat) (a6:List Bool) (a7:List Int):Option ((List Bool×List Int×Nat)⊕List Int) :=
 some (.inl (a6,a7,(a2+1)))
def zb1.s20 (m_:zaa) (a7:List Bool) (a2:List Int) (a6:Nat):Option ((List Bool×List Int×Nat)⊕List Int) :=
 cond (decide ((↑a6:Int)<(↑a2.length:Int))) (idxn a2 a6 fun a8=>idx m_.Next a8 fun b2=>(iter (fun (s:List Bool×List Int×Nat)=>zb1.s18 b2 s.1 s.2.1 s.2.2) fuel (a7,a2,0):Option (List Bool×List Int)).bind (fun (s:List Bool×List Int)=>zb1.k19 a6 s.1 s.2)) (some (.inr a2))
def zb1 (m_:zaa):Option (List Int) :=
 (zbh m_).bind fun a6=>cond (decide (a6≠0)) (some []) (chk ((0:Int)≤(↑m_.Next.length:Int)∧(↑m_.Next.length:Int)≤(↑m_.Next.length:Int)∧zaw (Int.toNat (↑m_.Next.length:Int)) 1) (idx (List.replicate m_.Next.length false) m_.Start fun a7=>(iter (fun (s:List Bool×List Int×Nat)=>zb1.s20 m_ s.1 s.2.1 s.2.2) fuel ((List.set (List.replicate m_.Next.length false) m_.Start.toNat true),[m_.Start],0):Option (List Int)).bind (fun (a2:List Int)=>some a2)))
def zbu.s2 (a7:List Int) (a6:List Int) (a2:Nat):Option ((List Int×Nat)⊕List Int) :=
 cond (decide ((↑a2:Int)<(↑a7.length:Int))) (idxn a7 a2 fun a8=>idx a6 a8 fun b2=>some (.inl ((List.set a6 a8.toNat (↑a2:Int)),(a2+1)))) (some (.inr a6))
def zbu.s15 (b3:List Int) (a7:List Int) (a6:List Int) (a2:Nat):Option ((List Int×Nat)⊕List Int) :=
 cond (decide ((↑a2:Int)<(↑a7.length:Int))) (idxn a7 a2 fun a8=>idx b3 a8 fun b2=>idxn a6 a2 fun b4=>some (.inl ((List.set a6 a2 b2),(a2+1)))) (some (.inr a6))
def zbu.s16 (m_:zaa) (b6:List Int) (b7:List Int) (a2:List (List Int)) (a6:List (List Int)) (a7:Nat):Option ((List (List Int)×List (List Int)×Nat)⊕(List (List Int)×List (List Int))) :=
 cond (decide ((↑a7:Int)<(↑b6.length:Int))) (idxn b6 a7 fun a8=>chk ((0:Int)≤m_.Inputs∧m_.Inputs≤m_.Inputs∧zaw (Int.toNat m_.Inputs) 8) (idx m_.Next a8 fun b2=>(iter (fun (s:List Int×Nat)=>zbu.s15 b7 b2 s.1 s.2) fuel ((List.replicate (Int.toNat m_.Inputs) (0:Int)),0):Option (List Int)).bind (fun (b3:List Int)=>chk (zaw (List.length a2+1) 24) (idx m_.Out a8 fun b4=>(zfs b4).bind fun b5=>chk (zaw (List.length a6+1) 24) (some (.inl ((a2++[b3]),(a6++[b5]),(a7+1)))))))) (some (.inr (a2,a6)))
def zbu.k17 (m_:zaa) (a2:List (List Int)) (a6:List (List Int)):Option (zaa×Int) :=
 some ((⟨m_.Inputs,0,a2,a6⟩:zaa),0)
def zbu (m_:zaa):Option (zaa×Int) :=
 (zbh m_).bind fun a2=>cond (decide (a2≠0)) (some ((⟨0,0,[],[]⟩:zaa),a2)) ((zb1 m_).bind fun a6=>chk ((0:Int)≤(↑m_.Next.length:Int)∧(↑m_.Next.length:Int)≤(↑m_.Next.length:Int)∧zaw (Int.toNat (↑m_.Next.length:Int)) 8) ((iter (fun (s:List Int×Nat)=>zbu.s2 a6 s.1 s.2) fuel ((List.replicate m_.Next.length (0:Int)),0):Option (List Int)).bind (fun (a7:List Int)=>(iter (fun (s:List (List Int)×List (List Int)×Nat)=>zbu.s16 m_ a6 a7 s.1 s.2.1 s.2.2) fuel ([],[],0):Option (List (List Int)×List (List Int))).bind (fun (s:List (List Int)×List (List Int))=>zbu.k17 m_ s.1 s.2))))
def za8.s18 (m_:zaa) (class_:List Int) (a7:Nat) (a6:List Int) (a2:Nat):Option ((List Int×Nat)⊕List Int) :=
 cond (decide ((↑a2:Int)<m_.Inputs)) (idxn m_.Out a7 fun b2=>idxn b2 a2 fun a8=>chk ((↑a2:Int)<128) (idxn a6 a2 fun b6=>chk (inR (64+(↑a2:Int))) (idxn m_.Next a7 fun b3=>idxn b3 a2 fun b4=>idx class_ b4 fun b5=>chk ((64+(↑a2:Int))<128) (idxn (List.set a6 a2 a8) (64+a2) fun b7=>chk (inR ((↑a2:Int)+1)) (some (.inl ((List.set (List.set a6 a2 a8) (64+a2) b5),(a2+1)))))))) (some (.inr a6))
def za8.k19 (a6:List Int) (a2:Nat) (a7:List (List Int×Int)) (a8:Int):Option (((List (List Int×Int))×List Int×Nat)⊕((List (List Int×Int))×List Int)) :=
 idxn a6 a2 fun b2=>some (.inl (a7,(List.set a6 a2 a8),(a2+1)))
def za8.s20 (m_:zaa) (class_:List Int) (a2:List (List Int×Int)) (a8:List Int) (a7:Nat):Option (((List (List Int×Int))×List Int×Nat)⊕((List (List Int×Int))×List Int)) :=
 cond (decide ((↑a7:Int)<(↑class_.length:Int))) ((iter (fun (s:List Int×Nat)=>za8.s18 m_ class_ a7 s.1 s.2) fuel ((List.replicate 128 0),0):Option (List Int)).bind (fun (a6:List Int)=>chk (List.length a6=128) (chk (List.length a6=128∧∀ p∈a2,List.length p.1=128) ((cond ((!((mget a6 a2).isSome))) (chk (List.length a6=128) (chk (List.length a6=128∧∀ p∈a2,List.length p.1=128) (some ((mset a6 (↑a2.length:Int) a2),(↑a2.length:Int))))) (some (a2,((mget a6 a2).getD 0))):Option ((List (List Int×Int))×Int)).bind (fun (s:(List (List Int×Int))×Int)=>za8.k19 a8 a7 s.1 s.2))))) (some (.inr (a2,a8)))
def za8.k21 (a2:List (List Int×Int)) (a6:List Int):Option (List Int×Int) :=
 some (a6,(↑a2.length:Int))
def za8 (m_:zaa) (class_:List Int):Option (List Int×Int) :=
 chk ((0:Int)≤(↑class_.length:Int)∧(↑class_.length:Int)≤(↑class_.length:Int)∧zaw (Int.toNat (↑class_.length:Int)) 8) ((iter (fun (s:(List (List Int×Int))×List Int×Nat)=>za8.s20 m_ class_ s.1 s.2.1 s.2.2) fuel (([]:List (List Int×Int)),(List.replicate class_.length (0:Int)),0):Option ((List (List Int×Int))×List Int)).bind (fun (s:(List (List Int×Int))×List Int)=>za8.k21 s.1 s.2))
def zcm.s2 (m_:zaa) (k_:Int) (class71:List Int) (a7:Int) (a2:Nat):Option ((List Int×Int×Nat)⊕(List Int⊕(List Int×Int))) :=
 cond (decide ((↑a2:Int)<(min (max k_ 0) (↑m_.Next.length:Int)))) ((za8 m_ class71).bind fun a6=>cond (decide (a6.2=a7)) (some (.inr (.inr (class71,(↑a2:Int))))) (some (.inl (a6.1,a6.2,(a2+1))))) (some (.inr (.inl class71)))
def zcm (m_:zaa) (k_:Int):Option (List Int×Int) :=
 chk ((0:Int)≤(↑m_.Next.length:Int)∧(↑m_.Next.length:Int)≤(↑m_.Next.length:Int)∧zaw (Int.toNat (↑m_.Next.length:Int)) 8) ((iter (fun (s:List Int×Int×Nat)=>zcm.s2 m_ k_ s.1 s.2.1 s.2.2) fuel ((List.replicate m_.Next.length (0:Int)),1,0):Option (List Int⊕(List Int×Int))).bind (Sum.elim (fun (class67:List Int)=>some (class67,(min (max k_ 0) (↑m_.Next.length:Int)))) some))
def zfb (m_:zaa) (k_:Int):Option (List Int×Int) :=
 (zbh m_).bind fun a2=>cond (decide (a2≠0)) (some ([],a2)) ((zcm m_ k_).bind fun a6=>some (a6.1,0))
def ze5 (m_:zaa):Option (List Int×Int) :=
 (zfb m_ 128).bind fun a2=>some (a2.1,a2.2)
def zbg.s30 (b3:List Int×Int) (a7:List Int) (a2:List Int) (a6:Nat):Option ((List Int×Nat)⊕List Int) :=
 cond (decide ((↑a6:Int)<(↑a7.length:Int))) (idxn a7 a6 fun a8=>idx b3.1 a8 fun b2=>chk (zaw (List.length a2+1) 8) (some (.inl ((a2++[b2]),(a6+1))))) (some (.inr a2))
def zbg.k31 (a2:Nat) (a6:List (List Int)) (a7:List (List Int)):Option ((List (List Int)×List (List Int)×Nat)⊕(List (List Int)×List (List Int))) :=
 some (.inl (a6,a7,(a2+1)))
def zbg.s32 (b6:zaa×Int) (b2:List Int×Int) (a2:List (List Int)) (a7:List (List Int)) (a6:Nat):Option ((List (List Int)×List (List Int)×Nat)⊕(List (List Int)×List (List Int))) :=
 cond (decide ((↑a6:Int)<(↑b2.1.length:Int))) ((idxn b2.1 a6 fun b3=>cond (decide (b3<(↑a2.length:Int))) (some (a2,a7)) (idxn b6.1.Next a6 fun b4=>(iter (fun (s:List Int×Nat)=>zbg.s30 b2 b4 s.1 s.2) fuel ([],0):Option (List Int)).bind (fun (b5:List Int)=>chk (zaw (List.length a2+1) 24) (idxn b6.1.Out a6 fun a8=>chk (zaw (List.length ([]:List Unit)+List.length a8) 8) (chk (zaw (List.length a7+1) 24) (some ((a2++[b5]),(a7++[([]++a8)]))))))):Option (List (List Int)×List (List Int))).bind (fun (s:List (List Int)×List (List Int))=>zbg.k31 a6 s.1 s.2)) (some (.inr (a2,a7)))
def zbg.k33 (a7:zaa×Int) (a2:List (List Int)) (a6:List (List Int)):Option (zaa×Int) :=
 some ((⟨a7.1.Inputs,0,a2,a6⟩:zaa),0)
def zbg (m_:zaa):Option (zaa×Int) :=
 (zbu m_).bind fun a2=>cond (decide (a2.2≠0)) (some ((⟨0,0,[],[]⟩:zaa),a2.2)) ((ze5 a2.1).bind fun a6=>cond (decide (a6.2≠0)) (some ((⟨0,0,[],[]⟩:zaa),a6.2)) ((iter (fun (s:List (List Int)×List (List Int)×Nat)=>zbg.s32 a2 a6 s.1 s.2.1 s.2.2) fuel ([],[],0):Option (List (List Int)×List (List Int))).bind (fun (s:List (List Int)×List (List Int))=>zbg.k33 a2 s.1 s.2)))
def zbt.s18 (b3:Nat) (b2:List Int) (a2:List Bool) (a6:List za6) (a7:Nat):Option ((List Bool×List za6×Nat)⊕(List Bool×List za6)) :=
 cond (decide ((↑a7:Int)<(↑b2.length:Int))) (idxn b2 a7 fun a8=>idx a2 a8 fun b4=>cond ((!b4)) (idx a2 a8 fun b7=>idxn a6 b3 fun b5=>(zes [b5.word,[(↑a7:Int)]]).bind fun b6=>chk (zaw (List.length a6+1) 32) (some (.inl ((List.set a2 a8.toNat true),(a6++[(⟨a8,b6⟩:za6)]),(a7+1))))) (some (.inl (a2,a6,(a7+1))))) (some (.inr (a2,a6)))
def zbt.k19 (a2:Nat) (a6:List Bool) (a7:List za6):Option ((List Bool×List za6×Nat)⊕List za6) :=
 some (.inl (a6,a7,(a2+1)))
def zbt.s20 (m_:zaa) (a7:List Bool) (a2:List za6) (a6:Nat):Option ((List Bool×List za6×Nat)⊕List za6) :=
 cond (decide ((↑a6:Int)<(↑a2.length:Int))) (idxn a2 a6 fun a8=>idx m_.Next a8.state fun b2=>(iter (fun (s:List Bool×List za6×Nat)=>zbt.s18 a6 b2 s.1 s.2.1 s.2.2) fuel (a7,a2,0):Option (List Bool×List za6)).bind (fun (s:List Bool×List za6)=>zbt.k19 a6 s.1 s.2)) (some (.inr a2))
def zbt (m_:zaa) (from_:Int):Option (List za6) :=
 chk ((0:Int)≤(↑m_.Next.length:Int)∧(↑m_.Next.length:Int)≤(↑m_.Next.length:Int)∧zaw (Int.toNat (↑m_.Next.length:Int)) 1) (idx (List.replicate m_.Next.length false) from_ fun a6=>(iter (fun (s:List Bool×List za6×Nat)=>zbt.s20 m_ s.1 s.2.1 s.2.2) fuel ((List.set (List.replicate m_.Next.length false) from_.toNat true),[(⟨from_,[]⟩:za6)],0):Option (List za6)).bind (fun (a2:List za6)=>some a2))
def zch.s2 (a8:List za6) (a2:List Int) (a6:List (List Int)) (a7:Nat):Option ((List Int×List (List Int)×Nat)⊕(List Int×List (List Int))) :=
 cond (decide ((↑a7:Int)<(↑a8.length:Int))) (idxn a8 a7 fun b2=>chk (zaw (List.length a2+1) 8) (chk (zaw (List.length a6+1) 24) (some (.inl ((a2++[b2.state]),(a6++[b2.word]),(a7+1)))))) (some (.inr (a2,a6)))
def zch.k3 (a2:List Int) (a6:List (List Int)):Option (List Int×List (List Int)×Int) :=
 some (a2,a6,0)
def zch (m_:zaa):Option (List Int×List (List Int)×Int) :=
 (zbh m_).bind fun a2=>cond (decide (a2≠0)) (some ([],[],a2)) ((zbt m_ m_.Start).bind fun a6=>(iter (fun (s:List Int×List (List Int)×Nat)=>zch.s2 a6 s.1 s.2.1 s.2.2) fuel ([],[],0):Option (List Int×List (List Int))).bind (fun (s:List Int×List (List Int))=>zch.k3 s.1 s.2))
def zd2 (m_:zaa):Option (List (List Int)×Int) :=
 (zch m_).bind fun a2=>some (a2.2.1,a2.2.2)
def za7.s13 (m_:zaa) (a7:List Int) (a6:List (List Int)) (a2:Nat):Option ((List (List Int)×Nat)⊕List (List Int)) :=
 cond (decide ((↑a2:Int)<m_.Inputs)) ((zes [a7,[(↑a2:Int)]]).bind fun a8=>chk (zaw (List.length a6+1) 24) (chk (inR ((↑a2:Int)+1)) (some (.inl ((a6++[a8]),(a2+1)))))) (some (.inr a6))
def za7.s14 (m_:zaa) (b2:List Int×List (List Int)×Int) (a6:List (List Int)) (a2:Nat):Option ((List (List Int)×Nat)⊕List (List Int)) :=
 cond (decide ((↑a2:Int)<(↑b2.2.1.length:Int))) (idxn b2.2.1 a2 fun a7=>(iter (fun (s:List (List Int)×Nat)=>za7.s13 m_ a7 s.1 s.2) fuel (a6,0):Option (List (List Int))).bind (fun (a8:List (List Int))=>some (.inl (a8,(a2+1))))) (some (.inr a6))
def za7 (m_:zaa):Option (List (List Int)×Int) :=
 (zch m_).bind fun a2=>cond (decide (a2.2.2≠0)) (some ([],a2.2.2)) ((iter (fun (s:List (List Int)×Nat)=>za7.s14 m_ a2 s.1 s.2) fuel ([],0):Option (List (List Int))).bind (fun (a6:List (List Int))=>(zc3 a6).bind fun a7=>some (a7,0)))
def zcs.s2 (m_:zaa) (w_:List Int) (b5:Int) (a6:List Int) (a7:Nat):Option ((Int×List Int×Nat)⊕List Int) :=
 cond (decide ((↑a7:Int)<(↑w_.length:Int))) (idxn w_ a7 fun a2=>idx m_.Out b5 fun a8=>idx a8 a2 fun b2=>chk (zaw (List.length a6+1) 8) (idx m_.Next b5 fun b3=>idx b3 a2 fun b4=>some (.inl (b4,(a6++[b2]),(a7+1))))) (some (.inr a6))
def zcs (m_:zaa) (s_:Int) (w_:List Int):Option (List Int) :=
 chk ((0:Int)≤0∧0≤(↑w_.length:Int)∧zaw (Int.toNat (↑w_.length:Int)) 8) ((iter (fun (s:Int×List Int×Nat)=>zcs.s2 m_ w_ s.1 s.2.1 s.2.2) fuel (s_,[],0):Option (List Int)).bind (fun (a2:List Int)=>some a2))
def zbo.s2 (s1_:List Int) (s2_:List Int) (a2:Nat):Option (Nat⊕(Unit⊕Bool)) :=
 cond (decide ((↑a2:Int)<(↑s1_.length:Int))) (idxn s1_ a2 fun a6=>idxn s2_ a2 fun a7=>cond (decide (a6≠a7)) (some (.inr (.inr false))) (some (.inl (a2+1)))) (some (.inr (.inl ())))
def zbo (s1_:List Int) (s2_:List Int):Option (Bool) :=
 cond (decide ((↑s1_.length:Int)≠(↑s2_.length:Int))) (some false) ((iter (fun (s:Nat)=>zbo.s2 s1_ s2_ s) fuel 0:Option (Unit⊕Bool)).bind (Sum.elim (fun (_:Unit)=>some true) some))
def zd4 (w_:List Int) (p1_:zaa) (p2_:Int) (p3_:Int):Option (Bool) :=
 (zcs p1_ p2_ w_).bind fun a2=>(zcs p1_ p3_ w_).bind fun a6=>(zbo a2 a6).bind fun a7=>some (!a7)
def zbv.s2 (l_:List (List Int)) (has_:(List Int)→Option Bool) (a2:Nat):Option (Nat⊕(Unit⊕Bool)) :=
 cond (decide ((↑a2:Int)<(↑l_.length:Int))) (idxn l_ a2 fun a6=>(has_ a6).bind fun a7=>cond (a7) (some (.inr (.inr true))) (some (.inl (a2+1)))) (some (.inr (.inl ())))
def zbv (l_:List (List Int)) (has_:(List Int)→Option Bool):Option (Bool) :=
 (iter (fun (s:Nat)=>zbv.s2 l_ has_ s) fuel 0:Option (Unit⊕Bool)).bind (Sum.elim (fun (_:Unit)=>some false) some)
def zel (m_:zaa) (words_:List (List Int)) (s_:Int) (t_:Int):Option (Bool) :=
 (zbv words_ (fun u0=>zd4 u0 m_ s_ t_)).bind fun a2=>some a2
def ze7 (m_:zaa):Option (Bool) :=
 ((zbh m_).bind fun a6=>cond (decide (a6≠0)) (some true) ((zb1 m_).bind fun a7=>some (decide ((↑a7.length:Int)≠(↑m_.Next.length:Int)))):Option (Bool)).bind (fun (a8:Bool)=>cond (a8) (some false) ((zbg m_).bind fun a2=>(cond (decide (a2.2=0)) (some (decide ((↑a2.1.Next.length:Int)=(↑m_.Next.length:Int)))) (some false):Option (Bool)).bind (fun (b2:Bool)=>some b2)))
def zf0 (m_:zaa):Option (Int) :=
 (zbh m_).bind fun a2=>cond (decide (a2≠0)) (some a2) ((ze7 m_).bind fun a6=>cond ((!a6)) (some 1) (some 0))
def zbc.s2 (a_:zaa) (b_:zaa) (a6:List (List Bool)) (a2:Nat):Option ((List (List Bool)×Nat)⊕List (List Bool)) :=
 cond (decide ((↑a2:Int)<(↑(List.length (List.replicate a_.Next.length ([]:List Bool))):Int))) (chk ((0:Int)≤(↑b_.Next.length:Int)∧(↑b_.Next.length:Int)≤(↑b_.Next.length:Int)∧zaw (Int.toNat (↑b_.Next.length:Int)) 1) (idxn a6 a2 fun a7=>chk (inR ((↑a2:Int)+1)) (some (.inl ((List.set a6 a2 (List.replicate b_.Next.length false)),(a2+1)))))) (some (.inr a6))
def zbc.s20 (a_:zaa) (b_:zaa) (b5:Nat) (a6:zba) (a8:List (List Bool)) (a7:List zba) (a2:Nat):Option ((List (List Bool)×List zba×Nat)⊕((List (List Bool)×List zba)⊕((List (List Bool)×List zba×Nat)⊕(Unit⊕(List Int×Bool))))) :=
 cond (decide ((↑a2:Int)<a_.Inputs)) (idx a_.Out a6.at_.s fun b6=>idxn b6 a2 fun b7=>idx b_.Out a6.at_.t fun b8=>idxn b8 a2 fun b9=>cond (decide (b7≠b9)) (idxn a7 b5 fun c0=>(zes [c0.word,[(↑a2:Int)]]).bind fun c6=>some (.inr (.inr (.inr (.inr (c6,true)))))) (idx a_.Next a6.at_.s fun c7=>idxn c7 a2 fun b2=>idx b_.Next a6.at_.t fun c8=>idxn c8 a2 fun b3=>(cond ((!(decide (b2=a6.at_.s)&&(decide (b3=a6.at_.t)&&true)))) (idx a8 b2 fun c9=>idx c9 b3 fun d0=>some (!d0)) (some false):Option (Bool)).bind (fun (d1:Bool)=>cond (d1) (idx a8 b2 fun b4=>idx b4 b3 fun d4=>idxn a7 b5 fun d2=>(zes [d2.word,[(↑a2:Int)]]).bind fun d3=>chk (zaw (List.length a7+1) 40) (chk (inR ((↑a2:Int)+1)) (some (.inl ((List.set a8 (Int.toNat b2) (List.set b4 (Int.toNat b3) true)),(a7++[(⟨(⟨b2,b3⟩:zdn),d3⟩:zba)]),(a2+1)))))) (chk (inR ((↑a2:Int)+1)) (some (.inl (a8,a7,(a2+1)))))))) (some (.inr (.inl (a8,a7))))
def zbc.k21 (a7:Nat) (a2:List (List Bool)) (a6:List zba):Option ((List (List Bool)×List zba×Nat)⊕(Unit⊕(List Int×Bool))) :=
 some (.inl (a2,a6,(a7+1)))
def zbc.s22 (a_:zaa) (b_:zaa) (a8:List (List Bool)) (a6:List zba) (a2:Nat):Option ((List (List Bool)×List zba×Nat)⊕(Unit⊕(List Int×Bool))) :=
 cond (decide ((↑a2:Int)<(↑a6.length:Int))) (idxn a6 a2 fun a7=>(iter (fun (s:List (List Bool)×List zba×Nat)=>zbc.s20 a_ b_ a2 a7 s.1 s.2.1 s.2.2) fuel (a8,a6,0):Option ((List (List Bool)×List zba)⊕((List (List Bool)×List zba×Nat)⊕(Unit⊕(List Int×Bool))))).bind (Sum.elim (fun (s:List (List Bool)×List zba)=>zbc.k21 a2 s.1 s.2) some)) (some (.inr (.inl ())))
def zbc (a_:zaa) (b_:zaa) (first_:zdn):Option (List Int×Bool) :=
 chk ((0:Int)≤(↑a_.Next.length:Int)∧(↑a_.Next.length:Int)≤(↑a_.Next.length:Int)∧zaw (Int.toNat (↑a_.Next.length:Int)) 24) ((iter (fun (s:List (List Bool)×Nat)=>zbc.s2 a_ b_ s.1 s.2) fuel ((List.replicate a_.Next.length ([]:List Bool)),0):Option (List (List Bool))).bind (fun (a2:List (List Bool))=>idx a2 first_.s fun a6=>idx a6 first_.t fun a7=>(iter (fun (s:List (List Bool)×List zba×Nat)=>zbc.s22 a_ b_ s.1 s.2.1 s.2.2) fuel ((List.set a2 (Int.toNat first_.s) (List.set a6 (Int.toNat first_.t) true)),[(⟨first_,[]⟩:zba)],0):Option (Unit⊕(List Int×Bool))).bind (Sum.elim (fun (_:Unit)=>some ([],false)) some)))
def zg1 (m_:zaa) (s_:Int) (t_:Int):Option (List Int×Bool×Int) :=
 (zbh m_).bind fun a2=>cond (decide (a2≠0)) (some ([],false,a2)) ((cond (decide (s_<0)) (some true) (cond (decide ((↑m_.Next.length:Int)≤s_)) (some true) (cond (decide (t_<0)) (some true) (some (decide ((↑m_.Next.length:Int)≤t_))))):Option (Bool)).bind (fun (a7:Bool)=>cond (a7) (some ([],false,2)) ((zbc m_ m_ (⟨s_,t_⟩:zdn)).bind fun a6=>some (a6.1,a6.2,0))))
def zbj.s13 (m_:zaa) (a8:Nat) (a2:List (List Int)) (a6:Nat):Option ((List (List Int)×Nat)⊕(List (List Int)⊕((List (List Int)×Nat)⊕(List (List Int)⊕(List (List Int)×Int))))) :=
 cond (decide ((↑a6:Int)<(↑m_.Next.length:Int))) (((zel m_ a2 (↑a8:Int) (↑a6:Int)).bind fun b2=>cond (b2) (some (.inl a2)) ((zg1 m_ (↑a8:Int) (↑a6:Int)).bind fun a7=>cond (decide (a7.2.2≠0)) (some (.inr (.inr (.inr (.inr (.inr ([],a7.2.2))))))) (chk (zaw (List.length a2+1) 24) (some (.inl (a2++[a7.1]))))):Option (List (List Int)⊕((List (List Int)×Nat)⊕(List (List Int)⊕((List (List Int)×Nat)⊕(List (List Int)⊕(List (List Int)×Int))))))).bind (Sum.elim (fun (b3:List (List Int))=>some (.inl (b3,(a6+1)))) some)) (some (.inr (.inl a2)))
def zbj.s14 (m_:zaa) (a6:List (List Int)) (a2:Nat):Option ((List (List Int)×Nat)⊕(List (List Int)⊕(List (List Int)×Int))) :=
 cond (decide ((↑a2:Int)<(↑m_.Next.length:Int))) ((iter (fun (s:List (List Int)×Nat)=>zbj.s13 m_ a2 s.1 s.2) fuel (a6,(a2+1)):Option (List (List Int)⊕((List (List Int)×Nat)⊕(List (List Int)⊕(List (List Int)×Int))))).bind (Sum.elim (fun (a7:List (List Int))=>some (.inl (a7,(a2+1)))) some)) (some (.inr (.inl a6)))
def zbj (m_:zaa):Option (List (List Int)×Int) :=
 (zf0 m_).bind fun a7=>cond (decide (a7≠0)) (some ([],a7)) ((iter (fun (s:List (List Int)×Nat)=>zbj.s14 m_ s.1 s.2) fuel ([],0):Option (List (List Int)⊕(List (List Int)×Int))).bind (Sum.elim (fun (a2:List (List Int))=>(zc3 a2).bind fun a6=>some (a6,0)) some))
def zev (m_:zaa):Option (List (List Int)×Int) :=
 (zbh m_).bind fun a7=>cond (decide (a7≠0)) (some ([],a7)) ((zbg m_).bind fun a2=>(zd2 a2.1).bind fun b3=>(za7 a2.1).bind fun a8=>(zbj a2.1).bind fun b2=>(cond (decide ((↑b2.1.length:Int)=0)) (some [[]]) (some b2.1):Option (List (List Int))).bind (fun (ends60:List (List Int))=>(zfq [b3.1,a8.1]).bind fun b4=>(zaz b4 ends60).bind fun a6=>cond (decide (a6.2≠0)) (some ([],a6.2)) ((zfq [a8.1,a6.1]).bind fun b5=>(zcn b5).bind fun b6=>some (b6,0))))
def zbm.s18 (p_:zag) (out_:Int) (b3:Nat) (b4:List Int) (a6:List Int) (a7:List Int) (a2:Nat):Option ((List Int×List Int×Nat)⊕(List Int×List Int)) :=
 cond (decide ((↑a2:Int)<(↑b4.length:Int))) (idxn b4 a2 fun a8=>idxn p_.Out b3 fun b5=>idxn b5 a2 fun b2=>idxn a6 a2 fun b6=>idxn a7 a2 fun b7=>cond (decide (a8=(-1:Int))) (idxn (List.set a6 a2 a8) a2 fun b8=>idxn (List.set a7 a2 b2) a2 fun b9=>some (.inl ((List.set (List.set a6 a2 a8) a2 (↑b3:Int)),(List.set (List.set a7 a2 b2) a2 out_),(a2+1)))) (some (.inl ((List.set a6 a2 a8),(List.set a7 a2 b2),(a2+1))))) (some (.inr (a6,a7)))
def zbm.k19 (a2:List (List Int)) (a6:List (List Int)) (a7:Nat) (a8:List Int) (b2:List Int):Option ((List (List Int)×List (List Int)×Nat)⊕(List (List Int)×List (List Int))) :=
 chk (zaw (List.length a2+1) 24) (chk (zaw (List.length a6+1) 24) (some (.inl ((a2++[a8]),(a6++[b2]),(a7+1)))))
def zbm.s20 (p_:zag) (out_:Int) (a6:List (List Int)) (a7:List (List Int)) (a2:Nat):Option ((List (List Int)×List (List Int)×Nat)⊕(List (List Int)×List (List Int))) :=
 cond (decide ((↑a2:Int)<(↑p_.Next.length:Int))) (chk ((0:Int)≤p_.Inputs∧p_.Inputs≤p_.Inputs∧zaw (Int.toNat p_.Inputs) 8) (chk ((0:Int)≤p_.Inputs∧p_.Inputs≤p_.Inputs∧zaw (Int.toNat p_.Inputs) 8) (idxn p_.Next a2 fun a8=>(iter (fun (s:List Int×List Int×Nat)=>zbm.s18 p_ out_ a2 a8 s.1 s.2.1 s.2.2) fuel ((List.replicate (Int.toNat p_.Inputs) (0:Int)),(List.replicate (Int.toNat p_.Inputs) (0:Int)),0):Option (List Int×List Int)).bind (fun (s:List Int×List Int)=>zbm.k19 a6 a7 a2 s.1 s.2)))) (some (.inr (a6,a7)))
def zbm.k21 (p_:zag) (a2:List (List Int)) (a6:List (List Int)):Option (zaa×Int) :=
 some ((⟨p_.Inputs,p_.Start,a2,a6⟩:zaa),0)
def zbm (p_:zag) (out_:Int):Option (zaa×Int) :=
 (zda p_).bind fun a2=>cond (decide (a2≠0)) (some ((⟨0,0,[],[]⟩:zaa),a2)) ((cond (decide (out_<0)) (some true) (some (decide (1048576<out_))):Option (Bool)).bind (fun (a6:Bool)=>cond (a6) (some ((⟨0,0,[],[]⟩:zaa),2)) (cond (decide (128<(↑p_.Next.length:Int))) (some ((⟨0,0,[],[]⟩:zaa),11)) ((iter (fun (s:List (List Int)×List (List Int)×Nat)=>zbm.s20 p_ out_ s.1 s.2.1 s.2.2) fuel ([],[],0):Option (List (List Int)×List (List Int))).bind (fun (s:List (List Int)×List (List Int))=>zbm.k21 p_ s.1 s.2)))))
def zny (a_:zag) (b_:zag):Option (Bool) :=
 (cond (decide (a_.Inputs=b_.Inputs)) (cond (decide (a_.Start=b_.Start)) ((zcc a_.Next b_.Next).bind fun a2=>cond (a2) ((zcc a_.Out b_.Out).bind fun a6=>some a6) (some false)) (some false)) (some false):Option (Bool)).bind (fun (a7:Bool)=>some a7)
def zks:Option (Bool) :=
 (zb8 (⟨1,[(⟨[0,0],[1,2]⟩:zao)]⟩:zcp)).bind fun a2=>(zln a2.1 0 1).bind fun b4=>(zln a2.1 0 2).bind fun a6=>(zfl (⟨1,[(⟨[0,0,0,0],[1,2,1,2]⟩:zao)]⟩:zcp)).bind fun a7=>(zg8 a7.1 [0,0,0,0,0]).bind fun b5=>(L35_gate).bind fun b7=>(zev b7).bind fun b6=>(zbm a2.1 7).bind fun a8=>((zny a2.1 (⟨1,0,[[1],[2],[(-1:Int)]],[[1],[2],[(-1:Int)]]⟩:zag)).bind fun b8=>cond (b8) (cond (decide (a2.2=0)) (cond ((!b4.2.1)) (cond (decide (b4.2.2=0)) ((zny a6.1 (⟨1,0,[[1],[0]],[[1],[2]]⟩:zag)).bind fun b9=>cond (b9) (cond (a6.2.1) (cond (decide (a6.2.2=0)) ((zny a7.1 (⟨1,0,[[1],[0]],[[1],[2]]⟩:zag)).bind fun c0=>cond (c0) (cond (decide (a7.2=0)) ((zic b5.1 [1,2,1,2,1]).bind fun c6=>cond (c6) (cond (b5.2) ((zcc b6.1 [[1,1],[0,0,1],[0,1,1]]).bind fun c7=>cond (c7) (cond (decide (b6.2=0)) ((zcc a8.1.Next [[1],[2],[2]]).bind fun b2=>cond (b2) ((zcc a8.1.Out [[1],[2],[7]]).bind fun b3=>cond (b3) (some (decide (a8.2=0))) (some false)) (some false)) (some false)) (some false)) (some false)) (some false)) (some false)) (some false)) (some false)) (some false)) (some false)) (some false)) (some false)) (some false)) (some false):Option (Bool)).bind (fun (c8:Bool)=>some c8)
def zf5.s2 (parts_:List (List Int)) (a2:List Int) (a6:Nat):Option ((List Int×Nat)⊕List Int) :=
 cond (decide ((↑a6:Int)<(↑parts_.length:Int))) (idxn parts_ a6 fun a7=>chk (zaw (List.length a2+List.length a7) 8) (some (.inl ((a2++a7),(a6+1))))) (some (.inr a2))
def zf5 (parts_:List (List Int)):Option (List Int) :=
 (iter (fun (s:List Int×Nat)=>zf5.s2 parts_ s.1 s.2) fuel ([],0):Option (List Int)).bind (fun (a2:List Int)=>some a2)
def zqd (a_:List Int) (b_:List Int):Option (Int) :=
 (zed a_ b_).bind fun a2=>(cond (decide (a2=(↑a_.length:Int))) (some (decide (a2=(↑b_.length:Int)))) (some false):Option (Bool)).bind (fun (a6:Bool)=>cond (a6) (some 0) ((cond (decide (a2=(↑a_.length:Int))) (some (decide (a2=(↑a_.length:Int)))) (cond (decide (a2<(↑b_.length:Int))) (idx a_ a2 fun a7=>idx b_ a2 fun a8=>some (decide (a7<a8))) (some false)):Option (Bool)).bind (fun (b2:Bool)=>cond (b2) (some (-1:Int)) (some 1))))
def zhq (a_:List Int) (b_:List Int):Option (Int) :=
 cond (decide ((↑a_.length:Int)<(↑b_.length:Int))) (some (-1:Int)) (cond (decide ((↑b_.length:Int)<(↑a_.length:Int))) (some 1) ((zqd a_ b_).bind fun a2=>some a2))
def zfi.s2 (l_:List (List Int)) (w_:List Int) (low84:Nat) (high85:Nat):Option ((Nat×Nat)⊕Nat) :=
 cond (decide ((↑low84:Int)<(↑high85:Int))) (chk (inR ((↑low84:Int)+(↑high85:Int))) (chk (inR (((↑low84:Int)+(↑high85:Int)) / 2)∧(0:Int)≤((↑low84:Int)+(↑high85:Int))∧(1:Int)≤2) (idxn l_ ((low84+high85) / 2) fun a2=>(zhq a2 w_).bind fun a6=>cond (decide (a6<0)) (chk (inR ((((↑low84:Int)+(↑high85:Int)) / 2)+1)) (some (.inl ((((low84+high85) / 2)+1),high85)))) (some (.inl (low84,((low84+high85) / 2))))))) (some (.inr low84))
def zfi (l_:List (List Int)) (w_:List Int):Option (Int) :=
 (iter (fun (s:Nat×Nat)=>zfi.s2 l_ w_ s.1 s.2) fuel (0,l_.length):Option (Nat)).bind (fun (low77:Nat)=>some (↑low77:Int))
def zft.s2 (a8:Int) (a6:List (List Int)) (a2:Int):Option ((List (List Int)×Int)⊕List (List Int)) :=
 cond (decide (a8<a2)) (chk (inR (a2-1)) (idx a6 (a2-1) fun a7=>idx a6 a2 fun b2=>chk (inR (a2-1)) (some (.inl ((List.set a6 a2.toNat a7),(a2-1)))))) (some (.inr a6))
def zft (l_:List (List Int)) (w_:List Int):Option (List (List Int)) :=
 (zfi l_ w_).bind fun a2=>(cond (decide (a2<(↑l_.length:Int))) (idx l_ a2 fun a7=>(zic a7 w_).bind fun a8=>some a8) (some false):Option (Bool)).bind (fun (b2:Bool)=>cond (b2) (some l_) (chk (zaw (List.length l_+1) 24) (chk (inR ((↑(List.length (l_++[[]])):Int)-1)) ((iter (fun (s:List (List Int)×Int)=>zft.s2 a2 s.1 s.2) fuel ((l_++[[]]),((↑(List.length (l_++[[]])):Int)-1)):Option (List (List Int))).bind (fun (a6:List (List Int))=>chk (zaw (List.length ([]:List Unit)+List.length w_) 8) (idx a6 a2 fun b3=>some (List.set a6 a2.toNat ([]++w_))))))))
def zdt.s2 (l_:List (List Int)) (a6:List (List Int)) (a2:Nat):Option ((List (List Int)×Nat)⊕List (List Int)) :=
 cond (decide ((↑a2:Int)<(↑l_.length:Int))) (idxn l_ a2 fun a7=>(zft a6 a7).bind fun a8=>some (.inl (a8,(a2+1)))) (some (.inr a6))
def zdt (l_:List (List Int)):Option (List (List Int)) :=
 (iter (fun (s:List (List Int)×Nat)=>zdt.s2 l_ s.1 s.2) fuel ([],0):Option (List (List Int))).bind (fun (a2:List (List Int))=>some a2)
def zfk.s2 (lists_:List (List (List Int))) (a2:List (List Int)) (a6:Nat):Option ((List (List Int)×Nat)⊕List (List Int)) :=
 cond (decide ((↑a6:Int)<(↑lists_.length:Int))) (idxn lists_ a6 fun a7=>chk (zaw (List.length a2+List.length a7) 24) (some (.inl ((a2++a7),(a6+1))))) (some (.inr a2))
def zfk (lists_:List (List (List Int))):Option (List (List Int)) :=
 (iter (fun (s:List (List Int)×Nat)=>zfk.s2 lists_ s.1 s.2) fuel ([],0):Option (List (List Int))).bind (fun (a2:List (List Int))=>(zdt a2).bind fun a6=>some a6)
def zcy.s2 (l_:List (List Int)) (a6:Int) (a2:Nat):Option ((Int×Nat)⊕Int) :=
 cond (decide ((↑a2:Int)<(↑l_.length:Int))) (idxn l_ a2 fun a7=>some (.inl ((max a6 (↑a7.length:Int)),(a2+1)))) (some (.inr a6))
def zcy (l_:List (List Int)):Option (Int) :=
 (iter (fun (s:Int×Nat)=>zcy.s2 l_ s.1 s.2) fuel (0,0):Option (Int)).bind (fun (a2:Int)=>some a2)
def zcf.s13 (b6:List (List Int)) (b5:List (List Int)) (a8:Nat) (a6:List (List Int)) (a2:Nat):Option ((List (List Int)×Nat)⊕(List (List Int)⊕((List (List Int)×Nat)⊕(List (List Int)⊕(List (List Int)×Int))))) :=
 cond (decide ((↑a2:Int)<(↑b5.length:Int))) (idxn b6 a8 fun b2=>idxn b5 a2 fun b3=>(zf5 [b2,b3]).bind fun b4=>(zft a6 b4).bind fun a7=>cond (decide (10000<(↑a7.length:Int))) (some (.inr (.inr (.inr (.inr ([],11)))))) (some (.inl (a7,(a2+1))))) (some (.inr (.inl a6)))
def zcf.s14 (a8:List (List Int)) (b2:List (List Int)) (a6:List (List Int)) (a2:Nat):Option ((List (List Int)×Nat)⊕(List (List Int)⊕(List (List Int)×Int))) :=
 cond (decide ((↑a2:Int)<(↑a8.length:Int))) ((iter (fun (s:List (List Int)×Nat)=>zcf.s13 a8 b2 a2 s.1 s.2) fuel (a6,0):Option (List (List Int)⊕((List (List Int)×Nat)⊕(List (List Int)⊕(List (List Int)×Int))))).bind (Sum.elim (fun (a7:List (List Int))=>some (.inl (a7,(a2+1)))) some)) (some (.inr (.inl a6)))
def zcf (a_:List (List Int)) (b_:List (List Int)):Option (List (List Int)×Int) :=
 (cond (decide (0<(↑a_.length:Int))) (cond (decide (0<(↑b_.length:Int))) ((zcy a_).bind fun a6=>(zcy b_).bind fun a7=>chk (inR (a6+a7)) (some (decide (1024<(a6+a7))))) (some false)) (some false):Option (Bool)).bind (fun (a8:Bool)=>cond (a8) (some ([],3)) ((zdt a_).bind fun b2=>(zdt b_).bind fun b3=>(iter (fun (s:List (List Int)×Nat)=>zcf.s14 b2 b3 s.1 s.2) fuel ([],0):Option (List (List Int)⊕(List (List Int)×Int))).bind (Sum.elim (fun (a2:List (List Int))=>some (a2,0)) some)))
def zgo (w_:List Int) (p_:List Int):Option (Bool) :=
 (zed w_ p_).bind fun a2=>some (decide (a2=(↑p_.length:Int)))
def zck.s13 (a6:List (List Int)) (a7:Nat) (top412:Bool) (a2:Nat):Option ((Bool×Nat)⊕Bool) :=
 cond (decide ((↑a2:Int)<(↑a6.length:Int))) (cond (top412) (idxn a6 a2 fun a8=>idxn a6 a7 fun b2=>cond (decide ((↑a8.length:Int)=(↑b2.length:Int))) (some (.inl (true,(a2+1)))) (idxn a6 a2 fun b3=>idxn a6 a7 fun b4=>(zgo b3 b4).bind fun b5=>some (.inl ((!b5),(a2+1))))) (some (.inl (false,(a2+1))))) (some (.inr top412))
def zck.s14 (a7:List (List Int)) (a6:List (List Int)) (a2:Nat):Option ((List (List Int)×Nat)⊕List (List Int)) :=
 cond (decide ((↑a2:Int)<(↑a7.length:Int))) ((iter (fun (s:Bool×Nat)=>zck.s13 a7 a2 s.1 s.2) fuel (true,(a2+1)):Option (Bool)).bind (fun (top404:Bool)=>cond (top404) (idxn a7 a2 fun a8=>chk (zaw (List.length a6+1) 24) (some (.inl ((a6++[a8]),(a2+1))))) (some (.inl (a6,(a2+1)))))) (some (.inr a6))
def zck (l_:List (List Int)):Option (List (List Int)) :=
 (zdt l_).bind fun a6=>(iter (fun (s:List (List Int)×Nat)=>zck.s14 a6 s.1 s.2) fuel ([],0):Option (List (List Int))).bind (fun (a2:List (List Int))=>some a2)
def zfy.s2 (m_:zaa) (s_:Int) (a2:Nat):Option (Nat⊕(Unit⊕Int)) :=
 cond (decide ((↑a2:Int)<m_.Inputs)) ((idx m_.Next s_ fun a6=>idxn a6 a2 fun a7=>cond (decide (a7<0)) (some true) (idx m_.Next s_ fun a8=>idxn a8 a2 fun b2=>cond (decide ((↑m_.Next.length:Int)≤b2)) (some true) (idx m_.Out s_ fun b3=>idxn b3 a2 fun b4=>cond (decide (b4<0)) (some true) (idx m_.Out s_ fun b5=>idxn b5 a2 fun b6=>some (decide (1048576<b6))))):Option (Bool)).bind (fun (b7:Bool)=>cond (b7) (some (.inr (.inr 2))) (chk (inR ((↑a2:Int)+1)) (some (.inl (a2+1)))))) (some (.inr (.inl ())))
def zfy (m_:zaa) (s_:Int):Option (Int) :=
 (idx m_.Next s_ fun a2=>cond (decide ((↑a2.length:Int)≠m_.Inputs)) (some true) (idx m_.Out s_ fun a6=>some (decide ((↑a6.length:Int)≠m_.Inputs))):Option (Bool)).bind (fun (a7:Bool)=>cond (a7) (some 1) ((iter (fun (s:Nat)=>zfy.s2 m_ s_ s) fuel 0:Option (Unit⊕Int)).bind (Sum.elim (fun (_:Unit)=>some 0) some)))
def zci.s2 (m_:zaa) (a2:Nat):Option (Nat⊕(Unit⊕Int)) :=
 cond (decide ((↑a2:Int)<(↑m_.Next.length:Int))) ((zfy m_ (↑a2:Int)).bind fun a6=>cond (decide (a6≠0)) (some (.inr (.inr a6))) (some (.inl (a2+1)))) (some (.inr (.inl ())))
def zci (m_:zaa):Option (Int) :=
 (cond (decide (m_.Inputs<1)) (some true) (some (decide (64<m_.Inputs))):Option (Bool)).bind (fun (a2:Bool)=>cond (a2) (some 2) (cond (decide ((↑m_.Next.length:Int)=0)) (some 19) (cond (decide (128<(↑m_.Next.length:Int))) (some 11) ((cond (decide (m_.Start<0)) (some true) (some (decide ((↑m_.Next.length:Int)≤m_.Start))):Option (Bool)).bind (fun (a6:Bool)=>cond (a6) (some 2) (cond (decide ((↑m_.Out.length:Int)≠(↑m_.Next.length:Int))) (some 1) ((iter (fun (s:Nat)=>zci.s2 m_ s) fuel 0:Option (Unit⊕Int)).bind (Sum.elim (fun (_:Unit)=>some 0) some))))))))
def zbx.s89 (m_:zaa) (class_:List Int) (a6:Nat) (a7:Int) (same5139:Bool) (a2:Nat):Option ((Bool×Nat)⊕Bool) :=
 (cond (decide ((↑a2:Int)<m_.Inputs)) (some same5139) (some false):Option (Bool)).bind (fun (a8:Bool)=>cond (a8) (idxn m_.Out a6 fun b2=>idxn b2 a2 fun b3=>idx m_.Out a7 fun b4=>idxn b4 a2 fun b5=>cond (decide (b3=b5)) (idxn m_.Next a6 fun b6=>idxn b6 a2 fun b7=>idx class_ b7 fun b8=>idx m_.Next a7 fun b9=>idxn b9 a2 fun c0=>idx class_ c0 fun c6=>chk (inR ((↑a2:Int)+1)) (some (.inl (decide (b8=c6),(a2+1))))) (chk (inR ((↑a2:Int)+1)) (some (.inl (false,(a2+1)))))) (some (.inr same5139)))
def zbx.s90 (m_:zaa) (class_:List Int) (a7:List Int) (a6:Nat) (found4903:Int) (a2:Int):Option ((Int×Int)⊕Int) :=
 cond (decide (0≤a2)) (idxn class_ a6 fun a8=>idx class_ a2 fun b2=>(iter (fun (s:Bool×Nat)=>zbx.s89 m_ class_ a6 a2 s.1 s.2) fuel (decide (a8=b2),0):Option (Bool)).bind (fun (same5119:Bool)=>cond (same5119) (idx a7 a2 fun b3=>chk (inR (a2-1)) (some (.inl (b3,(a2-1))))) (chk (inR (a2-1)) (some (.inl (found4903,(a2-1))))))) (some (.inr found4903))
def zbx.k91 (a2:List Int) (a6:Nat) (count5200:Nat) (found5201:Int):Option ((List Int×Nat×Nat)⊕List Int) :=
 chk (zaw (List.length a2+1) 8) (some (.inl ((a2++[found5201]),count5200,(a6+1))))
def zbx.s92 (m_:zaa) (class_:List Int) (a6:List Int) (count3444:Nat) (a2:Nat):Option ((List Int×Nat×Nat)⊕List Int) :=
 cond (decide ((↑a2:Int)<(↑class_.length:Int))) ((iter (fun (s:Int×Int)=>zbx.s90 m_ class_ a6 a2 s.1 s.2) fuel ((-1:Int),((↑a2:Int)-1)):Option (Int)).bind (fun (found4761:Int)=>(cond (decide (found4761<0)) (chk (inR ((↑count3444:Int)+1)) (some ((count3444+1),(↑count3444:Int)))) (some (count3444,found4761)):Option (Nat×Int)).bind (fun (s:Nat×Int)=>zbx.k91 a6 a2 s.1 s.2))) (some (.inr a6))
def zbx (m_:zaa) (class_:List Int):Option (List Int) :=
 (iter (fun (s:List Int×Nat×Nat)=>zbx.s92 m_ class_ s.1 s.2.1 s.2.2) fuel ([],0,0):Option (List Int)).bind (fun (a2:List Int)=>some a2)
def zc6.s2 (m_:zaa) (k_:Int) (class94:List Int) (a2:Nat):Option ((List Int×Nat)⊕List Int) :=
 (cond (decide ((↑a2:Int)<k_)) (some (decide ((↑a2:Int)<(↑m_.Next.length:Int)))) (some false):Option (Bool)).bind (fun (a6:Bool)=>cond (a6) ((zbx m_ class94).bind fun a7=>chk (inR ((↑a2:Int)+1)) (some (.inl (a7,(a2+1))))) (some (.inr class94)))
def zc6 (m_:zaa) (k_:Int):Option (List Int×Int) :=
 (zci m_).bind fun a2=>cond (decide (a2≠0)) (some ([],a2)) (chk ((0:Int)≤(↑m_.Next.length:Int)∧(↑m_.Next.length:Int)≤(↑m_.Next.length:Int)∧zaw (Int.toNat (↑m_.Next.length:Int)) 8) ((iter (fun (s:List Int×Nat)=>zc6.s2 m_ k_ s.1 s.2) fuel ((List.replicate m_.Next.length (0:Int)),0):Option (List Int)).bind (fun (class85:List Int)=>some (class85,0))))
def zhx (m_:zaa):Option (List Int×Int) :=
 (zc6 m_ (↑m_.Next.length:Int)).bind fun a2=>some (a2.1,a2.2)
def zca.s2 (a2:List Int) (a6:Nat):Option ((List Int×Nat)⊕List Int) :=
 cond (decide ((↑a6:Int)<(↑a2.length:Int))) (idxn a2 a6 fun a7=>some (.inl ((List.set a2 a6 (-1:Int)),(a6+1)))) (some (.inr a2))
def zca.k55 (m_:zaa) (c0:List Int×Int) (b3:Nat) (a6:List Int) (a7:List Int) (a2:Nat) (b4:Int) (a8:List Int) (b2:List Int):Option ((List Int×List Int×List Int×List Int×Nat)⊕(List Int×List Int×List Int×List Int)) :=
 idx c0.1 b4 fun b5=>idx b2 b5 fun b6=>chk (zaw (List.length a6+1) 8) (idxn a8 b3 fun b7=>idx m_.Out b7 fun b8=>idxn b8 a2 fun b9=>chk (zaw (List.length a7+1) 8) (chk (inR ((↑a2:Int)+1)) (some (.inl (a8,b2,(a6++[b6]),(a7++[b9]),(a2+1))))))
def zca.s56 (m_:zaa) (c0:List Int×Int) (b2:Nat) (a2:List Int) (a6:List Int) (b3:List Int) (b4:List Int) (a8:Nat):Option ((List Int×List Int×List Int×List Int×Nat)⊕(List Int×List Int×List Int×List Int)) :=
 cond (decide ((↑a8:Int)<m_.Inputs)) (idxn a2 b2 fun b6=>idx m_.Next b6 fun b7=>idxn b7 a8 fun a7=>(idx c0.1 a7 fun b8=>idx a6 b8 fun b9=>cond (decide (b9<0)) (idx c0.1 a7 fun b5=>idx a6 b5 fun c6=>chk (zaw (List.length a2+1) 8) (some ((a2++[a7]),(List.set a6 b5.toNat (↑a2.length:Int))))) (some (a2,a6)):Option (List Int×List Int)).bind (fun (s:List Int×List Int)=>zca.k55 m_ c0 b2 b3 b4 a8 a7 s.1 s.2)) (some (.inr (a2,a6,b3,b4)))
def zca.k57 (a2:List (List Int)) (a6:List (List Int)) (a7:Nat) (a8:List Int) (b2:List Int) (b3:List Int) (b4:List Int):Option ((List Int×List Int×List (List Int)×List (List Int)×Nat)⊕(List (List Int)×List (List Int))) :=
 chk (zaw (List.length a2+1) 24) (chk (zaw (List.length a6+1) 24) (some (.inl (a8,b2,(a2++[b3]),(a6++[b4]),(a7+1)))))
def zca.s58 (m_:zaa) (b3:List Int×Int) (a6:List Int) (b2:List Int) (a7:List (List Int)) (a8:List (List Int)) (a2:Nat):Option ((List Int×List Int×List (List Int)×List (List Int)×Nat)⊕(List (List Int)×List (List Int))) :=
 cond (decide ((↑a2:Int)<(↑a6.length:Int))) ((iter (fun (s:List Int×List Int×List Int×List Int×Nat)=>zca.s56 m_ b3 a2 s.1 s.2.1 s.2.2.1 s.2.2.2.1 s.2.2.2.2) fuel (a6,b2,[],[],0):Option (List Int×List Int×List Int×List Int)).bind (fun (s:List Int×List Int×List Int×List Int)=>zca.k57 a7 a8 a2 s.1 s.2.1 s.2.2.1 s.2.2.2)) (some (.inr (a7,a8)))
def zca.k59 (m_:zaa) (a2:List (List Int)) (a6:List (List Int)):Option (zaa×Int) :=
 some ((⟨m_.Inputs,0,a2,a6⟩:zaa),0)
def zca (m_:zaa):Option (zaa×Int) :=
 (zhx m_).bind fun a2=>cond (decide (a2.2≠0)) (some ((⟨0,0,[],[]⟩:zaa),a2.2)) (chk ((0:Int)≤(↑m_.Next.length:Int)∧(↑m_.Next.length:Int)≤(↑m_.Next.length:Int)∧zaw (Int.toNat (↑m_.Next.length:Int)) 8) ((iter (fun (s:List Int×Nat)=>zca.s2 s.1 s.2) fuel ((List.replicate m_.Next.length (0:Int)),0):Option (List Int)).bind (fun (a6:List Int)=>idx a2.1 m_.Start fun a7=>idx a6 a7 fun a8=>(iter (fun (s:List Int×List Int×List (List Int)×List (List Int)×Nat)=>zca.s58 m_ a2 s.1 s.2.1 s.2.2.1 s.2.2.2.1 s.2.2.2.2) fuel ([m_.Start],(List.set a6 a7.toNat 0),[],[],0):Option (List (List Int)×List (List Int))).bind (fun (s:List (List Int)×List (List Int))=>zca.k59 m_ s.1 s.2))))
def zha.s2 (l_:List Int) (n_:Int) (a2:Nat):Option (Nat⊕(Unit⊕Bool)) :=
 cond (decide ((↑a2:Int)<(↑l_.length:Int))) (idxn l_ a2 fun a6=>cond (decide (a6=n_)) (some (.inr (.inr true))) (some (.inl (a2+1)))) (some (.inr (.inl ())))
def zha (l_:List Int) (n_:Int):Option (Bool) :=
 (iter (fun (s:Nat)=>zha.s2 l_ n_ s) fuel 0:Option (Unit⊕Bool)).bind (Sum.elim (fun (_:Unit)=>some false) some)
def zfn (w_:List Int) (a_:Int):Option (List Int) :=
 chk (zaw w_.length 8) (chk (zaw (List.length w_+1) 8) (some (w_++[a_])))
def zb3.s18 (m_:zaa) (a8:Nat) (a6:List Int) (a7:List (List Int)) (a2:Nat):Option ((List Int×List (List Int)×Nat)⊕(List Int×List (List Int))) :=
 cond (decide ((↑a2:Int)<m_.Inputs)) (idxn a6 a8 fun b3=>idx m_.Next b3 fun b4=>idxn b4 a2 fun b2=>(zha a6 b2).bind fun b5=>cond ((!b5)) (chk (zaw (List.length a6+1) 8) (idxn a7 a8 fun b6=>(zfn b6 (↑a2:Int)).bind fun b7=>chk (zaw (List.length a7+1) 24) (chk (inR ((↑a2:Int)+1)) (some (.inl ((a6++[b2]),(a7++[b7]),(a2+1))))))) (chk (inR ((↑a2:Int)+1)) (some (.inl (a6,a7,(a2+1)))))) (some (.inr (a6,a7)))
def zb3.k19 (a2:Nat) (a6:List Int) (a7:List (List Int)):Option ((List Int×List (List Int)×Nat)⊕(List Int×List (List Int))) :=
 some (.inl (a6,a7,(a2+1)))
def zb3.s20 (m_:zaa) (a2:List Int) (a7:List (List Int)) (a6:Nat):Option ((List Int×List (List Int)×Nat)⊕(List Int×List (List Int))) :=
 cond (decide ((↑a6:Int)<(↑a2.length:Int))) ((iter (fun (s:List Int×List (List Int)×Nat)=>zb3.s18 m_ a6 s.1 s.2.1 s.2.2) fuel (a2,a7,0):Option (List Int×List (List Int))).bind (fun (s:List Int×List (List Int))=>zb3.k19 a6 s.1 s.2)) (some (.inr (a2,a7)))
def zb3.k21 (a2:List Int) (a6:List (List Int)):Option (List Int×List (List Int)×Int) :=
 some (a2,a6,0)
def zb3 (m_:zaa):Option (List Int×List (List Int)×Int) :=
 (zci m_).bind fun a2=>cond (decide (a2≠0)) (some ([],[],a2)) ((iter (fun (s:List Int×List (List Int)×Nat)=>zb3.s20 m_ s.1 s.2.1 s.2.2) fuel ([m_.Start],[[]],0):Option (List Int×List (List Int))).bind (fun (s:List Int×List (List Int))=>zb3.k21 s.1 s.2))
def zfz (m_:zaa):Option (List (List Int)×Int) :=
 (zb3 m_).bind fun a2=>some (a2.2.1,a2.2.2)
def znp (inputs_:Int):Option (Bool) :=
 (cond (decide (1≤inputs_)) (some (decide (inputs_≤1024))) (some false):Option (Bool)).bind (fun (a2:Bool)=>some a2)
def zer.s2 (w_:List Int) (inputs_:Int) (a2:Nat):Option (Nat⊕(Unit⊕Int)) :=
 cond (decide ((↑a2:Int)<(↑w_.length:Int))) ((idxn w_ a2 fun a6=>cond (decide (a6<0)) (some true) (idxn w_ a2 fun a7=>some (decide (inputs_≤a7))):Option (Bool)).bind (fun (a8:Bool)=>cond (a8) (some (.inr (.inr 1))) (some (.inl (a2+1))))) (some (.inr (.inl ())))
def zer (w_:List Int) (inputs_:Int):Option (Int) :=
 (znp inputs_).bind fun a2=>cond ((!a2)) (some 2) (cond (decide (1024<(↑w_.length:Int))) (some 3) ((iter (fun (s:Nat)=>zer.s2 w_ inputs_ s) fuel 0:Option (Unit⊕Int)).bind (Sum.elim (fun (_:Unit)=>some 0) some)))
def zeq.s2 (m_:zaa) (w_:List Int) (s90:Int) (a6:List Int) (a2:Nat):Option ((Int×List Int×Nat)⊕(Int×List Int)) :=
 cond (decide ((↑a2:Int)<(↑w_.length:Int))) (idx m_.Out s90 fun a7=>idxn w_ a2 fun a8=>idx a7 a8 fun b2=>chk (zaw (List.length a6+1) 8) (idx m_.Next s90 fun b3=>idxn w_ a2 fun b4=>idx b3 b4 fun b5=>some (.inl (b5,(a6++[b2]),(a2+1))))) (some (.inr (s90,a6)))
def zeq.k3 (a2:Int) (a6:List Int):Option (List Int×Int) :=
 some (a6,a2)
def zeq (m_:zaa) (s_:Int) (w_:List Int):Option (List Int×Int) :=
 (iter (fun (s:Int×List Int×Nat)=>zeq.s2 m_ w_ s.1 s.2.1 s.2.2) fuel (s_,[],0):Option (Int×List Int)).bind (fun (s:Int×List Int)=>zeq.k3 s.1 s.2)
def zne (m_:zaa) (s_:Int) (w_:List Int):Option (List Int×Int×Int) :=
 (zci m_).bind fun a2=>cond (decide (a2≠0)) (some ([],0,a2)) ((cond (decide (s_<0)) (some true) (some (decide ((↑m_.Next.length:Int)≤s_))):Option (Bool)).bind (fun (a8:Bool)=>cond (a8) (some ([],0,2)) ((zer w_ m_.Inputs).bind fun a6=>cond (decide (a6≠0)) (some ([],0,a6)) ((zeq m_ s_ w_).bind fun a7=>some (a7.1,a7.2,0)))))
def znj (m_:zaa) (s_:Int) (w_:List Int):Option (List Int) :=
 (zne m_ s_ w_).bind fun a2=>some a2.1
def ze6.s2 (a_:List Int) (b_:List Int) (a2:Nat):Option (Nat⊕(Unit⊕Bool)) :=
 cond (decide ((↑a2:Int)<(↑a_.length:Int))) (idxn a_ a2 fun a6=>idxn b_ a2 fun a7=>cond (decide (a6≠a7)) (some (.inr (.inr false))) (some (.inl (a2+1)))) (some (.inr (.inl ())))
def ze6 (a_:List Int) (b_:List Int):Option (Bool) :=
 cond (decide ((↑a_.length:Int)≠(↑b_.length:Int))) (some false) ((iter (fun (s:Nat)=>ze6.s2 a_ b_ s) fuel 0:Option (Unit⊕Bool)).bind (Sum.elim (fun (_:Unit)=>some true) some))
def zhc (m_:zaa) (s_:Int) (t_:Int) (w_:List Int):Option (Bool) :=
 (znj m_ s_ w_).bind fun a2=>(znj m_ t_ w_).bind fun a6=>(ze6 a2 a6).bind fun a7=>some (!a7)
def zf2.s2 (m_:zaa) (s_:Int) (t_:Int) (words_:List (List Int)) (a2:Nat):Option (Nat⊕(Unit⊕Bool)) :=
 cond (decide ((↑a2:Int)<(↑words_.length:Int))) (idxn words_ a2 fun a6=>(zhc m_ s_ t_ a6).bind fun a7=>cond (a7) (some (.inr (.inr true))) (some (.inl (a2+1)))) (some (.inr (.inl ())))
def zf2 (m_:zaa) (s_:Int) (t_:Int) (words_:List (List Int)):Option (Bool) :=
 (iter (fun (s:Nat)=>zf2.s2 m_ s_ t_ words_ s) fuel 0:Option (Unit⊕Bool)).bind (Sum.elim (fun (_:Unit)=>some false) some)
def zhu (m_:zaa):Option (Bool) :=
 (zca m_).bind fun a2=>(cond (decide (a2.2=0)) (some (decide ((↑a2.1.Next.length:Int)=(↑m_.Next.length:Int)))) (some false):Option (Bool)).bind (fun (a6:Bool)=>some a6)
def zle (m_:zaa):Option (Int) :=
 (zci m_).bind fun a2=>cond (decide (a2≠0)) (some a2) ((zhu m_).bind fun a6=>cond ((!a6)) (some 1) (some 0))
def zcg.s84 (a6:List zat) (a7:Int) (a8:Int) (known2308:Bool) (a2:Nat):Option ((Bool×Nat)⊕Bool) :=
 cond (decide ((↑a2:Int)<(↑a6.length:Int))) (cond (known2308) (some (.inl (true,(a2+1)))) (idxn a6 a2 fun b2=>cond (decide (b2.S=a7)) (idxn a6 a2 fun b3=>some (.inl (decide (b3.T=a8),(a2+1)))) (some (.inl (false,(a2+1)))))) (some (.inr known2308))
def zcg.s85 (a_:zaa) (b_:zaa) (a7:Nat) (a2:List zat) (a6:Nat):Option ((List zat×Nat)⊕(List zat⊕((List zat×Nat)⊕(Unit⊕(List Int×Bool))))) :=
 cond (decide ((↑a6:Int)<a_.Inputs)) (idxn a2 a7 fun b4=>(zfn b4.Word (↑a6:Int)).bind fun a8=>idxn a2 a7 fun b5=>idx a_.Out b5.S fun b6=>idxn b6 a6 fun b7=>idxn a2 a7 fun b8=>idx b_.Out b8.T fun b9=>idxn b9 a6 fun c0=>cond (decide (b7≠c0)) (some (.inr (.inr (.inr (.inr (a8,true)))))) (idxn a2 a7 fun c6=>idx a_.Next c6.S fun c7=>idxn c7 a6 fun b2=>idxn a2 a7 fun c8=>idx b_.Next c8.T fun c9=>idxn c9 a6 fun b3=>(iter (fun (s:Bool×Nat)=>zcg.s84 a2 b2 b3 s.1 s.2) fuel (false,0):Option (Bool)).bind (fun (known2303:Bool)=>cond ((!known2303)) (chk (zaw (List.length a2+1) 40) (chk (inR ((↑a6:Int)+1)) (some (.inl ((a2++[(⟨b2,b3,a8⟩:zat)]),(a6+1)))))) (chk (inR ((↑a6:Int)+1)) (some (.inl (a2,(a6+1)))))))) (some (.inr (.inl a2)))
def zcg.s86 (a_:zaa) (b_:zaa) (a6:List zat) (a2:Nat):Option ((List zat×Nat)⊕(Unit⊕(List Int×Bool))) :=
 cond (decide ((↑a2:Int)<(↑a6.length:Int))) ((iter (fun (s:List zat×Nat)=>zcg.s85 a_ b_ a2 s.1 s.2) fuel (a6,0):Option (List zat⊕((List zat×Nat)⊕(Unit⊕(List Int×Bool))))).bind (Sum.elim (fun (a7:List zat)=>some (.inl (a7,(a2+1)))) some)) (some (.inr (.inl ())))
def zcg (a_:zaa) (b_:zaa) (s_:Int) (t_:Int):Option (List Int×Bool) :=
 (iter (fun (s:List zat×Nat)=>zcg.s86 a_ b_ s.1 s.2) fuel ([(⟨s_,t_,[]⟩:zat)],0):Option (Unit⊕(List Int×Bool))).bind (Sum.elim (fun (_:Unit)=>some ([],false)) some)
def zi3 (m_:zaa) (s_:Int) (t_:Int):Option (List Int×Bool×Int) :=
 (zci m_).bind fun a2=>cond (decide (a2≠0)) (some ([],false,a2)) ((cond (decide (s_<0)) (some true) (cond (decide ((↑m_.Next.length:Int)≤s_)) (some true) (cond (decide (t_<0)) (some true) (some (decide ((↑m_.Next.length:Int)≤t_))))):Option (Bool)).bind (fun (a7:Bool)=>cond (a7) (some ([],false,2)) ((zcg m_ m_ s_ t_).bind fun a6=>some (a6.1,a6.2,0))))
def zcj.s13 (m_:zaa) (a7:Nat) (a2:List (List Int)) (a6:Nat):Option ((List (List Int)×Nat)⊕List (List Int)) :=
 cond (decide ((↑a6:Int)<(↑m_.Next.length:Int))) ((zf2 m_ (↑a7:Int) (↑a6:Int) a2).bind fun a8=>cond ((!a8)) ((zi3 m_ (↑a7:Int) (↑a6:Int)).bind fun b2=>chk (zaw (List.length a2+1) 24) (some (.inl ((a2++[b2.1]),(a6+1))))) (some (.inl (a2,(a6+1))))) (some (.inr a2))
def zcj.s14 (m_:zaa) (a6:List (List Int)) (a2:Nat):Option ((List (List Int)×Nat)⊕List (List Int)) :=
 cond (decide ((↑a2:Int)<(↑m_.Next.length:Int))) ((iter (fun (s:List (List Int)×Nat)=>zcj.s13 m_ a2 s.1 s.2) fuel (a6,(a2+1)):Option (List (List Int))).bind (fun (a7:List (List Int))=>some (.inl (a7,(a2+1))))) (some (.inr a6))
def zcj (m_:zaa):Option (List (List Int)×Int) :=
 (zle m_).bind fun a7=>cond (decide (a7≠0)) (some ([],a7)) ((iter (fun (s:List (List Int)×Nat)=>zcj.s14 m_ s.1 s.2) fuel ([],0):Option (List (List Int))).bind (fun (a2:List (List Int))=>(zdt a2).bind fun a6=>some (a6,0)))
def zce.s13 (b3:zaa×Int) (b4:List (List Int)×Int) (a7:Nat) (a6:List (List Int)) (a2:Nat):Option ((List (List Int)×Nat)⊕List (List Int)) :=
 cond (decide ((↑a2:Int)<b3.1.Inputs)) (idxn b4.1 a7 fun a8=>(zf5 [a8,[(↑a2:Int)]]).bind fun b2=>chk (zaw (List.length a6+1) 24) (chk (inR ((↑a2:Int)+1)) (some (.inl ((a6++[b2]),(a2+1)))))) (some (.inr a6))
def zce.s14 (b2:zaa×Int) (a8:List (List Int)×Int) (a6:List (List Int)) (a2:Nat):Option ((List (List Int)×Nat)⊕List (List Int)) :=
 cond (decide ((↑a2:Int)<(↑a8.1.length:Int))) ((iter (fun (s:List (List Int)×Nat)=>zce.s13 b2 a8 a2 s.1 s.2) fuel (a6,0):Option (List (List Int))).bind (fun (a7:List (List Int))=>some (.inl (a7,(a2+1))))) (some (.inr a6))
def zce (m_:zaa):Option (List (List Int)×Int) :=
 (zci m_).bind fun b6=>cond (decide (b6≠0)) ((zci m_).bind fun b7=>some ([],b7)) ((zca m_).bind fun a8=>(zfz a8.1).bind fun b5=>(iter (fun (s:List (List Int)×Nat)=>zce.s14 a8 b5 s.1 s.2) fuel ([],0):Option (List (List Int))).bind (fun (a6:List (List Int))=>(zcj a8.1).bind fun a7=>(cond (decide ((↑a7.1.length:Int)=0)) (some [[]]) (some a7.1):Option (List (List Int))).bind (fun (b2:List (List Int))=>(zfk [b5.1,a6]).bind fun b3=>(zcf b3 b2).bind fun a2=>cond (decide (a2.2≠0)) (some ([],a2.2)) (chk (zaw (List.length a2.1+List.length a6) 24) ((zck (a2.1++a6)).bind fun b4=>some (b4,0))))))
def ze8 (m_:zaa):Option (Bool) :=
 (zc4 m_).bind fun a7=>cond (a7) ((zks).bind fun a8=>some a8) ((zev m_).bind fun a2=>(zce m_).bind fun a6=>((zcc a2.1 a6.1).bind fun b2=>cond (b2) (cond (decide (a2.2=a6.2)) ((zks).bind fun b3=>some b3) (some false)) (some false):Option (Bool)).bind (fun (b4:Bool)=>some b4))
end
section
section
variable {S R A B α β:Type}
theorem zbi {step:S→Option (S⊕R)} (I:S→Prop) (m:S→Nat) (Q:R→Prop) (h:∀ s,I s→(∃ s',step s=some (.inl s')∧I s'∧m s'<m s)∨∃ r,step s=some (.inr r)∧Q r) :
  ∀ (n:Nat) (s:S),I s→m s<n→∃ r,iter step n s=some r∧Q r
 | 0,_,_,hm=>absurd hm (Nat.not_lt_zero _)
 | n+1,s,hi,hm=>by
  unfold iter;rcases h s hi with ⟨s',e,hi',hm'⟩ | ⟨r,e,hq⟩
  ·rw [e];exact zbi I m Q h n s' hi' (by omega)
  ·rw [e];exact ⟨r,rfl,hq⟩
theorem zdx {step:S→Option (S⊕R)} {r:R} (I:S→Prop) (m:S→Nat) (h:∀ s,I s→(∃ s',step s=some (.inl s')∧I s'∧m s'<m s)∨step s=some (.inr r)) {n:Nat} {s:S} (hi:I s) (hm:m s<n):iter step n s=some r:=by
 obtain ⟨r',e,rfl⟩:=zbi I m (fun r'=>r'=r) (fun s hs=>(h s hs).imp id fun e=>⟨r,e,rfl⟩) n s hi hm;exact e
def walk (g:A→Nat→α→Option (A⊕R)) (fin:A→Option R):A→Nat→List α→Option R
 | a,_,[]=>fin a
 | a,i,x::l=>(g a i x).bind (Sum.elim (fun a'=>walk g fin a' (i+1) l) some)
theorem zam {l:List α} {i:Nat} {x:α} {k:α→Option β} (h:l[i]?=some x):idxn l i k=k x:=by unfold idxn;rw [h]
theorem zbw {l:List α} {n:Int} {i:Nat} {x:α} {k:α→Option β} (hn:n=(i:Int)) (h:l[i]?=some x):idx l n k=k x:=by
 subst hn;unfold idx;rw [if_pos (by omega),Int.toNat_natCast,h]
theorem zas {c:Prop} [Decidable c] {k:Option α} (h:c):chk c k=k:=by unfold chk;rw [if_pos h]
theorem zaq {a:α} {f:α→Option β}:(some a).bind f=f a:=(Option.bind_some a f).trans (Eq.trans rfl rfl)
theorem za2:100000000000000<fuel:=by unfold fuel;omega
theorem zei {l:List α} {i:Nat} {x:α} (h:l[i]?=some x):decide ((↑i:Int)<(↑l.length:Int))=true:=by
 have:=(zkI.1 h).1;simpa using this
theorem zhp (l:List α):decide ((↑l.length:Int)<(↑l.length:Int))=false:=by simp
def scan (g:Nat→α→Option R):Nat→List α→Option R
 | _,[]=>none
 | i,x::l=>match g i x with | some r=>some r | none=>scan g (i+1) l
theorem zg4 {g:Nat→α→Option R}:∀ {l:List α} {j:Nat},scan g j l=none↔∀ i x,l[i]?=some x→g (j+i) x=none
 | [],j=>by simp [scan]
 | y::l,j=>by
  constructor
  ·intro h i x hx;unfold scan at h;cases e:g j y with
   | some r=>rw [e] at h;cases h
   | none =>
    rw [e] at h
    match i,hx with
    | 0,hx =>
     simp at hx;subst hx;exact e
    | i+1,hx =>
     have:=(zg4 (g:=g) (l:=l) (j:=j+1)).1 h i x (by simpa using hx)
     rwa [show j+1+i=j+(i+1) by omega] at this
  ·intro h;unfold scan;have h0:=h 0 y rfl;rw [Nat.add_zero] at h0;rw [h0]
   exact (zg4 (g:=g) (l:=l) (j:=j+1)).2 fun i x hx=>by
    have:=h (i+1) x (by simpa using hx)
    rwa [show j+(i+1)=j+1+i by omega] at this
theorem zfh {step:Nat→Option (Nat⊕(Unit⊕R))} {l:List α} (g:Nat→α→Option R) (h1:∀ i x,l[i]?=some x→step i=some (match g i x with | some r=>.inr (.inr r) | none=>.inl (i+1))) (h2:step l.length=some (.inr (.inl ()))) (hl:l.length≤100000000000000) :
  iter step fuel 0=some (match scan g 0 l with | some r=>.inr r | none=>.inl ()):=by
 have key:∀ (n i:Nat),i≤l.length→l.length-i<n→iter step n i=some (match scan g i (l.drop i) with | some r=>.inr r | none=>.inl ()):=by
  intro n
  induction n with
  | zero=>intro i _ h;omega
  | succ n ih =>
   intro i hi hn;rcases Nat.lt_or_ge i l.length with h | h
   ·rw [List.drop_eq_getElem_cons h];unfold iter scan;rw [h1 i _ (zkM h)];cases g i l[i] with
    | some r=>rfl
    | none=>exact ih (i+1) h (by omega)
   ·have e:i=l.length:=by omega
    subst e;rw [List.drop_length];unfold iter scan;rw [h2]
 exact key fuel 0 (Nat.zero_le _) (by have:=za2;omega)
def foldi (f:A→Nat→α→A):A→Nat→List α→A
 | a,_,[]=>a
 | a,i,x::l=>foldi f (f a i x) (i+1) l
theorem iter_fold {step:A×Nat→Option ((A×Nat)⊕R)} {l:List α} (f:A→Nat→α→A) (fin:A→R) (Inv:A→Nat→Prop) (h1:∀ a i x,Inv a i→l[i]?=some x→step (a,i)=some (.inl (f a i x,i+1))∧Inv (f a i x) (i+1))
  (h2:∀ a,Inv a l.length→step (a,l.length)=some (.inr (fin a))) (hl:l.length≤100000000000000) {a0:A} (h0:Inv a0 0):iter step fuel (a0,0)=some (fin (foldi f a0 0 l))∧Inv (foldi f a0 0 l) l.length:=by
 have key:∀ (n i:Nat) (a:A),Inv a i→i≤l.length→l.length-i<n→iter step n (a,i)=some (fin (foldi f a i (l.drop i)))∧Inv (foldi f a i (l.drop i)) l.length:=by
  intro n
  induction n with
  | zero=>intro i _ _ _ h;omega
  | succ n ih =>
   intro i a hv hi hn;rcases Nat.lt_or_ge i l.length with h | h
   ·rw [List.drop_eq_getElem_cons h];unfold iter foldi;obtain ⟨e,hv'⟩:=h1 a i _ hv (zkM h);rw [e];exact ih (i+1) _ hv' h (by omega)
   ·have e:i=l.length:=by omega
    subst e;rw [List.drop_length];unfold iter foldi;rw [h2 a hv];exact ⟨rfl,hv⟩
 exact key fuel 0 a0 h0 (Nat.zero_le _) (by have:=za2;omega)
theorem foldi_eq {f:A→α→A}:∀ (l:List α) (a:A) (i:Nat),foldi (fun a _ x=>f a x) a i l=l.foldl f a
 | [],_,_=>rfl
 | x::l,a,i=>by unfold foldi;exact foldi_eq l (f a x) (i+1)
end
end
section
open Go.RowKit
theorem zif (x y:Int):cmp_Compare_int x y=some (cmpI x y):=by
 unfold cmp_Compare_int cmp_isNaN_int cmpI;by_cases h1:x<y
 ·simp [h1]
 ·by_cases h2:y<x<;>simp [h1,h2]
theorem zi5 (s t:List Int) (hs:s.length≤100000000000000):zbf s t=some (lexI s t):=by
 have key:=zbi (step:=fun k=>zbf.s2 s t k) (fun k=>k≤s.length∧k≤t.length∧lexI s t=lexI (s.drop k) (t.drop k)) (fun k=>s.length-k)
  (fun r=>Sum.elim (fun (_:Unit)=>cond (decide ((↑s.length:Int)<(↑t.length:Int))) (some (-1:Int)) (some 0)) some r=some (lexI s t)) (fun k ⟨h1,h2,h3⟩=>by
   unfold zbf.s2
   rcases Nat.lt_or_ge k s.length with h | h
   ·have hx:=zkM h
    rw [zei hx,zkD,zam hx]
    by_cases h4:t.length≤k
    ·right
     refine ⟨.inr 1,by simp [h4],?_⟩
     rw [h3,lexI_long h h4]
     rfl
    ·have hy:=zkM (show k<t.length by omega)
     have hst:=lexI_step hx hy
     have d4:decide ((↑t.length:Int)≤(↑k:Int))=false:=by simp;omega
     rw [d4,zkC,zam hy,zif]
     by_cases h5:cmpI s[k] t[k]=0
     ·left
      rw [if_pos h5] at hst
      exact ⟨k+1,by simp [h5],⟨by omega,by omega,by rw [h3,hst]⟩,by omega⟩
     ·right
      rw [if_neg h5] at hst
      exact ⟨.inr (cmpI s[k] t[k]),by simp [h5],by rw [h3,hst];rfl⟩
   ·right
    have e:k=s.length:=by omega
    subst e
    rw [zhp,zkC]
    refine ⟨.inl (),rfl,?_⟩
    rw [h3,lexI_end (Nat.le_refl _)]
    by_cases h4:s.length<t.length<;>simp [h4]) fuel 0 ⟨Nat.zero_le _,Nat.zero_le _,rfl⟩ (by have:=za2;simp only [Nat.sub_zero];omega)
 obtain ⟨r,e,hq⟩:=key;unfold zbf;rw [e];exact hq
theorem cmp_Or_two (x y:Int):zd0 [x,y]=some (if x≠0 then x else y):=by
 unfold zd0;have e:fuel=(fuel-3)+1+1+1:=by unfold fuel;omega
 rw [e];by_cases h1:x=0
 ·by_cases h2:y=0
  ·simp [iter,zd0.s2,idxn,h1,h2]
  ·simp [iter,zd0.s2,idxn,h1,h2]
 ·simp [iter,zd0.s2,idxn,h1]
theorem zmn (s t:List Int) (hs:s.length≤100000000000000):zhe s t=some (lexI s t):=by
 unfold zhe;rw [zi5 s t hs];rfl
theorem zhz (s t:List Int) (hs:s.length≤100000000000000):zdo s t=some (cmpW s t):=by
 unfold zdo;rw [zi5 s t hs,zif];show (zd0 [cmpI s.length t.length,lexI s t]).bind some=_;rw [cmp_Or_two];show some _=some _;congr 1;unfold cmpI cmpW;by_cases h1:s.length<t.length
 ·simp [h1]
 ·by_cases h2:t.length<s.length
  ·simp [h1,h2]
  ·simp [h1,h2]
theorem cmpE_word_Lex:CmpE Tryz.prog 138 (fun x=>nL cI x) (fun x y=>zhe x y) :=
 ⟨fun args w=>zet rfl rfl rfl args w,cmpG_lex fun x y r hx h=>by rw [zmn x y (by omega)] at h;injection h with h;exact h.symm⟩
theorem zjf:CmpE Tryz.prog 135 (fun x=>nL cI x) (fun x y=>zdo x y) :=
 ⟨fun args w=>zet rfl rfl rfl args w,cmpG_compare fun x y r hx h=>by rw [zhz x y (by omega)] at h;injection h with h;exact h.symm⟩
theorem zmd:CmpE Tryz.prog 184 (fun x=>.agg (zau x)) (fun x y=>zf1 x y) :=
 ⟨fun args w=>zet rfl rfl rfl args w,cmpG_fits1 (T:=zao) (i:=fun x=>x.In) (o:=fun x=>x.Out) (f:=fun x y=>zf1 x y) (fun _=>rfl) fun x y r hx h=>by
  simp only [zf1] at h
  rw [zmn _ _ (by omega)] at h
  injection h with h
  exact h.symm⟩
end
section
section
variable {α β R:Type}
theorem get_at {l:List α} {i:Nat} (h:i<l.length):l[i]?=some l[i]:=zkM h
theorem iter_all2 [DecidableEq α] {a b:List α} {step:Nat→Option (Nat⊕(Unit⊕Bool))} (hlen:a.length=b.length) (h1:∀ i x y,a[i]?=some x→b[i]?=some y→step i=some (if x=y then .inl (i+1) else .inr (.inr false)))
  (h2:step a.length=some (.inr (.inl ()))) (hl:a.length≤100000000000000):(iter step fuel 0).bind (Sum.elim (fun _=>some true) some)=some (decide (a=b)):=by
 rw [zfh (l:=a) (fun i x=>if b[i]?=some x then none else some false) (fun i x hx=>?_) h2 hl]
 ·cases e:scan (fun i x=>if b[i]?=some x then none else some false) 0 a with
  | none =>
   have:=zg4.1 e
   have hab:a=b:=by
    apply List.ext_getElem?;intro i;rcases Nat.lt_or_ge i a.length with h | h
    ·have h3:=this i _ (get_at h);rw [Nat.zero_add] at h3;split at h3
     ·rename_i h4;rw [get_at h,h4]
     ·cases h3
    ·rw [List.getElem?_eq_none h,List.getElem?_eq_none (by omega)]
   simp [hab]
  | some r =>
   have hne:a≠b:=fun hab=>by
    subst hab;have:scan (fun i x=>if a[i]?=some x then none else some false) 0 a=none:=zg4.2 fun i x hx=>by rw [Nat.zero_add,if_pos hx]
    rw [this] at e;cases e
   have hr:r=false:=by
    have key:∀ (l:List α) (j:Nat),scan (fun i x=>if b[i]?=some x then none else some false) j l=some r→r=false:=by
     intro l
     induction l with
     | nil=>intro j h;cases h
     | cons x l ih =>
      intro j h;unfold scan at h;split at h
      ·rename_i r' h3;injection h with h
       subst h;split at h3
       ·cases h3
       ·injection h3 with h3
        exact h3.symm
      ·exact ih _ h
    exact key a 0 e
   subst hr;simp [hne]
 ·have hi:=(zkI.1 hx).1;have hy:=get_at (l:=b) (i:=i) (by omega);rw [h1 i x _ hx hy];by_cases h:x=b[i]'(by omega)
  ·rw [if_pos h,hy,if_pos (by rw [h])]
  ·rw [if_neg h,hy,if_neg (fun h3=>h (by injection h3 with h3;exact h3.symm))]
end
def SmW (x:List Int):Prop:=x.length≤2000000
def SmL (l:List (List Int)):Prop:=l.length≤2000000∧∀ x∈l,SmW x
theorem R01_Size_eq (n:Int):znp n=some (decide (1≤n∧n≤1024)):=by
 unfold znp;by_cases h1:1≤n<;>by_cases h2:n≤1024<;>simp [h1,h2]
theorem scan_all {α R:Type} {p:α→Bool} {r:R}:∀ (l:List α) (j:Nat),scan (fun _ x=>if p x=true then none else some r) j l=if l.all p=true then none else some r
 | [],_=>rfl
 | x::l,j=>by
  unfold scan;by_cases h:p x=true
  ·simp only [h,if_true,List.all_cons,Bool.true_and];exact scan_all l (j+1)
  ·simp [h]
theorem R01_Check_eq (w:List Int) (n:Int) (hl:SmW w):zer w n=some (zi6 w n):=by
 unfold zer zi6;rw [R01_Size_eq];by_cases h1:1≤n∧n≤1024
 ·rw [if_pos h1];simp only [Option.bind_some,h1,and_self,decide_true,Bool.not_true,zkC];by_cases h2:1024<w.length
  ·rw [if_pos h2,show decide ((1024:Int)<(↑w.length:Int))=true from zkB (by omega),zkD]
  ·rw [if_neg h2,show decide ((1024:Int)<(↑w.length:Int))=false from zkA (by omega),zkC]
   have key:=zfh (step:=fun s=>zer.s2 w n s) (l:=w) (fun _ x=>if decide (0≤x∧x<n)=true then none else some (1:Int)) (fun i x hx=>by
    simp only [zer.s2]
    rw [zei hx,zkD,zam hx,zam hx]
    by_cases a1:x<0
    ·simp [a1,show ¬ (0≤x) by omega]
    ·by_cases a2:n≤x
     ·simp [a1,a2,show ¬ (x<n) by omega]
     ·simp [a1,a2,show 0≤x by omega,show x<n by omega]) (by
    simp only [zer.s2]
    rw [zhp]
    rfl) (by unfold SmW at hl;omega)
   rw [key,scan_all (p:=fun x=>decide (0≤x∧x<n))];by_cases h:(w.all fun x=>decide (0≤x∧x<n))=true
   ·rw [if_pos h,if_pos h];rfl
   ·rw [if_neg h,if_neg h];rfl
 ·rw [if_neg h1];simp [h1]
theorem zjv (a b:List Int) (ha:SmW a):zed a b=some (zbn a b:Int):=by
 unfold zed;rw [zdx (r:=zbn a b) (fun k=>k≤a.length∧zbn a b=zbn (a.drop k) (b.drop k)+k) (fun k=>a.length-k) (fun k ⟨h1,h2⟩=>?_) ⟨Nat.zero_le _,by simp⟩ (by have:=za2;unfold SmW at ha;omega)]
 ·rfl
 ·simp only [zed.s2];rcases Nat.lt_or_ge k a.length with h | h
  ·have hx:=get_at h;rcases Nat.lt_or_ge k b.length with h' | h'
   ·have hy:=get_at h';rw [zei hx,zei hy,zkD,zkD,zam hx,zam hy];rw [List.drop_eq_getElem_cons h,List.drop_eq_getElem_cons h'] at h2;by_cases e:a[k]=b[k]
    ·left;unfold SmW at ha;refine ⟨k+1,?_,⟨h,?_⟩,by omega⟩
     ·rw [zas (by unfold inR;omega)];simp [e]
     ·rw [h2,e];simp [zbn];omega
    ·right;simp only [zbn,e,if_false,Nat.zero_add] at h2;simp [e,h2]
   ·right;rw [zei hx,zkD,show decide ((↑k:Int)<(↑b.length:Int))=false by simp;omega];rw [zoq (Or.inr h'),Nat.zero_add] at h2;simp [h2]
  ·right;rw [show decide ((↑k:Int)<(↑a.length:Int))=false by simp;omega];rw [zoq (Or.inl h),Nat.zero_add] at h2;simp [h2]
theorem zmr (a b:List Int) (ha:SmW a):zic a b=some (decide (a=b)):=by
 unfold zic;rw [zjv a b ha];have h:=same_iff a b;by_cases h1:a.length=b.length
 ·rw [show decide ((↑a.length:Int)=(↑b.length:Int))=true from zkB (by omega),zkD];by_cases h2:zbn a b=a.length
  ·have:a=b:=h.1 ⟨h1,h2⟩;subst this;simp [zjs]
  ·have:a≠b:=fun e=>h2 (h.2 e).2;simp only [Option.bind_some,this,decide_false];rw [zkA (by omega)]
 ·have:a≠b:=fun e=>h1 (by rw [e]);rw [show decide ((↑a.length:Int)=(↑b.length:Int))=false from zkA (by omega),zkC];simp [this]
theorem R01_Lex_eq (a b:List Int) (ha:SmW a):zqd a b=some (lexI a b):=by
 unfold zqd;rw [zjv a b ha];have hle:=zrd a b;have hlc:=zrv a b;rw [hlc];simp only [Option.bind_some];by_cases h1:zbn a b=a.length
 ·rw [show decide ((↑(zbn a b):Int)=↑a.length)=true from zkB (by omega),zkD,zkD];by_cases h2:zbn a b=b.length
  ·rw [show decide ((↑(zbn a b):Int)=↑b.length)=true from zkB (by omega),if_pos ⟨h1,h2⟩];rfl
  ·rw [show decide ((↑(zbn a b):Int)=↑b.length)=false from zkA (by omega),if_neg (fun h=>h2 h.2),if_pos (Or.inl h1)];rfl
 ·rw [show decide ((↑(zbn a b):Int)=↑a.length)=false from zkA (by omega),zkC,zkC,if_neg (fun h=>h1 h.1)];by_cases h2:zbn a b=b.length
  ·rw [show decide ((↑(zbn a b):Int)<(↑b.length:Int))=false from zkA (by omega),if_neg (fun h=>by omega)];rfl
  ·have hx:=get_at (l:=a) (i:=zbn a b) (by omega);have hy:=get_at (l:=b) (i:=zbn a b) (by omega);rw [show decide ((↑(zbn a b):Int)<(↑b.length:Int))=true from zkB (by omega),zkD,zbw rfl hx,zbw rfl hy];rw [List.getD_eq_getElem?_getD,List.getD_eq_getElem?_getD,hx,hy];by_cases h3:a[zbn a b]'(by omega)<b[zbn a b]'(by omega)
   ·rw [if_pos (Or.inr ⟨by omega,h3⟩)];simp [h3]
   ·rw [if_neg (fun h=>by
     rcases h with h | ⟨_,h⟩
     ·omega
     ·exact h3 h)]
    simp [h3]
theorem zsi (a b:List Int) (ha:SmW a):zhq a b=some (cmpW a b):=by
 unfold zhq cmpW;rw [R01_Lex_eq a b ha];by_cases h1:a.length<b.length
 ·rw [show decide ((↑a.length:Int)<(↑b.length:Int))=true from zkB (by omega),if_pos h1];rfl
 ·rw [show decide ((↑a.length:Int)<(↑b.length:Int))=false from zkA (by omega),if_neg h1,zkC];by_cases h2:b.length<a.length
  ·rw [show decide ((↑b.length:Int)<(↑a.length:Int))=true from zkB (by omega),if_pos h2];rfl
  ·rw [show decide ((↑b.length:Int)<(↑a.length:Int))=false from zkA (by omega),if_neg h2];rfl
end
end Go.Proofs.YtciljgdafccmhaaGreatDoor.Sym
namespace Go.Proofs.YtciljgdafccmhaaGreatDoor
section
def M64:Nat:=18446744073709551616
def gold:Nat:=11400714819323198485
def mulA:Nat:=13787848793156543929
def mulB:Nat:=10723151780598845931
def mix (y:Nat):Nat :=
 let z:=(y ^^^ (y >>> 30))*mulA%M64
 let u:=(z ^^^ (z >>> 27))*mulB%M64
 u ^^^ (u >>> 31)
theorem few:∀ (k a:Nat) (l:List Nat),l.Nodup→(∀ x∈l,a≤x∧x<a+k)→l.length≤k
 | 0,a,l,_,h=>by
  cases l with
  | nil=>simp
  | cons x l=>have:=h x (by simp);omega
 | k+1,a,l,hn,h=>by
  have h1:=few k a (l.erase (a+k)) (hn.erase _) fun x hx=>by
   have h2:=(hn.mem_erase_iff).1 hx;have h3:=h x h2.2;have h4:=h2.1;omega
  by_cases hm:a+k∈l
  ·have:=List.length_erase_of_mem hm;omega
  ·rw [List.erase_of_not_mem hm] at h1;omega
def drawF:Nat→Nat→Nat×Nat
 | 0,s=>(0,s)
 | f+1,s=>if mix ((s+gold)%M64)<M64-1616 then (mix ((s+gold)%M64)%10000,(s+gold)%M64) else drawF f ((s+gold)%M64)
def draw (s:Nat):Nat×Nat:=drawF 1617 s
end
end Go.Proofs.YtciljgdafccmhaaGreatDoor
namespace Go.Proofs.YtciljgdafccmhaaGreatDoor.Sym
section
def steps (nx:Nat→Nat):Nat→Nat→Nat
 | 0,s=>s
 | j+1,s=>steps nx j (nx s)
end
section
section
variable {κ ν:Type} [BEq κ]
theorem zi0 {k:κ} {v:ν} (hb:∀ a b:κ,(a==b)=true↔a=b):∀ m:List (κ×ν),mget k (mset k v m)=some v
 | []=>by
  unfold mset mget;rw [(hb k k).2 rfl]
 | p::m=>by
  unfold mset;cases h:k==p.1 with
  | true =>
   show mget k ((k,v)::m)=_;unfold mget;rw [(hb k k).2 rfl]
  | false =>
   show mget k (p::mset k v m)=_;unfold mget;rw [h];exact zi0 hb m
theorem zih {k k':κ} {v:ν} (hb:∀ a b:κ,(a==b)=true↔a=b) (hne:¬ k'=k):∀ m:List (κ×ν),mget k' (mset k v m)=mget k' m
 | []=>by
  have e:(k'==k)=false:=by
   cases e:k'==k with
   | true=>exact absurd ((hb _ _).1 e) hne
   | false=>rfl
  unfold mset mget;simp only [e];rfl
 | p::m=>by
  unfold mset;cases h:k==p.1 with
  | true =>
   have e1:k=p.1:=(hb _ _).1 h;show mget k' ((k,v)::m)=mget k' (p::m)
   have e:(k'==k)=false:=by
    cases e:k'==k with
    | true=>exact absurd ((hb _ _).1 e) hne
    | false=>rfl
   unfold mget;rw [← e1];simp only [e]
  | false =>
   show mget k' (p::mset k v m)=mget k' (p::m);unfold mget;rw [zih hb hne m]
end
theorem ba_beq (a b:ByteArray):(a==b)=true↔a=b:=by
 cases a;cases b;show ByteArray.beq _ _=true↔_;unfold ByteArray.beq;simp
theorem zpc (l:List (List Int)):∀ n:Nat,l.foldl (fun (n:Int) w=>max n (↑w.length:Int)) (↑n:Int)=↑(l.foldl (fun n w=>max n w.length) n):=by
 induction l with
 | nil=>intro n;rfl
 | cons x l ih =>
  intro n;rw [List.foldl_cons,List.foldl_cons,show max (↑n:Int) (↑x.length:Int)=((max n x.length:Nat):Int) by omega,ih]
def SmT (t:zqv):Prop:=inR t.Inputs∧SmL t.Prefixes∧SmL t.Suffixes∧∀ x∈t.Prefixes,∀ a∈x,inR a
end
section

end
section
theorem check_mem {w:List Int} {n:Int} (h:zi6 w n=0):∀ a∈w,0≤a∧a<n:=by
 unfold zi6 at h;split at h
 ·split at h
  ·cases h
  ·split at h
   ·rename_i h3;intro a ha;exact of_decide_eq_true (List.all_eq_true.1 h3 a ha)
   ·cases h
 ·cases h
end
end Go.Proofs.YtciljgdafccmhaaGreatDoor.Sym
namespace Go.Proofs.YtciljgdafccmhaaGreatDoor
section
structure zls (cf:List Int→List Int→Int):Prop where
 range:∀ a b,cf a b=-1∨cf a b=0∨cf a b=1
 zero:∀ a b,cf a b=0↔a=b
 swap:∀ a b,cf b a=- cf a b
 trans:∀ a b c,cf a b=-1→cf b c=-1→cf a c=-1
theorem zjj:zls cmpW:=⟨zot,zrj,zq5,zlq⟩
theorem lexI_total:zls lexI:=⟨zn7,zn1,zng,zoh⟩
def zc2 (l:List (List Int)):List (List Int):=l.foldl (fun acc x=>if acc.getLast?=some x then acc else acc++[x]) []
theorem zq6 (l:List (List Int)) (x:List Int):zc2 (l++[x])=if (zc2 l).getLast?=some x then zc2 l else zc2 l++[x]:=by
 unfold zc2;rw [List.foldl_append];rfl
theorem zr5:∀ (l acc:List (List Int)),(l.foldl (fun acc x=>if acc.getLast?=some x then acc else acc++[x]) acc).getLast?=if l=[] then acc.getLast? else l.getLast?
 | [],acc=>by rw [if_pos rfl];rfl
 | x::l,acc=>by
  have hx:(if acc.getLast?=some x then acc else acc++[x]).getLast?=some x:=by
   split
   ·assumption
   ·simp
  rw [List.foldl_cons,zr5 l,if_neg (show ¬ x::l=[] by simp)];cases l with
  | nil=>rw [if_pos rfl,hx];rfl
  | cons y l =>
   rw [if_neg (show ¬ y::l=[] by simp),List.getLast?_cons_cons]
theorem dedupA_last (l:List (List Int)):(zc2 l).getLast?=l.getLast?:=by
 unfold zc2;rw [zr5];split
 ·rename_i h;rw [h]
 ·rfl
theorem zqz {l:List (List Int)} {k:Nat} {x y:List Int} (hy:l[k]?=some y) (hx:l[k+1]?=some x) :
  zc2 (l.take (k+1+1))=if x=y then zc2 (l.take (k+1)) else zc2 (l.take (k+1))++[x]:=by
 rw [zcw hx,zq6,dedupA_last,zcw hy];simp only [List.getLast?_append,List.getLast?_singleton,Option.some_or];by_cases h:y=x
 ·subst h;simp
 ·have h':¬ x=y:=fun e=>h e.symm;simp [h,h']
theorem zpb {l:List (List Int)} (h:l.length≤1):zc2 l=l:=by
 match l,h with
 | [],_=>rfl
 | [x],_=>rfl
theorem dedup_asc {cf:List Int→List Int→Int} (T:zls cf):∀ {l:List (List Int)},l.Pairwise (fun a b=>0≤cf b a)→(zc2 l).Pairwise (fun a b=>cf a b=-1)∧∀ x,x∈zc2 l↔x∈l:=by
 intro l
 -- from the end of the list
 suffices H:∀ n (l:List (List Int)),l.length=n→l.Pairwise (fun a b=>0≤cf b a)→(zc2 l).Pairwise (fun a b=>cf a b=-1)∧∀ x,x∈zc2 l↔x∈l from H _ l rfl
 intro n
 induction n with
 | zero =>
  intro l hl _;have:l=[]:=List.eq_nil_of_length_eq_zero hl;subst this;exact ⟨List.Pairwise.nil,fun x=>Iff.rfl⟩
 | succ n ih =>
  intro l hl hp
  obtain ⟨m,x,rfl⟩:∃ m x,l=m++[x]:=by
   have hne:l≠[]:=by intro e;rw [e] at hl;simp at hl
   exact ⟨l.dropLast,l.getLast hne,(List.dropLast_concat_getLast hne).symm⟩
  have hml:m.length=n:=by simpa using hl
  rw [List.pairwise_append] at hp;obtain ⟨hp1,_,hp3⟩:=hp;obtain ⟨h1,h2⟩:=ih m hml hp1;rw [zq6];by_cases h:(zc2 m).getLast?=some x
  ·rw [if_pos h];refine ⟨h1,fun y=>?_⟩;have hx:x∈m:=(h2 x).1 (List.mem_of_getLast? h);rw [h2,List.mem_append,List.mem_singleton];constructor
   ·exact Or.inl
   ·rintro (h' | rfl)
    ·exact h'
    ·exact hx
  ·rw [if_neg h];refine ⟨?_,fun y=>by rw [List.mem_append,List.mem_append,h2]⟩;rw [List.pairwise_append];refine ⟨h1,by simp,fun a ha b hb=>?_⟩;rw [List.mem_singleton] at hb;subst hb;have ha':a∈m:=(h2 a).1 ha;have hle:0≤cf b a:=hp3 a ha' b (by simp);have hr:=T.range b a;have hsw:=T.swap b a;by_cases e:cf b a=0
   ·-- a would be the last one
    exfalso;have hab:b=a:=(T.zero _ _).1 e;subst hab
    -- the last of m is the greatest, and b is in m and not less than it
    have hne:zc2 m≠[]:=fun e=>by rw [e] at ha;cases ha
    have hl2:=List.getLast?_eq_some_getLast hne;have hlast:(zc2 m).getLast hne∈m:=(h2 _).1 (List.getLast_mem hne);have h3:0≤cf b ((zc2 m).getLast hne):=hp3 _ hlast b (by simp);have hsplit:zc2 m=(zc2 m).dropLast++[(zc2 m).getLast hne]:=(List.dropLast_concat_getLast hne).symm
    have h4:b=(zc2 m).getLast hne∨cf b ((zc2 m).getLast hne)=-1:=by
     rw [hsplit] at ha h1;rw [List.pairwise_append] at h1;rcases List.mem_append.1 ha with h5 | h5
     ·exact Or.inr (h1.2.2 b h5 _ (by simp))
     ·exact Or.inl (List.mem_singleton.1 h5)
    rcases h4 with h4 | h4
    ·exact h (by rw [hl2,← h4])
    ·omega
   ·omega
theorem dedupA_length (l:List (List Int)):(zc2 l).length≤l.length:=by
 suffices H:∀ (l acc:List (List Int)),(l.foldl (fun acc x=>if acc.getLast?=some x then acc else acc++[x]) acc).length≤acc.length+l.length by
  simpa [zc2] using H l []
 intro l
 induction l with
 | nil=>intro acc;simp
 | cons x l ih =>
  intro acc;rw [List.foldl_cons];refine Nat.le_trans (ih _) ?_;split
  ·simp
  ·simp;omega
end
section
def prefixes (x:List Int):List (List Int):=(List.range (x.length+1)).map x.take
def suffixes (x:List Int):List (List Int):=(List.range (x.length+1)).map x.drop
def topB (all:List (List Int)) (x:List Int):Bool:=all.all fun y=>decide (y=x∨¬ x <+: y)
def maxR (l:List (List Int)):List (List Int):=(sortW l).filter (topB (sortW l))
def tailB (x:List Int) (l:List (List Int)):Bool:=l.all fun y=>decide (y.length=x.length∨¬ x <+: y)
theorem top_eq {all:List (List Int)} (hs:Asc all) {k:Nat} {x:List Int} (hx:all[k]?=some x):tailB x (all.drop (k+1))=topB all x:=by
 rw [Bool.eq_iff_iff,tailB,topB,List.all_eq_true,List.all_eq_true];simp only [decide_eq_true_eq];constructor
 ·intro h y hy;obtain ⟨i,hi⟩:=List.getElem?_of_mem hy;rcases Nat.lt_trichotomy i k with hik | hik | hik
  ·right;intro hp;have hc:=hs.get hik hi hx;have hl:=hp.length_le
   have:x=y:=hp.eq_of_length_le (by
    unfold cmpW at hc
    split at hc
    ·omega
    ·split at hc
     ·omega
     ·omega)
   rw [this,zns] at hc;omega
  ·left;rw [hik,hx] at hi;injection hi with hi
   exact hi.symm
  ·have hmem:y∈all.drop (k+1):=by
    have:(all.drop (k+1))[i-(k+1)]?=some y:=by rw [List.getElem?_drop,show k+1+(i-(k+1))=i by omega];exact hi
    exact List.mem_of_getElem? this
   rcases h y hmem with h1 | h1
   ·by_cases hp:x <+: y
    ·left;exact (hp.eq_of_length h1.symm).symm
    ·exact Or.inr hp
   ·exact Or.inr h1
 ·intro h y hy;obtain ⟨i,hi⟩:=List.getElem?_of_mem hy;rw [List.getElem?_drop] at hi;rcases h y (List.mem_of_getElem? hi) with h1 | h1
  ·have hc:=hs.get (show k<k+1+i by omega) hx hi;rw [h1,zns] at hc;omega
  ·exact Or.inr h1
theorem tailB_step {x y:List Int} {all:List (List Int)} {k j:Nat} (hk:k+1≤j) (hy:all[j]?=some y) :
  tailB x ((all.take (j+1)).drop (k+1))=(tailB x ((all.take j).drop (k+1))&&decide (y.length=x.length∨¬ x <+: y)):=by
 have hj:j<all.length:=(List.getElem?_eq_some_iff.1 hy).1;rw [zcw hy,List.drop_append_of_le_length (by rw [List.length_take];omega)];simp [tailB,List.all_append]
theorem filter_step {p:List Int→Bool} {all:List (List Int)} {k:Nat} {x:List Int} (h:all[k]?=some x):(all.take (k+1)).filter p=(all.take k).filter p++(if p x=true then [x] else []):=by
 rw [zcw h,List.filter_append];by_cases hp:p x=true<;>simp [hp]
theorem mem_maxR {l:List (List Int)} {x:List Int} (h:x∈maxR l):x∈l:=by
 unfold maxR at h;exact (zb9 l x).1 (List.mem_filter.1 h).1
theorem maxR_length (l:List (List Int)):(maxR l).length≤l.length:=Nat.le_trans (List.length_filter_le _ _) (zdv l)
def zjz:List (List Int)→List (List Int)
 | []=>[]
 | [x]=>[x]
 | x::y::l=>if x <+: y then zjz (y::l) else x::zjz (y::l)
theorem keepM_end {L:List (List Int)} {k:Nat} {x:List Int} (hx:L[k]?=some x) (hl:k+1=L.length):zjz (L.drop k)=x::zjz (L.drop (k+1)):=by
 obtain ⟨h1,h2⟩:=List.getElem?_eq_some_iff.1 hx;rw [List.drop_eq_getElem_cons h1,h2,List.drop_eq_nil_of_le (by omega)];rfl
theorem keepM_step {L:List (List Int)} {k:Nat} {x y:List Int} (hx:L[k]?=some x) (hy:L[k+1]?=some y):zjz (L.drop k)=if x <+: y then zjz (L.drop (k+1)) else x::zjz (L.drop (k+1)):=by
 obtain ⟨h1,h2⟩:=List.getElem?_eq_some_iff.1 hx;obtain ⟨h3,h4⟩:=List.getElem?_eq_some_iff.1 hy;rw [List.drop_eq_getElem_cons h1,h2,List.drop_eq_getElem_cons h3,h4];rfl
theorem zq3:∀ L:List (List Int),(zjz L).Sublist L
 | []=>List.Sublist.refl _
 | [x]=>List.Sublist.refl _
 | x::y::l=>by
  rw [zjz];split
  ·exact (zq3 (y::l)).cons x
  ·exact (zq3 (y::l)).cons_cons x
theorem zri:∀ (x z y:List Int),lexI x z=-1→(z=y∨lexI z y=-1)→x <+: y→x <+: z
 | [],z,_,_,_,_=>List.nil_prefix
 | a::x,[],_,h,_,_=>by simp [lexI] at h
 | a::x,b::z,[],_,_,h=>by simp at h
 | a::x,b::z,c::y,h1,h2,h3=>by
  rw [List.cons_prefix_cons] at h3;obtain ⟨rfl,h3⟩:=h3;simp only [lexI] at h1
  have hle:b≤a:=by
   rcases h2 with h2 | h2
   ·injection h2 with e1 e2;omega
   ·simp only [lexI] at h2;split at h2
    ·omega
    ·split at h2
     ·omega
     ·omega
  have hab:a=b:=by
   split at h1
   ·omega
   ·split at h1
    ·omega
    ·omega
  subst hab;rw [if_neg (by omega),if_neg (by omega)] at h1;rw [List.cons_prefix_cons];refine ⟨rfl,zri x z y h1 ?_ h3⟩;rcases h2 with h2 | h2
  ·injection h2 with e1 e2;exact Or.inl e2
  ·simp only [lexI] at h2;rw [if_neg (by omega),if_neg (by omega)] at h2;exact Or.inr h2
theorem zto:∀ (x y:List Int),x <+: y→x≠y→lexI x y=-1
 | [],[],_,h=>absurd rfl h
 | [],_::_,_,_=>rfl
 | a::x,[],h,_=>by simp at h
 | a::x,b::y,h,hne=>by
  rw [List.cons_prefix_cons] at h;obtain ⟨rfl,h⟩:=h;simp only [lexI];rw [if_neg (by omega),if_neg (by omega)];exact zto x y h (fun e=>hne (by rw [e]))
theorem mem_keepM:∀ {L:List (List Int)},L.Pairwise (fun a b=>lexI a b=-1)→∀ x,x∈zjz L↔x∈L∧∀ y∈L,y=x∨¬ x <+: y
 | [],_,x=>by simp [zjz]
 | [z],_,x=>by
  simp only [zjz,List.mem_singleton];constructor
  ·rintro rfl;exact ⟨rfl,fun y hy=>Or.inl hy⟩
  ·exact fun h=>h.1
 | z::y::l,h,x=>by
  obtain ⟨h1,h2⟩:=List.pairwise_cons.1 h;have ih:=mem_keepM (L:=y::l) h2
  have hzl:∀ t∈y::l,z≠t:=fun t ht e=>by
   have:=h1 t ht;rw [e,lexI_refl] at this;omega
  have hlow:∀ t∈y::l,¬ t <+: z:=fun t ht hp=>by
   have h3:=h1 t ht;have h4:=zto t z hp (fun e=>hzl t ht e.symm);rw [zng] at h4;omega
  have hyl:∀ t∈y::l,y=t∨lexI y t=-1:=fun t ht=>by
   rcases List.mem_cons.1 ht with e | e
   ·exact Or.inl e.symm
   ·exact Or.inr ((List.pairwise_cons.1 h2).1 t e)
  rw [zjz];by_cases hp:z <+: y
  ·rw [if_pos hp,ih];constructor
   ·rintro ⟨ha,hb⟩;refine ⟨List.mem_cons_of_mem _ ha,fun t ht=>?_⟩;rcases List.mem_cons.1 ht with rfl | ht
    ·exact Or.inr (hlow x ha)
    ·exact hb t ht
   ·rintro ⟨ha,hb⟩;rcases List.mem_cons.1 ha with rfl | ha
    ·rcases hb y (by simp) with e | e
     ·exact absurd e.symm (hzl y (by simp))
     ·exact absurd hp e
    ·exact ⟨ha,fun t ht=>hb t (List.mem_cons_of_mem _ ht)⟩
  ·rw [if_neg hp,List.mem_cons,ih];constructor
   ·rintro (rfl | ⟨ha,hb⟩)
    ·refine ⟨by simp,fun t ht=>?_⟩;rcases List.mem_cons.1 ht with rfl | ht
     ·exact Or.inl rfl
     ·exact Or.inr fun hpt=>hp (zri x y t (h1 y (by simp)) (hyl t ht) hpt)
    ·refine ⟨List.mem_cons_of_mem _ ha,fun t ht=>?_⟩;rcases List.mem_cons.1 ht with rfl | ht
     ·exact Or.inr (hlow x ha)
     ·exact hb t ht
   ·rintro ⟨ha,hb⟩;rcases List.mem_cons.1 ha with rfl | ha
    ·exact Or.inl rfl
    ·exact Or.inr ⟨ha,fun t ht=>hb t (List.mem_cons_of_mem _ ht)⟩
theorem mem_maxR_iff (l:List (List Int)) (x:List Int):x∈maxR l↔x∈l∧∀ y∈l,y=x∨¬ x <+: y:=by
 unfold maxR;rw [List.mem_filter,zb9,topB,List.all_eq_true];simp only [zb9,decide_eq_true_eq]
theorem maxR_asc (l:List (List Int)):Asc (maxR l):=List.Pairwise.sublist List.filter_sublist (zgh l)
theorem sortW_keepM {L l:List (List Int)} (h:L.Pairwise fun a b=>lexI a b=-1) (hm:∀ x,x∈L↔x∈l):sortW (zjz L)=maxR l :=
 zr3 (zgh _) (maxR_asc l) fun x=>by
  rw [zb9,mem_keepM h,mem_maxR_iff];simp only [hm]
end
end Go.Proofs.YtciljgdafccmhaaGreatDoor
namespace Go.Proofs.YtciljgdafccmhaaGreatDoor.Sym
section
theorem ze9 {α:Type} {l:List (List α)} {i:Nat} {x:List α} (h:l[i]?=some x):(l.take (i+1)).flatten=(l.take i).flatten++x:=by
 rw [zcw h];simp
theorem zfr {α:Type} {l:List (List α)} (i:Nat):(l.take i).flatten.length≤l.flatten.length:=by
 have h:l.flatten=(l.take i).flatten++(l.drop i).flatten:=by rw [← List.flatten_append,List.take_append_drop]
 rw [h,zkJ];omega
theorem concat_ints (l:List (List Int)) (hl:l.length≤100000000) (hf:l.flatten.length≤1000000000):za3 l=some l.flatten:=by
 unfold za3
 rw [zdx (r:=l.flatten.length) (fun s=>s.2≤l.length∧s.1=(l.take s.2).flatten.length) (fun s=>l.length-s.2) (fun s ⟨h1,h2⟩=>by
  simp only [za3.s2]
  by_cases h3:s.2<l.length
  ·left
   have hx:=get_at h3
   have h4:=ze9 hx
   have h5:=zfr (l:=l) (s.2+1)
   rw [h4,zkJ] at h5
   refine ⟨((l.take (s.2+1)).flatten.length,s.2+1),?_,⟨by omega,rfl⟩,by simp only;omega⟩
   rw [zei hx,zkD,zam hx,zas (by unfold inR;omega),zkA (by omega),zkC,h4,zkJ,h2]
  ·right
   have e:s.2=l.length:=by omega
   rw [zkA (by omega),zkC,h2,e,List.take_length]) (s:=(0,0)) ⟨Nat.zero_le _,by simp⟩ (by have:=za2;simp only;omega)]
 simp only [Option.bind_some];unfold zkh;rw [zas (by omega)];simp only [Option.bind_some]
 rw [zdx (r:=l.flatten) (fun s=>s.2≤l.length∧s.1=(l.take s.2).flatten) (fun s=>l.length-s.2) (fun s ⟨h1,h2⟩=>by
  simp only [za3.s4]
  by_cases h3:s.2<l.length
  ·left
   have hx:=get_at h3
   have h4:=ze9 hx
   have h5:=zfr (l:=l) (s.2+1)
   rw [h4,zkJ] at h5
   refine ⟨((l.take (s.2+1)).flatten,s.2+1),?_,⟨by omega,rfl⟩,by simp only;omega⟩
   rw [zei hx,zkD,zam hx,zas (by rw [h2];unfold zaw;omega),h4,h2]
  ·right
   have e:s.2=l.length:=by omega
   rw [zkA (by omega),zkC,h2,e,List.take_length]) (s:=([],0)) ⟨Nat.zero_le _,by simp⟩ (by have:=za2;simp only;omega)]
 rfl
theorem concat_words (l:List (List (List Int))) (hl:l.length≤100000000) (hf:l.flatten.length≤1000000000):zay l=some l.flatten:=by
 unfold zay
 rw [zdx (r:=l.flatten.length) (fun s=>s.2≤l.length∧s.1=(l.take s.2).flatten.length) (fun s=>l.length-s.2) (fun s ⟨h1,h2⟩=>by
  simp only [zay.s2]
  by_cases h3:s.2<l.length
  ·left
   have hx:=get_at h3
   have h4:=ze9 hx
   have h5:=zfr (l:=l) (s.2+1)
   rw [h4,zkJ] at h5
   refine ⟨((l.take (s.2+1)).flatten.length,s.2+1),?_,⟨by omega,rfl⟩,by simp only;omega⟩
   rw [zei hx,zkD,zam hx,zas (by unfold inR;omega),zkA (by omega),zkC,h4,zkJ,h2]
  ·right
   have e:s.2=l.length:=by omega
   rw [zkA (by omega),zkC,h2,e,List.take_length]) (s:=(0,0)) ⟨Nat.zero_le _,by simp⟩ (by have:=za2;simp only;omega)]
 simp only [Option.bind_some];unfold zix;rw [zas (by omega)];simp only [Option.bind_some]
 rw [zdx (r:=l.flatten) (fun s=>s.2≤l.length∧s.1=(l.take s.2).flatten) (fun s=>l.length-s.2) (fun s ⟨h1,h2⟩=>by
  simp only [zay.s4]
  by_cases h3:s.2<l.length
  ·left
   have hx:=get_at h3
   have h4:=ze9 hx
   have h5:=zfr (l:=l) (s.2+1)
   rw [h4,zkJ] at h5
   refine ⟨((l.take (s.2+1)).flatten,s.2+1),?_,⟨by omega,rfl⟩,by simp only;omega⟩
   rw [zei hx,zkD,zam hx,zas (by rw [h2];unfold zaw;omega),h4,h2]
  ·right
   have e:s.2=l.length:=by omega
   rw [zkA (by omega),zkC,h2,e,List.take_length]) (s:=([],0)) ⟨Nat.zero_le _,by simp⟩ (by have:=za2;simp only;omega)]
 rfl
theorem zg0 (l:List (List Int)) (hl:l.length≤100000000) (hf:l.flatten.length≤1000000000):zes l=some l.flatten:=by
 unfold zes;rw [concat_ints l hl hf];rfl
theorem totB_of {cf:List Int→List Int→Int} (T:zls cf) {f:List Int→List Int→Option Int} {l:List (List Int)} (hf:∀ a∈l,∀ b∈l,f a b=some (cf a b)):totB f l=true:=by
 refine List.all_eq_true.2 fun a ha=>List.all_eq_true.2 fun b hb=>?_;rw [hf a ha b hb,hf b hb a ha];simp only [Bool.and_eq_true];refine ⟨⟨⟨?_,?_⟩,?_⟩,List.all_eq_true.2 fun c hc=>?_⟩
 ·rw [beq_iff_eq];have:=T.zero a b;by_cases h:a=b
  ·simp [h,this.2 h];rw [← h];exact (T.zero a a).2 rfl
  ·have h2:¬ cf a b=0:=fun e=>h (this.1 e);simp [h,h2]
 ·rw [beq_iff_eq];have:=T.swap a b;by_cases h:cf a b<0
  ·simp [h];omega
  ·simp [h];omega
 ·have:=T.range a b;exact zkB (by omega)
 ·rw [hf b hb c hc,hf a ha c hc];have r1:=T.range a b;have r2:=T.range b c;by_cases h1:cf a b<0
  ·by_cases h2:cf b c<0
   ·have:=T.trans a b c (by omega) (by omega);simp [h1,h2,this]
   ·simp [h1,h2]
  ·simp [h1]
theorem zti {cf:List Int→List Int→Int} (T:zls cf) {f:List Int→List Int→Option Int} {l:List (List Int)} (hl:l.length≤1000000000) (hf:∀ a∈l,∀ b∈l,f a b=some (cf a b)) :
  ∃ S,zr4 l f=some S∧S.Perm l∧S.Pairwise (fun a b=>0≤cf b a):=by
 refine ⟨zlf f l,?_,ze4 f l,?_⟩
 ·unfold zr4;rw [zas hl,totB_of T hf];rfl
 ·have h:=zjw (totB_iff (totB_of T hf));rw [List.pairwise_iff_getElem] at h ⊢;intro i j hi hj hij;have:=h i j hi hj hij;have m1:=(ze4 f l).mem_iff.1 (List.getElem_mem hi);have m2:=(ze4 f l).mem_iff.1 (List.getElem_mem hj);unfold NGt cfv at this;rw [hf _ m2 _ m1] at this;simp only [Option.getD_some] at this;omega
theorem compact_eq {q:List Int→List Int→Option Bool} {l:List (List Int)} (hl:l.length≤1000000000) (hq:∀ a∈l,∀ b∈l,q a b=some (decide (a=b))):zaf l q=some (zc2 l):=by
 unfold zaf;by_cases h2:l.length<2
 ·rw [zkB (by omega),zkD,zpb (by omega)]
 rw [zkA (by omega),zkC]
 have key:=zbi (step:=fun k=>zaf.s20 l q k) (fun k=>1≤k∧k≤l.length∧zc2 (l.take k)=l.take k) (fun k=>l.length-k) (fun r=>Sum.elim (fun (_:Unit)=>some l) some r=some (zc2 l)) (fun k ⟨h1,h3,h4⟩=>by
  simp only [zaf.s20]
  by_cases h5:k<l.length
  ·have hx:=get_at h5
   have hp:=get_at (l:=l) (i:=k-1) (by omega)
   have hst:=zqz (l:=l) (k:=k-1) (x:=l[k]) hp (by rw [show k-1+1=k by omega];exact hx)
   rw [show k-1+1=k by omega] at hst
   rw [zei hx,zkD,zam hx,zbw (i:=k-1) (by omega) hp,hq _ (List.getElem_mem _) _ (List.getElem_mem _)]
   simp only [Option.bind_some]
   by_cases h6:l[k]=l[k-1]'(by omega)
   ·right
    rw [if_pos h6] at hst
    rw [zkB h6,zkD,zas (by omega)]
    have inner:=zbi (step:=fun (s:List (List Int)×Nat×Nat)=>zaf.s18 q k s.1 s.2.1 s.2.2) (fun s=>1≤s.2.2∧k+s.2.2≤l.length∧s.1.length=l.length∧s.2.1=(zc2 (l.take (k+s.2.2))).length∧s.2.1<k+s.2.2∧s.1.take s.2.1=zc2 (l.take (k+s.2.2))∧∀ j,s.2.1≤j→s.1[j]?=l[j]?) (fun s=>l.length-(k+s.2.2))
     (fun r=>r.2≤l.length∧r.1.length=l.length∧r.1.take r.2=zc2 l) (fun s ⟨g1,g2,g3,g4,g5,g6,g7⟩=>by
      obtain ⟨y,kk,t⟩:=s
      simp only at g1 g2 g3 g4 g5 g6 g7
      simp only [zaf.s18]
      by_cases g8:k+t<l.length
      ·left
       have gx:=get_at (l:=l) (i:=k+t) g8
       have gp:=get_at (l:=l) (i:=k+(t-1)) (by omega)
       have yx:y[k+t]?=some l[k+t]:=by rw [g7 _ (by omega)];exact gx
       have yp:y[k+(t-1)]?=some (l[k+(t-1)]'(by omega)):=by rw [g7 _ (by omega)];exact gp
       have hst2:=zqz (l:=l) (k:=k+(t-1)) (x:=l[k+t]) gp (by rw [show k+(t-1)+1=k+t by omega];exact gx)
       rw [show k+(t-1)+1=k+t by omega] at hst2
       rw [zkB (show (↑t:Int)<(↑(List.length y-k):Int) by omega),zkD,zam yx,zas (by omega),show Int.toNat ((↑t:Int)-1)=t-1 by omega,zam yp,hq _ (List.getElem_mem _) _ (List.getElem_mem _)]
       simp only [Option.bind_some]
       by_cases g9:l[k+t]=l[k+(t-1)]'(by omega)
       ·rw [if_pos g9] at hst2
        refine ⟨(y,kk,t+1),by rw [zkB g9];rfl,⟨by simp only;omega,by simp only;omega,g3,?_,by simp only;omega,?_,g7⟩,by simp only;omega⟩
        ·simp only
         rw [show k+(t+1)=k+t+1 by omega,hst2]
         exact g4
        ·simp only
         rw [show k+(t+1)=k+t+1 by omega,hst2]
         exact g6
       ·rw [if_neg g9] at hst2
        have yk:=get_at (l:=y) (i:=kk) (by omega)
        refine ⟨(y.set kk l[k+t],kk+1,t+1),?_,⟨by simp only;omega,by simp only;omega,by simp only [List.length_set];exact g3,?_,by simp only;omega,?_,fun j hj=>?_⟩,by simp only;omega⟩
        ·rw [zkA g9]
         simp only [Bool.not_false,zkD]
         rw [zam yx,zam yk,zas (by unfold inR;omega)]
        ·simp only
         rw [show k+(t+1)=k+t+1 by omega,hst2,zkJ,← g4]
         rfl
        ·simp only
         have e1:(y.set kk l[k+t])[kk]?=some l[k+t]:=by rw [List.getElem?_set];simp;omega
         rw [show k+(t+1)=k+t+1 by omega,hst2,zcw e1,List.take_set_of_le (Nat.le_refl _),g6]
        ·simp only at hj
         rw [List.getElem?_set_ne (by omega)]
         exact g7 j (by omega)
      ·right
       have e:k+t=l.length:=by omega
       refine ⟨(y,kk),?_,by simp only;omega,g3,?_⟩
       ·rw [zkA (by omega),zkC]
       ·simp only
        rw [e,List.take_length] at g6
        exact g6) fuel (l,k,1) ⟨Nat.le_refl _,by simp only;omega,rfl,by simp only;rw [hst,h4,List.length_take];omega,by simp only;omega,by simp only;rw [hst,h4],fun j _=>rfl⟩ (by have:=za2;simp only;omega)
    obtain ⟨⟨y,kk⟩,e,g1,g2,g3⟩:=inner
    simp only at g1 g2 g3
    refine ⟨.inr (zc2 l),?_,rfl⟩
    rw [e]
    simp only [Option.bind_some,zaf.k19]
    have e2:(List.take kk y++List.replicate (List.length y-kk) ([]:List Int)).length=l.length:=by
     rw [zkJ,List.length_take,List.length_replicate]
     omega
    rw [zas (by omega),zas (by omega),zas (by rw [e2];omega),List.take_append_of_le_length (by rw [List.length_take];omega),List.take_take,Nat.min_self,g3]
   ·left
    rw [if_neg h6] at hst
    refine ⟨k+1,by rw [zkA h6];rfl,⟨by omega,by omega,?_⟩,by omega⟩
    rw [hst,h4,zcw hx]
  ·right
   have e:k=l.length:=by omega
   subst e
   refine ⟨.inl (),?_,?_⟩
   ·rw [zhp];rfl
   ·rw [List.take_length] at h4
    rw [h4]
    rfl) fuel 1 ⟨Nat.le_refl _,by omega,zpb (by rw [List.length_take];omega)⟩ (by have:=za2;omega)
 obtain ⟨r,e,hr⟩:=key;rw [e];exact hr
theorem znk {w:List Int} (h:SmW w):zfs w=some w:=by
 unfold zfs znf;exact zas (by unfold SmW at h;unfold zaw;omega)
theorem zr9 {l:List (List Int)} (h:l.length≤2000000):zgl l=some l:=by
 unfold zgl znf;exact zas (by unfold zaw;omega)
theorem ztd {cf:List Int→List Int→Int} (T:zls cf) {f:List Int→List Int→Option Int} {l:List (List Int)} (hl:SmL l) (hf:∀ a∈l,∀ b∈l,f a b=some (cf a b)) :
  ∃ S,zcl l f=some S∧S.Pairwise (fun a b=>cf a b=-1)∧(∀ x,x∈S↔x∈l)∧S.length≤l.length:=by
 have hl1:l.length≤2000000:=hl.1;obtain ⟨S,e1,hp,hs⟩:=zti T (by omega:l.length≤1000000000) hf;obtain ⟨d1,d2⟩:=dedup_asc T hs;have hm:∀ x,x∈zc2 S↔x∈l:=fun x=>by rw [d2,hp.mem_iff]
 have hlen:(zc2 S).length≤l.length:=by
  have:=dedupA_length S;rw [hp.length_eq] at this;exact this
 refine ⟨zc2 S,?_,d1,hm,hlen⟩;unfold zcl zdy;rw [zr9 hl1];simp only [Option.bind_some];rw [e1];simp only [Option.bind_some]
 rw [compact_eq (by rw [hp.length_eq];omega) (fun a ha b hb=>by
  unfold zeu
  rw [hf a (hp.mem_iff.1 ha) b (hp.mem_iff.1 hb)]
  simp only [Option.bind_some]
  congr 1
  exact decide_eq_decide.2 (T.zero a b))]
 simp only [Option.bind_some]
 rw [zdx (r:=zc2 S) (fun s=>s.1=zc2 S) (fun s=>(zc2 S).length-s.2) (fun s h1=>by
  simp only [zcl.s2]
  by_cases h3:s.2<(zc2 S).length
  ·left
   have hx:=get_at h3
   have hxs:SmW ((zc2 S)[s.2]):=hl.2 _ ((hm _).1 (List.getElem_mem _))
   refine ⟨(zc2 S,s.2+1),?_,rfl,by simp only;omega⟩
   rw [zei hx,zkD,h1,zam hx,znk hxs]
   simp only [Option.bind_some]
   rw [zam hx,zas (by unfold inR;omega),List.set_getElem_self]
  ·right
   rw [zkA (by omega),zkC,h1]) (s:=(zc2 S,0)) rfl (by have:=za2;simp only;omega)]
 rfl
theorem zeb {l:List (List Int)} (hl:SmL l):zc3 l=some (sortW l):=by
 obtain ⟨S,e,h1,h2,_⟩:=ztd zjj (f:=fun u0 u1=>zdo u0 u1) hl fun a ha b hb=>zhz a b (by have:SmW a:=hl.2 a ha;unfold SmW at this;omega);unfold zc3;rw [e];show some S=_;congr 1;exact zr3 h1 (zgh l) fun x=>by rw [h2,zb9]
theorem zpx {l:List (List Int)} (h:SmL l):SmL (sortW l):=⟨Nat.le_trans (zdv l) h.1,fun x hx=>h.2 x ((zb9 l x).1 hx)⟩
theorem zj8 {ls:List (List (List Int))} (h0:ls.length≤100000000) (hl:SmL ls.flatten):zfq ls=some (sortW ls.flatten):=by
 unfold zfq;rw [concat_words ls h0 (by have:=hl.1;omega)];simp only [Option.bind_some];rw [zeb hl];rfl
theorem R02_place_eq {l:List (List Int)} {w:List Int} (hA:Asc l) (hl:SmL l):zfi l w=some (↑(zco l w):Int):=by
 have hl1:l.length≤2000000:=hl.1;have hsp:=zju l w;have hle:=placeL_le l w;unfold zfi
 rw [zdx (r:=zco l w) (fun s=>s.1≤zco l w∧zco l w≤s.2∧s.2≤l.length) (fun s=>s.2-s.1) (fun s ⟨h1,h2,h3⟩=>by
  obtain ⟨lo,hi⟩:=s
  simp only at h1 h2 h3
  simp only [zfi.s2]
  by_cases h4:lo<hi
  ·left
   have hx:=get_at (l:=l) (i:=(lo+hi) / 2) (by omega)
   rw [zkB (by omega),zkD,zas (by unfold inR;omega),zas (by unfold inR;omega),zam hx,zsi _ _ (hl.2 _ (List.getElem_mem _))]
   simp only [Option.bind_some]
   by_cases h5:cmpW (l[(lo+hi) / 2]'(by omega)) w<0
   ·refine ⟨((lo+hi) / 2+1,hi),by rw [zkB h5,zkD,zas (by unfold inR;omega)],⟨?_,h2,h3⟩,by simp only;omega⟩
    simp only
    rcases Nat.lt_or_ge ((lo+hi) / 2) (zco l w) with h | h
    ·exact h
    ·exfalso
     have hp:=get_at (l:=l) (i:=zco l w) (by omega)
     have hne:=hsp.2 _ hp
     have r1:=zot (l[(lo+hi) / 2]'(by omega)) w
     rcases Nat.lt_or_ge (zco l w) ((lo+hi) / 2) with h' | h'
     ·have:=hA.get h' hp hx
      exact hne (zlq _ _ _ this (by omega))
     ·have e:zco l w=(lo+hi) / 2:=by omega
      simp only [e] at hne
      omega
   ·refine ⟨(lo,(lo+hi) / 2),by rw [zkA h5,zkC],⟨h1,?_,by simp only;omega⟩,by simp only;omega⟩
    simp only
    rcases Nat.lt_or_ge ((lo+hi) / 2) (zco l w) with h | h
    ·exfalso
     have:=hsp.1 _ _ h hx
     omega
    ·exact h
  ·right
   rw [zkA (by omega),zkC,show lo=zco l w by omega]) (s:=(0,l.length)) ⟨Nat.zero_le _,hle,Nat.le_refl _⟩ (by have:=za2;simp only;omega)]
 rfl
theorem zrh {l:List (List Int)} {w:List Int} (hA:Asc l) (hl:SmL l) (hw:SmW w):zft l w=some (insW l w):=by
 have hl1:l.length≤2000000:=hl.1;have hw1:w.length≤2000000:=hw;have hle:=placeL_le l w;have hmp:=hA.mem_place w;unfold zft;rw [R02_place_eq hA hl];simp only [Option.bind_some];by_cases hm:w∈l
 ·have hx:=hmp.1 hm;have hlt:=(zkI.1 hx).1;rw [zkB (show (↑(zco l w):Int)<(↑l.length:Int) by omega),zkD,zbw rfl hx,zmr _ _ hw];unfold insW;rw [if_pos hm];simp
 ·have hc:(cond (decide ((↑(zco l w):Int)<(↑l.length:Int))) (idx l (↑(zco l w):Int) fun a2=>(zic a2 w).bind fun a6=>some a6) (some false):Option Bool)=some false:=by
   by_cases hlt:zco l w<l.length
   ·have hx:=get_at hlt;rw [zkB (by omega),zkD,zbw rfl hx,zmr _ _ (hl.2 _ (List.getElem_mem _))];have:¬ l[zco l w]=w:=fun e=>hm (hmp.2 (by rw [hx,e]));simp [this]
   ·rw [zkA (by omega),zkC]
  rw [hc];simp only [Option.bind_some,zkC];have hlen:(l++[([]:List Int)]).length=l.length+1:=by simp
  rw [zas (by unfold zaw;omega),zas (by rw [hlen];unfold inR;omega)]
  have key:=zbi (step:=fun (s:List (List Int)×Int)=>zft.s2 (↑(zco l w):Int) s.1 s.2) (fun s=>∃ i:Nat,s.2=(i:Int)∧zco l w≤i∧i≤l.length∧∃ z,s.1=stage l z i) (fun s=>s.2.toNat-zco l w) (fun r=>∃ z,r=stage l z (zco l w)) (fun s ⟨i,h1,h2,h3,z,h4⟩=>by
   obtain ⟨y,i'⟩:=s
   simp only at h1 h4
   subst h1 h4
   simp only [zft.s2]
   by_cases h5:zco l w<i
   ·left
    have hx:=get_at (l:=l) (i:=i-1) (by omega)
    have e1:(stage l z i)[i-1]?=some (l[i-1]'(by omega)):=by rw [stage_before (by omega) h3];exact hx
    have e2:(stage l z i)[i]?=some z:=stage_at h3
    refine ⟨(stage l (l[i-1]'(by omega)) (i-1),↑(i-1:Nat)),?_,⟨i-1,rfl,by omega,by omega,_,rfl⟩,by simp only;omega⟩
    rw [zkB (by omega),zkD,zas (by unfold inR;omega),zbw (i:=i-1) (by omega) e1,zbw rfl e2,zas (by unfold inR;omega),Int.toNat_natCast,stage_set h3]
    have h6:=stage_down (us:=l) (j:=i-1) hx
    rw [show i-1+1=i by omega] at h6
    rw [h6,show (↑i:Int)-1=((i-1:Nat):Int) by omega]
   ·right
    have e:i=zco l w:=by omega
    subst e
    refine ⟨_,by rw [zkA (by omega),zkC],z,rfl⟩) fuel (l++[[]],(↑(l++[([]:List Int)]).length:Int)-1) ⟨l.length,by simp only [hlen];omega,hle,Nat.le_refl _,[],(stage_end l []).symm⟩ (by have:=za2;simp only [hlen];omega)
  obtain ⟨r,e,z,hz⟩:=key;subst hz;rw [e];simp only [Option.bind_some];have e2:(stage l z (zco l w))[zco l w]?=some z:=stage_at hle;rw [zas (by unfold zaw;simp;omega),zbw rfl e2,Int.toNat_natCast,stage_set hle,List.nil_append];unfold insW;rw [if_neg hm];rfl
theorem zgn {l:List (List Int)} (hl:SmL l):zdt l=some (sortW l):=by
 have hl1:l.length≤2000000:=hl.1;unfold zdt
 rw [zdx (r:=sortW l) (fun s=>s.2≤l.length∧s.1=sortW (l.take s.2)) (fun s=>l.length-s.2) (fun s ⟨h1,h2⟩=>by
  obtain ⟨y,i⟩:=s
  simp only at h1 h2
  subst h2
  simp only [zdt.s2]
  by_cases h3:i<l.length
  ·left
   have hx:=get_at h3
   have hsm:SmL (sortW (l.take i)):=zpx ⟨by rw [List.length_take];omega,fun x hx=>hl.2 x (List.mem_of_mem_take hx)⟩
   refine ⟨(sortW (l.take (i+1)),i+1),?_,⟨h3,rfl⟩,by simp only;omega⟩
   rw [zei hx,zkD,zam hx,zrh (zgh _) hsm (hl.2 _ (List.getElem_mem _)),zcw hx,zsx]
   rfl
  ·right
   have e:i=l.length:=by omega
   subst e
   rw [zkA (by omega),zkC,List.take_length]) (s:=([],0)) ⟨Nat.zero_le _,by simp [sortW]⟩ (by have:=za2;simp only;omega)]
 rfl
theorem R02_Union_eq {ls:List (List (List Int))} (h0:ls.length≤100000000) (hl:SmL ls.flatten):zfk ls=some (sortW ls.flatten):=by
 have hl1:ls.flatten.length≤2000000:=hl.1;unfold zfk
 rw [zdx (r:=ls.flatten) (fun s=>s.2≤ls.length∧s.1=(ls.take s.2).flatten) (fun s=>ls.length-s.2) (fun s ⟨h1,h2⟩=>by
  simp only [zfk.s2]
  by_cases h3:s.2<ls.length
  ·left
   have hx:=get_at h3
   have h4:=ze9 hx
   have h5:=zfr (l:=ls) (s.2+1)
   rw [h4,zkJ] at h5
   refine ⟨((ls.take (s.2+1)).flatten,s.2+1),?_,⟨by omega,rfl⟩,by simp only;omega⟩
   rw [zei hx,zkD,zam hx,zas (by rw [h2];unfold zaw;omega),h4,h2]
  ·right
   have e:s.2=ls.length:=by omega
   rw [zkA (by omega),zkC,h2,e,List.take_length]) (s:=([],0)) ⟨Nat.zero_le _,by simp⟩ (by have:=za2;simp only;omega)]
 simp only [Option.bind_some];rw [zgn hl];rfl
end
section
theorem zq9 (l:List (List Int)) (hl:l.length≤100000000) (hf:l.flatten.length≤1000000000):zf5 l=some l.flatten:=by
 unfold zf5
 rw [zdx (r:=l.flatten) (fun s=>s.2≤l.length∧s.1=(l.take s.2).flatten) (fun s=>l.length-s.2) (fun s ⟨h1,h2⟩=>by
  simp only [zf5.s2]
  by_cases h3:s.2<l.length
  ·left
   have hx:=get_at h3
   have h4:=ze9 hx
   have h5:=zfr (l:=l) (s.2+1)
   rw [h4,zkJ] at h5
   refine ⟨((l.take (s.2+1)).flatten,s.2+1),?_,⟨by omega,rfl⟩,by simp only;omega⟩
   rw [zei hx,zkD,zam hx,zas (by rw [h2];unfold zaw;omega),h4,h2]
  ·right
   have e:s.2=l.length:=by omega
   rw [zkA (by omega),zkC,h2,e,List.take_length]) (s:=([],0)) ⟨Nat.zero_le _,by simp⟩ (by have:=za2;simp only;omega)]
 rfl
end
section
theorem zpo (w p:List Int) (hw:SmW w):zgo w p=some (decide (p <+: w)):=by
 unfold zgo;rw [zjv w p hw,zaq];congr 1;exact decide_eq_decide.2 (by rw [← zn8 w p];omega)
theorem zso (a b:List Int) (ha:SmW a):zdi a b=some (zbn a b:Int):=by
 have ha':a.length≤2000000:=ha;have hle:=zrd a b;unfold zdi
 have key:=zbi (step:=fun k=>zdi.s2 a b k) (fun k=>k≤a.length∧k≤b.length∧zbn a b=zbn (a.drop k) (b.drop k)+k) (fun k=>a.length-k) (fun r=>Sum.elim (fun (_:Unit)=>some (min (↑a.length:Int) (↑b.length:Int))) some r=some (zbn a b:Int)) (fun k ⟨h1,h2,h3⟩=>by
  simp only [zdi.s2]
  by_cases h4:k<a.length∧k<b.length
  ·have hx:=get_at h4.1
   have hy:=get_at h4.2
   rw [zkB (show (↑k:Int)<min (↑a.length:Int) (↑b.length:Int) by omega),zkD,zam hx,zam hy]
   rw [List.drop_eq_getElem_cons h4.1,List.drop_eq_getElem_cons h4.2] at h3
   by_cases e:a[k]=b[k]
   ·left
    refine ⟨k+1,by simp [e],⟨h4.1,h4.2,?_⟩,by omega⟩
    rw [h3,e]
    simp [zbn]
    omega
   ·right
    simp only [zbn,e,if_false,Nat.zero_add] at h3
    exact ⟨.inr (k:Int),by simp [e],by rw [h3];rfl⟩
  ·right
   rw [zkA (by omega),zkC]
   refine ⟨.inl (),rfl,?_⟩
   rw [zoq (by omega),Nat.zero_add] at h3
   simp only [Sum.elim_inl]
   congr 1
   omega) fuel 0 ⟨Nat.zero_le _,Nat.zero_le _,by simp⟩ (by have:=za2;omega)
 obtain ⟨r,e,hq⟩:=key;rw [e];exact hq
theorem zod (w p:List Int) (hw:SmW w):zen w p=some (decide (p <+: w)):=by
 unfold zen;rw [zso w p hw,zaq];congr 1;exact decide_eq_decide.2 (by rw [← zn8 w p];omega)
def PropT (n:Int) (t:zao):Prop:=zi6 t.In n=0∧t.Out.length=t.In.length∧∀ y∈t.Out,0≤y∧y≤1048576
def Agree (a b:zao):Prop:=a.Out.take (zbn a.In b.In)=b.Out.take (zbn a.In b.In)
structure ObsOk (o:zcp):Prop where
 inp:1≤o.Inputs∧o.Inputs≤64
 num:o.Traces.length≤10000
 prop:∀ t∈o.Traces,PropT o.Inputs t∧t.In≠[]
 asc:∀ (i j:Nat) a b,i<j→o.Traces[i]?=some a→o.Traces[j]?=some b→cmpW a.In b.In=-1
 apart:∀ (i j:Nat) a b,i<j→o.Traces[i]?=some a→o.Traces[j]?=some b→¬ a.In <+: b.In∧Agree a b
end
section

end
section
theorem zrk:∀ a b:List Int,zbn a b=zbn b a
 | [],[]=>rfl
 | [],_::_=>rfl
 | _::_,[]=>rfl
 | x::a,y::b=>by
  unfold zbn;by_cases h:x=y
  ·rw [if_pos h,if_pos h.symm,zrk a b]
  ·rw [if_neg h,if_neg fun e=>h e.symm]
theorem Agree.symm {a b:zao} (h:Agree a b):Agree b a:=by
 unfold Agree at h ⊢;rw [zrk];exact h.symm
def clashO (l:List zao) (t:zao):Prop:=∃ u∈l,¬ Agree u t
instance (a b:zao):Decidable (Agree a b):=by unfold Agree;infer_instance
instance (l:List zao) (t:zao):Decidable (clashO l t):=by unfold clashO;infer_instance
theorem ObsOk.pw {o:zcp} (hv:ObsOk o):o.Traces.Pairwise (fun a b=>cmpW a.In b.In=-1)∧o.Traces.Pairwise (fun a b=>¬ a.In <+: b.In∧Agree a b) :=
 ⟨List.pairwise_iff_getElem.2 fun i j hi hj hij=>hv.asc i j _ _ hij (get_at hi) (get_at hj),List.pairwise_iff_getElem.2 fun i j hi hj hij=>hv.apart i j _ _ hij (get_at hi) (get_at hj)⟩
end
section

end
section
theorem zqr {l m:List (List Int)} (h:∀ x,x∈l↔x∈m):sortW l=sortW m:=zr3 (zgh l) (zgh m) fun x=>by rw [zb9,zb9,h]
theorem maxR_ext {l m:List (List Int)} (h:∀ x,x∈l↔x∈m):maxR l=maxR m:=by unfold maxR;rw [zqr h]
theorem zsa {l:List (List Int)} (hl:SmL l):zck l=some (maxR l):=by
 have hA:=zgh l;have hs:=zpx hl;have hs1:(sortW l).length≤2000000:=hs.1;unfold zck maxR;rw [zgn hl,zaq]
 have inner:∀ (i:Nat) (x:List Int),(sortW l)[i]?=some x→iter (fun (s:Bool×Nat)=>zck.s13 (sortW l) i s.1 s.2) fuel (true,i+1)=some (topB (sortW l) x):=by
  intro i x hx;have hi:=(zkI.1 hx).1;refine zdx (fun s=>i+1≤s.2∧s.2≤(sortW l).length∧s.1=tailB x (((sortW l).take s.2).drop (i+1))) (fun s=>(sortW l).length-s.2) (fun s ⟨g1,g2,g3⟩=>?_) ⟨Nat.le_refl _,by simp only;omega,by simp [tailB]⟩ (by have:=za2;simp only;omega);obtain ⟨b,k⟩:=s;simp only at g1 g2 g3;simp only [zck.s13];by_cases g4:k<(sortW l).length
  ·left;have hy:=get_at g4;have hst:=tailB_step (x:=x) g1 hy;rw [← g3] at hst;refine ⟨(tailB x (((sortW l).take (k+1)).drop (i+1)),k+1),?_,⟨by simp only;omega,by simp only;omega,rfl⟩,by simp only;omega⟩;rw [zei hy,zkD,hst];cases b with
   | false=>rfl
   | true =>
    rw [zkD,zam hy,zam hx,Bool.true_and];by_cases g5:(sortW l)[k].length=x.length
    ·rw [zkB (by omega),zkD,zkB (Or.inl g5)]
    ·rw [zkA (by omega),zkC,zam hy,zam hx,zpo _ _ (hs.2 _ (List.getElem_mem _)),zaq];by_cases g6:x <+: (sortW l)[k]
     ·rw [zkB g6,zkA (fun h=>h.elim g5 fun h=>h g6)];rfl
     ·rw [zkA g6,zkB (Or.inr g6)];rfl
  ·right;have e:k=(sortW l).length:=by omega
   subst e;rw [zkA (by omega),zkC,g3,List.take_length,top_eq hA hx]
 have key:=zdx (step:=fun (s:List (List Int)×Nat)=>zck.s14 (sortW l) s.1 s.2) (r:=(sortW l).filter (topB (sortW l))) (fun s=>s.2≤(sortW l).length∧s.1=((sortW l).take s.2).filter (topB (sortW l))) (fun s=>(sortW l).length-s.2) (fun s ⟨g1,g2⟩=>by
  obtain ⟨y,i⟩:=s
  simp only at g1 g2
  subst g2
  simp only [zck.s14]
  by_cases g4:i<(sortW l).length
  ·left
   have hx:=get_at g4
   have hst:=filter_step (p:=topB (sortW l)) hx
   have hfl:=List.length_filter_le (topB (sortW l)) ((sortW l).take i)
   rw [List.length_take] at hfl
   refine ⟨(((sortW l).take (i+1)).filter (topB (sortW l)),i+1),?_,⟨by simp only;omega,rfl⟩,by simp only;omega⟩
   rw [zei hx,zkD,inner i _ hx,zaq,hst]
   cases topB (sortW l) (sortW l)[i] with
   | true =>
    rw [zkD,zam hx,zas (by unfold zaw;omega)]
    rfl
   | false=>simp
  ·right
   have e:i=(sortW l).length:=by omega
   subst e
   rw [zkA (by omega),zkC,List.take_length]) (n:=fuel) (s:=([],0)) ⟨Nat.zero_le _,by simp⟩ (by have:=za2;simp only;omega)
 rw [key,zaq]
theorem znh {l:List (List Int)} (hl:SmL l):zcn l=some (maxR l):=by
 have hl1:l.length≤2000000:=hl.1;obtain ⟨L,e1,h1,h2,h3⟩:=ztd lexI_total (f:=fun u0 u1=>zhe u0 u1) hl fun a ha b hb=>zmn a b (by have:SmW a:=hl.2 a ha;unfold SmW at this;omega);have hLs:∀ x∈L,SmW x:=fun x hx=>hl.2 x ((h2 x).1 hx);unfold zcn;rw [e1,zaq]
 have key:=zdx (step:=fun (s:List (List Int)×Nat)=>zcn.s2 L s.1 s.2) (r:=zjz L) (fun s=>s.2≤L.length∧s.1.length≤s.2∧zjz L=s.1++zjz (L.drop s.2)) (fun s=>L.length-s.2) (fun s ⟨g1,g2,g3⟩=>by
  obtain ⟨y,i⟩:=s
  simp only at g1 g2 g3
  simp only [zcn.s2]
  by_cases g4:i<L.length
  ·left
   have hx:=get_at g4
   rw [zei hx,zkD,zam hx]
   by_cases g5:i+1=L.length
   ·rw [keepM_end hx g5] at g3
    refine ⟨(y++[L[i]],i+1),?_,⟨by simp only;omega,by simp;omega,by simp only;rw [g3];simp⟩,by simp only;omega⟩
    rw [zkB (by omega),zkD,zaq,zkD,zas (by unfold zaw;omega)]
   ·have hy:=get_at (l:=L) (i:=i+1) (by omega)
    rw [keepM_step hx hy] at g3
    rw [zkA (by omega),zkC,zam hy,zod _ _ (hLs _ (List.getElem_mem _)),zaq,zaq]
    by_cases g6:L[i] <+: (L[i+1]'(by omega))
    ·rw [if_pos g6] at g3
     refine ⟨(y,i+1),?_,⟨by simp only;omega,by simp only;omega,g3⟩,by simp only;omega⟩
     rw [zkB g6]
     rfl
    ·rw [if_neg g6] at g3
     refine ⟨(y++[L[i]],i+1),?_,⟨by simp only;omega,by simp;omega,by simp only;rw [g3];simp⟩,by simp only;omega⟩
     rw [zkA g6,Bool.not_false,zkD,zas (by unfold zaw;omega)]
  ·right
   have e:i=L.length:=by omega
   subst e
   rw [List.drop_length] at g3
   rw [zkA (by omega),zkC,g3]
   simp [zjz]) (n:=fuel) (s:=([],0)) ⟨Nat.zero_le _,by simp,by simp⟩ (by have:=za2;simp only;omega)
 have hk:=zq3 L;have hkl:SmL (zjz L):=⟨by have:=hk.length_le;omega,fun x hx=>hLs x (hk.mem hx)⟩;rw [key,zaq,zeb hkl,zaq,sortW_keepM h1 h2]
end
section
structure zdc (m:zaa):Prop where
 i1:1≤m.Inputs
 i2:m.Inputs≤64
 n1:0<m.Next.length
 n2:m.Next.length≤128
 st:0≤m.Start∧m.Start<(↑m.Next.length:Int)
 ol:m.Out.length=m.Next.length
 row:∀ s,s<m.Next.length→∃ x y,m.Next[s]?=some x∧m.Out[s]?=some y∧(↑x.length:Int)=m.Inputs∧(↑y.length:Int)=m.Inputs∧(∀ u∈x,0≤u∧u<(↑m.Next.length:Int))∧∀ v∈y,0≤v∧v≤1048576
def nx (m:zaa) (s a:Nat):Nat:=((((m.Next[s]?).getD [])[a]?).getD 0).toNat
def ot (m:zaa) (s a:Nat):Int:=(((m.Out[s]?).getD [])[a]?).getD 0
section
variable {m:zaa}
theorem zdc.at (H:zdc m) {s a:Nat} (hs:s<m.Next.length) (ha:a<m.Inputs.toNat):nx m s a<m.Next.length∧0≤ot m s a∧ot m s a≤1048576∧∃ x y,m.Next[s]?=some x∧m.Out[s]?=some y∧x[a]?=some (↑(nx m s a):Int)∧y[a]?=some (ot m s a):=by
 obtain ⟨x,y,h1,h2,h3,h4,h5,h6⟩:=H.row s hs;have hx:=get_at (l:=x) (i:=a) (by omega);have hy:=get_at (l:=y) (i:=a) (by omega)
 have e1:nx m s a=(x[a]'(by omega)).toNat:=by
  unfold nx;rw [h1,Option.getD_some,hx,Option.getD_some]
 have e2:ot m s a=y[a]'(by omega):=by
  unfold ot;rw [h2,Option.getD_some,hy,Option.getD_some]
 have g1:=h5 _ (List.getElem_mem (by omega:a<x.length));have g2:=h6 _ (List.getElem_mem (by omega:a<y.length));refine ⟨by rw [e1];omega,by rw [e2];exact g2.1,by rw [e2];exact g2.2,x,y,h1,h2,?_,by rw [e2];exact hy⟩;rw [hx,e1];congr 1;omega
def outs (m:zaa):Nat→List Int→List Int
 | _,[]=>[]
 | s,a::w=>ot m s a.toNat::outs m (nx m s a.toNat) w
def dest (m:zaa):Nat→List Int→Nat
 | s,[]=>s
 | s,a::w=>dest m (nx m s a.toNat) w
def WOk (n:Int) (w:List Int):Prop:=∀ a∈w,0≤a∧a<n
theorem zf8:∀ (w v:List Int) (s:Nat),outs m s (w++v)=outs m s w++outs m (dest m s w) v
 | [],_,_=>rfl
 | a::w,v,s=>by
  show ot m s a.toNat::outs m (nx m s a.toNat) (w++v)=_;rw [zf8 w v];rfl
theorem ze2:∀ (w v:List Int) (s:Nat),dest m s (w++v)=dest m (dest m s w) v
 | [],_,_=>rfl
 | _::w,v,_=>ze2 w v _
theorem zhi:∀ (w:List Int) (s:Nat),(outs m s w).length=w.length
 | [],_=>rfl
 | a::w,s=>by
  show (outs m (nx m s a.toNat) w).length+1=w.length+1;rw [zhi w]
theorem WOk.tail {n:Int} {a:Int} {w:List Int} (h:WOk n (a::w)):WOk n w:=fun x hx=>h x (List.mem_cons_of_mem _ hx)
theorem WOk.head {n:Int} {a:Int} {w:List Int} (h:WOk n (a::w)):0≤a∧a<n:=h a (by simp)
theorem WOk.take {n:Int} {w:List Int} (h:WOk n w) (k:Nat):WOk n (w.take k):=fun x hx=>h x (List.mem_of_mem_take hx)
theorem WOk.append {n:Int} {w v:List Int} (h:WOk n w) (g:WOk n v):WOk n (w++v):=fun x hx=>(List.mem_append.1 hx).elim (h x) (g x)
theorem zdc.dest (H:zdc m):∀ {w:List Int} {s:Nat},WOk m.Inputs w→s<m.Next.length→dest m s w<m.Next.length
 | [],_,_,hs=>hs
 | a::w,s,hw,hs=>by
  have:=hw.head;exact H.dest (w:=w) hw.tail (H.at hs (a:=a.toNat) (by omega)).1
theorem R06_Outs_eq (H:zdc m) {s:Nat} (hs:s<m.Next.length) {w:List Int} (hw:WOk m.Inputs w) (hl:w.length≤100000000):zeq m (↑s:Int) w=some (outs m s w,(↑(dest m s w):Int)):=by
 unfold zeq
 have key:=zdx (step:=fun (q:Int×List Int×Nat)=>zeq.s2 m w q.1 q.2.1 q.2.2) (r:=((↑(dest m s w):Int),outs m s w)) (fun q=>q.2.2≤w.length∧q.1=(↑(dest m s (w.take q.2.2)):Int)∧q.2.1=outs m s (w.take q.2.2)) (fun q=>w.length-q.2.2) (fun q ⟨g1,g2,g3⟩=>by
  obtain ⟨st,y,k⟩:=q
  simp only at g1 g2 g3
  subst g2
  subst g3
  simp only [zeq.s2]
  by_cases g4:k<w.length
  ·left
   have hx:=get_at g4
   obtain ⟨x0,x1⟩:=hw _ (List.getElem_mem g4)
   have ha:w[k].toNat<m.Inputs.toNat:=by omega
   have hd:Sym.dest m s (w.take k)<m.Next.length:=H.dest (hw.take k) hs
   obtain ⟨_,_,_,x,y,e1,e2,e3,e4⟩:=H.at hd ha
   refine ⟨((↑(Sym.dest m s (w.take (k+1))):Int),outs m s (w.take (k+1)),k+1),?_,⟨g4,rfl,rfl⟩,by simp only;omega⟩
   rw [zei hx,zkD,zbw rfl e2,zam hx,zbw (i:=w[k].toNat) (by omega) e4,zas (by unfold zaw;rw [zhi,List.length_take];omega),zbw rfl e1,zam hx,zbw (i:=w[k].toNat) (by omega) e3,zcw hx,ze2,zf8]
   rfl
  ·right
   have e:k=w.length:=by omega
   subst e
   rw [zkA (by omega),zkC,List.take_length]) (n:=fuel) (s:=((↑s:Int),[],0)) ⟨Nat.zero_le _,rfl,rfl⟩ (by have:=za2;simp only;omega)
 rw [key,zaq];rfl
def RowRng (n:Nat) (u v:Int):Prop:=(0≤u∧u<(↑n:Int))∧0≤v∧v≤1048576
theorem R06_row_tot (h1:m.Inputs≤64) {s:Nat} (hs:s<m.Next.length) (ho:m.Out.length=m.Next.length):∃ e,zfy m (↑s:Int)=some e∧(e=0→∃ x y,m.Next[s]?=some x∧m.Out[s]?=some y∧(↑x.length:Int)=m.Inputs∧(↑y.length:Int)=m.Inputs∧(∀ u∈x,0≤u∧u<(↑m.Next.length:Int))∧∀ v∈y,0≤v∧v≤1048576):=by
 obtain ⟨x,hx⟩:∃ x,m.Next[s]?=some x:=⟨_,get_at hs⟩;obtain ⟨y,hy⟩:∃ y,m.Out[s]?=some y:=⟨_,get_at (l:=m.Out) (i:=s) (by omega)⟩;unfold zfy;rw [zbw rfl hx];by_cases g1:(↑x.length:Int)=m.Inputs
 ·by_cases g2:(↑y.length:Int)=m.Inputs
  ·rw [zkA (fun h=>h g1),zkC,zbw rfl hy,zkA (fun h=>h g2),zaq,zkC]
   obtain ⟨r,hr,hq⟩:=zbi (step:=fun a=>zfy.s2 m (↑s:Int) a) (fun a=>a≤x.length∧∀ b u v,b<a→x[b]?=some u→y[b]?=some v→RowRng m.Next.length u v) (fun a=>x.length-a) (fun r=>r=.inr 2∨(r=.inl ()∧∀ b u v,b<x.length→x[b]?=some u→y[b]?=some v→RowRng m.Next.length u v)) (fun a ⟨q1,q2⟩=>by
    simp only [zfy.s2]
    by_cases q3:a<x.length
    ·obtain ⟨u,ha⟩:∃ u,x[a]?=some u:=⟨_,get_at q3⟩
     obtain ⟨v,hb⟩:∃ v,y[a]?=some v:=⟨_,get_at (l:=y) (i:=a) (by omega)⟩
     rw [zkB (by omega),zkD,zbw rfl hx,zam ha]
     by_cases z1:u<0
     ·right
      exact ⟨.inr 2,by rw [zkB z1];rfl,Or.inl rfl⟩
     rw [zkA z1,zkC,zbw rfl hx,zam ha]
     by_cases z2:(↑m.Next.length:Int)≤u
     ·right
      exact ⟨.inr 2,by rw [zkB z2];rfl,Or.inl rfl⟩
     rw [zkA z2,zkC,zbw rfl hy,zam hb]
     by_cases z3:v<0
     ·right
      exact ⟨.inr 2,by rw [zkB z3];rfl,Or.inl rfl⟩
     rw [zkA z3,zkC,zbw rfl hy,zam hb]
     by_cases z4:1048576<v
     ·right
      exact ⟨.inr 2,by rw [zkB z4];rfl,Or.inl rfl⟩
     left
     refine ⟨a+1,by rw [zkA z4,zaq,zkC,zas (by unfold inR;omega)],⟨q3,fun b u' v' hb' hu hv=>?_⟩,by omega⟩
     rcases Nat.lt_or_ge b a with h | h
     ·exact q2 b u' v' h hu hv
     ·have e:b=a:=by omega
      subst e
      rw [ha] at hu
      rw [hb] at hv
      injection hu with hu
      injection hv with hv
      subst hu
      subst hv
      exact ⟨⟨by omega,by omega⟩,by omega,by omega⟩
    ·right
     have e:a=x.length:=by omega
     subst e
     exact ⟨.inl (),by rw [zkA (by omega),zkC],Or.inr ⟨rfl,q2⟩⟩) fuel 0 ⟨Nat.zero_le _,fun b _ _ h=>absurd h (Nat.not_lt_zero _)⟩ (by have:=za2;omega)
   rw [hr,zaq];rcases hq with rfl | ⟨rfl,hq⟩
   ·exact ⟨2,rfl,fun h=>by cases h⟩
   ·refine ⟨0,rfl,fun _=>⟨x,y,hx,hy,g1,g2,fun u hu=>?_,fun v hv=>?_⟩⟩
    ·obtain ⟨b,hb,rfl⟩:=List.mem_iff_getElem.1 hu;exact (hq b _ _ hb (get_at hb) (get_at (l:=y) (by omega))).1
    ·obtain ⟨b,hb,rfl⟩:=List.mem_iff_getElem.1 hv;exact (hq b _ _ (by omega) (get_at (l:=x) (by omega)) (get_at hb)).2
  ·exact ⟨1,by rw [zkA (fun h=>h g1),zkC,zbw rfl hy,zkB g2];rfl,fun h=>by cases h⟩
 ·exact ⟨1,by rw [zkB g1];rfl,fun h=>by cases h⟩
theorem R06_Valid_tot (m:zaa):∃ e,zci m=some e∧(e=0→zdc m):=by
 unfold zci;by_cases c1:m.Inputs<1
 ·exact ⟨2,by rw [zkB c1];rfl,fun h=>by cases h⟩
 rw [zkA c1,zkC];by_cases c2:64<m.Inputs
 ·exact ⟨2,by rw [zkB c2];rfl,fun h=>by cases h⟩
 rw [zkA c2,zaq,zkC];by_cases c3:(↑m.Next.length:Int)=0
 ·exact ⟨19,by rw [zkB c3];rfl,fun h=>by cases h⟩
 rw [zkA c3,zkC];by_cases c4:128<(↑m.Next.length:Int)
 ·exact ⟨11,by rw [zkB c4];rfl,fun h=>by cases h⟩
 rw [zkA c4,zkC];by_cases c5:m.Start<0
 ·exact ⟨2,by rw [zkB c5];rfl,fun h=>by cases h⟩
 rw [zkA c5,zkC];by_cases c6:(↑m.Next.length:Int)≤m.Start
 ·exact ⟨2,by rw [zkB c6];rfl,fun h=>by cases h⟩
 rw [zkA c6,zaq,zkC];by_cases c7:(↑m.Out.length:Int)=(↑m.Next.length:Int)
 ·rw [zkA (fun h=>h c7),zkC];have ho:m.Out.length=m.Next.length:=by omega
  obtain ⟨r,hr,hq⟩:=zbi (step:=fun s=>zci.s2 m s) (fun a=>a≤m.Next.length∧∀ s,s<a→∃ x y,m.Next[s]?=some x∧m.Out[s]?=some y∧(↑x.length:Int)=m.Inputs∧(↑y.length:Int)=m.Inputs∧(∀ u∈x,0≤u∧u<(↑m.Next.length:Int))∧∀ v∈y,0≤v∧v≤1048576) (fun a=>m.Next.length-a) (fun r=>(∃ e,r=.inr e∧e≠0)∨(r=.inl ()∧∀ s,s<m.Next.length→∃ x y,m.Next[s]?=some x∧m.Out[s]?=some y∧(↑x.length:Int)=m.Inputs∧(↑y.length:Int)=m.Inputs∧(∀ u∈x,0≤u∧u<(↑m.Next.length:Int))∧∀ v∈y,0≤v∧v≤1048576)) (fun a ⟨q1,q2⟩=>by
   simp only [zci.s2]
   by_cases q3:a<m.Next.length
   ·obtain ⟨e,he,hz⟩:=R06_row_tot (m:=m) (by omega) q3 ho
    rw [zkB (by omega),zkD,he,zaq]
    by_cases z:e=0
    ·left
     refine ⟨a+1,by rw [zkA (fun h=>h z),zkC],⟨q3,fun s hs=>?_⟩,by omega⟩
     rcases Nat.lt_or_ge s a with h | h
     ·exact q2 s h
     ·have e2:s=a:=by omega
      subst e2
      exact hz z
    ·right
     exact ⟨.inr e,by rw [zkB z,zkD],Or.inl ⟨e,rfl,z⟩⟩
   ·right
    have e:a=m.Next.length:=by omega
    subst e
    exact ⟨.inl (),by rw [zkA (by omega),zkC],Or.inr ⟨rfl,q2⟩⟩) fuel 0 ⟨Nat.zero_le _,fun s h=>absurd h (Nat.not_lt_zero _)⟩ (by have:=za2;omega)
  rw [hr,zaq];rcases hq with ⟨e,rfl,hz⟩ | ⟨rfl,hq⟩
  ·exact ⟨e,rfl,fun h=>absurd h hz⟩
  ·exact ⟨0,rfl,fun _=>⟨by omega,by omega,by omega,by omega,⟨by omega,by omega⟩,ho,hq⟩⟩
 ·exact ⟨1,by rw [zkB c7];rfl,fun h=>by cases h⟩
theorem macOk_of (h:zci m=some 0):zdc m:=by
 obtain ⟨e,he,hz⟩:=R06_Valid_tot m;rw [h] at he;injection he with he
 exact hz he.symm
end
end
section
theorem zss {m:zaa} (H:zdc m):zbh m=some 0:=by
 have i1:=H.i1;have i2:=H.i2;have n1:=H.n1;have n2:=H.n2;have st:=H.st;have ol:=H.ol;unfold zbh;rw [zkA (by omega),zkC,zkA (by omega),zaq,zkC,zkA (by omega),zkC,zkA (by omega),zkC,zkA (by omega),zkC,zkA (by omega),zaq,zkC,zkA (by omega),zkC]
 have inner:∀ s,s<m.Next.length→iter (fun (a:Nat)=>zbh.s13 m s a) fuel 0=some (.inl ()):=fun s hs =>
  zdx (fun a=>a≤m.Inputs.toNat) (fun a=>m.Inputs.toNat-a) (fun a ha=>by
   simp only [zbh.s13]
   by_cases g:a<m.Inputs.toNat
   ·left
    obtain ⟨h1,h2,h3,x,y,hx,hy,hxa,hya⟩:=H.at hs g
    refine ⟨a+1,?_,g,by omega⟩
    rw [zkB (by omega),zkD,zam hx,zam hxa,zam hy,zam hya,zkA (by omega),zkC,zkA (by omega),zkC,zkA (by omega),zkC,zkA (by omega),zaq,zkC,zas (by unfold inR;omega)]
   ·right
    rw [zkA (by omega),zkC]) (Nat.zero_le _) (by have:=za2;omega)
 have outer:iter (fun (s:Nat)=>zbh.s14 m s) fuel 0=some (.inl ()) :=
  zdx (fun s=>s≤m.Next.length) (fun s=>m.Next.length-s) (fun s hs=>by
   simp only [zbh.s14]
   by_cases g:s<m.Next.length
   ·left
    obtain ⟨x,y,hx,hy,hl1,hl2,_,_⟩:=H.row s g
    refine ⟨s+1,?_,g,by omega⟩
    rw [zkB (by omega),zkD,zam hx,zkA (by omega),zkC,zam hy,zkA (by omega),zaq,zkC,inner s g,zaq]
    rfl
   ·right
    rw [zkA (by omega),zkC]) (Nat.zero_le _) (by have:=za2;omega)
 rw [outer,zaq];rfl
abbrev costOk (l:znw):Prop:=(∀ c∈l.Step,0≤c∧c≤1048576)∧0≤l.Reset∧l.Reset≤1048576
abbrev cntOk (n:Int):Prop:=0≤n∧n≤1125899906842624
abbrev faultOk (f:zo1):Prop:=(0≤f.Lost∧f.Lost≤10000)∧(0≤f.Wrong∧f.Wrong≤10000)∧(0≤f.Crash∧f.Crash≤10000)∧f.Lost+f.Wrong+f.Crash≤10000
structure DevOk (d:zid):Prop where
 v6:zci d.M=some 0
 st:0≤d.State∧d.State<(↑d.M.Next.length:Int)
 ll:(↑d.Latency.Step.length:Int)=d.M.Inputs
 lc:costOk d.Latency
 fl:faultOk d.Faults
 c1:cntOk d.Steps
 c2:cntOk d.Resets
 c3:cntOk d.Time
section
variable {d:zid}
end
end
section
theorem scan_map {α R R':Type} {g:Nat→α→Option R} {f:R→R'}:∀ (l:List α) (j:Nat),scan (fun i x=>(g i x).map f) j l=(scan g j l).map f
 | [],_=>rfl
 | x::l,j=>by
  unfold scan;cases g j x with
  | some r=>rfl
  | none=>exact scan_map l (j+1)
theorem zno {α R:Type} {g:Nat→α→Option R} {r:R}:∀ {l:List α} {j:Nat},scan g j l=some r→∃ i x,l[i]?=some x∧g (j+i) x=some r
 | [],_,h=>by cases h
 | x::l,j,h=>by
  unfold scan at h;cases e:g j x with
  | some q =>
   rw [e] at h;exact ⟨0,x,rfl,by rw [Nat.add_zero,e];exact h⟩
  | none =>
   rw [e] at h;obtain ⟨i,y,h1,h2⟩:=zno (j:=j+1) h;exact ⟨i+1,y,by simpa using h1,by rw [show j+(i+1)=j+1+i by omega,h2]⟩
def celE (n:Nat) (u v:Int):Option Int:=if u<0∨(↑n:Int)≤u∨v<0∨1048576<v then some 2 else none
def rowE (m:zaa) (s:Nat) (x:List Int):Option Int :=
 if (↑x.length:Int)≠m.Inputs∨(↑((m.Out[s]?).getD []).length:Int)≠m.Inputs then some 1 else scan (fun a u=>celE m.Next.length u ((((m.Out[s]?).getD [])[a]?).getD 0)) 0 x
def zdw (m:zaa):Int :=
 if m.Inputs<1∨64<m.Inputs then 2 else if m.Next.length=0 then 19 else if 128<m.Next.length then 11 else if m.Start<0∨(↑m.Next.length:Int)≤m.Start then 2 else if m.Out.length≠m.Next.length then 1
 else match scan (rowE m) 0 m.Next with | some e=>e | none=>0
section
variable {m:zaa}
theorem rowE_ne {s:Nat} {x:List Int} {e:Int} (h:rowE m s x=some e):e≠0:=by
 unfold rowE at h;split at h
 ·injection h with h
  omega
 ·obtain ⟨i,u,_,h2⟩:=zno h;unfold celE at h2;split at h2
  ·injection h2 with h2
   omega
  ·cases h2
theorem cel_cond {n:Nat} {u v:Int}:(cond (decide (u<0)) (some true) (cond (decide ((↑n:Int)≤u)) (some true) (cond (decide (v<0)) (some true) (some (decide (1048576<v))))):Option Bool)=some (celE n u v).isSome:=by
 unfold celE;by_cases h1:u<0<;>by_cases h2:(↑n:Int)≤u<;>by_cases h3:v<0<;>by_cases h4:1048576<v<;>simp [h1,h2,h3,h4]
theorem celE_two {n:Nat} {u v:Int}:celE n u v=if (celE n u v).isSome=true then some 2 else none:=by
 unfold celE;split<;>rfl
theorem row_len {s:Nat} {x y:List Int} (hx:m.Next[s]?=some x) (hy:m.Out[s]?=some y) :
  (idxn m.Next s fun a2=>cond (decide ((↑a2.length:Int)≠m.Inputs)) (some true) (idxn m.Out s fun a6=>some (decide ((↑a6.length:Int)≠m.Inputs))):Option Bool)=some (decide ((↑x.length:Int)≠m.Inputs∨(↑y.length:Int)≠m.Inputs)):=by
 rw [zam hx];by_cases h:(↑x.length:Int)=m.Inputs
 ·rw [zkA (fun k=>k h),zkC,zam hy];simp [h]
 ·rw [zkB h,zkD];simp [h]
theorem idx_nat {α β:Type} {l:List α} {i:Nat} {k:α→Option β}:idx l (↑i:Int) k=idxn l i k:=by
 cases h:l[i]? with
 | some x=>rw [zbw rfl h,zam h]
 | none =>
  unfold idx idxn;rw [h,if_pos (by omega),Int.toNat_natCast,h]
theorem R06_row_eq (hi:m.Inputs≤64) {s:Nat} {x y:List Int} (hx:m.Next[s]?=some x) (hy:m.Out[s]?=some y):zfy m (↑s:Int)=some (match rowE m s x with | some e=>e | none=>0):=by
 unfold zfy;rw [idx_nat];simp only [idx_nat];rw [row_len hx hy,zaq];unfold rowE;rw [hy,Option.getD_some];by_cases h:(↑x.length:Int)≠m.Inputs∨(↑y.length:Int)≠m.Inputs
 ·rw [zkB h,zkD,if_pos h]
 ·rw [zkA h,zkC,if_neg h];have h1:(↑x.length:Int)=m.Inputs:=Classical.byContradiction fun q=>h (Or.inl q);have h2:(↑y.length:Int)=m.Inputs:=Classical.byContradiction fun q=>h (Or.inr q);rw [zfh (l:=x) (fun a u=>celE m.Next.length u ((y[a]?).getD 0)) (fun a u hu=>?_) ?_ (by omega),zaq]
  ·cases scan (fun a u=>celE m.Next.length u ((y[a]?).getD 0)) 0 x<;>rfl
  ·simp only [zfy.s2];rw [zkA (by omega),zkC]
  ·have ha:=(zkI.1 hu).1;have hv:y[a]?=some y[a]:=get_at (by omega);rw [hv,Option.getD_some];simp only [zfy.s2,idx_nat];rw [zkB (by omega),zkD];simp only [zam hx,zam hy,zam hu,zam hv];rw [cel_cond,zaq];cases e:celE m.Next.length u y[a] with
   | none =>
    rw [Option.isSome_none,zkC,zas (by unfold inR;omega)]
   | some r =>
    have:=celE_two (n:=m.Next.length) (u:=u) (v:=y[a]);rw [e] at this;injection this with this
    rw [this,Option.isSome_some,zkD]
theorem mealy_row_eq (hi:m.Inputs≤64) {s:Nat} {x y:List Int} (hx:m.Next[s]?=some x) (hy:m.Out[s]?=some y):zbh.s14 m s=some (match rowE m s x with | some e=>.inr (.inr e) | none=>.inl (s+1)):=by
 have hs:=(zkI.1 hx).1;simp only [zbh.s14];rw [zkB (by omega),zkD,row_len hx hy,zaq];unfold rowE;rw [hy,Option.getD_some];by_cases h:(↑x.length:Int)≠m.Inputs∨(↑y.length:Int)≠m.Inputs
 ·rw [zkB h,zkD,if_pos h]
 ·rw [zkA h,zkC,if_neg h];have h1:(↑x.length:Int)=m.Inputs:=Classical.byContradiction fun q=>h (Or.inl q);have h2:(↑y.length:Int)=m.Inputs:=Classical.byContradiction fun q=>h (Or.inr q);rw [zfh (l:=x) (fun a u=>(celE m.Next.length u ((y[a]?).getD 0)).map fun r=>(.inr (.inr r):Nat⊕(Unit⊕Int))) (fun a u hu=>?_) ?_ (by omega),zaq,scan_map]
  ·cases scan (fun a u=>celE m.Next.length u ((y[a]?).getD 0)) 0 x<;>rfl
  ·simp only [zbh.s13];rw [zkA (by omega),zkC]
  ·have ha:=(zkI.1 hu).1;have hv:y[a]?=some y[a]:=get_at (by omega);rw [hv,Option.getD_some];simp only [zbh.s13];rw [zkB (by omega),zkD];simp only [zam hx,zam hy,zam hu,zam hv];rw [cel_cond,zaq];cases e:celE m.Next.length u y[a] with
   | none =>
    rw [Option.isSome_none,zkC,zas (by unfold inR;omega)];rfl
   | some r =>
    have:=celE_two (n:=m.Next.length) (u:=u) (v:=y[a]);rw [e] at this;injection this with this
    rw [this,Option.isSome_some,zkD];rfl
theorem zex (m:zaa):zci m=some (zdw m):=by
 unfold zci zdw;by_cases c1:m.Inputs<1
 ·rw [zkB c1,if_pos (Or.inl c1)];rfl
 rw [zkA c1,zkC];by_cases c2:64<m.Inputs
 ·rw [zkB c2,if_pos (Or.inr c2)];rfl
 rw [zkA c2,zaq,zkC,if_neg (by omega)];by_cases c3:m.Next.length=0
 ·rw [zkB (by omega),if_pos c3];rfl
 rw [zkA (by omega),zkC,if_neg c3];by_cases c4:128<m.Next.length
 ·rw [zkB (by omega),if_pos c4];rfl
 rw [zkA (by omega),zkC,if_neg c4];by_cases c5:m.Start<0
 ·rw [zkB c5,if_pos (Or.inl c5)];rfl
 rw [zkA c5,zkC];by_cases c6:(↑m.Next.length:Int)≤m.Start
 ·rw [zkB c6,if_pos (Or.inr c6)];rfl
 rw [zkA c6,zaq,zkC,if_neg (by omega)];by_cases c7:m.Out.length=m.Next.length
 ·rw [zkA (by omega),zkC,if_neg (by omega),zfh (l:=m.Next) (rowE m) (fun s x hx=>?_) ?_ (by omega),zaq]
  ·cases scan (rowE m) 0 m.Next<;>rfl
  ·simp only [zci.s2];rw [zkA (by omega),zkC]
  ·have hs:=(zkI.1 hx).1;simp only [zci.s2];rw [zkB (by omega),zkD,R06_row_eq (by omega) hx (get_at (l:=m.Out) (by omega)),zaq];cases e:rowE m s x with
   | none=>rfl
   | some r=>rw [zkB (rowE_ne e),zkD]
 ·rw [zkB (by omega),if_pos c7];rfl
theorem zdh (m:zaa):zbh m=some (zdw m):=by
 unfold zbh zdw;by_cases c1:m.Inputs<1
 ·rw [zkB c1,if_pos (Or.inl c1)];rfl
 rw [zkA c1,zkC];by_cases c2:64<m.Inputs
 ·rw [zkB c2,if_pos (Or.inr c2)];rfl
 rw [zkA c2,zaq,zkC,if_neg (by omega)];by_cases c3:m.Next.length=0
 ·rw [zkB (by omega),if_pos c3];rfl
 rw [zkA (by omega),zkC,if_neg c3];by_cases c4:128<m.Next.length
 ·rw [zkB (by omega),if_pos c4];rfl
 rw [zkA (by omega),zkC,if_neg c4];by_cases c5:m.Start<0
 ·rw [zkB c5,if_pos (Or.inl c5)];rfl
 rw [zkA c5,zkC];by_cases c6:(↑m.Next.length:Int)≤m.Start
 ·rw [zkB c6,if_pos (Or.inr c6)];rfl
 rw [zkA c6,zaq,zkC,if_neg (by omega)];by_cases c7:m.Out.length=m.Next.length
 ·rw [zkA (by omega),zkC,if_neg (by omega),zfh (l:=m.Next) (rowE m) (fun s x hx=>?_) ?_ (by omega),zaq]
  ·cases scan (rowE m) 0 m.Next<;>rfl
  ·simp only [zbh.s14];rw [zkA (by omega),zkC]
  ·have hs:=(zkI.1 hx).1;rw [mealy_row_eq (by omega) hx (get_at (l:=m.Out) (by omega))];cases rowE m s x<;>rfl
 ·rw [zkB (by omega),if_pos c7];rfl
theorem zek (h:zdw m=0):zdc m:=macOk_of (by rw [zex,h])
def fromM (m:zaa) (s:Int) (w:List Int):List Int×Int×Int :=
 if zdw m≠0 then ([],0,zdw m) else if s<0∨(↑m.Next.length:Int)≤s then ([],0,2) else if zi6 w m.Inputs≠0 then ([],0,zi6 w m.Inputs) else (outs m s.toNat w,(↑(dest m s.toNat w):Int),0)
theorem checkI_len {w:List Int} {n:Int} (h:zi6 w n=0):w.length≤1024:=by
 unfold zi6 at h;split at h
 ·split at h
  ·cases h
  ·omega
 ·cases h
theorem zrx {s:Int} {w:List Int} (hw:SmW w):zne m s w=some (fromM m s w):=by
 unfold zne fromM;rw [zex,zaq];by_cases c1:zdw m=0
 ·rw [zkA (by omega),zkC,if_neg (by omega)];by_cases c2:s<0
  ·rw [zkB c2,if_pos (Or.inl c2)];rfl
  rw [zkA c2,zkC];by_cases c3:(↑m.Next.length:Int)≤s
  ·rw [zkB c3,if_pos (Or.inr c3)];rfl
  rw [zkA c3,zaq,zkC,if_neg (by omega),R01_Check_eq _ _ hw,zaq];by_cases c4:zi6 w m.Inputs=0
  ·have:=checkI_len c4;have hO:=R06_Outs_eq (zek c1) (s:=s.toNat) (by omega) (w:=w) (check_mem c4) (by omega);rw [show (↑s.toNat:Int)=s by omega] at hO;rw [zkA (by omega),zkC,if_neg (by omega),hO,zaq]
  ·rw [zkB c4,zkD,if_pos c4]
 ·rw [zkB c1,zkD,if_pos c1]
end
end
section
section
variable {m:zaa} {ids:List (List (List Int))} {w:List Int}
end
end
section
section
variable {A:Type} [DecidableEq A]
def bfsB (e:A→Nat→A) (K:Nat) (s0:A):Nat→List (A×List Int)
 | 0=>[(s0,[])]
 | r+1=>match (bfsB e K s0 r)[r / K]? with
  | none=>bfsB e K s0 r
  | some x=>if e x.1 (r%K)∈(bfsB e K s0 r).map Prod.fst then bfsB e K s0 r else bfsB e K s0 r++[(e x.1 (r%K),x.2++[(↑(r%K):Int)])]
theorem zl5 {K i a:Nat} (h:a<K):(i*K+a) / K=i:=by
 rw [Nat.add_comm,Nat.add_mul_div_right _ _ (by omega),Nat.div_eq_of_lt h,Nat.zero_add]
theorem dm_mod {K i a:Nat} (h:a<K):(i*K+a)%K=a:=by
 rw [Nat.add_comm,Nat.add_mul_mod_self_right,Nat.mod_eq_of_lt h]
theorem znr {i n a K:Nat} (hi:i<n) (ha:a<K):i*K+a<n*K:=by
 have:(i+1)*K≤n*K:=Nat.mul_le_mul_right K hi;rw [Nat.succ_mul] at this;omega
variable {e:A→Nat→A} {K:Nat} {s0:A}
theorem bfs_step {i a:Nat} {x:A×List Int} (ha:a<K) (hx:(bfsB e K s0 (i*K+a))[i]?=some x) :
  bfsB e K s0 (i*K+(a+1))=if e x.1 a∈(bfsB e K s0 (i*K+a)).map Prod.fst then bfsB e K s0 (i*K+a) else bfsB e K s0 (i*K+a)++[(e x.1 a,x.2++[(↑a:Int)])]:=by
 show bfsB e K s0 ((i*K+a)+1)=_;rw [bfsB,zl5 ha,hx,dm_mod ha]
theorem bfs_pre1 (r:Nat):bfsB e K s0 r <+: bfsB e K s0 (r+1):=by
 rw [bfsB];split
 ·exact List.prefix_refl _
 ·split
  ·exact List.prefix_refl _
  ·exact List.prefix_append _ _
theorem zg9 {r:Nat}:∀ {r':Nat},r≤r'→bfsB e K s0 r <+: bfsB e K s0 r'
 | 0,h=>by
  have:r=0:=by omega
  subst this;exact List.prefix_refl _
 | r'+1,h=>by
  rcases Nat.lt_or_ge r (r'+1) with g | g
  ·exact (zg9 (r':=r') (by omega)).trans (bfs_pre1 r')
  ·have:r=r'+1:=by omega
   subst this;exact List.prefix_refl _
theorem zgv {α:Type} {l l':List α} (h:l <+: l') {i:Nat} {x:α} (hx:l[i]?=some x):l'[i]?=some x:=by
 obtain ⟨t,rfl⟩:=h;rw [List.getElem?_append_left (zkI.1 hx).1,hx]
theorem bfs_pos (r:Nat):(bfsB e K s0 r)[0]?=some (s0,[]):=zgv (zg9 (Nat.zero_le r)) rfl
theorem zi7:∀ r:Nat,((bfsB e K s0 r).map Prod.fst).Nodup
 | 0=>by simp [bfsB]
 | r+1=>by
  have ih:=zi7 r;rw [bfsB];split
  ·exact ih
  ·split
   ·exact ih
   ·rename_i x _ hn;rw [List.map_append,List.nodup_append];refine ⟨ih,by simp,fun a ha b hb hab=>hn ?_⟩;have:b=e x.1 (r%K):=by simpa using hb
    rw [← this,← hab];exact ha
theorem bfs_from:∀ {r u:Nat} {x:A×List Int},(bfsB e K s0 r)[u]?=some x→u=0∨∃ r' y,r'<r∧r' / K<u∧(bfsB e K s0 r)[r' / K]?=some y∧x=(e y.1 (r'%K),y.2++[(↑(r'%K):Int)])
 | 0,u,x,h=>by
  left;have:=(zkI.1 h).1;simp [bfsB] at this;exact this
 | r+1,u,x,h=>by
  have old:(bfsB e K s0 r)[u]?=some x→u=0∨∃ r' y,r'<r+1∧r' / K<u∧(bfsB e K s0 (r+1))[r' / K]?=some y∧x=(e y.1 (r'%K),y.2++[(↑(r'%K):Int)]):=fun h=>by
   rcases bfs_from h with h | ⟨r',y,h1,h2,h3,h4⟩
   ·exact Or.inl h
   ·exact Or.inr ⟨r',y,by omega,h2,zgv (bfs_pre1 r) h3,h4⟩
  have hh:=h;rw [bfsB] at h;split at h
  ·exact old h
  ·rename_i y hy;split at h
   ·exact old h
   ·rename_i hn;rcases Nat.lt_or_ge u (bfsB e K s0 r).length with g | g
    ·rw [List.getElem?_append_left g] at h;exact old h
    ·right;rw [List.getElem?_append_right g] at h
     have hu:u-(bfsB e K s0 r).length=0:=by
      have:=(zkI.1 h).1;simpa using this
     rw [hu] at h
     have hx:x=(e y.1 (r%K),y.2++[(↑(r%K):Int)]):=by
      simp at h;exact h.symm
     have hk:=(zkI.1 hy).1;exact ⟨r,y,by omega,by omega,zgv (bfs_pre1 r) hy,hx⟩
theorem bfs_to {r:Nat} {x:A×List Int} (hx:(bfsB e K s0 r)[r / K]?=some x):e x.1 (r%K)∈(bfsB e K s0 (r+1)).map Prod.fst:=by
 rw [bfsB,hx];simp only;split
 ·assumption
 ·simp
structure zfd (e:A→Nat→A) (K:Nat) (s0:A) (L:List (A×List Int)):Prop where
 eq:L=bfsB e K s0 (L.length*K)
variable {L:List (A×List Int)}
theorem zfd.at (h:zfd e K s0 L) {r:Nat} (hr:r≤L.length*K):bfsB e K s0 r <+: L:=by
 have:=zg9 (e:=e) (K:=K) (s0:=s0) hr;rw [← h.eq] at this;exact this
theorem zfd.first (h:zfd e K s0 L):L[0]?=some (s0,[]):=by
 rw [h.eq];exact bfs_pos _
theorem zfd.nodup (h:zfd e K s0 L):(L.map Prod.fst).Nodup:=by
 rw [h.eq];exact zi7 _
theorem zfd.long (h:zfd e K s0 L) {i a:Nat} (hi:i<L.length) (ha:a<K):∃ x,L[i]?=some x∧(bfsB e K s0 (i*K+a))[i]?=some x:=by
 refine ⟨_,zkM hi,?_⟩;have hpre:=h.at (r:=i*K+a) (by have:=znr hi ha;omega);rcases Nat.lt_or_ge i (bfsB e K s0 (i*K+a)).length with g | g
 ·have:=zgv hpre (zkM g);rw [zkM hi] at this;rw [zkM g,this]
 ·exfalso
  have stay:∀ d,bfsB e K s0 (i*K+a+d)=bfsB e K s0 (i*K+a):=by
   intro d
   induction d with
   | zero=>rfl
   | succ d ih =>
    show bfsB e K s0 (i*K+a+d+1)=_;rw [bfsB,ih,List.getElem?_eq_none ?_];have h1:(i*K+a) / K≤(i*K+a+d) / K:=Nat.div_le_div_right (by omega);rw [zl5 ha] at h1;omega
  have h2:=stay (L.length*K-(i*K+a));rw [show i*K+a+(L.length*K-(i*K+a))=L.length*K by have:=znr hi ha;omega,← h.eq] at h2;rw [← h2] at g;omega
theorem zfd.closed (h:zfd e K s0 L) {i a:Nat} {x:A×List Int} (hx:L[i]?=some x) (ha:a<K):∃ j y,L[j]?=some y∧y.1=e x.1 a∧∀ u,0<u→u≤j→∃ i' a' z w,a'<K∧i'*K+a'≤i*K+a∧i'<u∧L[i']?=some z∧L[u]?=some w∧w.1=e z.1 a':=by
 have hi:=(zkI.1 hx).1;obtain ⟨x',h1,h2⟩:=h.long hi ha;rw [hx] at h1;injection h1 with h1
 subst h1;have hlt:=znr hi ha;have hpre:=h.at (r:=i*K+a+1) (by omega);have h3:=bfs_to (e:=e) (K:=K) (s0:=s0) (r:=i*K+a) (x:=x) (by rw [zl5 ha];exact h2);rw [dm_mod ha] at h3;obtain ⟨y,hy,hye⟩:=List.mem_map.1 h3;obtain ⟨j,hj,hjy⟩:=List.mem_iff_getElem.1 hy;have hjy':(bfsB e K s0 (i*K+a+1))[j]?=some y:=by rw [zkM hj,hjy]
 refine ⟨j,y,zgv hpre hjy',hye,fun u hu huj=>?_⟩;have hul:u<(bfsB e K s0 (i*K+a+1)).length:=by omega
 have hw:=zkM hul;rcases bfs_from hw with q | ⟨r',z,q1,q2,q3,q4⟩
 ·omega
 ·have hK:0<K:=by omega
  refine ⟨r' / K,r'%K,z,_,Nat.mod_lt _ hK,?_,q2,zgv hpre q3,zgv hpre hw,by rw [q4]⟩;have:=Nat.div_add_mod r' K;rw [Nat.mul_comm] at this;omega
theorem zfd.from (h:zfd e K s0 L) (hK:0<K) {u:Nat} {x:A×List Int} (hx:L[u]?=some x):u=0∨∃ i a y,i<u∧a<K∧L[i]?=some y∧x=(e y.1 a,y.2++[(↑a:Int)]):=by
 have hx':=hx;rw [h.eq] at hx';rcases bfs_from hx' with q | ⟨r',z,q1,q2,q3,q4⟩
 ·exact Or.inl q
 ·rw [← h.eq] at q3;exact Or.inr ⟨r' / K,r'%K,z,q2,Nat.mod_lt _ hK,q3,q4⟩
theorem zfd.uniq {L':List (A×List Int)} (hK:0<K) (h:zfd e K s0 L) (h':zfd e K s0 L'):L=L':=by
 have key:∀ {L L':List (A×List Int)},zfd e K s0 L→zfd e K s0 L'→L.length≤L'.length→L=L':=fun {L L'} h h' hl=>by
  rcases Nat.lt_or_ge L.length L'.length with g | g
  ·exfalso
   have hpre:L <+: L':=by
    have:=h'.at (r:=L.length*K) (Nat.mul_le_mul_right K hl)
    rwa [← h.eq] at this
   obtain ⟨x,_,hx⟩:=h'.long g hK;rw [Nat.add_zero,← h.eq,List.getElem?_eq_none (Nat.le_refl _)] at hx;cases hx
  ·have e1:L.length=L'.length:=by omega
   rw [h.eq,h'.eq,e1]
 rcases Nat.le_total L.length L'.length with g | g
 ·exact key h h' g
 ·exact (key h' h g).symm
end
end
section
def E (m:zaa):Nat→Nat→Nat→Prop
 | 0,_,_=>True
 | k+1,s,t=>E m k s t∧∀ a,a<m.Inputs.toNat→ot m s a=ot m t a∧E m k (nx m s a) (nx m t a)
section
variable {m:zaa}
theorem E_refl:∀ (k s:Nat),E m k s s
 | 0,_=>trivial
 | k+1,s=>⟨E_refl k s,fun _ _=>⟨rfl,E_refl k _⟩⟩
theorem zoy:∀ {k s t:Nat},E m k s t→E m k t s
 | 0,_,_,_=>trivial
 | _+1,_,_,h=>⟨zoy h.1,fun a ha=>⟨(h.2 a ha).1.symm,zoy (h.2 a ha).2⟩⟩
theorem ziw:∀ {k s t u:Nat},E m k s t→E m k t u→E m k s u
 | 0,_,_,_,_,_=>trivial
 | _+1,_,_,_,h,g=>⟨ziw h.1 g.1,fun a ha=>⟨(h.2 a ha).1.trans (g.2 a ha).1,ziw (h.2 a ha).2 (g.2 a ha).2⟩⟩
theorem E_mono {k j s t:Nat} (hk:k≤j) (h:E m j s t):E m k s t:=by
 induction j with
 | zero =>
  have e:k=0:=by omega
  subst e;exact h
 | succ j ih =>
  rcases Nat.lt_or_ge k (j+1) with h1 | h1
  ·exact ih (by omega) h.1
  ·have e:k=j+1:=by omega
   subst e;exact h
theorem zn3:∀ {k s t:Nat},(∀ w,w.length≤k→WOk m.Inputs w→outs m s w=outs m t w)→E m k s t
 | 0,_,_,_=>trivial
 | k+1,s,t,h=>⟨zn3 fun w hl hw=>h w (by omega) hw,fun a ha=>by
  have hx:∀ w,w.length≤k→WOk m.Inputs w→ot m s a=ot m t a∧outs m (nx m s a) w=outs m (nx m t a) w:=fun w hl hw=>by
   have h1:=h ((↑a:Int)::w) (by simp;omega) (fun x hx=>by
    rcases List.mem_cons.1 hx with rfl | hx
    ·exact ⟨by omega,by omega⟩
    ·exact hw x hx)
   have h2:ot m s a::outs m (nx m s a) w=ot m t a::outs m (nx m t a) w:=h1
   injection h2 with h3 h4
   exact ⟨h3,h4⟩
  exact ⟨(hx [] (Nat.zero_le _) (fun x hx=>by cases hx)).1,zn3 fun w hl hw=>(hx w hl hw).2⟩⟩
structure zh2 (m:zaa) (k:Nat) (c:List Int):Prop where
 len:c.length=m.Next.length
 rng:∀ s,s<m.Next.length→∃ x:Nat,c[s]?=some (↑x:Int)∧x<m.Next.length
 cls:∀ s t,s<m.Next.length→t<m.Next.length→(c[s]?=c[t]?↔E m k s t)
def Alike (m:zaa) (c:List Int) (s t a:Nat):Prop:=c[s]?=c[t]?∧∀ b,b<a→ot m s b=ot m t b∧c[nx m s b]?=c[nx m t b]?
theorem alike_iff (H:zdc m) {k:Nat} {c:List Int} (C:zh2 m k c) {s t:Nat} (hs:s<m.Next.length) (ht:t<m.Next.length):Alike m c s t m.Inputs.toNat↔E m (k+1) s t:=by
 constructor
 ·rintro ⟨h1,h2⟩;exact ⟨(C.cls s t hs ht).1 h1,fun a ha=>⟨(h2 a ha).1,(C.cls _ _ (H.at hs ha).1 (H.at ht ha).1).1 (h2 a ha).2⟩⟩
 ·rintro ⟨h1,h2⟩;exact ⟨(C.cls s t hs ht).2 h1,fun a ha=>⟨(h2 a ha).1,(C.cls _ _ (H.at hs ha).1 (H.at ht ha).1).2 (h2 a ha).2⟩⟩
theorem finer_same (H:zdc m) {k:Nat} {c:List Int} (C:zh2 m k c) {s t:Nat} (hs:s<m.Next.length) (ht:t<m.Next.length) {b0:Bool} (hb:b0=true↔c[s]?=c[t]?) :
  ∃ r:Bool,iter (fun (q:Bool×Nat)=>zbx.s89 m c s (↑t:Int) q.1 q.2) fuel (b0,0)=some r∧(r=true↔E m (k+1) s t):=by
 have hI:=H.i2
 obtain ⟨r,hr,hq⟩:=zbi (step:=fun (q:Bool×Nat)=>zbx.s89 m c s (↑t:Int) q.1 q.2) (fun q=>q.2≤m.Inputs.toNat∧(q.1=true↔Alike m c s t q.2)) (fun q=>m.Inputs.toNat-q.2) (fun r=>r=true↔Alike m c s t m.Inputs.toNat) (fun q ⟨g1,g2⟩=>by
  obtain ⟨b,a⟩:=q
  simp only at g1 g2
  simp only [zbx.s89]
  by_cases g3:a<m.Inputs.toNat
  ·rw [zkB (by omega),zkD,zaq]
   cases b with
   | false =>
    right
    rw [zkC]
    exact ⟨false,rfl,⟨fun h=>(by cases h),fun h=>absurd (g2.2 ⟨h.1,fun b hb=>h.2 b (by omega)⟩) (by simp)⟩⟩
   | true =>
    left
    obtain ⟨s1,_,_,x,y,e1,e2,e3,e4⟩:=H.at hs g3
    obtain ⟨t1,_,_,x',y',f1,f2,f3,f4⟩:=H.at ht g3
    obtain ⟨u,u1,u2⟩:=C.rng _ s1
    obtain ⟨v,v1,v2⟩:=C.rng _ t1
    have g2:=g2.1 rfl
    rw [zkD,zam e2,zam e4,zbw rfl f2,zam f4]
    by_cases g4:ot m s a=ot m t a
    ·refine ⟨(decide ((↑u:Int)=(↑v:Int)),a+1),?_,⟨g3,?_⟩,by simp only;omega⟩
     ·rw [zkB g4,zkD,zam e1,zam e3,zbw rfl u1,zbw rfl f1,zam f3,zbw rfl v1,zas (by unfold inR;omega)]
     ·simp only [decide_eq_true_eq]
      constructor
      ·intro h
       refine ⟨g2.1,fun b hb=>?_⟩
       rcases Nat.lt_or_ge b a with h1 | h1
       ·exact g2.2 b h1
       ·have e:b=a:=by omega
        subst e
        exact ⟨g4,by rw [u1,v1,h]⟩
      ·intro h
       have h1:=(h.2 a (by omega)).2
       rw [u1,v1] at h1
       injection h1
    ·refine ⟨(false,a+1),?_,⟨g3,?_⟩,by simp only;omega⟩
     ·rw [zkA g4,zkC,zas (by unfold inR;omega)]
     ·exact ⟨fun h=>(by cases h),fun h=>absurd (h.2 a (by omega)).1 g4⟩
  ·right
   have e:a=m.Inputs.toNat:=by omega
   subst e
   exact ⟨b,by rw [zkA (by omega),zkC,zaq,zkC],g2⟩) fuel (b0,0) ⟨Nat.zero_le _,by rw [hb];exact ⟨fun h=>⟨h,fun b hb=>absurd hb (Nat.not_lt_zero _)⟩,fun h=>h.1⟩⟩ (by have:=za2;simp only;omega)
 exact ⟨r,hr,hq.trans (alike_iff H C hs ht)⟩
theorem finer_found (H:zdc m) {k:Nat} {c:List Int} (C:zh2 m k c) {s:Nat} (hs:s<m.Next.length) {y:List Int} (hy:y.length=s) :
  ∃ r:Int,iter (fun (q:Int×Int)=>zbx.s90 m c y s q.1 q.2) fuel ((-1:Int),(↑s:Int)-1)=some r∧((r=-1∧∀ t,t<s→¬ E m (k+1) s t)∨∃ t,t<s∧E m (k+1) s t∧y[t]?=some r):=by
 have hn:=H.n2
 obtain ⟨r,hr,hq⟩:=zbi (step:=fun (q:Int×Int)=>zbx.s90 m c y s q.1 q.2) (fun q=>-1≤q.2∧q.2<(↑s:Int)∧((q.1=-1∧∀ t:Nat,q.2<(↑t:Int)→t<s→¬ E m (k+1) s t)∨∃ t,t<s∧E m (k+1) s t∧y[t]?=some q.1)) (fun q=>(q.2+1).toNat) (fun r=>(r=-1∧∀ t,t<s→¬ E m (k+1) s t)∨∃ t,t<s∧E m (k+1) s t∧y[t]?=some r) (fun q ⟨g1,g2,g3⟩=>by
  obtain ⟨f,t⟩:=q
  simp only at g1 g2 g3
  simp only [zbx.s90]
  by_cases g4:0≤t
  ·left
   obtain ⟨t,rfl⟩:∃ t':Nat,t=(↑t':Int):=⟨t.toNat,by omega⟩
   have hts:t<s:=by omega
   have ht:t<m.Next.length:=by omega
   obtain ⟨u,u1,u2⟩:=C.rng s hs
   obtain ⟨v,v1,v2⟩:=C.rng t ht
   obtain ⟨b,b1,b2⟩:=finer_same H C hs ht (b0:=decide ((↑u:Int)=(↑v:Int))) (by
    rw [u1,v1,decide_eq_true_eq]
    exact ⟨fun h=>by rw [h],fun h=>by injection h⟩)
   have hyt:=get_at (l:=y) (i:=t) (by omega)
   rw [zkB g4,zkD,zam u1,zbw rfl v1,b1,zaq]
   cases b with
   | true =>
    refine ⟨(y[t]'(by omega),(↑t:Int)-1),by rw [zkD,zbw rfl hyt,zas (by unfold inR;omega)],⟨by simp only;omega,by simp only;omega,Or.inr ⟨t,hts,b2.1 rfl,hyt⟩⟩,by simp only;omega⟩
   | false =>
    refine ⟨(f,(↑t:Int)-1),by rw [zkC,zas (by unfold inR;omega)],⟨by simp only;omega,by simp only;omega,?_⟩,by simp only;omega⟩
    rcases g3 with ⟨h1,h2⟩ | h
    ·refine Or.inl ⟨h1,fun t' h3 h4=>?_⟩
     simp only at h3
     by_cases e:t'=t
     ·subst e
      exact fun h=>absurd (b2.2 h) (by simp)
     ·exact h2 t' (by omega) h4
    ·exact Or.inr h
  ·right
   have e:t=-1:=by omega
   subst e
   refine ⟨f,by rw [zkA (by omega),zkC],?_⟩
   rcases g3 with ⟨h1,h2⟩ | h
   ·exact Or.inl ⟨h1,fun t' h4=>h2 t' (by omega) h4⟩
   ·exact Or.inr h) fuel ((-1:Int),(↑s:Int)-1) ⟨by simp only;omega,by simp only;omega,Or.inl ⟨rfl,fun t h1 h2=>by simp only at h1;omega⟩⟩ (by have:=za2;simp only;omega)
 exact ⟨r,hr,hq⟩
structure FinOk (m:zaa) (k:Nat) (y:List Int) (n s:Nat):Prop where
 ls:s≤m.Next.length
 len:y.length=s
 cnt:n≤s
 rng:∀ i,i<s→∃ x:Nat,y[i]?=some (↑x:Int)∧x<n
 cls:∀ i j,i<s→j<s→(y[i]?=y[j]?↔E m k i j)
theorem R08_finer_eq (H:zdc m) {k:Nat} {c:List Int} (C:zh2 m k c):∃ c',zbx m c=some c'∧zh2 m (k+1) c':=by
 have hn:=H.n2;unfold zbx
 obtain ⟨r,hr,n,hq⟩:=zbi (step:=fun (q:List Int×Nat×Nat)=>zbx.s92 m c q.1 q.2.1 q.2.2) (fun q=>FinOk m (k+1) q.1 q.2.1 q.2.2) (fun q=>m.Next.length-q.2.2) (fun r=>∃ n,FinOk m (k+1) r n m.Next.length) (fun q Q=>by
  obtain ⟨y,n,s⟩:=q
  simp only at Q
  have hc:=Q.cnt
  have hl:=Q.len
  have hls:=Q.ls
  simp only [zbx.s92]
  rw [C.len]
  by_cases g1:s<m.Next.length
  ·left
   obtain ⟨f,f1,f2⟩:=finer_found H C g1 Q.len
   rw [zkB (by omega),zkD,f1,zaq]
   rcases f2 with ⟨rfl,f2⟩ | ⟨t,ht,hE,f2⟩
   ·-- a class of its own
    rw [zkB (by omega),zkD,zas (by unfold inR;omega),zaq]
    refine ⟨(y++[(↑n:Int)],n+1,s+1),by simp only [zbx.k91];rw [zas (by unfold zaw;omega)],(show FinOk m (k+1) (y++[(↑n:Int)]) (n+1) (s+1) from ⟨g1,by simp [Q.len],by omega,fun i hi=>?_,fun i j hi hj=>?_⟩),by simp only;omega⟩
    ·rcases Nat.lt_or_ge i s with h | h
     ·obtain ⟨x,x1,x2⟩:=Q.rng i h
      exact ⟨x,by rw [List.getElem?_append_left (by omega),x1],by omega⟩
     ·have e:i=y.length:=by omega
      subst e
      exact ⟨n,by simp,by omega⟩
    ·have old:∀ i,i<s→(y++[(↑n:Int)])[i]?=y[i]?:=fun i hi=>List.getElem?_append_left (by omega)
     have new:(y++[(↑n:Int)])[s]?=some (↑n:Int):=by rw [List.getElem?_append_right (by omega),hl,Nat.sub_self];rfl
     have ne:∀ i,i<s→y[i]?≠some (↑n:Int):=fun i hi h=>by
      obtain ⟨x,x1,x2⟩:=Q.rng i hi
      rw [x1] at h
      injection h with h
      omega
     rcases Nat.lt_or_ge i s with h | h<;>rcases Nat.lt_or_ge j s with h' | h'
     ·rw [old i h,old j h']
      exact Q.cls i j h h'
     ·have e:j=s:=by omega
      subst e
      rw [old i h,new]
      exact ⟨fun h2=>absurd h2 (ne i h),fun h2=>absurd (zoy h2) (f2 i h)⟩
     ·have e:i=s:=by omega
      subst e
      rw [old j h',new]
      exact ⟨fun h2=>absurd h2.symm (ne j h'),fun h2=>absurd h2 (f2 j h')⟩
     ·have e:i=s:=by omega
      have e':j=s:=by omega
      subst e
      subst e'
      exact ⟨fun _=>E_refl _ _,fun _=>rfl⟩
   ·obtain ⟨x,x1,x2⟩:=Q.rng t ht
    rw [f2] at x1
    injection x1 with x1
    subst x1
    rw [zkA (by omega),zkC,zaq]
    refine ⟨(y++[(↑x:Int)],n,s+1),by simp only [zbx.k91];rw [zas (by unfold zaw;omega)],(show FinOk m (k+1) (y++[(↑x:Int)]) n (s+1) from ⟨g1,by simp [Q.len],by omega,fun i hi=>?_,fun i j hi hj=>?_⟩),by simp only;omega⟩
    ·rcases Nat.lt_or_ge i s with h | h
     ·obtain ⟨z,z1,z2⟩:=Q.rng i h
      exact ⟨z,by rw [List.getElem?_append_left (by omega),z1],z2⟩
     ·have e:i=y.length:=by omega
      subst e
      exact ⟨x,by simp,x2⟩
    ·have old:∀ i,i<s→(y++[(↑x:Int)])[i]?=y[i]?:=fun i hi=>List.getElem?_append_left (by omega)
     have new:(y++[(↑x:Int)])[s]?=y[t]?:=by rw [List.getElem?_append_right (by omega),hl,Nat.sub_self,f2];rfl
     rcases Nat.lt_or_ge i s with h | h<;>rcases Nat.lt_or_ge j s with h' | h'
     ·rw [old i h,old j h']
      exact Q.cls i j h h'
     ·have e:j=s:=by omega
      subst e
      rw [old i h,new,Q.cls i t h ht]
      exact ⟨fun h2=>ziw h2 (zoy hE),fun h2=>ziw h2 hE⟩
     ·have e:i=s:=by omega
      subst e
      rw [old j h',new,Q.cls t j ht h']
      exact ⟨fun h2=>ziw hE h2,fun h2=>ziw (zoy hE) h2⟩
     ·have e:i=s:=by omega
      have e':j=s:=by omega
      subst e
      subst e'
      exact ⟨fun _=>E_refl _ _,fun _=>rfl⟩
  ·right
   have e:s=m.Next.length:=by omega
   subst e
   exact ⟨y,by rw [zkA (by omega),zkC],n,Q⟩) fuel ([],0,0) ⟨Nat.zero_le _,rfl,Nat.le_refl _,fun i h=>absurd h (Nat.not_lt_zero _),fun i j h=>absurd h (Nat.not_lt_zero _)⟩ (by have:=za2;simp only;omega)
 refine ⟨r,by rw [hr,zaq],hq.len,fun s hs=>?_,fun s t hs ht=>hq.cls s t hs ht⟩;obtain ⟨x,x1,x2⟩:=hq.rng s hs;have:=hq.cnt;exact ⟨x,x1,by omega⟩
theorem zpm (hv:zci m=some 0) (k:Nat):∃ c,zc6 m (↑k:Int)=some (c,0)∧zh2 m (min k m.Next.length) c:=by
 have H:=macOk_of hv;have hn:=H.n2;unfold zc6;rw [hv,zaq,zkA (by simp),zkC,zas ⟨by omega,by omega,by unfold zaw;omega⟩]
 obtain ⟨r,hr,hq⟩:=zbi (step:=fun (q:List Int×Nat)=>zc6.s2 m (↑k:Int) q.1 q.2) (fun q=>q.2≤min k m.Next.length∧zh2 m q.2 q.1) (fun q=>min k m.Next.length-q.2) (fun r=>zh2 m (min k m.Next.length) r) (fun q ⟨g1,g2⟩=>by
  obtain ⟨y,i⟩:=q
  simp only at g1 g2
  simp only [zc6.s2]
  by_cases g3:i<min k m.Next.length
  ·left
   obtain ⟨c',e1,e2⟩:=R08_finer_eq H g2
   refine ⟨(c',i+1),?_,⟨g3,e2⟩,by simp only;omega⟩
   rw [zkB (by omega),zkD,zaq,zkB (by omega),zkD,e1,zaq,zas (by unfold inR;omega)]
  ·right
   have e:i=min k m.Next.length:=by omega
   refine ⟨y,?_,e ▸ g2⟩
   by_cases h:i<k
   ·rw [zkB (by omega),zkD,zaq,zkA (by omega),zkC]
   ·rw [zkA (by omega),zkC,zaq,zkC]) fuel ((List.replicate m.Next.length 0),0) ⟨Nat.zero_le _,⟨by simp,fun s hs=>⟨0,by simp [hs],H.n1⟩,fun s t hs ht=>⟨fun _=>trivial,fun _=>by simp [hs,ht]⟩⟩⟩ (by have:=za2;simp only;omega)
 exact ⟨r,by rw [hr,zaq],hq⟩
theorem zo4 {α:Type} {p q:α→Bool}:∀ {l:List α},(∀ x∈l,p x=true→q x=true)→l.countP q≤l.countP p→∀ x∈l,q x=true→p x=true
 | [],_,_,x,hx,_=>by cases hx
 | y::l,h,hc,x,hx,hq=>by
  have h1:l.countP p≤l.countP q:=List.countP_mono_left fun x hx=>h x (List.mem_cons_of_mem _ hx);rw [List.countP_cons,List.countP_cons] at hc;have h2:=h y (List.mem_cons_self ..)
  have h3:l.countP q≤l.countP p∧(q y=true→p y=true):=by
   cases e1:q y<;>cases e2:p y<;>simp [e1,e2] at hc h2 ⊢<;>omega
  rcases List.mem_cons.1 hx with rfl | hx
  ·exact h3.2 hq
  ·exact zo4 (fun x hx=>h x (List.mem_cons_of_mem _ hx)) h3.1 x hx hq
def Rep (m:zaa) (k s:Nat):Prop:=∀ t,t<s→¬ E m k s t
open Classical in
noncomputable def nreps (m:zaa) (k:Nat):Nat:=(List.range m.Next.length).countP fun s=>decide (Rep m k s)
theorem zte (k:Nat):∀ (s:Nat),∃ r,r≤s∧Rep m k r∧E m k s r:=by
 intro s
 induction s using Nat.strongRecOn with
 | ind s ih =>
  by_cases h:Rep m k s
  ·exact ⟨s,Nat.le_refl _,h,E_refl _ _⟩
  ·have ⟨t,h1⟩:=Classical.not_forall.1 h;obtain ⟨h2,h3⟩:=Classical.not_imp.1 h1;have h3:=Classical.not_not.1 h3;obtain ⟨r,r1,r2,r3⟩:=ih t h2;exact ⟨r,by omega,r2,ziw h3 r3⟩
def Stab (m:zaa) (k:Nat):Prop:=∀ s t,s<m.Next.length→t<m.Next.length→E m k s t→E m (k+1) s t
theorem rep_succ {k s:Nat} (h:Rep m k s):Rep m (k+1) s:=fun t ht hE=>h t ht hE.1
open Classical in
open Classical in
theorem stab_of {k:Nat} (h:nreps m (k+1)≤nreps m k):Stab m k:=by
 intro s t hs ht hE;unfold nreps at h;have key:=zo4 (l:=List.range m.Next.length) (fun s _ h=>zkB (rep_succ (of_decide_eq_true h))) h;obtain ⟨r,r1,r2,r3⟩:=zte (m:=m) (k+1) s;obtain ⟨u,u1,u2,u3⟩:=zte (m:=m) (k+1) t;have r4:Rep m k r:=of_decide_eq_true (key r (List.mem_range.2 (by omega)) (zkB r2));have u4:Rep m k u:=of_decide_eq_true (key u (List.mem_range.2 (by omega)) (zkB u2));have hru:E m k r u:=ziw (zoy r3.1) (ziw hE u3.1)
 have e:r=u:=by
  rcases Nat.lt_trichotomy r u with h1 | h1 | h1
  ·exact absurd (zoy hru) (u4 r h1)
  ·exact h1
  ·exact absurd hru (r4 u h1)
 subst e;exact ziw r3 (zoy u3)
theorem stab_succ (H:zdc m) {k:Nat} (h:Stab m k):Stab m (k+1):=fun s t hs ht hE =>
 ⟨hE,fun a ha=>⟨(hE.2 a ha).1,h _ _ (H.at hs ha).1 (H.at ht ha).1 (hE.2 a ha).2⟩⟩
theorem stab_add (H:zdc m) {k:Nat} (h:Stab m k):∀ j,Stab m (k+j)
 | 0=>h
 | j+1=>stab_succ H (stab_add H h j)
open Classical in
theorem stab_exists (H:zdc m):∃ k,k<m.Next.length∧Stab m k:=by
 refine Classical.byContradiction fun hno=>?_
 have hall:∀ k,k≤m.Next.length→k+1≤nreps m k:=by
  intro k
  induction k with
  | zero =>
   intro _;unfold nreps;have:0<(List.range m.Next.length).countP fun s=>@decide (Rep m 0 s) (Classical.propDecidable _):=List.countP_pos_iff.2 ⟨0,List.mem_range.2 H.n1,zkB fun t ht=>absurd ht (Nat.not_lt_zero _)⟩;exact this
  | succ k ih =>
   intro hk;have h1:=ih (by omega);rcases Nat.lt_or_ge (nreps m k) (nreps m (k+1)) with h2 | h2
   ·omega
   ·exact absurd ⟨k,by omega,stab_of h2⟩ hno
 have h1:=hall _ (Nat.le_refl _);have h2:nreps m m.Next.length≤(List.range m.Next.length).length:=List.countP_le_length;rw [List.length_range] at h2;omega
theorem E_all (H:zdc m) {s t:Nat} (hs:s<m.Next.length) (ht:t<m.Next.length) (h:E m m.Next.length s t) (j:Nat):E m j s t:=by
 obtain ⟨k,hk,hS⟩:=stab_exists H
 have key:∀ i,E m (k+i) s t:=by
  intro i
  induction i with
  | zero=>exact E_mono (by omega) h
  | succ i ih=>exact stab_add H hS i s t hs ht ih
 exact E_mono (by omega) (key j)
end
end
section
theorem zhf {α:Type} [DecidableEq α]:∀ {l l':List α},l.Nodup→(∀ x∈l,x∈l')→l.length≤l'.length
 | [],_,_,_=>Nat.zero_le _
 | x::l,l',h,hs=>by
  have h1:=List.nodup_cons.1 h;have hx:=hs x (by simp);have ih:=zhf (l:=l) (l':=l'.erase x) h1.2 (fun y hy=>(List.mem_erase_of_ne (fun e=>h1.1 (by rw [← e];exact hy))).2 (hs y (List.mem_cons_of_mem _ hy)));rw [List.length_erase_of_mem hx] at ih;have:=List.length_pos_of_mem hx;simp only [zkL];omega
def natI (l:List Nat):List Int:=l.map fun (x:Nat)=>(↑x:Int)
theorem zn4 {l:List Nat} {i u:Nat} (h:l[i]?=some u):(natI l)[i]?=some (↑u:Int):=by
 unfold natI;rw [List.getElem?_map,h];rfl
theorem zqi (l:List Nat) (t:Nat):natI l++[(↑t:Int)]=natI (l++[t]):=by simp [natI]
theorem zeh (l:List Nat):(natI l).length=l.length:=by simp [natI]
def Ext (l l':List Nat):Prop:=∀ j u:Nat,l[j]?=some u→l'[j]?=some u
theorem Ext.rfl' {l:List Nat}:Ext l l:=fun _ _ h=>h
theorem Ext.trans {l l' l'':List Nat} (h:Ext l l') (g:Ext l' l''):Ext l l'':=fun j u e=>g j u (h j u e)
theorem Ext.push (l:List Nat) (t:Nat):Ext l (l++[t]):=fun j u h=>by
 have:=(zkI.1 h).1;rw [List.getElem?_append_left this,h]
structure Num (m:zaa) (c:List Int) (ord:List Nat) (num:List Int):Prop where
 rng:∀ u∈ord,u<m.Next.length
 start:ord[0]?=some m.Start.toNat
 len:num.length=m.Next.length
 n1:∀ j u x:Nat,ord[j]?=some u→c[u]?=some (↑x:Int)→num[x]?=some (↑j:Int)
 n2:∀ x:Nat,x<m.Next.length→num[x]?=some (-1:Int)∨∃ j u:Nat,num[x]?=some (↑j:Int)∧ord[j]?=some u∧c[u]?=some (↑x:Int)
 reach:∀ j u:Nat,ord[j]?=some u→j=0∨∃ i v a:Nat,i<j∧ord[i]?=some v∧a<m.Inputs.toNat∧u=nx m v a
section
variable {m:zaa} {c num:List Int} {ord:List Nat} {k:Nat}
theorem Num.inj (N:Num m c ord num) (C:zh2 m k c) {i j u v:Nat} (hi:ord[i]?=some u) (hj:ord[j]?=some v) (h:c[u]?=c[v]?):i=j:=by
 obtain ⟨x,x1,_⟩:=C.rng u (N.rng u (zkH hi));have h1:=N.n1 i u x hi x1;have h2:=N.n1 j v x hj (by rw [← h,x1]);rw [h1] at h2;injection h2 with h2
 omega
theorem Num.nodup (N:Num m c ord num) (C:zh2 m k c):ord.Nodup:=by
 refine List.pairwise_iff_getElem.2 fun i j hi hj hij h=>?_;have:=N.inj C (get_at hi) (get_at hj) (by rw [h]);omega
theorem Num.le (N:Num m c ord num) (C:zh2 m k c):ord.length≤m.Next.length:=by
 have:=zhf (N.nodup C) (l':=List.range m.Next.length) fun x hx=>List.mem_range.2 (N.rng x hx)
 rwa [List.length_range] at this
theorem Num.push (N:Num m c ord num) {i v a t x:Nat} (hi:ord[i]?=some v) (ha:a<m.Inputs.toNat) (ht:t=nx m v a) (htn:t<m.Next.length) (hx:c[t]?=some (↑x:Int)) (hxn:x<m.Next.length) (hn:num[x]?=some (-1:Int)):Num m c (ord++[t]) (num.set x (↑ord.length:Int)) where
 rng:=fun u hu=>by
  rcases List.mem_append.1 hu with h | h
  ·exact N.rng u h
  ·rw [List.mem_singleton.1 h];exact htn
 start:=Ext.push ord t 0 _ N.start
 len:=by rw [List.length_set,N.len]
 n1:=fun j u y hj hc=>by
  rcases Nat.lt_or_ge j ord.length with h | h
  ·rw [List.getElem?_append_left h] at hj;have h1:=N.n1 j u y hj hc
   have hne:x≠y:=fun e=>by
    subst e;rw [hn] at h1;injection h1 with h1
    omega
   rw [List.getElem?_set_ne hne];exact h1
  ·have h2:=(zkI.1 hj).1;rw [zkJ,List.length_singleton] at h2;have e:j=ord.length:=by omega
   subst e;rw [List.getElem?_append_right (Nat.le_refl _),Nat.sub_self] at hj;injection hj with hj
   subst hj;rw [hx] at hc;injection hc with hc
   have e:x=y:=by omega
   subst e;rw [List.getElem?_set_self (by rw [N.len];exact hxn)]
 n2:=fun y hy=>by
  by_cases e:x=y
  ·subst e;exact Or.inr ⟨ord.length,t,by rw [List.getElem?_set_self (by rw [N.len];exact hxn)],by simp,hx⟩
  ·rw [List.getElem?_set_ne e];rcases N.n2 y hy with h | ⟨j,u,h1,h2,h3⟩
   ·exact Or.inl h
   ·exact Or.inr ⟨j,u,h1,Ext.push ord t j u h2,h3⟩
 reach:=fun j u hj=>by
  rcases Nat.lt_or_ge j ord.length with h | h
  ·rw [List.getElem?_append_left h] at hj;rcases N.reach j u hj with h1 | ⟨i',v',a',h1,h2,h3,h4⟩
   ·exact Or.inl h1
   ·exact Or.inr ⟨i',v',a',h1,Ext.push ord t i' v' h2,h3,h4⟩
  ·have h2:=(zkI.1 hj).1;rw [zkJ,List.length_singleton] at h2;have e:j=ord.length:=by omega
   subst e;rw [List.getElem?_append_right (Nat.le_refl _),Nat.sub_self] at hj;injection hj with hj
   exact Or.inr ⟨i,v,a,(zkI.1 hi).1,Ext.push ord t i v hi,ha,by rw [← hj,ht]⟩
structure RowAt (m:zaa) (c:List Int) (ord:List Nat) (v:Nat) (row out:List Int) (a:Nat):Prop where
 l1:row.length=a
 l2:out.length=a
 cell:∀ b,b<a→∃ j u:Nat,row[b]?=some (↑j:Int)∧ord[j]?=some u∧c[u]?=c[nx m v b]?∧out[b]?=some (ot m v b)
theorem RowAt.mono {v:Nat} {row out:List Int} {a:Nat} {ord':List Nat} (h:Ext ord ord') (R:RowAt m c ord v row out a):RowAt m c ord' v row out a :=
 ⟨R.l1,R.l2,fun b hb=>by
  obtain ⟨j,u,h1,h2,h3⟩:=R.cell b hb
  exact ⟨j,u,h1,h j u h2,h3⟩⟩
structure MinOk (m M:zaa) (c:List Int) (ord:List Nat) (num:List Int):Prop where
 cls:zh2 m m.Next.length c
 num:Num m c ord num
 inp:M.Inputs=m.Inputs
 start:M.Start=0
 l1:M.Next.length=ord.length
 l2:M.Out.length=ord.length
 row:∀ i v:Nat,ord[i]?=some v→∃ row out,M.Next[i]?=some row∧M.Out[i]?=some out∧RowAt m c ord v row out m.Inputs.toNat
end
end
section
section
variable {m:zaa}
def mB (m:zaa) (s0 r:Nat):List (Nat×List Int):=bfsB (nx m) m.Inputs.toNat s0 r
abbrev MEnd (m:zaa) (s0:Nat) (L:List (Nat×List Int)):Prop:=zfd (nx m) m.Inputs.toNat s0 L
theorem zlb (H:zdc m) {s0:Nat} (hs:s0<m.Next.length):∀ (r:Nat),∀ x∈mB m s0 r,x.1<m.Next.length∧x.2.length≤r∧dest m s0 x.2=x.1∧WOk m.Inputs x.2
 | 0,x,hx=>by
  have:x=(s0,[]):=by simpa [mB,bfsB] using hx
  subst this;exact ⟨hs,Nat.le_refl _,rfl,fun a ha=>by cases ha⟩
 | r+1,x,hx=>by
  have ih:=zlb H hs r
  have old:x∈mB m s0 r→x.1<m.Next.length∧x.2.length≤r+1∧dest m s0 x.2=x.1∧WOk m.Inputs x.2:=fun h=>by
   have:=ih x h;exact ⟨this.1,by omega,this.2.2⟩
  unfold mB at hx;rw [bfsB] at hx;split at hx
  ·exact old hx
  ·rename_i y hy;split at hx
   ·exact old hx
   ·rcases List.mem_append.1 hx with h | h
    ·exact old h
    ·have hK:0<m.Inputs.toNat:=by have:=H.i1;omega
     have hy':=ih y (zkH hy);have ha:=Nat.mod_lt r hK;have hxe:x=(nx m y.1 (r%m.Inputs.toNat),y.2++[(↑(r%m.Inputs.toNat):Int)]):=by simpa using h
     subst hxe;refine ⟨(H.at hy'.1 ha).1,by simp;omega,?_,?_⟩
     ·simp only;rw [ze2,hy'.2.2.1];show nx m y.1 (Int.toNat _)=_;rw [Int.toNat_natCast]
     ·refine WOk.append hy'.2.2.2 fun a ha'=>?_;have:a=(↑(r%m.Inputs.toNat):Int):=by simpa using ha'
      subst this;omega
theorem zo6 (H:zdc m) {s0:Nat} (hs:s0<m.Next.length) (r:Nat):(mB m s0 r).length≤m.Next.length:=by
 have:=zhf (zi7 (e:=nx m) (K:=m.Inputs.toNat) (s0:=s0) r) (l':=List.range m.Next.length) fun x hx=>by
  obtain ⟨y,hy,rfl⟩:=List.mem_map.1 hx;exact List.mem_range.2 (zlb H hs r y hy).1
 rwa [zkK,List.length_range] at this
theorem mB_step {s0 i a:Nat} {x:Nat×List Int} (ha:a<m.Inputs.toNat) (hx:(mB m s0 (i*m.Inputs.toNat+a))[i]?=some x) :
  mB m s0 (i*m.Inputs.toNat+(a+1))=if nx m x.1 a∈(mB m s0 (i*m.Inputs.toNat+a)).map Prod.fst then mB m s0 (i*m.Inputs.toNat+a) else mB m s0 (i*m.Inputs.toNat+a)++[(nx m x.1 a,x.2++[(↑a:Int)])]:=bfs_step ha hx
theorem mB_next {s0 i:Nat}:mB m s0 (i*m.Inputs.toNat+m.Inputs.toNat)=mB m s0 ((i+1)*m.Inputs.toNat):=by rw [Nat.succ_mul]
theorem mB_get {s0 i r:Nat} {x:Nat×List Int} (hx:(mB m s0 (i*m.Inputs.toNat))[i]?=some x) (hr:i*m.Inputs.toNat≤r):(mB m s0 r)[i]?=some x:=zgv (zg9 hr) hx
structure zib (n:Nat) (y:List Bool) (l:List Nat):Prop where
 len:y.length=n
 at_:∀ t,t<n→y[t]?=some (decide (t∈l))
theorem zib.push {n t:Nat} {y:List Bool} {l:List Nat} (S:zib n y l) (ht:t<n):zib n (y.set t true) (l++[t]):=by
 refine ⟨by simp [S.len],fun u hu=>?_⟩;by_cases h:t=u
 ·subst h;rw [List.getElem?_set_self (by rw [S.len];exact ht)];simp
 ·rw [List.getElem?_set_ne h,S.at_ u hu];congr 1;apply decide_eq_decide.2;rw [List.mem_append];constructor
  ·exact Or.inl
  ·rintro (q | q)
   ·exact q
   ·exact absurd (by simpa using q:u=t).symm h
theorem seen_nil (n:Nat):zib n (List.replicate n false) []:=⟨by simp,fun t ht=>by simp [ht]⟩
theorem zl2 (hv:zdw m=0):∃ L,MEnd m m.Start.toNat L∧zb1 m=some (natI (L.map Prod.fst)):=by
 have H:=zek hv;have hst:=H.st;have hn:=H.n2;have hs:m.Start.toNat<m.Next.length:=by omega
 have inner:∀ (i:Nat) (x:Nat×List Int) (row:List Int) (y:List Bool),(mB m m.Start.toNat (i*m.Inputs.toNat))[i]?=some x→m.Next[x.1]?=some row→zib m.Next.length y ((mB m m.Start.toNat (i*m.Inputs.toNat)).map Prod.fst) →
   ∃ y',iter (fun (s:List Bool×List Int×Nat)=>zb1.s18 row s.1 s.2.1 s.2.2) fuel (y,natI ((mB m m.Start.toNat (i*m.Inputs.toNat)).map Prod.fst),0)=some (y',natI ((mB m m.Start.toNat ((i+1)*m.Inputs.toNat)).map Prod.fst))∧zib m.Next.length y' ((mB m m.Start.toNat ((i+1)*m.Inputs.toNat)).map Prod.fst):=by
  intro i x row y hx hrow S;have hxs:=(zlb H hs _ x (zkH hx)).1
  have hrl:row.length=m.Inputs.toNat:=by
   obtain ⟨x',y',h1,_,h3,_⟩:=H.row x.1 hxs;rw [hrow] at h1;injection h1 with h1
   subst h1;omega
  obtain ⟨r,hr,y',rfl,hq⟩:=zbi (step:=fun (s:List Bool×List Int×Nat)=>zb1.s18 row s.1 s.2.1 s.2.2) (fun s=>s.2.2≤m.Inputs.toNat∧s.2.1=natI ((mB m m.Start.toNat (i*m.Inputs.toNat+s.2.2)).map Prod.fst)∧zib m.Next.length s.1 ((mB m m.Start.toNat (i*m.Inputs.toNat+s.2.2)).map Prod.fst)) (fun s=>m.Inputs.toNat-s.2.2) (fun r=>∃ y',r=(y',natI ((mB m m.Start.toNat ((i+1)*m.Inputs.toNat)).map Prod.fst))∧zib m.Next.length y' ((mB m m.Start.toNat ((i+1)*m.Inputs.toNat)).map Prod.fst)) (fun s ⟨q1,q2,q3⟩=>by
   obtain ⟨y,l,a⟩:=s
   simp only at q1 q2 q3
   subst q2
   simp only [zb1.s18]
   by_cases g:a<m.Inputs.toNat
   ·left
    have hxa:=mB_get hx (r:=i*m.Inputs.toNat+a) (by omega)
    obtain ⟨h1,_,_,x',y',h2,_,h4,_⟩:=H.at hxs g
    rw [hrow] at h2
    injection h2 with h2
    subst h2
    have hlen:=zo6 H hs (i*m.Inputs.toNat+a)
    have hstep:=mB_step g hxa
    rw [zkB (by omega),zkD,zam h4,zbw rfl (q3.at_ _ h1)]
    by_cases hm:nx m x.1 a∈(mB m m.Start.toNat (i*m.Inputs.toNat+a)).map Prod.fst
    ·rw [if_pos hm] at hstep
     refine ⟨(y,natI ((mB m m.Start.toNat (i*m.Inputs.toNat+a)).map Prod.fst),a+1),by rw [zkB hm];rfl,⟨g,by simp only;rw [hstep],by simp only;rw [hstep];exact q3⟩,by simp only;omega⟩
    ·rw [if_neg hm] at hstep
     refine ⟨(y.set (nx m x.1 a) true,natI ((mB m m.Start.toNat (i*m.Inputs.toNat+a)).map Prod.fst++[nx m x.1 a]),a+1),?_,⟨g,by simp only;rw [hstep,List.map_append];rfl,by simp only;rw [hstep,List.map_append];exact q3.push h1⟩,by simp only;omega⟩
     rw [zkA hm,Bool.not_false,zkD,zbw rfl (q3.at_ _ h1),zas (by unfold zaw;rw [zeh,zkK];omega),zqi,Int.toNat_natCast]
   ·right
    have e':a=m.Inputs.toNat:=by omega
    subst e'
    rw [mB_next] at q3 ⊢
    exact ⟨_,by rw [zkA (by omega),zkC],_,rfl,q3⟩) fuel (y,natI ((mB m m.Start.toNat (i*m.Inputs.toNat)).map Prod.fst),0) ⟨Nat.zero_le _,rfl,S⟩ (by have:=za2;have:=H.i2;simp only;omega)
  exact ⟨y',hr,hq⟩
 unfold zb1;rw [zdh,zaq,hv,zkA (by decide),zkC,zas ⟨by omega,by omega,by unfold zaw;omega⟩,zbw (i:=m.Start.toNat) (x:=false) (by omega) (by rw [List.getElem?_replicate,if_pos hs])]
 obtain ⟨r,hr,L,hL,rfl⟩:=zbi (step:=fun (s:List Bool×List Int×Nat)=>zb1.s20 m s.1 s.2.1 s.2.2) (fun s=>s.2.2≤(mB m m.Start.toNat (s.2.2*m.Inputs.toNat)).length∧s.2.1=natI ((mB m m.Start.toNat (s.2.2*m.Inputs.toNat)).map Prod.fst)∧zib m.Next.length s.1 ((mB m m.Start.toNat (s.2.2*m.Inputs.toNat)).map Prod.fst)) (fun s=>m.Next.length+1-s.2.2) (fun r=>∃ L,MEnd m m.Start.toNat L∧r=natI (L.map Prod.fst)) (fun s ⟨q1,q2,q3⟩=>by
  obtain ⟨y,l,i⟩:=s
  simp only at q1 q2 q3
  subst q2
  simp only [zb1.s20]
  have hlen:=zo6 H hs (i*m.Inputs.toNat)
  by_cases g:i<(mB m m.Start.toNat (i*m.Inputs.toNat)).length
  ·left
   have hx:=get_at g
   generalize (mB m m.Start.toNat (i*m.Inputs.toNat))[i]=x at hx
   have hxs:=(zlb H hs _ x (zkH hx)).1
   have hrow:=get_at hxs
   obtain ⟨y',h1,h2⟩:=inner i x _ y hx hrow q3
   have hmono:=(zg9 (e:=nx m) (K:=m.Inputs.toNat) (s0:=m.Start.toNat) (show i*m.Inputs.toNat≤(i+1)*m.Inputs.toNat by rw [Nat.succ_mul];omega)).length_le
   refine ⟨(y',natI ((mB m m.Start.toNat ((i+1)*m.Inputs.toNat)).map Prod.fst),i+1),?_,⟨by simp only;unfold mB at g ⊢;omega,rfl,h2⟩,by simp only;omega⟩
   rw [zkB (by rw [zeh,zkK];omega),zkD,zam (zn4 (i:=i) (u:=x.1) (by rw [List.getElem?_map,hx];rfl)),zbw rfl hrow,h1,zaq]
   rfl
  ·right
   refine ⟨_,by rw [zkA (by rw [zeh,zkK];omega),zkC],mB m m.Start.toNat (i*m.Inputs.toNat),⟨?_⟩,rfl⟩
   rw [show (mB m m.Start.toNat (i*m.Inputs.toNat)).length=i by omega]
   rfl) fuel ((List.replicate m.Next.length false).set m.Start.toNat true,[m.Start],0) ⟨Nat.zero_le _,by simp only;rw [Nat.zero_mul];simp [mB,bfsB,natI];omega,by
    simp only
    rw [Nat.zero_mul]
    exact (seen_nil m.Next.length).push hs⟩ (by have:=za2;simp only;omega)
 exact ⟨L,hL,by rw [hr,zaq]⟩
end
end
section
section
variable {m:zaa}
def zgg (x:Nat×List Int):za6:=⟨(↑x.1:Int),x.2⟩
theorem zrz {l:List (Nat×List Int)} {i:Nat} {x:Nat×List Int} (h:l[i]?=some x):(l.map zgg)[i]?=some (zgg x):=by rw [List.getElem?_map,h];rfl
theorem zp4 (H:zdc m) {s0:Nat} (hs:s0<m.Next.length):∃ L,MEnd m s0 L∧zbt m (↑s0:Int)=some (L.map zgg):=by
 have hn:=H.n2;have hI:=H.i2
 have inner:∀ (i:Nat) (x:Nat×List Int) (row:List Int) (y:List Bool),i≤m.Next.length→(mB m s0 (i*m.Inputs.toNat))[i]?=some x→m.Next[x.1]?=some row→zib m.Next.length y ((mB m s0 (i*m.Inputs.toNat)).map Prod.fst) →
   ∃ y',iter (fun (s:List Bool×List za6×Nat)=>zbt.s18 i row s.1 s.2.1 s.2.2) fuel (y,(mB m s0 (i*m.Inputs.toNat)).map zgg,0)=some (y',(mB m s0 ((i+1)*m.Inputs.toNat)).map zgg)∧zib m.Next.length y' ((mB m s0 ((i+1)*m.Inputs.toNat)).map Prod.fst):=by
  intro i x row y hin hx hrow S;have hxs:=(zlb H hs _ x (zkH hx)).1;have hxl:=(zlb H hs _ x (zkH hx)).2.1;have hiK:i*m.Inputs.toNat≤128*64:=Nat.mul_le_mul (by omega) (by omega)
  have hrl:row.length=m.Inputs.toNat:=by
   obtain ⟨x',y',h1,_,h3,_⟩:=H.row x.1 hxs;rw [hrow] at h1;injection h1 with h1
   subst h1;omega
  obtain ⟨r,hr,y',rfl,hq⟩:=zbi (step:=fun (s:List Bool×List za6×Nat)=>zbt.s18 i row s.1 s.2.1 s.2.2) (fun s=>s.2.2≤m.Inputs.toNat∧s.2.1=(mB m s0 (i*m.Inputs.toNat+s.2.2)).map zgg∧zib m.Next.length s.1 ((mB m s0 (i*m.Inputs.toNat+s.2.2)).map Prod.fst)) (fun s=>m.Inputs.toNat-s.2.2) (fun r=>∃ y',r=(y',(mB m s0 ((i+1)*m.Inputs.toNat)).map zgg)∧zib m.Next.length y' ((mB m s0 ((i+1)*m.Inputs.toNat)).map Prod.fst)) (fun s ⟨q1,q2,q3⟩=>by
   obtain ⟨y,l,a⟩:=s
   simp only at q1 q2 q3
   subst q2
   simp only [zbt.s18]
   by_cases g:a<m.Inputs.toNat
   ·left
    have hxa:=mB_get hx (r:=i*m.Inputs.toNat+a) (by omega)
    obtain ⟨h1,_,_,x',y',h2,_,h4,_⟩:=H.at hxs g
    rw [hrow] at h2
    injection h2 with h2
    subst h2
    have hlen:=zo6 H hs (i*m.Inputs.toNat+a)
    have hstep:=mB_step g hxa
    rw [zkB (by omega),zkD,zam h4,zbw rfl (q3.at_ _ h1)]
    by_cases hm:nx m x.1 a∈(mB m s0 (i*m.Inputs.toNat+a)).map Prod.fst
    ·rw [if_pos hm] at hstep
     refine ⟨(y,(mB m s0 (i*m.Inputs.toNat+a)).map zgg,a+1),by rw [zkB hm];rfl,⟨g,by simp only;rw [hstep],by simp only;rw [hstep];exact q3⟩,by simp only;omega⟩
    ·rw [if_neg hm] at hstep
     refine ⟨(y.set (nx m x.1 a) true,(mB m s0 (i*m.Inputs.toNat+a)).map zgg++[zgg (nx m x.1 a,x.2++[(↑a:Int)])],a+1),?_,⟨g,by simp only;rw [hstep,List.map_append];rfl,by simp only;rw [hstep,List.map_append];exact q3.push h1⟩,by simp only;omega⟩
     rw [zkA hm,Bool.not_false,zkD,zbw rfl (q3.at_ _ h1),zam (zrz hxa)]
     show (zes [x.2,[(↑a:Int)]]).bind _=_
     rw [zg0 _ (by simp) (by simp;omega),zaq,zas (by unfold zaw;rw [zkK];omega),Int.toNat_natCast]
     simp [zgg]
   ·right
    have e':a=m.Inputs.toNat:=by omega
    subst e'
    rw [mB_next] at q3 ⊢
    exact ⟨_,by rw [zkA (by omega),zkC],_,rfl,q3⟩) fuel (y,(mB m s0 (i*m.Inputs.toNat)).map zgg,0) ⟨Nat.zero_le _,rfl,S⟩ (by have:=za2;have:=H.i2;simp only;omega)
  exact ⟨y',hr,hq⟩
 unfold zbt;rw [zas ⟨by omega,by omega,by unfold zaw;omega⟩,zbw (i:=s0) (x:=false) rfl (by rw [List.getElem?_replicate,if_pos hs])]
 obtain ⟨r,hr,L,hL,rfl⟩:=zbi (step:=fun (s:List Bool×List za6×Nat)=>zbt.s20 m s.1 s.2.1 s.2.2) (fun s=>s.2.2≤(mB m s0 (s.2.2*m.Inputs.toNat)).length∧s.2.1=(mB m s0 (s.2.2*m.Inputs.toNat)).map zgg∧zib m.Next.length s.1 ((mB m s0 (s.2.2*m.Inputs.toNat)).map Prod.fst)) (fun s=>m.Next.length+1-s.2.2) (fun r=>∃ L,MEnd m s0 L∧r=L.map zgg) (fun s ⟨q1,q2,q3⟩=>by
  obtain ⟨y,l,i⟩:=s
  simp only at q1 q2 q3
  subst q2
  simp only [zbt.s20]
  have hlen:=zo6 H hs (i*m.Inputs.toNat)
  by_cases g:i<(mB m s0 (i*m.Inputs.toNat)).length
  ·left
   have hx:=get_at g
   generalize (mB m s0 (i*m.Inputs.toNat))[i]=x at hx
   have hxs:=(zlb H hs _ x (zkH hx)).1
   have hrow:=get_at hxs
   obtain ⟨y',h1,h2⟩:=inner i x _ y (by omega) hx hrow q3
   have hmono:=(zg9 (e:=nx m) (K:=m.Inputs.toNat) (s0:=s0) (show i*m.Inputs.toNat≤(i+1)*m.Inputs.toNat by rw [Nat.succ_mul];omega)).length_le
   refine ⟨(y',(mB m s0 ((i+1)*m.Inputs.toNat)).map zgg,i+1),?_,⟨by simp only;unfold mB at g ⊢;omega,rfl,h2⟩,by simp only;omega⟩
   rw [zkB (by rw [zkK];omega),zkD,zam (zrz hx),zbw (n:=(zgg x).state) (i:=x.1) rfl hrow,h1,zaq]
   rfl
  ·right
   refine ⟨_,by rw [zkA (by rw [zkK];omega),zkC],mB m s0 (i*m.Inputs.toNat),⟨?_⟩,rfl⟩
   rw [show (mB m s0 (i*m.Inputs.toNat)).length=i by omega]
   rfl) fuel ((List.replicate m.Next.length false).set s0 true,[(⟨(↑s0:Int),[]⟩:za6)],0) ⟨Nat.zero_le _,by simp only;rw [Nat.zero_mul];simp [mB,bfsB,zgg],by
    simp only
    rw [Nat.zero_mul]
    exact (seen_nil m.Next.length).push hs⟩ (by have:=za2;simp only;omega)
 exact ⟨L,hL,by rw [Int.toNat_natCast,hr,zaq]⟩
theorem zkn (hv:zdw m=0):∃ L,MEnd m m.Start.toNat L∧zch m=some (natI (L.map Prod.fst),L.map Prod.snd,0):=by
 have H:=zek hv;have hst:=H.st;obtain ⟨L,hL,he⟩:=zp4 H (s0:=m.Start.toNat) (by omega);rw [show (↑m.Start.toNat:Int)=m.Start by omega] at he
 have hlen:L.length≤m.Next.length:=by
  rw [hL.eq];exact zo6 H (by omega) _
 have hn:=H.n2;refine ⟨L,hL,?_⟩;unfold zch;rw [zdh,zaq,hv,zkA (by decide),zkC,he,zaq]
 have key:=zdx (step:=fun (s:List Int×List (List Int)×Nat)=>zch.s2 (L.map zgg) s.1 s.2.1 s.2.2) (r:=(natI (L.map Prod.fst),L.map Prod.snd)) (fun s=>s.2.2≤L.length∧s.1=natI ((L.take s.2.2).map Prod.fst)∧s.2.1=(L.take s.2.2).map Prod.snd) (fun s=>L.length-s.2.2) (fun s ⟨q1,q2,q3⟩=>by
  obtain ⟨a,b,i⟩:=s
  simp only at q1 q2 q3
  subst q2
  subst q3
  simp only [zch.s2]
  by_cases g:i<L.length
  ·left
   have hx:=get_at g
   refine ⟨(natI ((L.take (i+1)).map Prod.fst),(L.take (i+1)).map Prod.snd,i+1),?_,⟨g,rfl,rfl⟩,by simp only;omega⟩
   rw [zkB (by rw [zkK];omega),zkD,zam (zrz hx),zas (by unfold zaw;rw [zeh,zkK,List.length_take];omega),zas (by unfold zaw;rw [zkK,List.length_take];omega),zcw hx,List.map_append,List.map_append]
   simp [natI,zgg]
  ·right
   have:i=L.length:=by omega
   subst this
   rw [zkA (by rw [zkK];omega),zkC,List.take_length]) (n:=fuel) (s:=([],[],0)) ⟨Nat.zero_le _,rfl,rfl⟩ (by have:=za2;simp only;omega)
 rw [key,zaq];rfl
theorem R10_has_eq {l:List Int} {t:Int} (hl:l.length≤1000000):zha l t=some (decide (t∈l)):=by
 unfold zha;rw [zfh (l:=l) (fun _ u=>if u=t then some true else none) (fun i u hu=>?_) ?_ (by omega),zaq]
 ·by_cases h:t∈l
  ·rw [zkB h];cases e:scan (fun _ u=>if u=t then some true else none) 0 l with
   | some r =>
    obtain ⟨i,u,_,h2⟩:=zno e;split at h2
    ·injection h2 with h2
     subst h2;rfl
    ·cases h2
   | none =>
    obtain ⟨i,hi,hit⟩:=List.mem_iff_getElem.1 h;have:=zg4.1 e i _ (get_at hi);rw [if_pos hit] at this;cases this
  ·rw [zkA h,zg4.2 fun i u hu=>if_neg fun q=>h (by rw [← q];exact zkH hu)];rfl
 ·simp only [zha.s2];rw [zkA (by omega),zkC]
 ·have hi:=(zkI.1 hu).1;simp only [zha.s2];rw [zkB (by omega),zkD,zam hu];by_cases e:u=t
  ·rw [zkB e,zkD,if_pos e]
  ·rw [zkA e,zkC,if_neg e]
theorem mem_natI {l:List Nat} {t:Nat}:(↑t:Int)∈natI l↔t∈l:=by
 unfold natI;rw [List.mem_map];constructor
 ·rintro ⟨u,hu,he⟩;have:u=t:=by omega
  rw [← this];exact hu
 ·exact fun h=>⟨t,h,rfl⟩
theorem R10_Access_eq (hv:zdw m=0):∃ L,MEnd m m.Start.toNat L∧zb3 m=some (natI (L.map Prod.fst),L.map Prod.snd,0):=by
 have H:=zek hv;have hst:=H.st;have hn:=H.n2;have hI:=H.i2;have hs:m.Start.toNat<m.Next.length:=by omega
 have inner:∀ (i:Nat) (x:Nat×List Int),i≤m.Next.length→(mB m m.Start.toNat (i*m.Inputs.toNat))[i]?=some x →
   iter (fun (s:List Int×List (List Int)×Nat)=>zb3.s18 m i s.1 s.2.1 s.2.2) fuel (natI ((mB m m.Start.toNat (i*m.Inputs.toNat)).map Prod.fst),(mB m m.Start.toNat (i*m.Inputs.toNat)).map Prod.snd,0)=some (natI ((mB m m.Start.toNat ((i+1)*m.Inputs.toNat)).map Prod.fst),(mB m m.Start.toNat ((i+1)*m.Inputs.toNat)).map Prod.snd):=by
  intro i x hin hx;have hxs:=(zlb H hs _ x (zkH hx)).1;have hxl:=(zlb H hs _ x (zkH hx)).2.1;have hiK:i*m.Inputs.toNat≤128*64:=Nat.mul_le_mul (by omega) (by omega)
  exact zdx (step:=fun (s:List Int×List (List Int)×Nat)=>zb3.s18 m i s.1 s.2.1 s.2.2) (fun s=>s.2.2≤m.Inputs.toNat∧s.1=natI ((mB m m.Start.toNat (i*m.Inputs.toNat+s.2.2)).map Prod.fst)∧s.2.1=(mB m m.Start.toNat (i*m.Inputs.toNat+s.2.2)).map Prod.snd) (fun s=>m.Inputs.toNat-s.2.2) (fun s ⟨q1,q2,q3⟩=>by
   obtain ⟨l,w,a⟩:=s
   simp only at q1 q2 q3
   subst q2
   subst q3
   simp only [zb3.s18]
   by_cases g:a<m.Inputs.toNat
   ·left
    have hxa:=mB_get hx (r:=i*m.Inputs.toNat+a) (by omega)
    obtain ⟨h1,_,_,x',y',h2,_,h4,_⟩:=H.at hxs g
    have hlen:=zo6 H hs (i*m.Inputs.toNat+a)
    have hstep:=mB_step g hxa
    rw [zkB (by omega),zkD,zam (zn4 (i:=i) (u:=x.1) (by rw [List.getElem?_map,hxa];rfl)),zbw rfl h2,zam h4,R10_has_eq (by rw [zeh,zkK];omega),zaq]
    by_cases hm:nx m x.1 a∈(mB m m.Start.toNat (i*m.Inputs.toNat+a)).map Prod.fst
    ·rw [if_pos hm] at hstep
     refine ⟨(natI ((mB m m.Start.toNat (i*m.Inputs.toNat+a)).map Prod.fst),(mB m m.Start.toNat (i*m.Inputs.toNat+a)).map Prod.snd,a+1),?_,⟨g,by simp only;rw [hstep],by simp only;rw [hstep]⟩,by simp only;omega⟩
     rw [zkB (mem_natI.2 hm),Bool.not_true,zkC,zas (by unfold inR;omega)]
    ·rw [if_neg hm] at hstep
     refine ⟨(natI ((mB m m.Start.toNat (i*m.Inputs.toNat+a)).map Prod.fst++[nx m x.1 a]),(mB m m.Start.toNat (i*m.Inputs.toNat+a)).map Prod.snd++[x.2++[(↑a:Int)]],a+1),?_,⟨g,by simp only;rw [hstep,List.map_append];rfl,by simp only;rw [hstep,List.map_append];rfl⟩,by simp only;omega⟩
     rw [zkA (fun q=>hm (mem_natI.1 q)),Bool.not_false,zkD,zas (by unfold zaw;rw [zeh,zkK];omega),zam (x:=x.2) (by rw [List.getElem?_map,hxa];rfl)]
     unfold zfn
     rw [zas (by unfold zaw;omega),zas (by unfold zaw;omega),zaq,zas (by unfold zaw;rw [zkK];omega),zas (by unfold inR;omega),zqi]
   ·right
    have e':a=m.Inputs.toNat:=by omega
    subst e'
    rw [mB_next,zkA (by omega),zkC]) (n:=fuel) ⟨Nat.zero_le _,rfl,rfl⟩ (by have:=za2;simp only;omega)
 unfold zb3;rw [zex,zaq,hv,zkA (by decide),zkC]
 obtain ⟨r,hr,L,hL,rfl⟩:=zbi (step:=fun (s:List Int×List (List Int)×Nat)=>zb3.s20 m s.1 s.2.1 s.2.2) (fun s=>s.2.2≤(mB m m.Start.toNat (s.2.2*m.Inputs.toNat)).length∧s.1=natI ((mB m m.Start.toNat (s.2.2*m.Inputs.toNat)).map Prod.fst)∧s.2.1=(mB m m.Start.toNat (s.2.2*m.Inputs.toNat)).map Prod.snd) (fun s=>m.Next.length+1-s.2.2) (fun r=>∃ L,MEnd m m.Start.toNat L∧r=(natI (L.map Prod.fst),L.map Prod.snd)) (fun s ⟨q1,q2,q3⟩=>by
  obtain ⟨l,w,i⟩:=s
  simp only at q1 q2 q3
  subst q2
  subst q3
  simp only [zb3.s20]
  have hlen:=zo6 H hs (i*m.Inputs.toNat)
  by_cases g:i<(mB m m.Start.toNat (i*m.Inputs.toNat)).length
  ·left
   have hx:=get_at g
   have h1:=inner i _ (by omega) hx
   have hmono:=(zg9 (e:=nx m) (K:=m.Inputs.toNat) (s0:=m.Start.toNat) (show i*m.Inputs.toNat≤(i+1)*m.Inputs.toNat by rw [Nat.succ_mul];omega)).length_le
   refine ⟨(natI ((mB m m.Start.toNat ((i+1)*m.Inputs.toNat)).map Prod.fst),(mB m m.Start.toNat ((i+1)*m.Inputs.toNat)).map Prod.snd,i+1),?_,⟨by simp only;unfold mB at g ⊢;omega,rfl,rfl⟩,by simp only;omega⟩
   rw [zkB (by rw [zeh,zkK];omega),zkD,h1,zaq]
   rfl
  ·right
   refine ⟨_,by rw [zkA (by rw [zeh,zkK];omega),zkC],mB m m.Start.toNat (i*m.Inputs.toNat),⟨?_⟩,rfl⟩
   rw [show (mB m m.Start.toNat (i*m.Inputs.toNat)).length=i by omega]
   rfl) fuel ([m.Start],[[]],0) ⟨Nat.zero_le _,by simp only;rw [Nat.zero_mul];simp [mB,bfsB,natI];omega,by simp only;rw [Nat.zero_mul];simp [mB,bfsB]⟩ (by have:=za2;simp only;omega)
 exact ⟨L,hL,by rw [hr,zaq];rfl⟩
theorem cover_eq (hv:zdw m=0):∃ L,MEnd m m.Start.toNat L∧zd2 m=some (L.map Prod.snd,0)∧zfz m=some (L.map Prod.snd,0):=by
 have hK:0<m.Inputs.toNat:=by have:=(zek hv).i1;omega
 obtain ⟨L,h1,h2⟩:=zkn hv;obtain ⟨L',h3,h4⟩:=R10_Access_eq hv;have:=zfd.uniq hK h1 h3;subst this;refine ⟨L,h1,?_,?_⟩
 ·unfold zd2;rw [h2,zaq]
 ·unfold zfz;rw [h4,zaq]
end
end
section
theorem bfs_stay {A:Type} [DecidableEq A] {e:A→Nat→A} {K:Nat} {s0:A} {L:List (A×List Int)} (h:zfd e K s0 L) (hK:0<K):∀ d,bfsB e K s0 (L.length*K+d)=L
 | 0=>h.eq.symm
 | d+1=>by
  have ih:=bfs_stay h hK d;show bfsB e K s0 (L.length*K+d+1)=L;rw [bfsB,ih,List.getElem?_eq_none ?_];have h1:(L.length*K) / K≤(L.length*K+d) / K:=Nat.div_le_div_right (by omega);rw [Nat.mul_div_cancel _ hK] at h1;exact h1
section
variable {a b:zaa}
def pE (a b:zaa) (p:Nat×Nat) (x:Nat):Nat×Nat:=(nx a p.1 x,nx b p.2 x)
def pB (a b:zaa) (p0:Nat×Nat) (r:Nat):List ((Nat×Nat)×List Int):=bfsB (pE a b) a.Inputs.toNat p0 r
abbrev PEnd (a b:zaa) (p0:Nat×Nat) (L:List ((Nat×Nat)×List Int)):Prop:=zfd (pE a b) a.Inputs.toNat p0 L
def difB (a b:zaa) (p0:Nat×Nat) (r:Nat):Bool:=match (pB a b p0 r)[r / a.Inputs.toNat]? with
 | some x=>decide (ot a x.1.1 (r%a.Inputs.toNat)≠ot b x.1.2 (r%a.Inputs.toNat))
 | none=>false
theorem zrl {p0:Nat×Nat} {i c:Nat} {x:(Nat×Nat)×List Int} (hc:c<a.Inputs.toNat) (hx:(pB a b p0 (i*a.Inputs.toNat+c))[i]?=some x):difB a b p0 (i*a.Inputs.toNat+c)=decide (ot a x.1.1 c≠ot b x.1.2 c):=by
 unfold difB;rw [zl5 hc,hx,dm_mod hc]
structure Two (a b:zaa):Prop where
 a1:zdc a
 b1:zdc b
 inp:a.Inputs=b.Inputs
theorem zo8 (T:Two a b) {p0:Nat×Nat} (h1:p0.1<a.Next.length) (h2:p0.2<b.Next.length):∀ (r:Nat),∀ x∈pB a b p0 r,x.1.1<a.Next.length∧x.1.2<b.Next.length∧x.2.length≤r∧dest a p0.1 x.2=x.1.1∧dest b p0.2 x.2=x.1.2∧WOk a.Inputs x.2
 | 0,x,hx=>by
  have:x=(p0,[]):=by simpa [pB,bfsB] using hx
  subst this;exact ⟨h1,h2,Nat.le_refl _,rfl,rfl,fun a ha=>by cases ha⟩
 | r+1,x,hx=>by
  have ih:=zo8 T h1 h2 r
  have old:x∈pB a b p0 r→x.1.1<a.Next.length∧x.1.2<b.Next.length∧x.2.length≤r+1∧dest a p0.1 x.2=x.1.1∧dest b p0.2 x.2=x.1.2∧WOk a.Inputs x.2:=fun h=>by
   have:=ih x h;exact ⟨this.1,this.2.1,by omega,this.2.2.2⟩
  unfold pB at hx;rw [bfsB] at hx;split at hx
  ·exact old hx
  ·rename_i y hy;split at hx
   ·exact old hx
   ·rcases List.mem_append.1 hx with h | h
    ·exact old h
    ·have hK:0<a.Inputs.toNat:=by have:=T.a1.i1;omega
     have hy':=ih y (zkH hy);have ha:=Nat.mod_lt r hK;have hxe:x=(pE a b y.1 (r%a.Inputs.toNat),y.2++[(↑(r%a.Inputs.toNat):Int)]):=by simpa using h
     subst hxe;refine ⟨(T.a1.at hy'.1 ha).1,(T.b1.at hy'.2.1 (by rw [← T.inp];exact ha)).1,by simp;omega,?_,?_,?_⟩
     ·simp only;rw [ze2,hy'.2.2.2.1];show nx a y.1.1 (Int.toNat _)=_;rw [Int.toNat_natCast];rfl
     ·simp only;rw [ze2,hy'.2.2.2.2.1];show nx b y.1.2 (Int.toNat _)=_;rw [Int.toNat_natCast];rfl
     ·refine WOk.append hy'.2.2.2.2.2 fun z ha'=>?_;have:z=(↑(r%a.Inputs.toNat):Int):=by simpa using ha'
      subst this;omega
theorem pB_len (T:Two a b) {p0:Nat×Nat} (h1:p0.1<a.Next.length) (h2:p0.2<b.Next.length) (r:Nat):(pB a b p0 r).length≤a.Next.length*b.Next.length:=by
 have hn:=zi7 (e:=pE a b) (K:=a.Inputs.toNat) (s0:=p0) r;have:=zhf (l:=(((pB a b p0 r).map Prod.fst).map fun p=>p.1*b.Next.length+p.2)) (l':=List.range (a.Next.length*b.Next.length)) ?_ fun x hx=>?_
 ·rwa [zkK,zkK,List.length_range] at this
 ·refine List.Pairwise.map _ (R:=fun p q=>p∈(pB a b p0 r).map Prod.fst∧q∈(pB a b p0 r).map Prod.fst∧p≠q) (fun p q ⟨hp,hq,hne⟩ he=>?_) (List.Pairwise.imp_of_mem (fun {p q} hp hq hne=>⟨hp,hq,hne⟩) hn);obtain ⟨x,hx,rfl⟩:=List.mem_map.1 hp;obtain ⟨y,hy,rfl⟩:=List.mem_map.1 hq;have hx2:=(zo8 T h1 h2 r x hx).2.1;have hy2:=(zo8 T h1 h2 r y hy).2.1;have he:x.1.1*b.Next.length+x.1.2=y.1.1*b.Next.length+y.1.2:=he;have e1:=zl5 (i:=x.1.1) hx2;have e2:=zl5 (i:=y.1.1) hy2;have e3:=dm_mod (i:=x.1.1) hx2;have e4:=dm_mod (i:=y.1.1) hy2;rw [he] at e1 e3;exact hne (Prod.ext (by rw [← e1,e2]) (by rw [← e3,e4]))
 ·obtain ⟨p,hp,rfl⟩:=List.mem_map.1 hx;obtain ⟨y,hy,rfl⟩:=List.mem_map.1 hp;exact List.mem_range.2 (znr (zo8 T h1 h2 r y hy).1 (zo8 T h1 h2 r y hy).2.1)
theorem pB_step {p0:Nat×Nat} {i c:Nat} {x:(Nat×Nat)×List Int} (hc:c<a.Inputs.toNat) (hx:(pB a b p0 (i*a.Inputs.toNat+c))[i]?=some x) :
  pB a b p0 (i*a.Inputs.toNat+(c+1))=if pE a b x.1 c∈(pB a b p0 (i*a.Inputs.toNat+c)).map Prod.fst then pB a b p0 (i*a.Inputs.toNat+c) else pB a b p0 (i*a.Inputs.toNat+c)++[(pE a b x.1 c,x.2++[(↑c:Int)])]:=by
 have h:=bfs_step (e:=pE a b) (s0:=p0) hc hx;by_cases g:pE a b x.1 c∈(pB a b p0 (i*a.Inputs.toNat+c)).map Prod.fst
 ·rw [if_pos g];exact h.trans (if_pos g)
 ·rw [if_neg g];exact h.trans (if_neg g)
theorem pB_next {p0:Nat×Nat} {i:Nat}:pB a b p0 (i*a.Inputs.toNat+a.Inputs.toNat)=pB a b p0 ((i+1)*a.Inputs.toNat):=by rw [Nat.succ_mul]
theorem pB_get {p0:Nat×Nat} {i r:Nat} {x:(Nat×Nat)×List Int} (hx:(pB a b p0 (i*a.Inputs.toNat))[i]?=some x) (hr:i*a.Inputs.toNat≤r):(pB a b p0 r)[i]?=some x:=zgv (zg9 hr) hx
def Fst (a b:zaa) (p0:Nat×Nat) (res:List Int×Bool):Prop :=
 (∃ i c x,c<a.Inputs.toNat∧(pB a b p0 (i*a.Inputs.toNat+c))[i]?=some x∧ot a x.1.1 c≠ot b x.1.2 c∧(∀ r,r<i*a.Inputs.toNat+c→difB a b p0 r=false)∧res=(x.2++[(↑c:Int)],true)) ∨
 (∃ L,PEnd a b p0 L∧(∀ r,r<L.length*a.Inputs.toNat→difB a b p0 r=false)∧res=([],false))
theorem fst_uniq (hK:0<a.Inputs.toNat) {p0:Nat×Nat} {u v:List Int×Bool} (hu:Fst a b p0 u) (hv:Fst a b p0 v):u=v:=by
 have cross:∀ {u v:List Int×Bool},(∃ i c x,c<a.Inputs.toNat∧(pB a b p0 (i*a.Inputs.toNat+c))[i]?=some x∧ot a x.1.1 c≠ot b x.1.2 c∧(∀ r,r<i*a.Inputs.toNat+c→difB a b p0 r=false)∧u=(x.2++[(↑c:Int)],true))→(∃ L,PEnd a b p0 L∧(∀ r,r<L.length*a.Inputs.toNat→difB a b p0 r=false)∧v=([],false))→False:=by
  rintro u v ⟨i,c,x,h1,h2,h3,h4,_⟩ ⟨L,h6,h7,_⟩;rcases Nat.lt_or_ge (i*a.Inputs.toNat+c) (L.length*a.Inputs.toNat) with g | g
  ·have:=h7 _ g;rw [zrl h1 h2,zkB h3] at this;cases this
  ·have hs:=bfs_stay h6 hK (i*a.Inputs.toNat+c-L.length*a.Inputs.toNat);rw [show L.length*a.Inputs.toNat+(i*a.Inputs.toNat+c-L.length*a.Inputs.toNat)=i*a.Inputs.toNat+c by omega] at hs;have h2':(bfsB (pE a b) a.Inputs.toNat p0 (i*a.Inputs.toNat+c))[i]?=some x:=h2;rw [hs] at h2';have hi:=(zkI.1 h2').1;have:=znr hi h1;omega
 rcases hu with hu | hu<;>rcases hv with hv | hv
 ·obtain ⟨i,c,x,h1,h2,h3,h4,rfl⟩:=hu;obtain ⟨i',c',x',g1,g2,g3,g4,rfl⟩:=hv
  have hr:i*a.Inputs.toNat+c=i'*a.Inputs.toNat+c':=by
   rcases Nat.lt_trichotomy (i*a.Inputs.toNat+c) (i'*a.Inputs.toNat+c') with q | q | q
   ·have:=g4 _ q;rw [zrl h1 h2,zkB h3] at this;cases this
   ·exact q
   ·have:=h4 _ q;rw [zrl g1 g2,zkB g3] at this;cases this
  have e1:i=i':=by rw [← zl5 (i:=i) h1,hr,zl5 g1]
  subst e1;have e2:c=c':=by omega
  subst e2;rw [h2] at g2;injection g2 with g2
  rw [g2]
 ·exact (cross hu hv).elim
 ·exact (cross hv hu).elim
 ·obtain ⟨_,_,_,rfl⟩:=hu;obtain ⟨_,_,_,rfl⟩:=hv;rfl
end
end
section
section
variable {a b:zaa}
def plC (x:(Nat×Nat)×List Int):zba:=⟨⟨(↑x.1.1:Int),(↑x.1.2:Int)⟩,x.2⟩
def prC (x:(Nat×Nat)×List Int):zat:=⟨(↑x.1.1:Int),(↑x.1.2:Int),x.2⟩
theorem zit {α β:Type} {f:α→β} {l:List α} {i:Nat} {x:α} (h:l[i]?=some x):(l.map f)[i]?=some (f x):=by rw [List.getElem?_map,h];rfl
structure SeenG (n k:Nat) (y:List (List Bool)) (l:List (Nat×Nat)):Prop where
 len:y.length=n
 at_:∀ s t,s<n→t<k→∃ row,y[s]?=some row∧row.length=k∧row[t]?=some (decide ((s,t)∈l))
theorem pair_mem {l:List (Nat×Nat)} {p q:Nat×Nat} (h:p≠q):p∈l↔p∈l++[q]:=by
 rw [List.mem_append,List.mem_singleton];exact ⟨Or.inl,fun z=>z.elim id fun e=>absurd e h⟩
theorem SeenG.push {n k s t:Nat} {y:List (List Bool)} {l:List (Nat×Nat)} {row:List Bool} (S:SeenG n k y l) (hs:s<n) (ht:t<k) (hr:y[s]?=some row):SeenG n k (y.set s (row.set t true)) (l++[(s,t)]):=by
 refine ⟨by simp [S.len],fun u v hu hv=>?_⟩;obtain ⟨row',h1,h2,h3⟩:=S.at_ u v hu hv;by_cases h:s=u
 ·subst h;rw [hr] at h1;injection h1 with h1
  subst h1;refine ⟨row.set t true,by rw [List.getElem?_set_self (by rw [S.len];exact hs)],by simp [h2],?_⟩;by_cases g:t=v
  ·subst g;rw [List.getElem?_set_self (by omega)];simp
  ·rw [List.getElem?_set_ne g,h3];congr 1;apply decide_eq_decide.2;exact pair_mem fun e=>g (congrArg Prod.snd e).symm
 ·refine ⟨row',by rw [List.getElem?_set_ne h,h1],h2,?_⟩;rw [h3];congr 1;apply decide_eq_decide.2;exact pair_mem fun e=>h (congrArg Prod.fst e).symm
theorem seenG_nil (n k:Nat):SeenG n k (List.replicate n (List.replicate k false)) []:=⟨by simp,fun s t hs ht=>⟨List.replicate k false,by simp [hs],by simp,by simp [ht]⟩⟩
theorem big_sum {i c n k K:Nat} (hi:i≤n*k) (hn:n≤128) (hk:k≤128) (hK:K≤64) (hc:c≤64):i*K+c≤1048640:=by
 have h1:n*k≤128*128:=Nat.mul_le_mul hn hk;have h2:i*K≤(128*128)*64:=Nat.mul_le_mul (by omega) hK;omega
theorem search_row (T:Two a b) {p0:Nat×Nat} (h1:p0.1<a.Next.length) (h2:p0.2<b.Next.length) {i:Nat} {x:(Nat×Nat)×List Int} {y:List (List Bool)} (hi:i≤a.Next.length*b.Next.length)
  (hx:(pB a b p0 (i*a.Inputs.toNat))[i]?=some x) (S:SeenG a.Next.length b.Next.length y ((pB a b p0 (i*a.Inputs.toNat)).map Prod.fst)) (hd:∀ r,r<i*a.Inputs.toNat→difB a b p0 r=false) :
  ∃ r,iter (fun (s:List (List Bool)×List zba×Nat)=>zbc.s20 a b i (plC x) s.1 s.2.1 s.2.2) fuel (y,(pB a b p0 (i*a.Inputs.toNat)).map plC,0)=some r ∧
   ((∃ y',r=.inl (y',(pB a b p0 ((i+1)*a.Inputs.toNat)).map plC)∧SeenG a.Next.length b.Next.length y' ((pB a b p0 ((i+1)*a.Inputs.toNat)).map Prod.fst)∧∀ r,r<(i+1)*a.Inputs.toNat→difB a b p0 r=false) ∨
   (∃ res,r=.inr (.inr (.inr res))∧Fst a b p0 res)):=by
 have han:=T.a1.n2;have hbn:=T.b1.n2;have hI:=T.a1.i2;have hxr:=zo8 T h1 h2 _ x (zkH hx)
 obtain ⟨r,hr,hq⟩:=zbi (step:=fun (s:List (List Bool)×List zba×Nat)=>zbc.s20 a b i (plC x) s.1 s.2.1 s.2.2) (fun s=>s.2.2≤a.Inputs.toNat∧s.2.1=(pB a b p0 (i*a.Inputs.toNat+s.2.2)).map plC∧SeenG a.Next.length b.Next.length s.1 ((pB a b p0 (i*a.Inputs.toNat+s.2.2)).map Prod.fst)∧∀ r,r<i*a.Inputs.toNat+s.2.2→difB a b p0 r=false) (fun s=>a.Inputs.toNat-s.2.2) (fun r=>(∃ y',r=.inl (y',(pB a b p0 ((i+1)*a.Inputs.toNat)).map plC)∧SeenG a.Next.length b.Next.length y' ((pB a b p0 ((i+1)*a.Inputs.toNat)).map Prod.fst)∧∀ r,r<(i+1)*a.Inputs.toNat→difB a b p0 r=false)∨(∃ res,r=.inr (.inr (.inr res))∧Fst a b p0 res)) (fun s ⟨q1,q2,q3,q4⟩=>by
  obtain ⟨y,l,c⟩:=s
  simp only at q1 q2 q3 q4
  subst q2
  simp only [zbc.s20]
  by_cases g:c<a.Inputs.toNat
  ·have hxc:=pB_get hx (r:=i*a.Inputs.toNat+c) (by omega)
   obtain ⟨g1,_,_,ra,oa,e1,e2,e3,e4⟩:=T.a1.at hxr.1 g
   obtain ⟨f1,_,_,rb,ob,d1,d2,d3,d4⟩:=T.b1.at hxr.2.1 (a:=c) (by rw [← T.inp];exact g)
   have hbig:=big_sum (c:=c) hi han hbn (K:=a.Inputs.toNat) (by omega) (by omega)
   have hlen:=pB_len T h1 h2 (i*a.Inputs.toNat+c)
   have hnn:a.Next.length*b.Next.length≤128*128:=Nat.mul_le_mul han hbn
   rw [zkB (by omega),zkD,zbw (n:=(plC x).at_.s) (i:=x.1.1) rfl e2,zam e4,zbw (n:=(plC x).at_.t) (i:=x.1.2) rfl d2,zam d4]
   by_cases hne:ot a x.1.1 c≠ot b x.1.2 c
   ·right
    rw [zkB hne,zkD,zam (zit hxc)]
    show ∃ r,((zes [x.2,[(↑c:Int)]]).bind _:Option _)=_∧_
    rw [zg0 _ (by simp) (by simp;omega),zaq]
    refine ⟨_,rfl,Or.inr ⟨_,rfl,Or.inl ⟨i,c,x,g,hxc,hne,q4,?_⟩⟩⟩
    simp
   ·left
    have heq:ot a x.1.1 c=ot b x.1.2 c:=Classical.byContradiction hne
    have hd':∀ r,r<i*a.Inputs.toNat+(c+1)→difB a b p0 r=false:=fun r hr=>by
     rcases Nat.lt_or_ge r (i*a.Inputs.toNat+c) with q | q
     ·exact q4 r q
     ·have:r=i*a.Inputs.toNat+c:=by omega
      rw [this,zrl g hxc,zkA hne]
    have hstep:=pB_step g hxc
    obtain ⟨row,r1,r2,r3⟩:=q3.at_ _ _ g1 f1
    have hxm:x.1∈(pB a b p0 (i*a.Inputs.toNat+c)).map Prod.fst:=List.mem_map.2 ⟨x,zkH hxc,rfl⟩
    have htest:((cond (!(decide ((↑(nx a x.1.1 c):Int)=(plC x).at_.s)&&(decide ((↑(nx b x.1.2 c):Int)=(plC x).at_.t)&&true))) (idx y (↑(nx a x.1.1 c):Int) fun a2=>idx a2 (↑(nx b x.1.2 c):Int) fun a6=>some (!a6)) (some false):Option Bool))=some (!decide (pE a b x.1 c∈(pB a b p0 (i*a.Inputs.toNat+c)).map Prod.fst)):=by
     by_cases z:pE a b x.1 c=x.1
     ·have z1:nx a x.1.1 c=x.1.1:=congrArg Prod.fst z
      have z2:nx b x.1.2 c=x.1.2:=congrArg Prod.snd z
      rw [zkB (show (↑(nx a x.1.1 c):Int)=(plC x).at_.s by rw [z1];rfl),zkB (show (↑(nx b x.1.2 c):Int)=(plC x).at_.t by rw [z2];rfl),z,zkB hxm]
      rfl
     ·have:(!(decide ((↑(nx a x.1.1 c):Int)=(plC x).at_.s)&&(decide ((↑(nx b x.1.2 c):Int)=(plC x).at_.t)&&true)))=true:=by
       by_cases z1:nx a x.1.1 c=x.1.1
       ·have z2:nx b x.1.2 c≠x.1.2:=fun q=>z (Prod.ext z1 q)
        rw [zkA (show ¬ (↑(nx b x.1.2 c):Int)=(plC x).at_.t from fun q=>z2 (Int.ofNat_inj.1 q))]
        simp
       ·rw [zkA (show ¬ (↑(nx a x.1.1 c):Int)=(plC x).at_.s from fun q=>z1 (Int.ofNat_inj.1 q))]
        rfl
      rw [this,zkD,zbw rfl r1,zbw rfl r3]
      rfl
    rw [zkA hne,zkC,zbw (n:=(plC x).at_.s) (i:=x.1.1) rfl e1,zam e3,zbw (n:=(plC x).at_.t) (i:=x.1.2) rfl d1,zam d3,htest,zaq]
    by_cases hm:pE a b x.1 c∈(pB a b p0 (i*a.Inputs.toNat+c)).map Prod.fst
    ·rw [if_pos hm] at hstep
     refine ⟨(y,(pB a b p0 (i*a.Inputs.toNat+c)).map plC,c+1),by rw [zkB hm,Bool.not_true,zkC,zas (by unfold inR;omega)],⟨g,by simp only;rw [hstep],by simp only;rw [hstep];exact q3,hd'⟩,by simp only;omega⟩
    ·rw [if_neg hm] at hstep
     refine ⟨(y.set (nx a x.1.1 c) (row.set (nx b x.1.2 c) true),(pB a b p0 (i*a.Inputs.toNat+c)).map plC++[plC (pE a b x.1 c,x.2++[(↑c:Int)])],c+1),?_,⟨g,by simp only;rw [hstep,List.map_append];rfl,by simp only;rw [hstep,List.map_append];exact q3.push g1 f1 r1,hd'⟩,by simp only;omega⟩
     rw [zkA hm,Bool.not_false,zkD,zbw rfl r1,zbw rfl r3,zam (zit hxc)]
     show (zes [x.2,[(↑c:Int)]]).bind _=_
     rw [zg0 _ (by simp) (by simp;omega),zaq,zas (by unfold zaw;rw [zkK];omega),zas (by unfold inR;omega),Int.toNat_natCast,Int.toNat_natCast]
     simp [plC,pE]
  ·right
   have e':c=a.Inputs.toNat:=by omega
   subst e'
   rw [pB_next] at q3 ⊢
   exact ⟨_,by rw [zkA (by omega),zkC],Or.inl ⟨_,rfl,q3,by rw [Nat.succ_mul];exact q4⟩⟩) fuel (y,(pB a b p0 (i*a.Inputs.toNat)).map plC,0) ⟨Nat.zero_le _,rfl,S,hd⟩ (by have:=za2;simp only;omega)
 exact ⟨r,hr,hq⟩
theorem zk3 (T:Two a b) {p0:Nat×Nat} (h1:p0.1<a.Next.length) (h2:p0.2<b.Next.length):∃ res,zbc a b (⟨(↑p0.1:Int),(↑p0.2:Int)⟩:zdn)=some res∧Fst a b p0 res:=by
 have han:=T.a1.n2;have hbn:=T.b1.n2;have hI:=T.a1.i2;have hnn:a.Next.length*b.Next.length≤128*128:=Nat.mul_le_mul han hbn;unfold zbc
 have grid:=zdx (step:=fun (s:List (List Bool)×Nat)=>zbc.s2 a b s.1 s.2) (r:=List.replicate a.Next.length (List.replicate b.Next.length false)) (fun s=>s.2≤a.Next.length∧s.1=List.replicate s.2 (List.replicate b.Next.length false)++List.replicate (a.Next.length-s.2) []) (fun s=>a.Next.length-s.2) (fun s ⟨q1,q2⟩=>by
  obtain ⟨y,k⟩:=s
  simp only at q1 q2
  subst q2
  simp only [zbc.s2]
  by_cases g:k<a.Next.length
  ·left
   refine ⟨(List.replicate (k+1) (List.replicate b.Next.length false)++List.replicate (a.Next.length-(k+1)) [],k+1),?_,⟨g,rfl⟩,by simp only;omega⟩
   have hk:(List.replicate k (List.replicate b.Next.length false)++List.replicate (a.Next.length-k) [])[k]?=some []:=by
    rw [List.getElem?_append_right (by simp),List.length_replicate,Nat.sub_self,List.getElem?_replicate,if_pos (by omega)]
   rw [List.length_replicate,zkB (by omega),zkD,zas ⟨by omega,by omega,by unfold zaw;omega⟩,zam hk,zas (by unfold inR;omega)]
   congr 4
   rw [List.set_append_right _ _ (by simp),List.length_replicate,Nat.sub_self,show a.Next.length-k=(a.Next.length-(k+1))+1 by omega,List.replicate_succ,List.set_cons_zero,List.replicate_succ' (n:=k)]
   simp
  ·right
   have:k=a.Next.length:=by omega
   subst this
   rw [List.length_replicate,zkA (by omega),zkC]
   simp) (n:=fuel) (s:=(List.replicate a.Next.length [],0)) ⟨Nat.zero_le _,by simp⟩ (by have:=za2;simp only;omega)
 obtain ⟨row,r1,r2,r3⟩:=(seenG_nil a.Next.length b.Next.length).at_ _ _ h1 h2;have hS:=(seenG_nil a.Next.length b.Next.length).push h1 h2 r1;rw [zas ⟨by omega,by omega,by unfold zaw;omega⟩,grid,zaq];simp only;rw [zbw rfl r1,zbw rfl r3,Int.toNat_natCast,Int.toNat_natCast]
 obtain ⟨r,hr,hq⟩:=zbi (step:=fun (s:List (List Bool)×List zba×Nat)=>zbc.s22 a b s.1 s.2.1 s.2.2) (fun s=>s.2.2≤(pB a b p0 (s.2.2*a.Inputs.toNat)).length∧s.2.1=(pB a b p0 (s.2.2*a.Inputs.toNat)).map plC∧SeenG a.Next.length b.Next.length s.1 ((pB a b p0 (s.2.2*a.Inputs.toNat)).map Prod.fst)∧∀ r,r<s.2.2*a.Inputs.toNat→difB a b p0 r=false) (fun s=>a.Next.length*b.Next.length+1-s.2.2) (fun r=>(r=.inl ()∧Fst a b p0 ([],false))∨∃ res,r=.inr res∧Fst a b p0 res) (fun s ⟨q1,q2,q3,q4⟩=>by
  obtain ⟨y,l,i⟩:=s
  simp only at q1 q2 q3 q4
  subst q2
  simp only [zbc.s22]
  have hlen:=pB_len T h1 h2 (i*a.Inputs.toNat)
  by_cases g:i<(pB a b p0 (i*a.Inputs.toNat)).length
  ·have hx:=get_at g
   generalize (pB a b p0 (i*a.Inputs.toNat))[i]=x at hx
   obtain ⟨r,z1,z2⟩:=search_row T h1 h2 (by omega) hx q3 q4
   rw [zkB (by rw [zkK];omega),zkD,zam (zit hx),z1,zaq]
   rcases z2 with ⟨y',rfl,z3,z4⟩ | ⟨res,rfl,z3⟩
   ·left
    have hmono:=(zg9 (e:=pE a b) (K:=a.Inputs.toNat) (s0:=p0) (show i*a.Inputs.toNat≤(i+1)*a.Inputs.toNat by rw [Nat.succ_mul];omega)).length_le
    exact ⟨(y',(pB a b p0 ((i+1)*a.Inputs.toNat)).map plC,i+1),rfl,⟨by simp only;unfold pB at g ⊢;omega,rfl,z3,z4⟩,by simp only;omega⟩
   ·right
    exact ⟨.inr res,rfl,Or.inr ⟨res,rfl,z3⟩⟩
  ·right
   refine ⟨.inl (),by rw [zkA (by rw [zkK];omega),zkC],Or.inl ⟨rfl,Or.inr ⟨pB a b p0 (i*a.Inputs.toNat),⟨?_⟩,?_,rfl⟩⟩⟩
   ·rw [show (pB a b p0 (i*a.Inputs.toNat)).length=i by omega]
    rfl
   ·rw [show (pB a b p0 (i*a.Inputs.toNat)).length=i by omega]
    exact q4) fuel ((List.replicate a.Next.length (List.replicate b.Next.length false)).set p0.1 (row.set p0.2 true),[(⟨(⟨(↑p0.1:Int),(↑p0.2:Int)⟩:zdn),[]⟩:zba)],0) ⟨Nat.zero_le _,by simp only;rw [Nat.zero_mul];simp [pB,bfsB,plC],by
    simp only
    rw [Nat.zero_mul]
    exact hS,fun r hr=>by simp only at hr;omega⟩ (by have:=za2;simp only;omega)
 rw [hr,zaq];rcases hq with ⟨rfl,hq⟩ | ⟨res,rfl,hq⟩
 ·exact ⟨_,rfl,hq⟩
 ·exact ⟨_,rfl,hq⟩
end
end
section
section
variable {a b:zaa}
theorem known_eq {l:List ((Nat×Nat)×List Int)} {p q:Nat} (hl:l.length≤1000000):iter (fun (s:Bool×Nat)=>zcg.s84 (l.map prC) (↑p:Int) (↑q:Int) s.1 s.2) fuel (false,0)=some (decide ((p,q)∈l.map Prod.fst)):=by
 refine zdx (fun s=>s.2≤l.length∧(s.1=true↔(p,q)∈(l.take s.2).map Prod.fst)) (fun s=>l.length-s.2) (fun s hs=>?_) ⟨Nat.zero_le _,by simp⟩ (by have:=za2;simp only;omega);obtain ⟨kn,k⟩:=s;obtain ⟨q1,q2⟩:=hs;simp only at q1 q2;simp only [zcg.s84];by_cases g:k<l.length
 ·left;have hx:=get_at g;generalize l[k]=x at hx
  have ht:(l.take (k+1)).map Prod.fst=(l.take k).map Prod.fst++[x.1]:=by
   rw [zcw hx,List.map_append];rfl
  rw [zkB (by rw [zkK];omega),zkD];cases kn with
  | true =>
   exact ⟨(true,k+1),by rw [zkD],⟨g,by simp only;rw [ht];exact ⟨fun _=>List.mem_append_left _ (q2.1 rfl),fun _=>trivial⟩⟩,by simp only;omega⟩
  | false =>
   have hn:¬ (p,q)∈(l.take k).map Prod.fst:=fun z=>by have:=q2.2 z;cases this
   have e1:((p,q)∈(l.take (k+1)).map Prod.fst)↔x.1.1=p∧x.1.2=q:=by
    rw [ht,List.mem_append];constructor
    ·rintro (z | z)
     ·exact absurd z hn
     ·have z:(p,q)=x.1:=by simpa using z
      rw [← z];exact ⟨rfl,rfl⟩
    ·rintro ⟨z1,z2⟩;right;simp [← z1,← z2]
   rw [zkC,zam (zit hx),zam (zit hx)];have hS:(prC x).S=(↑x.1.1:Int):=rfl;have hT:(prC x).T=(↑x.1.2:Int):=rfl;by_cases z1:x.1.1=p
   ·refine ⟨(decide ((prC x).T=(↑q:Int)),k+1),by rw [zkB (show (prC x).S=(↑p:Int) by omega),zkD],⟨g,?_⟩,by simp only;omega⟩;show decide ((prC x).T=(↑q:Int))=true↔_;rw [e1,decide_eq_true_iff];constructor
    ·exact fun z=>⟨z1,by omega⟩
    ·exact fun z=>by have:=z.2;omega
   ·refine ⟨(false,k+1),by rw [zkA (show ¬ (prC x).S=(↑p:Int) by omega),zkC],⟨g,?_⟩,by simp only;omega⟩;show false=true↔_;rw [e1];exact ⟨fun z=>(by cases z),fun z=>absurd z.1 z1⟩
 ·right;have:k=l.length:=by omega
  subst this;rw [List.take_length] at q2;rw [zkA (by rw [zkK];omega),zkC];cases kn with
  | true=>rw [zkB (q2.1 rfl)]
  | false=>rw [zkA (fun z=>by have:=q2.2 z;cases this)]
theorem first_row (T:Two a b) {p0:Nat×Nat} (h1:p0.1<a.Next.length) (h2:p0.2<b.Next.length) {i:Nat} {x:(Nat×Nat)×List Int} (hi:i≤a.Next.length*b.Next.length)
  (hx:(pB a b p0 (i*a.Inputs.toNat))[i]?=some x) (hd:∀ r,r<i*a.Inputs.toNat→difB a b p0 r=false) :
  ∃ r,iter (fun (s:List zat×Nat)=>zcg.s85 a b i s.1 s.2) fuel ((pB a b p0 (i*a.Inputs.toNat)).map prC,0)=some r ∧
   ((r=.inl ((pB a b p0 ((i+1)*a.Inputs.toNat)).map prC)∧∀ r,r<(i+1)*a.Inputs.toNat→difB a b p0 r=false) ∨
   (∃ res,r=.inr (.inr (.inr res))∧Fst a b p0 res)):=by
 have han:=T.a1.n2;have hbn:=T.b1.n2;have hI:=T.a1.i2;have hxr:=zo8 T h1 h2 _ x (zkH hx)
 obtain ⟨r,hr,hq⟩:=zbi (step:=fun (s:List zat×Nat)=>zcg.s85 a b i s.1 s.2) (fun s=>s.2≤a.Inputs.toNat∧s.1=(pB a b p0 (i*a.Inputs.toNat+s.2)).map prC∧∀ r,r<i*a.Inputs.toNat+s.2→difB a b p0 r=false) (fun s=>a.Inputs.toNat-s.2) (fun r=>(r=.inl ((pB a b p0 ((i+1)*a.Inputs.toNat)).map prC)∧∀ r,r<(i+1)*a.Inputs.toNat→difB a b p0 r=false)∨(∃ res,r=.inr (.inr (.inr res))∧Fst a b p0 res)) (fun s ⟨q1,q2,q4⟩=>by
  obtain ⟨l,c⟩:=s
  simp only at q1 q2 q4
  subst q2
  simp only [zcg.s85]
  by_cases g:c<a.Inputs.toNat
  ·have hxc:=pB_get hx (r:=i*a.Inputs.toNat+c) (by omega)
   obtain ⟨g1,_,_,ra,oa,e1,e2,e3,e4⟩:=T.a1.at hxr.1 g
   obtain ⟨f1,_,_,rb,ob,d1,d2,d3,d4⟩:=T.b1.at hxr.2.1 (a:=c) (by rw [← T.inp];exact g)
   have hbig:=big_sum (c:=c) hi han hbn (K:=a.Inputs.toNat) (by omega) (by omega)
   have hlen:=pB_len T h1 h2 (i*a.Inputs.toNat+c)
   have hnn:a.Next.length*b.Next.length≤128*128:=Nat.mul_le_mul han hbn
   have hext:zfn (prC x).Word (↑c:Int)=some (x.2++[(↑c:Int)]):=by
    unfold zfn
    show chk (zaw x.2.length 8) (chk (zaw (x.2.length+1) 8) _)=_
    rw [zas (by unfold zaw;omega),zas (by unfold zaw;omega)]
    rfl
   rw [zkB (by omega),zkD,zam (zit hxc),hext,zaq,zam (zit hxc),zbw (n:=(prC x).S) (i:=x.1.1) rfl e2,zam e4,zam (zit hxc),zbw (n:=(prC x).T) (i:=x.1.2) rfl d2,zam d4]
   by_cases hne:ot a x.1.1 c≠ot b x.1.2 c
   ·right
    rw [zkB hne,zkD]
    exact ⟨_,rfl,Or.inr ⟨_,rfl,Or.inl ⟨i,c,x,g,hxc,hne,q4,rfl⟩⟩⟩
   ·left
    have hd':∀ r,r<i*a.Inputs.toNat+(c+1)→difB a b p0 r=false:=fun r hr=>by
     rcases Nat.lt_or_ge r (i*a.Inputs.toNat+c) with q | q
     ·exact q4 r q
     ·have:r=i*a.Inputs.toNat+c:=by omega
      rw [this,zrl g hxc,zkA hne]
    have hstep:=pB_step g hxc
    rw [zkA hne,zkC,zam (zit hxc),zbw (n:=(prC x).S) (i:=x.1.1) rfl e1,zam e3,zam (zit hxc),zbw (n:=(prC x).T) (i:=x.1.2) rfl d1,zam d3,known_eq (by omega),zaq]
    by_cases hm:pE a b x.1 c∈(pB a b p0 (i*a.Inputs.toNat+c)).map Prod.fst
    ·rw [if_pos hm] at hstep
     refine ⟨((pB a b p0 (i*a.Inputs.toNat+c)).map prC,c+1),by rw [zkB (show (nx a x.1.1 c,nx b x.1.2 c)∈_ from hm),Bool.not_true,zkC,zas (by unfold inR;omega)],⟨g,by simp only;rw [hstep],hd'⟩,by simp only;omega⟩
    ·rw [if_neg hm] at hstep
     refine ⟨((pB a b p0 (i*a.Inputs.toNat+c)).map prC++[prC (pE a b x.1 c,x.2++[(↑c:Int)])],c+1),?_,⟨g,by simp only;rw [hstep,List.map_append];rfl,hd'⟩,by simp only;omega⟩
     rw [zkA (show ¬ (nx a x.1.1 c,nx b x.1.2 c)∈_ from hm),Bool.not_false,zkD,zas (by unfold zaw;rw [zkK];omega),zas (by unfold inR;omega)]
     rfl
  ·right
   have e':c=a.Inputs.toNat:=by omega
   subst e'
   rw [pB_next]
   exact ⟨_,by rw [zkA (by omega),zkC],Or.inl ⟨rfl,by rw [Nat.succ_mul];exact q4⟩⟩) fuel ((pB a b p0 (i*a.Inputs.toNat)).map prC,0) ⟨Nat.zero_le _,rfl,hd⟩ (by have:=za2;simp only;omega)
 exact ⟨r,hr,hq⟩
theorem R09_first_eq (T:Two a b) {p0:Nat×Nat} (h1:p0.1<a.Next.length) (h2:p0.2<b.Next.length):∃ res,zcg a b (↑p0.1:Int) (↑p0.2:Int)=some res∧Fst a b p0 res:=by
 have han:=T.a1.n2;have hbn:=T.b1.n2;have hnn:a.Next.length*b.Next.length≤128*128:=Nat.mul_le_mul han hbn;unfold zcg
 obtain ⟨r,hr,hq⟩:=zbi (step:=fun (s:List zat×Nat)=>zcg.s86 a b s.1 s.2) (fun s=>s.2≤(pB a b p0 (s.2*a.Inputs.toNat)).length∧s.1=(pB a b p0 (s.2*a.Inputs.toNat)).map prC∧∀ r,r<s.2*a.Inputs.toNat→difB a b p0 r=false) (fun s=>a.Next.length*b.Next.length+1-s.2) (fun r=>(r=.inl ()∧Fst a b p0 ([],false))∨∃ res,r=.inr res∧Fst a b p0 res) (fun s ⟨q1,q2,q4⟩=>by
  obtain ⟨l,i⟩:=s
  simp only at q1 q2 q4
  subst q2
  simp only [zcg.s86]
  have hlen:=pB_len T h1 h2 (i*a.Inputs.toNat)
  by_cases g:i<(pB a b p0 (i*a.Inputs.toNat)).length
  ·have hx:=get_at g
   generalize (pB a b p0 (i*a.Inputs.toNat))[i]=x at hx
   obtain ⟨r,z1,z2⟩:=first_row T h1 h2 (by omega) hx q4
   rw [zkB (by rw [zkK];omega),zkD,z1,zaq]
   rcases z2 with ⟨rfl,z4⟩ | ⟨res,rfl,z3⟩
   ·left
    have hmono:=(zg9 (e:=pE a b) (K:=a.Inputs.toNat) (s0:=p0) (show i*a.Inputs.toNat≤(i+1)*a.Inputs.toNat by rw [Nat.succ_mul];omega)).length_le
    exact ⟨((pB a b p0 ((i+1)*a.Inputs.toNat)).map prC,i+1),rfl,⟨by simp only;unfold pB at g ⊢;omega,rfl,z4⟩,by simp only;omega⟩
   ·right
    exact ⟨.inr res,rfl,Or.inr ⟨res,rfl,z3⟩⟩
  ·right
   refine ⟨.inl (),by rw [zkA (by rw [zkK];omega),zkC],Or.inl ⟨rfl,Or.inr ⟨pB a b p0 (i*a.Inputs.toNat),⟨?_⟩,?_,rfl⟩⟩⟩
   ·rw [show (pB a b p0 (i*a.Inputs.toNat)).length=i by omega]
    rfl
   ·rw [show (pB a b p0 (i*a.Inputs.toNat)).length=i by omega]
    exact q4) fuel ([(⟨(↑p0.1:Int),(↑p0.2:Int),[]⟩:zat)],0) ⟨Nat.zero_le _,by simp only;rw [Nat.zero_mul];simp [pB,bfsB,prC],fun r hr=>by simp only at hr;omega⟩ (by have:=za2;simp only;omega)
 rw [hr,zaq];rcases hq with ⟨rfl,hq⟩ | ⟨res,rfl,hq⟩
 ·exact ⟨_,rfl,hq⟩
 ·exact ⟨_,rfl,hq⟩
end
end
section
theorem leastR {p:Nat→Prop}:∀ {r:Nat},p r→∃ q,p q∧∀ q',q'<q→¬ p q':=fun {r} h=>by
 induction r using Nat.strongRecOn with
 | ind r ih =>
  by_cases g:∃ q,q<r∧p q
  ·obtain ⟨q,h1,h2⟩:=g;exact ih q h1 h2
  ·exact ⟨r,h,fun q' hq hp=>g ⟨q',hq,hp⟩⟩
structure Can (M:zaa):Prop where
 c4:∀ i a u,i<M.Next.length→a<M.Inputs.toNat→0<u→u≤nx M i a→∃ i' a',a'<M.Inputs.toNat∧i'*M.Inputs.toNat+a'≤i*M.Inputs.toNat+a∧i'<u∧nx M i' a'=u
 c5:∀ u,0<u→u<M.Next.length→∃ i a,i<u∧a<M.Inputs.toNat∧nx M i a=u
def Eqv (a:zaa) (s:Nat) (b:zaa) (t:Nat):Prop:=∀ w,WOk a.Inputs w→outs a s w=outs b t w
structure zo0 (m M:zaa):Prop where
 ok:zdc M
 inp:M.Inputs=m.Inputs
 start:M.Start=0
 eqv:Eqv M 0 m m.Start.toNat
 min:∀ i j,i<M.Next.length→j<M.Next.length→Eqv M i M j→i=j
 can:Can M
theorem Eqv.step {a b:zaa} (hi:a.Inputs=b.Inputs) {s t c:Nat} (h:Eqv a s b t) (hc:c<a.Inputs.toNat):ot a s c=ot b t c∧Eqv a (nx a s c) b (nx b t c):=by
 have key:∀ w,WOk a.Inputs w→ot a s c::outs a (nx a s c) w=ot b t c::outs b (nx b t c) w:=fun w hw=>by
  have:=h ((↑c:Int)::w) (fun x hx=>by
   rcases List.mem_cons.1 hx with rfl | hx
   ·omega
   ·exact hw x hx)
  exact this
 have h0:=key [] (fun x hx=>by cases hx);injection h0 with h0 _
 refine ⟨h0,fun w hw=>?_⟩;have:=key w hw;injection this with _ this
theorem Eqv.symm {a b:zaa} (hi:a.Inputs=b.Inputs) {s t:Nat} (h:Eqv a s b t):Eqv b t a s:=fun w hw=>(h w (by rw [hi];exact hw)).symm
theorem Eqv.trans {a b c:zaa} (hi:a.Inputs=b.Inputs) {s t u:Nat} (h:Eqv a s b t) (g:Eqv b t c u):Eqv a s c u:=fun w hw=>(h w hw).trans (g w (by rw [← hi];exact hw))
theorem Eqv.refl (a:zaa) (s:Nat):Eqv a s a s:=fun _ _=>rfl
theorem Eqv.dest {a b:zaa} (hi:a.Inputs=b.Inputs) {s t:Nat} (h:Eqv a s b t) {w:List Int} (hw:WOk a.Inputs w):Eqv a (dest a s w) b (dest b t w):=fun v hv=>by
 have:=h (w++v) (hw.append hv);rw [zf8,zf8] at this;exact List.append_inj_right this (by rw [zhi,zhi])
section
variable {M M':zaa}
theorem can_match (HM:zdc M) (HM':zdc M') (hi:M.Inputs=M'.Inputs) (hmin:∀ i j,i<M.Next.length→j<M.Next.length→Eqv M i M j→i=j) (hmin':∀ i j,i<M'.Next.length→j<M'.Next.length→Eqv M' i M' j→i=j) (C:Can M) (C':Can M') (h0:Eqv M 0 M' 0) :
  ∀ u,u<M.Next.length→u<M'.Next.length∧Eqv M u M' u:=by
 intro u
 induction u using Nat.strongRecOn with
 | ind u ih =>
  intro hu;by_cases hz:u=0
  ·subst hz;exact ⟨HM'.n1,h0⟩
  obtain ⟨i0,a0,b1,b2,b3⟩:=C.c5 u (by omega) hu;have hK:0<M.Inputs.toNat:=by omega
  obtain ⟨r,⟨⟨i,a,p1,p2,p3,p4⟩,hleast⟩⟩:∃ r,(∃ i a,i<M.Next.length∧a<M.Inputs.toNat∧r=i*M.Inputs.toNat+a∧nx M i a=u)∧∀ r',r'<r→¬ ∃ i a,i<M.Next.length∧a<M.Inputs.toNat∧r'=i*M.Inputs.toNat+a∧nx M i a=u :=
   leastR (p:=fun r=>∃ i a,i<M.Next.length∧a<M.Inputs.toNat∧r=i*M.Inputs.toNat+a∧nx M i a=u) (r:=i0*M.Inputs.toNat+a0) ⟨i0,a0,by omega,b2,rfl,b3⟩
  have hiu:i<u:=by
   rcases Nat.lt_or_ge i u with q | q
   ·exact q
   ·exfalso;refine hleast (i0*M.Inputs.toNat+a0) ?_ ⟨i0,a0,by omega,b2,rfl,b3⟩;have:=znr (show i0<i by omega) b2;omega
  obtain ⟨hi',hR⟩:=ih i hiu p1;obtain ⟨_,hR2⟩:=hR.step hi p2;rw [p4] at hR2;have ha':a<M'.Inputs.toNat:=by rw [← hi];exact p2
  have hu':=(HM'.at hi' ha').1
  have hlow:∀ i' a',i'<M.Next.length→a'<M.Inputs.toNat→i'*M.Inputs.toNat+a'<r→nx M i' a'<u:=fun i' a' g1 g2 g3=>by
   rcases Nat.lt_or_ge (nx M i' a') u with q | q
   ·exact q
   ·exfalso;obtain ⟨i2,a2,z1,z2,z3,z4⟩:=C.c4 i' a' u g1 g2 (by omega) q;exact hleast (i2*M.Inputs.toNat+a2) (by omega) ⟨i2,a2,by omega,z1,rfl,z4⟩
  rcases Nat.lt_trichotomy (nx M' i a) u with q | q | q
  ·exfalso;obtain ⟨_,hv⟩:=ih _ q (by omega);have:=hmin u (nx M' i a) hu (by omega) (hR2.trans hi (hv.symm hi));omega
  ·rw [q] at hR2 hu';exact ⟨hu',hR2⟩
  ·exfalso;obtain ⟨i2,a2,z1,z2,z3,z4⟩:=C'.c4 i a u hi' ha' (by omega) (by omega);rw [← hi] at z1 z2;obtain ⟨w1,w2⟩:=ih i2 z3 (by omega);obtain ⟨_,w3⟩:=w2.step hi z1;rw [z4] at w3
   have hlt:i2*M.Inputs.toNat+a2<r:=by
    rcases Nat.lt_or_ge (i2*M.Inputs.toNat+a2) r with g | g
    ·exact g
    ·exfalso;have he:i2*M.Inputs.toNat+a2=i*M.Inputs.toNat+a:=by omega
     have e1:i2=i:=by rw [← zl5 (i:=i2) z1,he,zl5 p2]
     subst e1;have e2:a2=a:=by omega
     subst e2;omega
   have hv:=hlow i2 a2 (by omega) z1 hlt;obtain ⟨v1,v2⟩:=ih _ hv (by omega);have hN':u<M'.Next.length:=by omega
   have:=hmin' (nx M i2 a2) u v1 hN' ((v2.symm hi).trans hi.symm w3);omega
theorem row_ext {l l':List (List Int)} {n k:Nat} {g:Nat→Nat→Int} (h1:l.length=n) (h2:l'.length=n) (h:∀ i,i<n→∃ x y,l[i]?=some x∧l'[i]?=some y∧x.length=k∧y.length=k∧∀ a,a<k→x[a]?=some (g i a)∧y[a]?=some (g i a)):l=l':=by
 refine List.ext_getElem? fun i=>?_;rcases Nat.lt_or_ge i n with g1 | g1
 ·obtain ⟨x,y,e1,e2,e3,e4,e5⟩:=h i g1;rw [e1,e2];congr 1;refine List.ext_getElem? fun a=>?_;rcases Nat.lt_or_ge a k with g2 | g2
  ·rw [(e5 a g2).1,(e5 a g2).2]
  ·rw [List.getElem?_eq_none (by omega),List.getElem?_eq_none (by omega)]
 ·rw [List.getElem?_eq_none (by omega),List.getElem?_eq_none (by omega)]
theorem minsem_uniq {m:zaa} (S:zo0 m M) (S':zo0 m M'):M=M':=by
 have hi:M.Inputs=M'.Inputs:=S.inp.trans S'.inp.symm;have h0:Eqv M 0 M' 0:=S.eqv.trans S.inp (S'.eqv.symm S'.inp);have A:=can_match S.ok S'.ok hi S.min S'.min S.can S'.can h0;have B:=can_match S'.ok S.ok hi.symm S'.min S.min S'.can S.can (h0.symm hi)
 have hn:M.Next.length=M'.Next.length:=by
  have p1:=S.ok.n1;have p2:=S'.ok.n1;have a1:=(A (M.Next.length-1) (by omega)).1;have b1:=(B (M'.Next.length-1) (by omega)).1;omega
 have hx:∀ i a,i<M.Next.length→a<M.Inputs.toNat→nx M i a=nx M' i a∧ot M i a=ot M' i a:=fun i a h1 h2=>by
  obtain ⟨e1,e2⟩:=(A i h1).2.step hi h2;refine ⟨?_,e1⟩;have g1:=(S.ok.at h1 h2).1;have g2:=(S'.ok.at (show i<M'.Next.length by omega) (a:=a) (by rw [← hi];exact h2)).1;have e3:=(A _ g1).2;exact S'.min _ _ (by omega) g2 ((e3.symm hi).trans hi.symm e2)
 have hN:M.Next=M'.Next:=row_ext (n:=M.Next.length) (k:=M.Inputs.toNat) (g:=fun i a=>(↑(nx M i a):Int)) rfl hn.symm fun i h=>by
  obtain ⟨x,y,e1,e2,e3,e4,_⟩:=S.ok.row i h;obtain ⟨x',y',f1,f2,f3,f4,_⟩:=S'.ok.row i (by omega);refine ⟨x,x',e1,f1,by omega,by omega,fun a ha=>?_⟩;obtain ⟨_,_,_,z,z',g1,_,g2,_⟩:=S.ok.at h ha;obtain ⟨_,_,_,v,v',k1,_,k2,_⟩:=S'.ok.at (show i<M'.Next.length by omega) (a:=a) (by rw [← hi];exact ha);rw [e1] at g1;rw [f1] at k1;injection g1 with g1
  injection k1 with k1
  subst g1;subst k1;exact ⟨g2,by rw [k2,(hx i a h ha).1]⟩
 have hO:M.Out=M'.Out:=row_ext (n:=M.Next.length) (k:=M.Inputs.toNat) (g:=fun i a=>ot M i a) S.ok.ol (S'.ok.ol.trans hn.symm) fun i h=>by
  obtain ⟨x,y,e1,e2,e3,e4,_⟩:=S.ok.row i h;obtain ⟨x',y',f1,f2,f3,f4,_⟩:=S'.ok.row i (by omega);refine ⟨y,y',e2,f2,by omega,by omega,fun a ha=>?_⟩;obtain ⟨_,_,_,z,z',_,g1,_,g2⟩:=S.ok.at h ha;obtain ⟨_,_,_,v,v',_,k1,_,k2⟩:=S'.ok.at (show i<M'.Next.length by omega) (a:=a) (by rw [← hi];exact ha);rw [e2] at g1;rw [f2] at k1;injection g1 with g1
  injection k1 with k1
  subst g1;subst k1;exact ⟨g2,by rw [k2,(hx i a h ha).2]⟩
 have hs:M.Start=M'.Start:=S.start.trans S'.start.symm;obtain ⟨a1,a2,a3,a4⟩:=M;obtain ⟨b1,b2,b3,b4⟩:=M';simp only at hi hs hN hO;rw [hi,hs,hN,hO]
end
structure Shape {A:Type} [DecidableEq A] (e:A→Nat→A) (o:A→Nat→Int) (L:List (A×List Int)) (M:zaa):Prop where
 len:M.Next.length=L.length
 row:∀ i x a,L[i]?=some x→a<M.Inputs.toNat→∃ y,L[nx M i a]?=some y∧y.1=e x.1 a∧ot M i a=o x.1 a
theorem nodup_at {A:Type} {l:List A} (h:l.Nodup) {i j:Nat} {x:A} (hi:l[i]?=some x) (hj:l[j]?=some x):i=j:=by
 have h1:=(zkI.1 hi);have h2:=(zkI.1 hj);obtain ⟨a1,a2⟩:=h1;obtain ⟨b1,b2⟩:=h2;rcases Nat.lt_trichotomy i j with q | q | q
 ·exact absurd (a2.trans b2.symm) (List.pairwise_iff_getElem.1 h i j a1 b1 q)
 ·exact q
 ·exact absurd (b2.trans a2.symm) (List.pairwise_iff_getElem.1 h j i b1 a1 q)
theorem shape_can {A:Type} [DecidableEq A] {e:A→Nat→A} {o:A→Nat→Int} {s0:A} {L:List (A×List Int)} {M:zaa} (hE:zfd e M.Inputs.toNat s0 L) (S:Shape e o L M) (hK:0<M.Inputs.toNat):Can M:=by
 have at_:∀ i a x y j,L[i]?=some x→a<M.Inputs.toNat→L[j]?=some y→y.1=e x.1 a→nx M i a=j:=fun i a x y j hx ha hj he=>by
  obtain ⟨y',h1,h2,_⟩:=S.row i x a hx ha;exact nodup_at hE.nodup (x:=e x.1 a) (by rw [List.getElem?_map,h1,← h2];rfl) (by rw [List.getElem?_map,hj,← he];rfl)
 refine ⟨fun i a u hi ha hu hle=>?_,fun u hu hlt=>?_⟩
 ·have hx:=get_at (l:=L) (i:=i) (by rw [← S.len];exact hi);obtain ⟨j,y,h1,h2,h3⟩:=hE.closed hx ha;rw [at_ i a _ y j hx ha h1 h2] at hle;obtain ⟨i',a',z,w,g1,g2,g3,g4,g5,g6⟩:=h3 u hu hle;exact ⟨i',a',g1,g2,g3,at_ i' a' z w u g4 g1 g5 g6⟩
 ·have hx:=get_at (l:=L) (i:=u) (by rw [← S.len];exact hlt);rcases hE.from hK hx with q | ⟨i,a,y,g1,g2,g3,g4⟩
  ·omega
  ·exact ⟨i,a,g1,g2,at_ i a y _ u g3 g2 hx (by rw [g4])⟩
end
section
section
variable {m:zaa}
theorem libclone_w {w:List Int} (h:w.length≤1000000):zfs w=some w:=znk (by unfold SmW;omega)
structure TrimOk (m t:zaa) (L:List (Nat×List Int)):Prop where
 end_:MEnd m m.Start.toNat L
 inp:t.Inputs=m.Inputs
 start:t.Start=0
 ok:zdc t
 shape:Shape (nx m) (ot m) L t
theorem mEnd_rng (H:zdc m) {s0:Nat} {L:List (Nat×List Int)} (hs:s0<m.Next.length) (hE:MEnd m s0 L):L.length≤m.Next.length∧∀ x∈L,x.1<m.Next.length∧dest m s0 x.2=x.1∧WOk m.Inputs x.2:=by
 refine ⟨?_,fun x hx=>?_⟩
 ·rw [hE.eq];exact zo6 H hs _
 ·rw [hE.eq] at hx;have:=zlb H hs _ x hx;exact ⟨this.1,this.2.2⟩
theorem mealy_Trim_eq (hv:zdw m=0):∃ t L,zbu m=some (t,0)∧TrimOk m t L:=by
 have H:=zek hv;have hst:=H.st;have hn:=H.n2;have hI:=H.i2;have hI1:=H.i1;have hs:m.Start.toNat<m.Next.length:=by omega
 obtain ⟨L,hE,hR⟩:=zl2 hv;obtain ⟨hLn,hLr⟩:=mEnd_rng H hs hE;have hnd:=hE.nodup;unfold zbu;rw [zdh,zaq,hv,zkA (by decide),zkC,hR,zaq,zas ⟨by omega,by omega,by unfold zaw;omega⟩]
 -- the numbers
 obtain ⟨num,hnum,hnl,hna⟩:=zbi (step:=fun (s:List Int×Nat)=>zbu.s2 (natI (L.map Prod.fst)) s.1 s.2) (fun s=>s.2≤L.length∧s.1.length=m.Next.length∧∀ (j:Nat) (x:Nat×List Int),j<s.2→L[j]?=some x→s.1[x.1]?=some (↑j:Int)) (fun s=>L.length-s.2) (fun r=>r.length=m.Next.length∧∀ (j:Nat) (x:Nat×List Int),L[j]?=some x→r[x.1]?=some (↑j:Int)) (fun s ⟨q1,q2,q3⟩=>by
  obtain ⟨y,i⟩:=s
  simp only at q1 q2 q3
  simp only [zbu.s2]
  by_cases g:i<L.length
  ·left
   have hx:=get_at g
   generalize L[i]=x at hx
   have hxr:=(hLr x (zkH hx)).1
   have hy:=get_at (l:=y) (i:=x.1) (by omega)
   refine ⟨(y.set x.1 (↑i:Int),i+1),?_,⟨g,by simp [q2],fun j z hj hz=>?_⟩,by simp only;omega⟩
   ·rw [zkB (by rw [zeh,zkK];omega),zkD,zam (zn4 (i:=i) (u:=x.1) (by rw [List.getElem?_map,hx];rfl)),zbw rfl hy,Int.toNat_natCast]
   ·simp only
    by_cases e:x.1=z.1
    ·have:i=j:=nodup_at hnd (x:=x.1) (by rw [List.getElem?_map,hx];rfl) (by rw [List.getElem?_map,hz,e];rfl)
     subst this
     rw [← e,List.getElem?_set_self (by omega)]
    ·rw [List.getElem?_set_ne e]
     rcases Nat.lt_or_ge j i with h | h
     ·exact q3 j z h hz
     ·have:j=i:=by simp only at hj;omega
      subst this
      rw [hx] at hz
      injection hz with hz
      rw [hz] at e
      exact absurd rfl e
  ·right
   exact ⟨y,by rw [zkA (by rw [zeh,zkK];omega),zkC],q2,fun j x hx=>q3 j x (by have:=(zkI.1 hx).1;omega) hx⟩) fuel (List.replicate m.Next.length 0,0) ⟨Nat.zero_le _,by simp,fun j x h=>absurd h (Nat.not_lt_zero _)⟩ (by have:=za2;simp only;omega)
 rw [hnum,zaq]
 -- one row
 have row1:∀ (x:Nat×List Int) (row:List Int),x∈L→m.Next[x.1]?=some row→∃ r,iter (fun (s:List Int×Nat)=>zbu.s15 num row s.1 s.2) fuel (List.replicate (Int.toNat m.Inputs) 0,0)=some r∧r.length=m.Inputs.toNat∧∀ a,a<m.Inputs.toNat→∃ (j:Nat) (y:Nat×List Int),L[j]?=some y∧y.1=nx m x.1 a∧r[a]?=some (↑j:Int):=by
  intro x row hx hrow;have hxr:=(hLr x hx).1
  have hrl:row.length=m.Inputs.toNat:=by
   obtain ⟨x',y',h1,_,h3,_⟩:=H.row x.1 hxr;rw [hrow] at h1;injection h1 with h1
   subst h1;omega
  obtain ⟨i,hi⟩:=List.mem_iff_getElem?.1 hx
  exact zbi (step:=fun (s:List Int×Nat)=>zbu.s15 num row s.1 s.2) (fun s=>s.2≤m.Inputs.toNat∧s.1.length=m.Inputs.toNat∧∀ a,a<s.2→∃ (j:Nat) (y:Nat×List Int),L[j]?=some y∧y.1=nx m x.1 a∧s.1[a]?=some (↑j:Int)) (fun s=>m.Inputs.toNat-s.2) (fun r=>r.length=m.Inputs.toNat∧∀ a,a<m.Inputs.toNat→∃ (j:Nat) (y:Nat×List Int),L[j]?=some y∧y.1=nx m x.1 a∧r[a]?=some (↑j:Int)) (fun s ⟨q1,q2,q3⟩=>by
   obtain ⟨y,a⟩:=s
   simp only at q1 q2 q3
   simp only [zbu.s15]
   by_cases g:a<m.Inputs.toNat
   ·left
    obtain ⟨h1,_,_,x',y',h2,_,h4,_⟩:=H.at hxr g
    rw [hrow] at h2
    injection h2 with h2
    subst h2
    obtain ⟨j,z,z1,z2,_⟩:=hE.closed hi g
    have hy:=get_at (l:=y) (i:=a) (by omega)
    have hnz:=hna j z z1
    rw [z2] at hnz
    refine ⟨(y.set a (↑j:Int),a+1),?_,⟨g,by simp [q2],fun b hb=>?_⟩,by simp only;omega⟩
    ·rw [zkB (by omega),zkD,zam h4,zbw rfl hnz,zam hy]
    ·simp only
     by_cases e:a=b
     ·subst e
      exact ⟨j,z,z1,z2,by rw [List.getElem?_set_self (by omega)]⟩
     ·obtain ⟨j',z',w1,w2,w3⟩:=q3 b (by simp only at hb;omega)
      exact ⟨j',z',w1,w2,by rw [List.getElem?_set_ne e,w3]⟩
   ·right
    have:a=m.Inputs.toNat:=by omega
    subst this
    exact ⟨y,by rw [zkA (by omega),zkC],q2,q3⟩) fuel (List.replicate (Int.toNat m.Inputs) 0,0) ⟨Nat.zero_le _,by simp,fun a h=>absurd h (Nat.not_lt_zero _)⟩ (by have:=za2;simp only;omega)
 -- all rows
 obtain ⟨r,hr,P,Q,rfl,p1,p2,p3⟩:=zbi (step:=fun (s:List (List Int)×List (List Int)×Nat)=>zbu.s16 m (natI (L.map Prod.fst)) num s.1 s.2.1 s.2.2) (fun s=>s.2.2≤L.length∧s.1.length=s.2.2∧s.2.1.length=s.2.2∧∀ (i:Nat) (x:Nat×List Int),i<s.2.2→L[i]?=some x→(∃ r,s.1[i]?=some r∧r.length=m.Inputs.toNat∧∀ a,a<m.Inputs.toNat→∃ (j:Nat) (y:Nat×List Int),L[j]?=some y∧y.1=nx m x.1 a∧r[a]?=some (↑j:Int))∧s.2.1[i]?=m.Out[x.1]?) (fun s=>L.length-s.2.2) (fun r=>∃ P Q,r=(P,Q)∧P.length=L.length∧Q.length=L.length∧∀ (i:Nat) (x:Nat×List Int),L[i]?=some x→(∃ r,P[i]?=some r∧r.length=m.Inputs.toNat∧∀ a,a<m.Inputs.toNat→∃ (j:Nat) (y:Nat×List Int),L[j]?=some y∧y.1=nx m x.1 a∧r[a]?=some (↑j:Int))∧Q[i]?=m.Out[x.1]?) (fun s ⟨q1,q2,q3,q4⟩=>by
  obtain ⟨P,Q,i⟩:=s
  simp only at q1 q2 q3 q4
  simp only [zbu.s16]
  by_cases g:i<L.length
  ·left
   have hx:=get_at g
   generalize L[i]=x at hx
   have hxm:=zkH hx
   have hxr:=(hLr x hxm).1
   obtain ⟨row,out,e1,e2,e3,e4,_⟩:=H.row x.1 hxr
   obtain ⟨r,f1,f2,f3⟩:=row1 x row hxm e1
   refine ⟨(P++[r],Q++[out],i+1),?_,⟨g,by simp [q2],by simp [q3],fun j z hj hz=>?_⟩,by simp only;omega⟩
   ·rw [zkB (by rw [zeh,zkK];omega),zkD,zam (zn4 (i:=i) (u:=x.1) (by rw [List.getElem?_map,hx];rfl)),zas ⟨by omega,by omega,by unfold zaw;omega⟩,zbw rfl e1,f1,zaq,zas (by unfold zaw;omega),zbw rfl e2,libclone_w (by omega),zaq,zas (by unfold zaw;omega)]
   ·simp only
    rcases Nat.lt_or_ge j i with h | h
    ·obtain ⟨⟨r',w1,w2⟩,w3⟩:=q4 j z h hz
     exact ⟨⟨r',by rw [List.getElem?_append_left (by omega),w1],w2⟩,by rw [List.getElem?_append_left (by omega),w3]⟩
    ·have:j=i:=by simp only at hj;omega
     subst this
     rw [hx] at hz
     injection hz with hz
     subst hz
     refine ⟨⟨r,?_,f2,f3⟩,?_⟩
     ·rw [List.getElem?_append_right (by omega),q2,Nat.sub_self]
      rfl
     ·rw [List.getElem?_append_right (by omega),q3,Nat.sub_self,e2]
      rfl
  ·right
   have:i=L.length:=by omega
   subst this
   exact ⟨_,by rw [zkA (by rw [zeh,zkK];omega),zkC],P,Q,rfl,q2,q3,fun j x hx=>q4 j x (zkI.1 hx).1 hx⟩) fuel ([],[],0) ⟨Nat.zero_le _,rfl,rfl,fun i x h=>absurd h (Nat.not_lt_zero _)⟩ (by have:=za2;simp only;omega)
 rw [hr,zaq];have hL0:0<L.length:=(zkI.1 hE.first).1
 have hsh:∀ i x a,L[i]?=some x→a<m.Inputs.toNat→∃ (j:Nat) (y:Nat×List Int),L[j]?=some y∧y.1=nx m x.1 a∧nx (⟨m.Inputs,0,P,Q⟩:zaa) i a=j∧ot (⟨m.Inputs,0,P,Q⟩:zaa) i a=ot m x.1 a:=fun i x a hx ha=>by
  obtain ⟨⟨r,w1,w2,w3⟩,w4⟩:=p3 i x hx;obtain ⟨j,y,z1,z2,z3⟩:=w3 a ha;refine ⟨j,y,z1,z2,?_,?_⟩
  ·unfold nx;simp only;rw [w1,Option.getD_some,z3,Option.getD_some,Int.toNat_natCast]
  ·unfold ot;simp only;rw [w4]
 refine ⟨⟨m.Inputs,0,P,Q⟩,L,rfl,hE,rfl,rfl,⟨hI1,hI,by simp only;omega,by simp only;omega,⟨Int.le_refl 0,by simp only;omega⟩,by simp only;omega,fun i hi=>?_⟩,⟨p1,fun i x a hx ha=>?_⟩⟩
 ·simp only at hi ⊢;have hx:=get_at (l:=L) (i:=i) (by omega);obtain ⟨⟨r,w1,w2,w3⟩,w4⟩:=p3 i _ hx;obtain ⟨row,out,e1,e2,e3,e4,e5,e6⟩:=H.row L[i].1 (hLr _ (zkH hx)).1;refine ⟨r,out,w1,by rw [w4,e2],by omega,e4,fun u hu=>?_,e6⟩;obtain ⟨a,ha,rfl⟩:=List.mem_iff_getElem.1 hu;obtain ⟨j,y,z1,z2,z3⟩:=w3 a (by omega);rw [get_at ha] at z3;injection z3 with z3
  have:=(zkI.1 z1).1;omega
 ·obtain ⟨j,y,z1,z2,z3,z4⟩:=hsh i x a hx ha;exact ⟨y,by rw [z3];exact z1,z2,z4⟩
theorem trim_outs {t:zaa} {L:List (Nat×List Int)} (T:TrimOk m t L):∀ (w:List Int) (i:Nat) (x:Nat×List Int),L[i]?=some x→WOk m.Inputs w→outs t i w=outs m x.1 w
 | [],_,_,_,_=>rfl
 | z::w,i,x,hx,hw=>by
  have hz:=hw.head;obtain ⟨y,h1,h2,h3⟩:=T.shape.row i x z.toNat hx (by rw [T.inp];omega);have:=trim_outs T w _ y h1 hw.tail;show ot t i z.toNat::outs t (nx t i z.toNat) w=ot m x.1 z.toNat::outs m (nx m x.1 z.toNat) w;rw [h3,this,h2]
end
end
section
section
variable {κ ν:Type} [BEq κ]
theorem mset_new {k:κ} {v:ν}:∀ {m:List (κ×ν)},mget k m=none→mset k v m=m++[(k,v)]
 | [],_=>rfl
 | p::m,h=>by
  unfold mget at h;unfold mset;cases e:k==p.1 with
  | true=>rw [e] at h;cases h
  | false =>
   rw [e] at h;show p::mset k v m=_;rw [mset_new h];rfl
end
theorem li_beq (a b:List Int):(a==b)=true↔a=b:=beq_iff_eq
section
variable {m:zaa} {c:List Int}
def sigV (m:zaa) (c:List Int) (s a p:Nat):Int:=if p<a then ot m s p else if 64≤p∧p-64<a then (c[nx m s (p-64)]?).getD 0 else 0
def sigA (m:zaa) (c:List Int) (s:Nat):List Int:=(List.range 128).map (sigV m c s m.Inputs.toNat)
theorem sigA_at (s:Nat) {p:Nat} (hp:p<128):(sigA m c s)[p]?=some (sigV m c s m.Inputs.toNat p):=by
 unfold sigA;rw [List.getElem?_map,List.getElem?_range hp];rfl
theorem sigA_len (s:Nat):(sigA m c s).length=128:=by simp [sigA]
theorem sigV_lo {s a K:Nat} (h:a<K):sigV m c s K a=ot m s a:=if_pos h
theorem sigV_hi {s a K:Nat} (h:a<K) (hK:K≤64):sigV m c s K (64+a)=(c[nx m s a]?).getD 0:=by
 unfold sigV;have h1:¬ 64+a<K:=by omega
 have h2:64≤64+a∧64+a-64<K:=by omega
 have h3:64+a-64=a:=by omega
 rw [if_neg h1,if_pos h2,h3]
theorem sigA_eq (hI:m.Inputs≤64) {s t:Nat}:sigA m c s=sigA m c t↔∀ a,a<m.Inputs.toNat→ot m s a=ot m t a∧(c[nx m s a]?).getD 0=(c[nx m t a]?).getD 0:=by
 constructor
 ·intro h a ha;have h1:=sigA_at (m:=m) (c:=c) s (p:=a) (by omega);rw [h,sigA_at t (by omega)] at h1;injection h1 with h1
  rw [sigV_lo ha,sigV_lo ha] at h1;have h2:=sigA_at (m:=m) (c:=c) s (p:=64+a) (by omega);rw [h,sigA_at t (by omega)] at h2;injection h2 with h2
  rw [sigV_hi ha (by omega),sigV_hi ha (by omega)] at h2;exact ⟨h1.symm,h2.symm⟩
 ·intro h;unfold sigA;refine List.map_congr_left fun p _=>?_;unfold sigV;by_cases h1:p<m.Inputs.toNat
  ·rw [if_pos h1,if_pos h1,(h p h1).1]
  ·rw [if_neg h1,if_neg h1];by_cases h2:64≤p∧p-64<m.Inputs.toNat
   ·rw [if_pos h2,if_pos h2,(h _ h2.2).2]
   ·rw [if_neg h2,if_neg h2]
theorem sig_loop (H:zdc m) (hc:c.length=m.Next.length) {s:Nat} (hs:s<m.Next.length):iter (fun (q:List Int×Nat)=>za8.s18 m c s q.1 q.2) fuel (List.replicate 128 0,0)=some (sigA m c s):=by
 have hI:=H.i2;refine zdx (fun q=>q.2≤m.Inputs.toNat∧q.1=(List.range 128).map (sigV m c s q.2)) (fun q=>m.Inputs.toNat-q.2) (fun q hq=>?_) ⟨Nat.zero_le _,?_⟩ (by have:=za2;simp only;omega)
 ·obtain ⟨y,a⟩:=q;obtain ⟨q1,q2⟩:=hq;simp only at q1 q2;rw [q2];simp only [za8.s18];by_cases g:a<m.Inputs.toNat
  ·left;obtain ⟨h1,_,_,x,o,e1,e2,e3,e4⟩:=H.at hs g;have hcx:=get_at (l:=c) (i:=nx m s a) (by omega)
   have hr:∀ p,p<128→((List.range 128).map (sigV m c s a))[p]?=some (sigV m c s a p):=fun p hp=>by
    rw [List.getElem?_map,List.getElem?_range hp];rfl
   refine ⟨((List.range 128).map (sigV m c s (a+1)),a+1),?_,⟨g,rfl⟩,by simp only;omega⟩;rw [zkB (by omega),zkD,zam e2,zam e4,zas (by omega),zam (hr a (by omega)),zas (by unfold inR;omega),zam e1,zam e3,zbw rfl hcx,zas (by omega),zam (x:=sigV m c s a (64+a)) (by rw [List.getElem?_set_ne (by omega),hr _ (by omega)]),zas (by unfold inR;omega)];congr 4;refine List.ext_getElem? fun p=>?_;rcases Nat.lt_or_ge p 128 with hp | hp
   ·rw [List.getElem?_map (f:=sigV m c s (a+1)),List.getElem?_range hp,Option.map_some];by_cases p1:64+a=p
    ·subst p1;rw [List.getElem?_set_self (by simp;omega)];congr 1;unfold sigV;rw [if_neg (by omega),if_pos (by omega),show 64+a-64=a by omega,hcx,Option.getD_some]
    ·rw [List.getElem?_set_ne p1];by_cases p2:a=p
     ·subst p2;rw [List.getElem?_set_self (by simp;omega)];congr 1;unfold sigV;rw [if_pos (by omega)]
     ·rw [List.getElem?_set_ne p2,hr p hp];congr 1;unfold sigV;by_cases p3:p<a
      ·rw [if_pos p3,if_pos (by omega)]
      ·have p5:¬ p<a+1:=by omega
       rw [if_neg p3,if_neg p5];by_cases p4:64≤p∧p-64<a
       ·have p6:64≤p∧p-64<a+1:=by omega
        rw [if_pos p4,if_pos p6]
       ·have p6:¬ (64≤p∧p-64<a+1):=by omega
        rw [if_neg p4,if_neg p6]
   ·rw [List.getElem?_eq_none (by simp;omega),List.getElem?_eq_none (by simp;omega)]
  ·right;have:a=m.Inputs.toNat:=by omega
   subst this;rw [zkA (by omega),zkC];rfl
 ·simp only;refine List.ext_getElem? fun p=>?_;rcases Nat.lt_or_ge p 128 with hp | hp
  ·rw [List.getElem?_replicate,if_pos hp,List.getElem?_map,List.getElem?_range hp,Option.map_some];unfold sigV;rw [if_neg (by omega),if_neg (by omega)]
  ·rw [List.getElem?_eq_none (by simp;omega),List.getElem?_eq_none (by simp;omega)]
def FirstOcc (o:List Int):Prop:=∀ (s x:Nat),o[s]?=some (↑x:Int)→∀ u:Nat,u<x→∃ s',s'<s∧o[s']?=some (↑u:Int)
structure ClsF (m:zaa) (k:Nat) (c:List Int):Prop where
 cls:zh2 m k c
 first:FirstOcc c
theorem E_of_next (H:zdc m):∀ {k s t:Nat},s<m.Next.length→t<m.Next.length→(∀ a,a<m.Inputs.toNat→ot m s a=ot m t a∧E m k (nx m s a) (nx m t a))→E m (k+1) s t
 | 0,_,_,_,_,h=>⟨trivial,h⟩
 | _+1,_,_,hs,ht,h=>⟨E_of_next H hs ht fun a ha=>⟨(h a ha).1,(h a ha).2.1⟩,h⟩
theorem sig_iff (H:zdc m) {k:Nat} (C:zh2 m k c) {s t:Nat} (hs:s<m.Next.length) (ht:t<m.Next.length):sigA m c s=sigA m c t↔E m (k+1) s t:=by
 rw [sigA_eq H.i2]
 have hq:∀ a,a<m.Inputs.toNat→((c[nx m s a]?).getD 0=(c[nx m t a]?).getD 0↔E m k (nx m s a) (nx m t a)):=fun a ha=>by
  have h1:=(H.at hs ha).1;have h2:=(H.at ht ha).1;rw [← C.cls _ _ h1 h2];obtain ⟨x,x1,_⟩:=C.rng _ h1;obtain ⟨y,y1,_⟩:=C.rng _ h2;rw [x1,y1,Option.getD_some,Option.getD_some];exact ⟨fun h=>by rw [h],fun h=>by injection h⟩
 constructor
 ·exact fun h=>E_of_next H hs ht fun a ha=>⟨(h a ha).1,(hq a ha).1 (h a ha).2⟩
 ·exact fun h a ha=>⟨(h.2 a ha).1,(hq a ha).2 (h.2 a ha).2⟩
structure Giv (m:zaa) (c:List Int) (mp:List (List Int×Int)) (o:List Int) (s:Nat):Prop where
 len:o.length=m.Next.length
 keys:∀ p∈mp,p.1.length=128
 le:mp.length≤s
 get:∀ s',s'<s→∃ x:Nat,x<mp.length∧o[s']?=some (↑x:Int)∧mget (sigA m c s') mp=some (↑x:Int)
 org:∀ k v,mget k mp=some v→∃ s',s'<s∧sigA m c s'=k
 inj:∀ s' s'',s'<s→s''<s→o[s']?=o[s'']?→sigA m c s'=sigA m c s''
 first:∀ (s' x:Nat),s'<s→o[s']?=some (↑x:Int)→∀ u:Nat,u<x→∃ s'',s''<s'∧o[s'']?=some (↑u:Int)
 all:∀ u:Nat,u<mp.length→∃ s',s'<s∧o[s']?=some (↑u:Int)
open Classical in
theorem zpl (H:zdc m) {k:Nat} (C:zh2 m k c):∃ (c':List Int) (n:Nat),za8 m c=some (c',(↑n:Int))∧ClsF m (k+1) c'∧n=nreps m (k+1):=by
 have hn:=H.n2;have hc:=C.len;unfold za8;rw [zas ⟨by omega,by omega,by unfold zaw;omega⟩]
 obtain ⟨r,hr,mp,o,rfl,G,hcnt⟩:=zbi (step:=fun (s:(List (List Int×Int))×List Int×Nat)=>za8.s20 m c s.1 s.2.1 s.2.2) (fun s=>s.2.2≤m.Next.length∧Giv m c s.1 s.2.1 s.2.2∧s.1.length=(List.range s.2.2).countP fun s=>decide (Rep m (k+1) s)) (fun s=>m.Next.length-s.2.2) (fun r=>∃ mp o,r=(mp,o)∧Giv m c mp o m.Next.length∧mp.length=nreps m (k+1)) (fun s ⟨q1,G,q3⟩=>by
  obtain ⟨mp,o,s⟩:=s
  simp only at q1 G q3
  simp only [za8.s20]
  by_cases g:s<m.Next.length
  ·left
   have hlen:=sigA_len (m:=m) (c:=c) s
   have hmle:=G.le
   have ho:=get_at (l:=o) (i:=s) (by rw [G.len];exact g)
   rw [zkB (by omega),zkD,sig_loop H hc g,zaq,zas hlen,zas ⟨hlen,G.keys⟩]
   have hrep:(mget (sigA m c s) mp=none)↔Rep m (k+1) s:=by
    constructor
    ·intro h t ht hE
     obtain ⟨x,_,_,x3⟩:=G.get t ht
     rw [← (sig_iff H C g (by omega)).2 hE,h] at x3
     cases x3
    ·intro h
     cases e:mget (sigA m c s) mp with
     | none=>rfl
     | some v =>
      obtain ⟨s',h1,h2⟩:=G.org _ _ e
      exact absurd ((sig_iff H C g (by omega)).1 h2.symm) (h s' h1)
   have hcount:(List.range (s+1)).countP (fun s=>decide (Rep m (k+1) s))=(List.range s).countP (fun s=>decide (Rep m (k+1) s))+if Rep m (k+1) s then 1 else 0:=by
    rw [List.range_succ,List.countP_append]
    congr 1
    by_cases h:Rep m (k+1) s
    ·rw [if_pos h,List.countP_singleton,zkB h]
     rfl
    ·rw [if_neg h,List.countP_singleton,zkA h]
     rfl
   have setlt:∀ {s':Nat} {v:Int},s'<s→(o.set s v)[s']?=o[s']?:=fun h=>List.getElem?_set_ne (by omega)
   have setat:∀ {v:Int},(o.set s v)[s]?=some v:=List.getElem?_set_self (by rw [G.len];exact g)
   cases e:mget (sigA m c s) mp with
   | none =>
    have hR:=hrep.1 e
    have hms:mset (sigA m c s) (↑mp.length:Int) mp=mp++[(sigA m c s,(↑mp.length:Int))]:=mset_new e
    refine ⟨(mset (sigA m c s) (↑mp.length:Int) mp,o.set s (↑mp.length:Int),s+1),?_,⟨g,?_,?_⟩,by simp only;omega⟩
    ·rw [Option.isSome_none,Bool.not_false,zkD,zas hlen,zas ⟨hlen,G.keys⟩,zaq]
     simp only [za8.k19]
     rw [zam ho]
    ·simp only
     refine ⟨by simp [G.len],?_,by rw [hms];simp;omega,?_,?_,?_,?_,?_⟩
     ·intro p hp
      rw [hms] at hp
      rcases List.mem_append.1 hp with h | h
      ·exact G.keys p h
      ·have:p=(sigA m c s,(↑mp.length:Int)):=by simpa using h
       rw [this]
       exact hlen
     ·intro s' hs'
      by_cases h:s'<s
      ·obtain ⟨x,x1,x2,x3⟩:=G.get s' h
       refine ⟨x,by rw [hms];simp;omega,by rw [setlt h,x2],?_⟩
       rw [zih li_beq (fun q=>?_),x3]
       rw [q,e] at x3
       cases x3
      ·have:s'=s:=by omega
       subst this
       exact ⟨mp.length,by rw [hms];simp,setat,zi0 li_beq mp⟩
     ·intro kk v hv
      by_cases h:kk=sigA m c s
      ·exact ⟨s,by omega,h.symm⟩
      ·rw [zih li_beq h] at hv
       obtain ⟨s',h1,h2⟩:=G.org _ _ hv
       exact ⟨s',by omega,h2⟩
     ·have fresh:∀ s',s'<s→o[s']?≠some (↑mp.length:Int):=fun s' h q=>by
       obtain ⟨x,x1,x2,_⟩:=G.get s' h
       rw [x2] at q
       injection q with q
       omega
      intro s' s'' h1 h2 h3
      by_cases a1:s'<s<;>by_cases a2:s''<s
      ·rw [setlt a1,setlt a2] at h3
       exact G.inj _ _ a1 a2 h3
      ·have:s''=s:=by omega
       subst this
       rw [setlt a1,setat] at h3
       exact absurd h3 (fresh s' a1)
      ·have:s'=s:=by omega
       subst this
       rw [setlt a2,setat] at h3
       exact absurd h3.symm (fresh s'' a2)
      ·have:s'=s'':=by omega
       rw [this]
     ·intro s' x h1 h2 u hu
      by_cases a1:s'<s
      ·rw [setlt a1] at h2
       obtain ⟨s'',z1,z2⟩:=G.first s' x a1 h2 u hu
       exact ⟨s'',z1,by rw [setlt (by omega),z2]⟩
      ·have:s'=s:=by omega
       subst this
       rw [setat] at h2
       injection h2 with h2
       obtain ⟨s'',z1,z2⟩:=G.all u (by omega)
       exact ⟨s'',z1,by rw [setlt z1,z2]⟩
     ·intro u hu
      rw [hms] at hu
      simp at hu
      rcases Nat.lt_or_ge u mp.length with h | h
      ·obtain ⟨s',z1,z2⟩:=G.all u h
       exact ⟨s',by omega,by rw [setlt z1,z2]⟩
      ·have:u=mp.length:=by omega
       subst this
       exact ⟨s,by omega,setat⟩
    ·simp only
     rw [hcount,if_pos hR,hms,← q3]
     simp
   | some v =>
    have hR:¬ Rep m (k+1) s:=fun q=>by
     rw [hrep.2 q] at e
     cases e
    obtain ⟨t,ht,hts⟩:=G.org _ _ e
    obtain ⟨x,x1,x2,x3⟩:=G.get t ht
    have hv:v=(↑x:Int):=by
     rw [hts,e] at x3
     injection x3
    refine ⟨(mp,o.set s v,s+1),?_,⟨g,?_,?_⟩,by simp only;omega⟩
    ·rw [Option.isSome_some,Bool.not_true,zkC,Option.getD_some,zaq]
     simp only [za8.k19]
     rw [zam ho]
    ·simp only
     refine ⟨by simp [G.len],G.keys,by omega,?_,?_,?_,?_,?_⟩
     ·intro s' hs'
      by_cases h:s'<s
      ·obtain ⟨x,y1,y2,y3⟩:=G.get s' h
       exact ⟨x,y1,by rw [setlt h,y2],y3⟩
      ·have:s'=s:=by omega
       subst this
       exact ⟨x,x1,by rw [setat,hv],by rw [e,hv]⟩
     ·intro kk v hv
      obtain ⟨s',h1,h2⟩:=G.org _ _ hv
      exact ⟨s',by omega,h2⟩
     ·intro s' s'' h1 h2 h3
      by_cases a1:s'<s<;>by_cases a2:s''<s
      ·rw [setlt a1,setlt a2] at h3
       exact G.inj _ _ a1 a2 h3
      ·have:s''=s:=by omega
       subst this
       rw [setlt a1,setat,hv,← x2] at h3
       rw [← hts]
       exact G.inj _ _ a1 ht h3
      ·have:s'=s:=by omega
       subst this
       rw [setlt a2,setat,hv,← x2] at h3
       rw [← hts]
       exact G.inj _ _ ht a2 h3
      ·have:s'=s'':=by omega
       rw [this]
     ·intro s' y h1 h2 u hu
      by_cases a1:s'<s
      ·rw [setlt a1] at h2
       obtain ⟨s'',z1,z2⟩:=G.first s' y a1 h2 u hu
       exact ⟨s'',z1,by rw [setlt (by omega),z2]⟩
      ·have:s'=s:=by omega
       subst this
       rw [setat] at h2
       injection h2 with h2
       obtain ⟨s'',z1,z2⟩:=G.first t x ht x2 u (by omega)
       exact ⟨s'',by omega,by rw [setlt (by omega),z2]⟩
     ·intro u hu
      obtain ⟨s',z1,z2⟩:=G.all u hu
      exact ⟨s',by omega,by rw [setlt z1,z2]⟩
    ·simp only
     rw [hcount,if_neg hR,← q3,Nat.add_zero]
  ·right
   have:s=m.Next.length:=by omega
   subst this
   exact ⟨_,by rw [zkA (by omega),zkC],mp,o,rfl,G,q3⟩) fuel ([],List.replicate c.length 0,0) ⟨Nat.zero_le _,⟨by simp [hc],fun p hp=>(by cases hp),Nat.le_refl _,fun s' h=>absurd h (Nat.not_lt_zero _),fun k v h=>(by cases h),fun s' _ h=>absurd h (Nat.not_lt_zero _),fun s' _ h=>absurd h (Nat.not_lt_zero _),fun u h=>absurd h (Nat.not_lt_zero _)⟩,rfl⟩ (by have:=za2;simp only;omega)
 refine ⟨o,mp.length,by rw [hr,zaq];rfl,⟨⟨G.len,fun s hs=>?_,fun s t hs ht=>?_⟩,fun s x hx=>G.first s x (by rw [← G.len];exact (zkI.1 hx).1) hx⟩,hcnt⟩
 ·obtain ⟨x,x1,x2,_⟩:=G.get s hs;have:=G.le;exact ⟨x,x2,by omega⟩
 ·rw [← sig_iff H C hs ht];constructor
  ·exact G.inj s t hs ht
  ·intro h;obtain ⟨x,_,x2,x3⟩:=G.get s hs;obtain ⟨y,_,y2,y3⟩:=G.get t ht;rw [h,y3] at x3;rw [x2,y2,x3]
open Classical in
theorem znq (H:zdc m):∃ c i,zcm m 128=some (c,i)∧ClsF m m.Next.length c:=by
 have hn:=H.n2;have hn1:=H.n1;have hmin:(min (max (128:Int) 0) (↑m.Next.length:Int))=(↑m.Next.length:Int):=by omega
 unfold zcm;rw [zas ⟨by omega,by omega,by unfold zaw;omega⟩]
 obtain ⟨r,hr,hq⟩:=zbi (step:=fun (s:List Int×Int×Nat)=>zcm.s2 m 128 s.1 s.2.1 s.2.2) (fun s=>s.2.2≤m.Next.length∧ClsF m s.2.2 s.1∧s.2.1=(↑(nreps m s.2.2):Int)) (fun s=>m.Next.length-s.2.2) (fun r=>(∃ c,r=.inl c∧ClsF m m.Next.length c)∨∃ c i,r=.inr (c,i)∧ClsF m m.Next.length c) (fun s ⟨q1,q2,q3⟩=>by
  obtain ⟨c,n,i⟩:=s
  simp only at q1 q2 q3
  simp only [zcm.s2]
  rw [hmin]
  by_cases g:i<m.Next.length
  ·obtain ⟨c',n',h1,h2,h3⟩:=zpl H q2.cls
   rw [zkB (by omega),zkD,h1,zaq]
   by_cases e:n'=nreps m i
   ·right
    rw [zkB (by simp only;omega),zkD]
    refine ⟨_,rfl,Or.inr ⟨c,_,rfl,⟨⟨q2.cls.len,q2.cls.rng,fun s t hs ht=>?_⟩,q2.first⟩⟩⟩
    rw [q2.cls.cls s t hs ht]
    have hS:Stab m i:=stab_of (by omega)
    constructor
    ·intro h
     have key:∀ j,E m (i+j) s t:=by
      intro j
      induction j with
      | zero=>exact h
      | succ j ih=>exact stab_add H hS j s t hs ht ih
     have:=key (m.Next.length-i)
     rwa [show i+(m.Next.length-i)=m.Next.length by omega] at this
    ·exact E_mono (by omega)
   ·left
    exact ⟨(c',(↑n':Int),i+1),by rw [zkA (by simp only;omega),zkC],⟨g,h2,by simp only;rw [h3]⟩,by simp only;omega⟩
  ·right
   have:i=m.Next.length:=by omega
   subst this
   exact ⟨_,by rw [zkA (by omega),zkC],Or.inl ⟨c,rfl,q2⟩⟩) fuel (List.replicate m.Next.length 0,1,0) ⟨Nat.zero_le _,⟨⟨by simp,fun s hs=>⟨0,by simp [hs],hn1⟩,fun s t hs ht=>⟨fun _=>trivial,fun _=>by simp [hs,ht]⟩⟩,fun s x hx u hu=>by
    have:=(zkI.1 hx).2
    simp at this
    omega⟩,by
    simp only
    have:nreps m 0=1:=by
     unfold nreps
     have h0:∀ n,0<n→(List.range n).countP (fun s=>decide (Rep m 0 s))=1:=by
      intro n
      induction n with
      | zero=>intro h;omega
      | succ n ih =>
       intro _
       rw [List.range_succ,List.countP_append,List.countP_singleton]
       by_cases hz:n=0
       ·subst hz
        rw [zkB (show Rep m 0 0 from fun t ht=>absurd ht (Nat.not_lt_zero _))]
        rfl
       ·rw [ih (by omega),zkA (show ¬ Rep m 0 n from fun q=>q 0 (by omega) trivial)]
        rfl
     exact h0 _ hn1
    rw [this]
    rfl⟩ (by have:=za2;simp only;omega)
 rw [hr,zaq];rcases hq with ⟨c,rfl,h⟩ | ⟨c,i,rfl,h⟩
 ·exact ⟨c,_,rfl,h⟩
 ·exact ⟨c,i,rfl,h⟩
theorem zmq (hv:zdw m=0):∃ c,ze5 m=some (c,0)∧ClsF m m.Next.length c:=by
 obtain ⟨c,i,h1,h2⟩:=znq (zek hv);refine ⟨c,?_,h2⟩;unfold ze5 zfb;rw [zdh,zaq,hv,zkA (by decide),zkC,h1,zaq,zaq]
end
end
end Go.Proofs.YtciljgdafccmhaaGreatDoor.Sym
