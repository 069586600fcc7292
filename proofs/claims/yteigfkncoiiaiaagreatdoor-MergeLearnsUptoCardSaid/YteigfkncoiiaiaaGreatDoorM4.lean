/-
  Parts of the proof, behind each other.
-/
import Derived.Test.YteigfkncoiiaiaaGreatDoorM3
set_option linter.all false
set_option maxRecDepth 100000
namespace Go.Proofs.YteigfkncoiiaiaaGreatDoor.Sym
section
open Go.RowKit
set_option linter.unusedVariables false
set_option maxHeartbeats 4000000
def zes.s2 (o_:zav) (a1:Nat) (a6:Nat):Option ((Nat×Nat)⊕Nat) :=
 (cond (decide ((↑a6:Int)<(↑o_.Traces.length:Int))) (some (decide ((↑a1:Int)≤60))) (some false):Option (Bool)).bind (fun (a7:Bool)=>cond (a7) (chk (inR ((↑a1:Int)+1)) (idxn o_.Traces a6 fun a2=>chk (inR (((↑a1:Int)+1)+(↑a2.In.length:Int))) (chk (inR ((↑a6:Int)+1)) (some (.inl (((a1+1)+a2.In.length),(a6+1))))))) (some (.inr a1)))
def zes (o_:zav):Option (Bool) :=
 (iter (fun (s:Nat×Nat)=>zes.s2 o_ s.1 s.2) fuel (0,0):Option (Nat)).bind (fun (a2:Nat)=>(cond (decide (60<(↑a2:Int))) (some true) (some (decide (4<o_.Inputs))):Option (Bool)).bind (fun (a1:Bool)=>some a1))
def zmg (inputs_:Int):Option (Bool) :=
 (cond (decide (1≤inputs_)) (some (decide (inputs_≤1024))) (some false):Option (Bool)).bind (fun (a1:Bool)=>some a1)
def zeb.s2 (w_:List Int) (inputs_:Int) (a1:Nat):Option (Nat⊕(Unit⊕Int)) :=
 cond (decide ((↑a1:Int)<(↑w_.length:Int))) ((idxn w_ a1 fun a2=>cond (decide (a2<0)) (some true) (idxn w_ a1 fun a6=>some (decide (inputs_≤a6))):Option (Bool)).bind (fun (a7:Bool)=>cond (a7) (some (.inr (.inr 1))) (some (.inl (a1+1))))) (some (.inr (.inl ())))
def zeb (w_:List Int) (inputs_:Int):Option (Int) :=
 (zmg inputs_).bind fun a1=>cond ((!a1)) (some 2) (cond (decide (1024<(↑w_.length:Int))) (some 3) ((iter (fun (s:Nat)=>zeb.s2 w_ inputs_ s) fuel 0:Option (Unit⊕Int)).bind (Sum.elim (fun (_:Unit)=>some 0) some)))
def zdt.s2 (a_:List Int) (b_:List Int) (a1:Nat):Option (Nat⊕Nat) :=
 (cond (decide ((↑a1:Int)<(↑a_.length:Int))) (cond (decide ((↑a1:Int)<(↑b_.length:Int))) (idxn a_ a1 fun a2=>idxn b_ a1 fun a6=>some (decide (a2=a6))) (some false)) (some false):Option (Bool)).bind (fun (a7:Bool)=>cond (a7) (chk (inR ((↑a1:Int)+1)) (some (.inl (a1+1)))) (some (.inr a1)))
def zdt (a_:List Int) (b_:List Int):Option (Int) :=
 (iter (fun (s:Nat)=>zdt.s2 a_ b_ s) fuel 0:Option (Nat)).bind (fun (a1:Nat)=>some (↑a1:Int))
def zp4 (a_:List Int) (b_:List Int):Option (Int) :=
 (zdt a_ b_).bind fun a1=>(cond (decide (a1=(↑a_.length:Int))) (some (decide (a1=(↑b_.length:Int)))) (some false):Option (Bool)).bind (fun (a2:Bool)=>cond (a2) (some 0) ((cond (decide (a1=(↑a_.length:Int))) (some (decide (a1=(↑a_.length:Int)))) (cond (decide (a1<(↑b_.length:Int))) (idx a_ a1 fun a6=>idx b_ a1 fun a7=>some (decide (a6<a7))) (some false)):Option (Bool)).bind (fun (a8:Bool)=>cond (a8) (some (-1:Int)) (some 1))))
def zf9 (a_:List Int) (b_:List Int):Option (Int) :=
 cond (decide ((↑a_.length:Int)<(↑b_.length:Int))) (some (-1:Int)) (cond (decide ((↑b_.length:Int)<(↑a_.length:Int))) (some 1) ((zp4 a_ b_).bind fun a1=>some a1))
def zd6.s2 (t_:zag) (a1:Nat):Option (Nat⊕(Unit⊕Int)) :=
 cond (decide ((↑a1:Int)<(↑t_.Out.length:Int))) ((idxn t_.Out a1 fun a2=>cond (decide (a2<0)) (some true) (idxn t_.Out a1 fun a6=>some (decide (1048576<a6))):Option (Bool)).bind (fun (a7:Bool)=>cond (a7) (some (.inr (.inr 2))) (some (.inl (a1+1))))) (some (.inr (.inl ())))
def zd6 (t_:zag) (inputs_:Int):Option (Int) :=
 (zeb t_.In inputs_).bind fun a1=>cond (decide (a1≠0)) (some a1) (cond (decide ((↑t_.Out.length:Int)≠(↑t_.In.length:Int))) (some 1) ((iter (fun (s:Nat)=>zd6.s2 t_ s) fuel 0:Option (Unit⊕Int)).bind (Sum.elim (fun (_:Unit)=>some 0) some)))
def zfc (w_:List Int) (p_:List Int):Option (Bool) :=
 (zdt w_ p_).bind fun a1=>some (decide (a1=(↑p_.length:Int)))
def zea.s2 (a_:zag) (b_:zag) (a2:Int) (a1:Nat):Option (Nat⊕(Unit⊕Int)) :=
 cond (decide ((↑a1:Int)<a2)) (idxn a_.Out a1 fun a6=>idxn b_.Out a1 fun a7=>cond (decide (a6≠a7)) (some (.inr (.inr (↑a1:Int)))) (chk (inR ((↑a1:Int)+1)) (some (.inl (a1+1))))) (some (.inr (.inl ())))
def zea (a_:zag) (b_:zag):Option (Int) :=
 (zdt a_.In b_.In).bind fun a1=>(iter (fun (s:Nat)=>zea.s2 a_ b_ a1 s) fuel 0:Option (Unit⊕Int)).bind (Sum.elim (fun (_:Unit)=>some (-1:Int)) some)
def zcj.s30 (o_:zav) (a2:Nat) (prefix714:Bool) (clash715:Bool) (a1:Nat):Option ((Bool×Bool×Nat)⊕(Bool×Bool)) :=
 cond (decide ((↑a1:Int)<(↑o_.Traces.length:Int))) ((cond (prefix714) (some true) (idxn o_.Traces a1 fun a6=>idxn o_.Traces a2 fun a7=>(zfc a6.In a7.In).bind fun a8=>some a8):Option (Bool)).bind (fun (prefix741:Bool)=>cond (clash715) (some (.inl (prefix741,true,(a1+1)))) (idxn o_.Traces a2 fun b0=>idxn o_.Traces a1 fun b1=>(zea b0 b1).bind fun b2=>some (.inl (prefix741,decide (0≤b2),(a1+1)))))) (some (.inr (prefix714,clash715)))
def zcj.k31 (a1:Nat) (prefix693:Bool) (clash694:Bool):Option (Nat⊕(Unit⊕Int)) :=
 cond (prefix693) (some (.inr (.inr 7))) (cond (clash694) (some (.inr (.inr 13))) (some (.inl (a1+1))))
def zcj.s32 (o_:zav) (a1:Nat):Option (Nat⊕(Unit⊕Int)) :=
 cond (decide ((↑a1:Int)<(↑o_.Traces.length:Int))) ((iter (fun (s:Bool×Bool×Nat)=>zcj.s30 o_ a1 s.1 s.2.1 s.2.2) fuel (false,false,(a1+1)):Option (Bool×Bool)).bind (fun (s:Bool×Bool)=>zcj.k31 a1 s.1 s.2)) (some (.inr (.inl ())))
def zcj (o_:zav):Option (Int) :=
 (iter (fun (s:Nat)=>zcj.s32 o_ s) fuel 0:Option (Unit⊕Int)).bind (Sum.elim (fun (_:Unit)=>some 0) some)
def zeo.s2 (o_:zav) (a1:Nat):Option (Nat⊕(Unit⊕Int)) :=
 cond (decide ((↑a1:Int)<(↑o_.Traces.length:Int))) (idxn o_.Traces a1 fun a2=>(zeb a2.In o_.Inputs).bind fun a6=>cond (decide (a6≠0)) (some (.inr (.inr a6))) (cond (decide ((↑a2.In.length:Int)=0)) (some (.inr (.inr 19))) ((zd6 a2 o_.Inputs).bind fun a7=>cond (decide (a7≠0)) (some (.inr (.inr a7))) ((cond (decide (0<(↑a1:Int))) (idx o_.Traces ((↑a1:Int)-1) fun a8=>(zf9 a8.In a2.In).bind fun b0=>some (decide (0≤b0))) (some false):Option (Bool)).bind (fun (b1:Bool)=>cond (b1) (some (.inr (.inr 10))) (some (.inl (a1+1)))))))) (some (.inr (.inl ())))
def zeo (o_:zav):Option (Int) :=
 (cond (decide (o_.Inputs<1)) (some true) (some (decide (64<o_.Inputs))):Option (Bool)).bind (fun (a2:Bool)=>cond (a2) (some 2) (cond (decide (10000<(↑o_.Traces.length:Int))) (some 11) ((iter (fun (s:Nat)=>zeo.s2 o_ s) fuel 0:Option (Unit⊕Int)).bind (Sum.elim (fun (_:Unit)=>(zcj o_).bind fun a1=>some a1) some))))
def zc3.s13 (p_:zaa) (a8:Nat) (a7:List Int) (a1:Nat):Option (Nat⊕(Unit⊕(Nat⊕(Unit⊕Int)))) :=
 cond (decide ((↑a1:Int)<(↑a7.length:Int))) (idxn a7 a1 fun a2=>idxn p_.Out a8 fun b0=>idxn b0 a1 fun a6=>(cond (decide (a2<(-1:Int))) (some true) (cond (decide ((↑p_.Next.length:Int)≤a2)) (some true) (cond (decide (a6<(-1:Int))) (some true) (some (decide (1048576<a6))))):Option (Bool)).bind (fun (b1:Bool)=>cond (b1) (some (.inr (.inr (.inr (.inr 2))))) (cond ((!((decide (a2=(-1:Int)))==(decide (a6=(-1:Int)))))) (some (.inr (.inr (.inr (.inr 1))))) (some (.inl (a1+1)))))) (some (.inr (.inl ())))
def zc3.s14 (p_:zaa) (a1:Nat):Option (Nat⊕(Unit⊕Int)) :=
 cond (decide ((↑a1:Int)<(↑p_.Next.length:Int))) ((idxn p_.Next a1 fun a2=>cond (decide ((↑a2.length:Int)≠p_.Inputs)) (some true) (idxn p_.Out a1 fun a6=>some (decide ((↑a6.length:Int)≠p_.Inputs))):Option (Bool)).bind (fun (a7:Bool)=>cond (a7) (some (.inr (.inr 1))) (idxn p_.Next a1 fun a8=>(iter (fun (s:Nat)=>zc3.s13 p_ a1 a8 s) fuel 0:Option (Unit⊕(Nat⊕(Unit⊕Int)))).bind (Sum.elim (fun (_:Unit)=>some (.inl (a1+1))) some)))) (some (.inr (.inl ())))
def zc3 (p_:zaa):Option (Int) :=
 (cond (decide (p_.Inputs<1)) (some true) (some (decide (64<p_.Inputs))):Option (Bool)).bind (fun (a1:Bool)=>cond (a1) (some 2) (cond (decide ((↑p_.Next.length:Int)=0)) (some 19) (cond (decide (4096<(↑p_.Next.length:Int))) (some 11) ((cond (decide (p_.Start<0)) (some true) (some (decide ((↑p_.Next.length:Int)≤p_.Start))):Option (Bool)).bind (fun (a2:Bool)=>cond (a2) (some 2) (cond (decide ((↑p_.Out.length:Int)≠(↑p_.Next.length:Int))) (some 1) ((iter (fun (s:Nat)=>zc3.s14 p_ s) fuel 0:Option (Unit⊕Int)).bind (Sum.elim (fun (_:Unit)=>some 0) some))))))))
def zge.s2 (p_:zaa) (w_:List Int) (a2:Int) (a6:List Int) (a7:Nat):Option ((Int×List Int×Nat)⊕(List Int⊕(List Int×Bool))) :=
 cond (decide ((↑a7:Int)<(↑w_.length:Int))) (idxn w_ a7 fun a1=>(cond (decide (a1<0)) (some true) (cond (decide (p_.Inputs≤a1)) (some true) (idx p_.Next a2 fun a8=>idx a8 a1 fun b0=>some (decide (b0=(-1:Int))))):Option (Bool)).bind (fun (b1:Bool)=>cond (b1) (some (.inr (.inr ([],false)))) (idx p_.Out a2 fun b2=>idx b2 a1 fun b3=>chk (za0 (List.length a6+1) 8) (idx p_.Next a2 fun b4=>idx b4 a1 fun b5=>some (.inl (b5,(a6++[b3]),(a7+1))))))) (some (.inr (.inl a6)))
def zge (p_:zaa) (w_:List Int):Option (List Int×Bool) :=
 (zc3 p_).bind fun a2=>cond (decide (a2≠0)) (some ([],false)) ((iter (fun (s:Int×List Int×Nat)=>zge.s2 p_ w_ s.1 s.2.1 s.2.2) fuel (p_.Start,[],0):Option (List Int⊕(List Int×Bool))).bind (Sum.elim (fun (a1:List Int)=>some (a1,true)) some))
def zgr (a_:List Int) (b_:List Int):Option (Bool) :=
 (cond (decide ((↑a_.length:Int)=(↑b_.length:Int))) ((zdt a_ b_).bind fun a1=>some (decide (a1=(↑a_.length:Int)))) (some false):Option (Bool)).bind (fun (a2:Bool)=>some a2)
def zcb.s2 (a_:List (List Int)) (b_:List (List Int)) (a1:Nat):Option (Nat⊕(Unit⊕Bool)) :=
 cond (decide ((↑a1:Int)<(↑a_.length:Int))) (idxn a_ a1 fun a2=>idxn b_ a1 fun a6=>(zgr a2 a6).bind fun a7=>cond ((!a7)) (some (.inr (.inr false))) (some (.inl (a1+1)))) (some (.inr (.inl ())))
def zcb (a_:List (List Int)) (b_:List (List Int)):Option (Bool) :=
 cond (decide ((↑a_.length:Int)≠(↑b_.length:Int))) (some false) ((iter (fun (s:Nat)=>zcb.s2 a_ b_ s) fuel 0:Option (Unit⊕Bool)).bind (Sum.elim (fun (_:Unit)=>some true) some))
def zbb.s2 (s_:List Int) (f_:Int→Option Bool) (a1:Nat):Option (Nat⊕(Unit⊕Int)) :=
 cond (decide ((↑a1:Int)<(↑s_.length:Int))) (idxn s_ a1 fun a2=>(f_ a2).bind fun a6=>cond (a6) (some (.inr (.inr (↑a1:Int)))) (some (.inl (a1+1)))) (some (.inr (.inl ())))
def zbb (s_:List Int) (f_:Int→Option Bool):Option (Int) :=
 (iter (fun (s:Nat)=>zbb.s2 s_ f_ s) fuel 0:Option (Unit⊕Int)).bind (Sum.elim (fun (_:Unit)=>some (-1:Int)) some)
def zco (s_:List Int) (f_:Int→Option Bool):Option (Bool) :=
 (zbb s_ f_).bind fun a1=>some (decide (0≤a1))
def zfi (inputs_:Int):Option (Bool) :=
 (cond (decide (1≤inputs_)) (some (decide (inputs_≤1024))) (some false):Option (Bool)).bind (fun (a1:Bool)=>some a1)
def zfp (a_:Int) (p1_:Int):Option (Bool) :=
 (cond (decide (a_<0)) (some true) (some (decide (p1_≤a_))):Option (Bool)).bind (fun (a1:Bool)=>some a1)
def za1.s2 (s_:List Int) (f_:Int→Option Bool) (a1:Nat):Option (Nat⊕(Unit⊕Int)) :=
 cond (decide ((↑a1:Int)<(↑s_.length:Int))) (idxn s_ a1 fun a2=>(f_ a2).bind fun a6=>cond (a6) (some (.inr (.inr (↑a1:Int)))) (some (.inl (a1+1)))) (some (.inr (.inl ())))
def za1 (s_:List Int) (f_:Int→Option Bool):Option (Int) :=
 (iter (fun (s:Nat)=>za1.s2 s_ f_ s) fuel 0:Option (Unit⊕Int)).bind (Sum.elim (fun (_:Unit)=>some (-1:Int)) some)
def zcr (s_:List Int) (f_:Int→Option Bool):Option (Bool) :=
 (za1 s_ f_).bind fun a1=>some (decide (0≤a1))
def zgy (w_:List Int) (inputs_:Int):Option (Int) :=
 (zfi inputs_).bind fun a1=>cond ((!a1)) (some 2) (cond (decide (1024<(↑w_.length:Int))) (some 3) ((zcr w_ (fun u0=>zfp u0 inputs_)).bind fun a2=>cond (a2) (some 1) (some 0)))
def zde.s2 (a_:List Int) (b_:List Int) (a1:Nat):Option (Nat⊕(Unit⊕Int)) :=
 cond (decide ((↑a1:Int)<(min (↑a_.length:Int) (↑b_.length:Int)))) (idxn a_ a1 fun a2=>idxn b_ a1 fun a6=>cond (decide (a2≠a6)) (some (.inr (.inr (↑a1:Int)))) (some (.inl (a1+1)))) (some (.inr (.inl ())))
def zde (a_:List Int) (b_:List Int):Option (Int) :=
 (iter (fun (s:Nat)=>zde.s2 a_ b_ s) fuel 0:Option (Unit⊕Int)).bind (Sum.elim (fun (_:Unit)=>some (min (↑a_.length:Int) (↑b_.length:Int))) some)
def zee (w_:List Int) (p_:List Int):Option (Bool) :=
 (zde w_ p_).bind fun a1=>some (decide (a1=(↑p_.length:Int)))
def zet (a_:zag) (b_:zag):Option (Int) :=
 (zde a_.In b_.In).bind fun a1=>chk ((0:Int)≤(min (min a1 (↑a_.Out.length:Int)) (↑b_.Out.length:Int))∧(min (min a1 (↑a_.Out.length:Int)) (↑b_.Out.length:Int))≤(↑a_.Out.length:Int)) (chk ((0:Int)≤(min (min a1 (↑a_.Out.length:Int)) (↑b_.Out.length:Int))∧(min (min a1 (↑a_.Out.length:Int)) (↑b_.Out.length:Int))≤(↑b_.Out.length:Int)) ((zde (List.take (Int.toNat (min (min a1 (↑a_.Out.length:Int)) (↑b_.Out.length:Int))) a_.Out) (List.take (Int.toNat (min (min a1 (↑a_.Out.length:Int)) (↑b_.Out.length:Int))) b_.Out)).bind fun a2=>cond (decide (a2<(min (min a1 (↑a_.Out.length:Int)) (↑b_.Out.length:Int)))) (some a2) (some (-1:Int))))
def cmp_isNaN_int (x_:Int):Option (Bool) :=
 some (decide (x_≠x_))
def cmp_Compare_int (x_:Int) (y_:Int):Option (Int) :=
 (cmp_isNaN_int x_).bind fun a2=>(cmp_isNaN_int y_).bind fun a1=>cond (a2) (cond (a1) (some 0) (some (-1:Int))) (cond (a1) (some 1) (cond (decide (x_<y_)) (some (-1:Int)) (cond (decide (y_<x_)) (some 1) (some 0))))
def zbf.s2 (s1_:List Int) (s2_:List Int) (a1:Nat):Option (Nat⊕(Unit⊕Int)) :=
 cond (decide ((↑a1:Int)<(↑s1_.length:Int))) (idxn s1_ a1 fun a6=>cond (decide ((↑s2_.length:Int)≤(↑a1:Int))) (some (.inr (.inr 1))) (idxn s2_ a1 fun a7=>(cmp_Compare_int a6 a7).bind fun a2=>cond (decide (a2≠0)) (some (.inr (.inr a2))) (some (.inl (a1+1))))) (some (.inr (.inl ())))
def zbf (s1_:List Int) (s2_:List Int):Option (Int) :=
 (iter (fun (s:Nat)=>zbf.s2 s1_ s2_ s) fuel 0:Option (Unit⊕Int)).bind (Sum.elim (fun (_:Unit)=>cond (decide ((↑s1_.length:Int)<(↑s2_.length:Int))) (some (-1:Int)) (some 0)) some)
def zhm (a_:List Int) (b_:List Int):Option (Int) :=
 (zbf a_ b_).bind fun a1=>some a1
def zc9 (a_:zag) (b_:zag):Option (Int) :=
 (zhm a_.In b_.In).bind fun a1=>some a1
def zdg.s2 (a2:List zag) (a1:Nat):Option (Nat⊕(Unit⊕Bool)) :=
 cond (decide ((↑a1:Int)<(↑a2.length:Int))) ((idxn a2 a1 fun a6=>idx a2 ((↑a1:Int)-1) fun a7=>(zee a6.In a7.In).bind fun a8=>cond (a8) (some true) (idx a2 ((↑a1:Int)-1) fun b0=>idxn a2 a1 fun b1=>(zet b0 b1).bind fun b2=>some (decide (0≤b2))):Option (Bool)).bind (fun (b3:Bool)=>cond (b3) (some (.inr (.inr false))) (some (.inl (a1+1))))) (some (.inr (.inl ())))
def zdg (l_:List zag):Option (Bool) :=
 (zgj l_).bind fun a1=>(zfl a1 (fun u0 u1=>zc9 u0 u1)).bind fun a2=>(iter (fun (s:Nat)=>zdg.s2 a2 s) fuel 1:Option (Unit⊕Bool)).bind (Sum.elim (fun (_:Unit)=>some true) some)
def zeq (o_:Int):Option (Bool) :=
 (cond (decide (o_<0)) (some true) (some (decide (1048576<o_))):Option (Bool)).bind (fun (a1:Bool)=>some a1)
def zfh (t_:zag) (inputs_:Int):Option (Int) :=
 (zgy t_.In inputs_).bind fun a1=>cond (decide (a1≠0)) (some a1) (cond (decide ((↑t_.Out.length:Int)≠(↑t_.In.length:Int))) (some 1) ((zco t_.Out (fun u0=>zeq u0)).bind fun a2=>cond (a2) (some 2) (some 0)))
def zdr.s2 (vals_:List Int) (a1:Nat):Option (Nat⊕(Unit⊕Int)) :=
 cond (decide ((↑a1:Int)<(↑vals_.length:Int))) (idxn vals_ a1 fun a2=>cond (decide (a2≠0)) (some (.inr (.inr a2))) (some (.inl (a1+1)))) (some (.inr (.inl ())))
def zdr (vals_:List Int):Option (Int) :=
 (iter (fun (s:Nat)=>zdr.s2 vals_ s) fuel 0:Option (Unit⊕Int)).bind (Sum.elim (fun (_:Unit)=>some 0) some)
def zd0 (a_:List Int) (b_:List Int):Option (Int) :=
 (cmp_Compare_int (↑a_.length:Int) (↑b_.length:Int)).bind fun a1=>(zbf a_ b_).bind fun a2=>(zdr [a1,a2]).bind fun a6=>some a6
def zgv (a_:zag) (b_:zag):Option (Int) :=
 (zd0 a_.In b_.In).bind fun a1=>some a1
def ze0 (u_:zag) (p1_:zag):Option (Bool) :=
 (zee u_.In p1_.In).bind fun a1=>some a1
def ze2 (u_:zag) (p1_:zag):Option (Bool) :=
 (zet p1_ u_).bind fun a1=>some (decide (0≤a1))
def zap.s2 (s_:List zag) (f_:zag→Option Bool) (a1:Nat):Option (Nat⊕(Unit⊕Int)) :=
 cond (decide ((↑a1:Int)<(↑s_.length:Int))) (idxn s_ a1 fun a2=>(f_ a2).bind fun a6=>cond (a6) (some (.inr (.inr (↑a1:Int)))) (some (.inl (a1+1)))) (some (.inr (.inl ())))
def zap (s_:List zag) (f_:zag→Option Bool):Option (Int) :=
 (iter (fun (s:Nat)=>zap.s2 s_ f_ s) fuel 0:Option (Unit⊕Int)).bind (Sum.elim (fun (_:Unit)=>some (-1:Int)) some)
def zbe (s_:List zag) (f_:zag→Option Bool):Option (Bool) :=
 (zap s_ f_).bind fun a1=>some (decide (0≤a1))
def zbt.s2 (o_:zav) (a1:Nat):Option (Nat⊕(Unit⊕Int)) :=
 cond (decide ((↑a1:Int)<(↑o_.Traces.length:Int))) (idxn o_.Traces a1 fun a2=>(zgy a2.In o_.Inputs).bind fun a6=>cond (decide (a6≠0)) (some (.inr (.inr a6))) (cond (decide ((↑a2.In.length:Int)=0)) (some (.inr (.inr 19))) ((zfh a2 o_.Inputs).bind fun a7=>cond (decide (a7≠0)) (some (.inr (.inr a7))) ((cond (decide (0<(↑a1:Int))) (idx o_.Traces ((↑a1:Int)-1) fun a8=>(zgv a8 a2).bind fun b0=>some (decide (0≤b0))) (some false):Option (Bool)).bind (fun (b1:Bool)=>cond (b1) (some (.inr (.inr 10))) (some (.inl (a1+1)))))))) (some (.inr (.inl ())))
def zbt.s4 (o_:zav) (a1:Nat):Option (Nat⊕(Unit⊕Int)) :=
 cond (decide ((↑a1:Int)<(↑o_.Traces.length:Int))) (idxn o_.Traces a1 fun a2=>chk ((0:Int)≤((↑a1:Int)+1)∧((↑a1:Int)+1)≤(↑o_.Traces.length:Int)) ((zbe (List.drop (a1+1) o_.Traces) (fun u0=>ze0 u0 a2)).bind fun a6=>cond (a6) (some (.inr (.inr 7))) ((zbe (List.drop (a1+1) o_.Traces) (fun u0=>ze2 u0 a2)).bind fun a7=>cond (a7) (some (.inr (.inr 13))) (some (.inl (a1+1)))))) (some (.inr (.inl ())))
def zbt (o_:zav):Option (Int) :=
 (cond (decide (o_.Inputs<1)) (some true) (some (decide (64<o_.Inputs))):Option (Bool)).bind (fun (a2:Bool)=>cond (a2) (some 2) (cond (decide (10000<(↑o_.Traces.length:Int))) (some 11) ((iter (fun (s:Nat)=>zbt.s2 o_ s) fuel 0:Option (Unit⊕Int)).bind (Sum.elim (fun (_:Unit)=>(zdg o_.Traces).bind fun a1=>cond (a1) (some 0) ((iter (fun (s:Nat)=>zbt.s4 o_ s) fuel 0:Option (Unit⊕Int)).bind (Sum.elim (fun (_:Unit)=>some 0) some))) some))))
def zcz.s2 (inputs_:Int) (a2:List Int) (a1:Nat):Option ((List Int×Nat)⊕List Int) :=
 cond (decide ((↑a1:Int)<(↑(List.length (List.replicate (Int.toNat inputs_) (0:Int))):Int))) (idxn a2 a1 fun a6=>chk (inR ((↑a1:Int)+1)) (some (.inl ((List.set a2 a1 (-1:Int)),(a1+1))))) (some (.inr a2))
def zcz (inputs_:Int):Option (List Int) :=
 chk ((0:Int)≤inputs_∧inputs_≤inputs_∧za0 (Int.toNat inputs_) 8) ((iter (fun (s:List Int×Nat)=>zcz.s2 inputs_ s.1 s.2) fuel ((List.replicate (Int.toNat inputs_) (0:Int)),0):Option (List Int)).bind (fun (a1:List Int)=>some a1))
def zah.s18 (a8:List Int) (a1:List Int) (a2:List Int) (a7:Nat):Option ((List Int×List Int×Nat)⊕(List Int×List Int)) :=
 cond (decide ((↑a7:Int)<(↑a8.length:Int))) (idxn a8 a7 fun a6=>(cond (decide (a6≠(-1:Int))) (idx a1 a6 fun b0=>some (decide (b0=(-1:Int)))) (some false):Option (Bool)).bind (fun (b1:Bool)=>cond (b1) (idx a1 a6 fun b2=>chk (za0 (List.length a2+1) 8) (some (.inl ((List.set a1 a6.toNat (↑a2.length:Int)),(a2++[a6]),(a7+1))))) (some (.inl (a1,a2,(a7+1)))))) (some (.inr (a1,a2)))
def zah.k19 (a1:Nat) (a2:List Int) (a6:List Int):Option ((List Int×List Int×Nat)⊕(List Int×List Int)) :=
 some (.inl (a2,a6,(a1+1)))
def zah.s20 (p_:zaa) (a6:List Int) (a1:List Int) (a2:Nat):Option ((List Int×List Int×Nat)⊕(List Int×List Int)) :=
 cond (decide ((↑a2:Int)<(↑a1.length:Int))) (idxn a1 a2 fun a7=>idx p_.Next a7 fun a8=>(iter (fun (s:List Int×List Int×Nat)=>zah.s18 a8 s.1 s.2.1 s.2.2) fuel (a6,a1,0):Option (List Int×List Int)).bind (fun (s:List Int×List Int)=>zah.k19 a2 s.1 s.2)) (some (.inr (a6,a1)))
def zah.s38 (p_:zaa) (b4:List Int) (b0:Int) (a7:List Int) (a2:List Int) (a6:List Int) (a1:Nat):Option ((List Int×List Int×Nat)⊕(List Int×List Int)) :=
 cond (decide ((↑a1:Int)<(↑a7.length:Int))) (idxn a7 a1 fun a8=>cond (decide (a8≠(-1:Int))) (idx b4 a8 fun b1=>idx p_.Out b0 fun b2=>idxn b2 a1 fun b3=>idxn a2 a1 fun b5=>idxn a6 a1 fun b6=>some (.inl ((List.set a2 a1 b1),(List.set a6 a1 b3),(a1+1)))) (some (.inl (a2,a6,(a1+1))))) (some (.inr (a2,a6)))
def zah.k39 (a1:List (List Int)) (a2:List (List Int)) (a6:Nat) (a7:List Int) (a8:List Int):Option ((List (List Int)×List (List Int)×Nat)⊕(List (List Int)×List (List Int))) :=
 chk (za0 (List.length a1+1) 24) (chk (za0 (List.length a2+1) 24) (some (.inl ((a1++[a7]),(a2++[a8]),(a6+1)))))
def zah.s40 (p_:zaa) (b3:List Int) (a8:List Int) (a2:List (List Int)) (a6:List (List Int)) (a1:Nat):Option ((List (List Int)×List (List Int)×Nat)⊕(List (List Int)×List (List Int))) :=
 cond (decide ((↑a1:Int)<(↑a8.length:Int))) (idxn a8 a1 fun a7=>(zcz p_.Inputs).bind fun b0=>(zcz p_.Inputs).bind fun b1=>idx p_.Next a7 fun b2=>(iter (fun (s:List Int×List Int×Nat)=>zah.s38 p_ b3 a7 b2 s.1 s.2.1 s.2.2) fuel (b0,b1,0):Option (List Int×List Int)).bind (fun (s:List Int×List Int)=>zah.k39 a2 a6 a1 s.1 s.2)) (some (.inr (a2,a6)))
def zah.k41 (p_:zaa) (a6:List Int) (a1:List (List Int)) (a2:List (List Int)):Option (zaa×List Int) :=
 some ((⟨p_.Inputs,0,a1,a2⟩:zaa),a6)
def zah.k42 (p_:zaa) (a1:List Int) (a2:List Int):Option (zaa×List Int) :=
 (iter (fun (s:List (List Int)×List (List Int)×Nat)=>zah.s40 p_ a1 a2 s.1 s.2.1 s.2.2) fuel ([],[],0):Option (List (List Int)×List (List Int))).bind (fun (s:List (List Int)×List (List Int))=>zah.k41 p_ a1 s.1 s.2)
def zah (p_:zaa):Option (zaa×List Int) :=
 (zcz (↑p_.Next.length:Int)).bind fun a1=>idx a1 p_.Start fun a2=>(iter (fun (s:List Int×List Int×Nat)=>zah.s20 p_ s.1 s.2.1 s.2.2) fuel ((List.set a1 p_.Start.toNat 0),[p_.Start],0):Option (List Int×List Int)).bind (fun (s:List Int×List Int)=>zah.k42 p_ s.1 s.2)
def za3.k53 (a2:Int) (a6:Nat) (a7:Int) (a1:List (List Int)) (a8:List (List Int)):Option ((List (List Int)×List (List Int)×Int×Nat)⊕((List (List Int)×List (List Int))⊕((List (List Int)×List (List Int)×Nat)⊕((List (List Int)×List (List Int))⊕(zaa×Int))))) :=
 idx a1 a2 fun b0=>idx b0 a7 fun b1=>some (.inl (a1,a8,b1,(a6+1)))
def za3.s54 (o_:zav) (b0:zag) (a1:List (List Int)) (a7:List (List Int)) (a2:Int) (a8:Nat):Option ((List (List Int)×List (List Int)×Int×Nat)⊕((List (List Int)×List (List Int))⊕((List (List Int)×List (List Int)×Nat)⊕((List (List Int)×List (List Int))⊕(zaa×Int))))) :=
 cond (decide ((↑a8:Int)<(↑b0.In.length:Int))) (idxn b0.In a8 fun a6=>(idx a1 a2 fun b6=>idx b6 a6 fun b7=>cond (decide (b7=(-1:Int))) (cond (decide ((↑a1.length:Int)=4096)) (some (.inr (.inr (.inr (.inr (.inr ((⟨0,0,[],[]⟩:zaa),11))))))) (idx a1 a2 fun b1=>idx a7 a2 fun b2=>idxn b0.Out a8 fun b3=>idx b1 a6 fun b8=>idx b2 a6 fun b9=>(zcz o_.Inputs).bind fun b4=>chk (za0 (List.length (List.set a1 (Int.toNat a2) (List.set b1 (Int.toNat a6) (↑a1.length:Int)))+List.length [b4]) 24) ((zcz o_.Inputs).bind fun b5=>chk (za0 (List.length (List.set a7 (Int.toNat a2) (List.set b2 (Int.toNat a6) b3))+List.length [b5]) 24) (some (.inl (((List.set a1 (Int.toNat a2) (List.set b1 (Int.toNat a6) (↑a1.length:Int)))++[b4]),((List.set a7 (Int.toNat a2) (List.set b2 (Int.toNat a6) b3))++[b5]))))))) (some (.inl (a1,a7))):Option ((List (List Int)×List (List Int))⊕((List (List Int)×List (List Int)×Int×Nat)⊕((List (List Int)×List (List Int))⊕((List (List Int)×List (List Int)×Nat)⊕((List (List Int)×List (List Int))⊕(zaa×Int))))))).bind (Sum.elim (fun (s:List (List Int)×List (List Int))=>za3.k53 a2 a8 a6 s.1 s.2) some)) (some (.inr (.inl (a1,a7))))
def za3.k55 (a1:Nat) (a2:List (List Int)) (a6:List (List Int)):Option ((List (List Int)×List (List Int)×Nat)⊕((List (List Int)×List (List Int))⊕(zaa×Int))) :=
 some (.inl (a2,a6,(a1+1)))
def za3.s56 (o_:zav) (a2:List (List Int)) (a6:List (List Int)) (a1:Nat):Option ((List (List Int)×List (List Int)×Nat)⊕((List (List Int)×List (List Int))⊕(zaa×Int))) :=
 cond (decide ((↑a1:Int)<(↑o_.Traces.length:Int))) (idxn o_.Traces a1 fun a7=>(iter (fun (s:List (List Int)×List (List Int)×Int×Nat)=>za3.s54 o_ a7 s.1 s.2.1 s.2.2.1 s.2.2.2) fuel (a2,a6,0,0):Option ((List (List Int)×List (List Int))⊕((List (List Int)×List (List Int)×Nat)⊕((List (List Int)×List (List Int))⊕(zaa×Int))))).bind (Sum.elim (fun (s:List (List Int)×List (List Int))=>za3.k55 a1 s.1 s.2) some)) (some (.inr (.inl (a2,a6))))
def za3.k57 (o_:zav) (a2:List (List Int)) (a6:List (List Int)):Option (zaa×Int) :=
 (zah (⟨o_.Inputs,0,a2,a6⟩:zaa)).bind fun a1=>some (a1.1,0)
def za3 (o_:zav):Option (zaa×Int) :=
 (zbt o_).bind fun a1=>cond (decide (a1≠0)) (some ((⟨0,0,[],[]⟩:zaa),a1)) ((zcz o_.Inputs).bind fun a2=>(zcz o_.Inputs).bind fun a6=>(iter (fun (s:List (List Int)×List (List Int)×Nat)=>za3.s56 o_ s.1 s.2.1 s.2.2) fuel ([a2],[a6],0):Option ((List (List Int)×List (List Int))⊕(zaa×Int))).bind (Sum.elim (fun (s:List (List Int)×List (List Int))=>za3.k57 o_ s.1 s.2) some))
def zbi.s1 (b_:zba) (a1:Int):Option (Int⊕(Int×(List (Int×Int)))) :=
 cond ((!((mget a1 b_.up).isSome))) (some (.inr (a1,b_.up))) (some (.inl ((mget a1 b_.up).getD 0)))
def zbi (b_:zba) (x_:Int):Option (Int×(List (Int×Int))) :=
 iter (fun (s:Int)=>zbi.s1 b_ s) fuel x_
def zdm (b_:zba) (x_:Int) (y_:Int):Option (List (Int×Int)) :=
 some (mset y_ x_ b_.up)
def zad.s2 (p_:zaa) (a2:List (List Int)) (a6:List (List Int)) (a1:Nat):Option ((List (List Int)×List (List Int)×Nat)⊕(List (List Int)×List (List Int))) :=
 cond (decide ((↑a1:Int)<(↑p_.Next.length:Int))) (idxn p_.Next a1 fun a7=>chk (za0 (List.length ([]:List Unit)+List.length a7) 8) (chk (za0 (List.length a2+List.length [([]++a7)]) 24) (idxn p_.Out a1 fun a8=>chk (za0 (List.length ([]:List Unit)+List.length a8) 8) (chk (za0 (List.length a6+List.length [([]++a8)]) 24) (some (.inl ((a2++[([]++a7)]),(a6++[([]++a8)]),(a1+1)))))))) (some (.inr (a2,a6)))
def zad.s43 (a2:Int×(List (Int×Int))) (a6:Int×(List (Int×Int))) (b4:List Int) (a7:List (List Int)) (a8:List (List Int)) (b0:List T_A2) (a1:Nat):Option ((List (List Int)×List (List Int)×List T_A2×Nat)⊕((List (List Int)×List (List Int)×List T_A2)⊕((List (List Int)×List (List Int)×(List (Int×Int))×List T_A2)⊕((List (List Int)×List (List Int)×(List (Int×Int))×List T_A2)⊕((List (List Int)×List (List Int)×(List (Int×Int)))⊕(zaa×List Int×Bool)))))) :=
 cond (decide ((↑a1:Int)<(↑b4.length:Int))) (idxn a7 (Int.toNat (max a2.1 a6.1)) fun b5=>idxn b5 a1 fun b1=>cond (decide (b1=(-1:Int))) (chk (inR ((↑a1:Int)+1)) (some (.inl (a7,a8,b0,(a1+1))))) (idx a7 (min a2.1 a6.1) fun b6=>idxn b6 a1 fun b7=>cond (decide (b7=(-1:Int))) (idx a7 (min a2.1 a6.1) fun b2=>idx a8 (min a2.1 a6.1) fun b3=>idx a8 (max a2.1 a6.1) fun b8=>idxn b8 a1 fun b9=>idxn b2 a1 fun c8=>idxn b3 a1 fun c9=>chk (inR ((↑a1:Int)+1)) (some (.inl ((List.set a7 (Int.toNat (min a2.1 a6.1)) (List.set b2 a1 b1)),(List.set a8 (Int.toNat (min a2.1 a6.1)) (List.set b3 a1 b9)),b0,(a1+1))))) (idx a8 (min a2.1 a6.1) fun c0=>idxn c0 a1 fun c3=>idx a8 (max a2.1 a6.1) fun c4=>idxn c4 a1 fun c5=>cond (decide (c3≠c5)) (some (.inr (.inr (.inr (.inr (.inr ((⟨0,0,[],[]⟩:zaa),[],false))))))) (idx a7 (min a2.1 a6.1) fun c6=>idxn c6 a1 fun c7=>chk (za0 (List.length b0+1) 16) (chk (inR ((↑a1:Int)+1)) (some (.inl (a7,a8,(b0++[(⟨c7,b1⟩:T_A2)]),(a1+1))))))))) (some (.inr (.inl (a7,a8,b0))))
def zad.k44 (a1:List (Int×Int)) (a2:List (List Int)) (a6:List (List Int)) (a7:List T_A2):Option ((List (List Int)×List (List Int)×(List (Int×Int))×List T_A2)⊕((List (List Int)×List (List Int)×(List (Int×Int))×List T_A2)⊕((List (List Int)×List (List Int)×(List (Int×Int)))⊕(zaa×List Int×Bool)))) :=
 some (.inl (a2,a6,a1,a7))
def zad.k45 (a1:List (List Int)) (a2:List (List Int)) (a6:List (Int×Int)) (a7:List T_A2):Option ((List (List Int)×List (List Int)×(List (Int×Int))×List T_A2)⊕((List (List Int)×List (List Int)×(List (Int×Int)))⊕(zaa×List Int×Bool))) :=
 some (.inl (a1,a2,a6,a7))
def zad.s46 (a7:List (List Int)) (a8:List (List Int)) (b0:List (Int×Int)) (a2:List T_A2):Option ((List (List Int)×List (List Int)×(List (Int×Int))×List T_A2)⊕((List (List Int)×List (List Int)×(List (Int×Int)))⊕(zaa×List Int×Bool))) :=
 cond (decide (0<(↑a2.length:Int))) ((idxn a2 0 fun b1=>(zbi (⟨b0⟩:zba) b1.f0).bind fun a6=>idxn a2 0 fun b2=>(zbi (⟨a6.2⟩:zba) b2.f1).bind fun a1=>chk (1≤List.length a2) (cond (decide (a6.1=a1.1)) (some (.inl (a7,a8,a1.2,(List.drop 1 a2)))) ((zdm (⟨a1.2⟩:zba) (min a6.1 a1.1) (max a6.1 a1.1)).bind fun b3=>idx a7 (max a6.1 a1.1) fun b4=>(iter (fun (s:List (List Int)×List (List Int)×List T_A2×Nat)=>zad.s43 a6 a1 b4 s.1 s.2.1 s.2.2.1 s.2.2.2) fuel (a7,a8,(List.drop 1 a2),0):Option ((List (List Int)×List (List Int)×List T_A2)⊕((List (List Int)×List (List Int)×(List (Int×Int))×List T_A2)⊕((List (List Int)×List (List Int)×(List (Int×Int))×List T_A2)⊕((List (List Int)×List (List Int)×(List (Int×Int)))⊕(zaa×List Int×Bool)))))).bind (Sum.elim (fun (s:List (List Int)×List (List Int)×List T_A2)=>zad.k44 b3 s.1 s.2.1 s.2.2) some))):Option ((List (List Int)×List (List Int)×(List (Int×Int))×List T_A2)⊕((List (List Int)×List (List Int)×(List (Int×Int))×List T_A2)⊕((List (List Int)×List (List Int)×(List (Int×Int)))⊕(zaa×List Int×Bool))))).bind (Sum.elim (fun (s:List (List Int)×List (List Int)×(List (Int×Int))×List T_A2)=>zad.k45 s.1 s.2.1 s.2.2.1 s.2.2.2) some)) (some (.inr (.inl (a7,a8,b0))))
def zad.s64 (a6:Nat) (b2:List Int) (a2:List (List Int)) (a7:List (Int×Int)) (a1:Nat):Option ((List (List Int)×(List (Int×Int))×Nat)⊕(List (List Int)×(List (Int×Int)))) :=
 cond (decide ((↑a1:Int)<(↑b2.length:Int))) (idxn a2 a6 fun b3=>idxn b3 a1 fun a8=>cond (decide (a8≠(-1:Int))) (idxn a2 a6 fun b0=>(zbi (⟨a7⟩:zba) a8).bind fun b1=>idxn b0 a1 fun b4=>chk (inR ((↑a1:Int)+1)) (some (.inl ((List.set a2 a6 (List.set b0 a1 b1.1)),b1.2,(a1+1))))) (chk (inR ((↑a1:Int)+1)) (some (.inl (a2,a7,(a1+1)))))) (some (.inr (a2,a7)))
def zad.k65 (a1:Nat) (a2:List (List Int)) (a6:List (Int×Int)):Option ((List (List Int)×(List (Int×Int))×Nat)⊕(List (List Int)×(List (Int×Int)))) :=
 some (.inl (a2,a6,(a1+1)))
def zad.s66 (a7:List (List Int)) (a2:List (List Int)) (a6:List (Int×Int)) (a1:Nat):Option ((List (List Int)×(List (Int×Int))×Nat)⊕(List (List Int)×(List (Int×Int)))) :=
 cond (decide ((↑a1:Int)<(↑a7.length:Int))) (idxn a2 a1 fun a8=>(iter (fun (s:List (List Int)×(List (Int×Int))×Nat)=>zad.s64 a1 a8 s.1 s.2.1 s.2.2) fuel (a2,a6,0):Option (List (List Int)×(List (Int×Int)))).bind (fun (s:List (List Int)×(List (Int×Int)))=>zad.k65 a1 s.1 s.2)) (some (.inr (a2,a6)))
def zad.s68 (a6:zaa×List Int) (a8:List (Int×Int)) (a2:List Int) (a1:Nat):Option (((List (Int×Int))×List Int×Nat)⊕List Int) :=
 cond (decide ((↑a1:Int)<(↑(List.length (List.replicate a6.2.length (0:Int))):Int))) ((zbi (⟨a8⟩:zba) (↑a1:Int)).bind fun a7=>idx a6.2 a7.1 fun b0=>idxn a2 a1 fun b1=>chk (inR ((↑a1:Int)+1)) (some (.inl (a7.2,(List.set a2 a1 b0),(a1+1))))) (some (.inr a2))
def zad.k69 (p_:zaa) (a6:List (List Int)) (a7:List (List Int)) (a8:List (Int×Int)):Option (zaa×List Int×Bool) :=
 (zbi (⟨a8⟩:zba) p_.Start).bind fun a2=>(zah (⟨p_.Inputs,a2.1,a7,a6⟩:zaa)).bind fun a1=>chk ((0:Int)≤(↑a1.2.length:Int)∧(↑a1.2.length:Int)≤(↑a1.2.length:Int)∧za0 (Int.toNat (↑a1.2.length:Int)) 8) ((iter (fun (s:(List (Int×Int))×List Int×Nat)=>zad.s68 a1 s.1 s.2.1 s.2.2) fuel (a2.2,(List.replicate a1.2.length (0:Int)),0):Option (List Int)).bind (fun (b0:List Int)=>some (a1.1,b0,true)))
def zad.k70 (p_:zaa) (a1:List (List Int)) (a2:List (List Int)) (a6:List (Int×Int)):Option (zaa×List Int×Bool) :=
 (iter (fun (s:List (List Int)×(List (Int×Int))×Nat)=>zad.s66 a1 s.1 s.2.1 s.2.2) fuel (a1,a6,0):Option (List (List Int)×(List (Int×Int)))).bind (fun (s:List (List Int)×(List (Int×Int)))=>zad.k69 p_ a2 s.1 s.2)
def zad.k71 (p_:zaa) (s_:Int) (t_:Int) (a1:List (List Int)) (a2:List (List Int)):Option (zaa×List Int×Bool) :=
 (iter (fun (s:List (List Int)×List (List Int)×(List (Int×Int))×List T_A2)=>zad.s46 s.1 s.2.1 s.2.2.1 s.2.2.2) fuel (a1,a2,([]:List (Int×Int)),[(⟨s_,t_⟩:T_A2)]):Option ((List (List Int)×List (List Int)×(List (Int×Int)))⊕(zaa×List Int×Bool))).bind (Sum.elim (fun (s:List (List Int)×List (List Int)×(List (Int×Int)))=>zad.k70 p_ s.1 s.2.1 s.2.2) some)
def zad (p_:zaa) (s_:Int) (t_:Int):Option (zaa×List Int×Bool) :=
 (iter (fun (s:List (List Int)×List (List Int)×Nat)=>zad.s2 p_ s.1 s.2.1 s.2.2) fuel ([],[],0):Option (List (List Int)×List (List Int))).bind (fun (s:List (List Int)×List (List Int))=>zad.k71 p_ s_ t_ s.1 s.2)
def zku (p_:zaa) (s_:Int) (t_:Int):Option (zaa×Bool×Int) :=
 (zc3 p_).bind fun a1=>cond (decide (a1≠0)) (some ((⟨0,0,[],[]⟩:zaa),false,a1)) ((cond (decide ((min s_ t_)<0)) (some true) (some (decide ((↑p_.Next.length:Int)≤(max s_ t_)))):Option (Bool)).bind (fun (a6:Bool)=>cond (a6) (some ((⟨0,0,[],[]⟩:zaa),false,2)) ((zad p_ s_ t_).bind fun a2=>some (a2.1,a2.2.2,0))))
def zch.s25 (red_:List Bool) (a6:List Int) (best1109:Int) (a1:Nat):Option ((Int×Nat)⊕Int) :=
 cond (decide ((↑a1:Int)<(↑a6.length:Int))) (idxn a6 a1 fun a2=>(cond (decide (a2≠(-1:Int))) (idx red_ a2 fun a7=>some (!a7)) (some false):Option (Bool)).bind (fun (a8:Bool)=>cond (a8) (some (.inl ((min best1109 a2),(a1+1)))) (some (.inl (best1109,(a1+1)))))) (some (.inr best1109))
def zch.s26 (p_:zaa) (red_:List Bool) (best777:Int) (a1:Nat):Option ((Int×Nat)⊕Int) :=
 cond (decide ((↑a1:Int)<(↑red_.length:Int))) ((idxn red_ a1 fun a2=>cond ((!a2)) (some best777) (idxn p_.Next a1 fun a6=>(iter (fun (s:Int×Nat)=>zch.s25 red_ a6 s.1 s.2) fuel (best777,0):Option (Int)).bind (fun (best1096:Int)=>some best1096)):Option (Int)).bind (fun (best1050:Int)=>some (.inl (best1050,(a1+1))))) (some (.inr best777))
def zch (p_:zaa) (red_:List Bool):Option (Int×Bool) :=
 (iter (fun (s:Int×Nat)=>zch.s26 p_ red_ s.1 s.2) fuel ((↑red_.length:Int),0):Option (Int)).bind (fun (best596:Int)=>some (best596,decide (best596<(↑red_.length:Int))))
def zbo.s25 (red_:List Bool) (a6:zaa×List Int×Bool) (a2:List Bool) (a1:Nat):Option ((List Bool×Nat)⊕List Bool) :=
 cond (decide ((↑a1:Int)<(↑red_.length:Int))) (idxn red_ a1 fun a8=>(cond (a8) (idxn a6.2.1 a1 fun b0=>some (decide (b0≠(-1:Int)))) (some false):Option (Bool)).bind (fun (b1:Bool)=>cond (b1) (idxn a6.2.1 a1 fun a7=>idx a2 a7 fun b2=>some (.inl ((List.set a2 a7.toNat true),(a1+1)))) (some (.inl (a2,(a1+1)))))) (some (.inr a2))
def zbo.s26 (p_:zaa) (red_:List Bool) (b_:Int) (a2:Nat):Option (Nat⊕(Unit⊕(zaa×List Bool))) :=
 cond (decide ((↑a2:Int)<(↑red_.length:Int))) ((idxn red_ a2 fun a6=>cond ((!a6)) (some (.inl ())) ((zad p_ (↑a2:Int) b_).bind fun a1=>cond ((!a1.2.2)) (some (.inl ())) (chk ((0:Int)≤(↑a1.1.Next.length:Int)∧(↑a1.1.Next.length:Int)≤(↑a1.1.Next.length:Int)∧za0 (Int.toNat (↑a1.1.Next.length:Int)) 1) ((iter (fun (s:List Bool×Nat)=>zbo.s25 red_ a1 s.1 s.2) fuel ((List.replicate a1.1.Next.length false),0):Option (List Bool)).bind (fun (a7:List Bool)=>some (.inr (.inr (.inr (a1.1,a7)))))))):Option (Unit⊕(Nat⊕(Unit⊕(zaa×List Bool))))).bind (Sum.elim (fun (_:Unit)=>some (.inl (a2+1))) some)) (some (.inr (.inl ())))
def zbo (p_:zaa) (red_:List Bool) (b_:Int):Option (zaa×List Bool) :=
 (iter (fun (s:Nat)=>zbo.s26 p_ red_ b_ s) fuel 0:Option (Unit⊕(zaa×List Bool))).bind (Sum.elim (fun (_:Unit)=>chk (za0 (List.length ([]:List Unit)+List.length red_) 1) (idx ([]++red_) b_ fun a1=>some (p_,(List.set ([]++red_) b_.toNat true)))) some)
def zcn.s1 (a2:Int) (a6:Int) (a7:List (List Int)) (a8:List (List Int)) (red62:List Bool):Option ((Int×Int×List (List Int)×List (List Int)×List Bool)⊕(zaa×Int)) :=
 (zch (⟨a2,a6,a7,a8⟩:zaa) red62).bind fun b0=>cond ((!b0.2)) (some (.inr ((⟨a2,a6,a7,a8⟩:zaa),0))) ((zbo (⟨a2,a6,a7,a8⟩:zaa) red62 b0.1).bind fun a1=>some (.inl (a1.1.Inputs,a1.1.Start,a1.1.Next,a1.1.Out,a1.2)))
def zcn (o_:zav):Option (zaa×Int) :=
 (za3 o_).bind fun a1=>cond (decide (a1.2≠0)) (some ((⟨0,0,[],[]⟩:zaa),a1.2)) (chk ((0:Int)≤(↑a1.1.Next.length:Int)∧(↑a1.1.Next.length:Int)≤(↑a1.1.Next.length:Int)∧za0 (Int.toNat (↑a1.1.Next.length:Int)) 1) (idx (List.replicate a1.1.Next.length false) a1.1.Start fun a2=>iter (fun (s:Int×Int×List (List Int)×List (List Int)×List Bool)=>zcn.s1 s.1 s.2.1 s.2.2.1 s.2.2.2.1 s.2.2.2.2) fuel (a1.1.Inputs,a1.1.Start,a1.1.Next,a1.1.Out,(List.set (List.replicate a1.1.Next.length false) a1.1.Start.toNat true))))
def L35_gate:Option (zae) :=
 some (⟨2,0,[[1,0],[1,0]],[[1,0],[1,2]]⟩:zae)
def za4.s2 (slices_:List (List (List Int))) (size73:Nat) (a1:Nat):Option ((Nat×Nat)⊕Nat) :=
 cond (decide ((↑a1:Int)<(↑slices_.length:Int))) (idxn slices_ a1 fun a2=>chk (inR ((↑size73:Int)+(↑a2.length:Int))) (cond (decide (((↑size73:Int)+(↑a2.length:Int))<0)) (none) (some (.inl ((size73+a2.length),(a1+1)))))) (some (.inr size73))
def za4.s4 (slices_:List (List (List Int))) (a1:List (List Int)) (a2:Nat):Option ((List (List Int)×Nat)⊕List (List Int)) :=
 cond (decide ((↑a2:Int)<(↑slices_.length:Int))) (idxn slices_ a2 fun a6=>chk (za0 (List.length a1+List.length a6) 24) (some (.inl ((a1++a6),(a2+1))))) (some (.inr a1))
def za4 (slices_:List (List (List Int))):Option (List (List Int)) :=
 (iter (fun (s:Nat×Nat)=>za4.s2 slices_ s.1 s.2) fuel (0,0):Option (Nat)).bind (fun (size68:Nat)=>(zld (↑size68:Int)).bind fun a2=>(iter (fun (s:List (List Int)×Nat)=>za4.s4 slices_ s.1 s.2) fuel (a2,0):Option (List (List Int))).bind (fun (a1:List (List Int))=>some a1))
def ze7 (a_:List Int) (b_:List Int) (p2_:(List Int)→(List Int)→Option Int):Option (Bool) :=
 (p2_ a_ b_).bind fun a1=>some (decide (a1=0))
def zan.s18 (eq_:(List Int)→(List Int)→Option Bool) (a7:Nat) (a1:List (List Int)) (a6:Nat) (a2:Nat):Option ((List (List Int)×Nat×Nat)⊕(List (List Int)×Nat)) :=
 cond (decide ((↑a2:Int)<(↑(List.length a1-a7):Int))) (idxn a1 (a7+a2) fun a8=>chk ((0:Int)≤((↑a2:Int)-1)) (idxn a1 (a7+(Int.toNat ((↑a2:Int)-1))) fun b0=>(eq_ a8 b0).bind fun b1=>cond ((!b1)) (idxn a1 (a7+a2) fun b2=>idxn a1 a6 fun b3=>chk (inR ((↑a6:Int)+1)) (some (.inl ((List.set a1 a6 b2),(a6+1),(a2+1))))) (some (.inl (a1,a6,(a2+1)))))) (some (.inr (a1,a6)))
def zan.k19 (a2:List (List Int)) (a1:Nat):Option (Nat⊕(Unit⊕List (List Int))) :=
 chk ((0:Int)≤(↑a1:Int)∧(↑a1:Int)≤(↑a2.length:Int)∧0<List.length a2) (chk (a1≤List.length a2) (chk ((0:Int)≤(↑a1:Int)∧(↑a1:Int)≤(↑(List.length (List.take a1 a2++List.replicate (List.length a2-a1) [])):Int)∧0<List.length (List.take a1 a2++List.replicate (List.length a2-a1) [])) (some (.inr (.inr (List.take a1 (List.take a1 a2++List.replicate (List.length a2-a1) [])))))))
def zan.s20 (s_:List (List Int)) (eq_:(List Int)→(List Int)→Option Bool) (a1:Nat):Option (Nat⊕(Unit⊕List (List Int))) :=
 cond (decide ((↑a1:Int)<(↑s_.length:Int))) (idxn s_ a1 fun a2=>idx s_ ((↑a1:Int)-1) fun a6=>(eq_ a2 a6).bind fun a7=>cond (a7) (chk ((0:Int)≤(↑a1:Int)∧(↑a1:Int)≤(↑s_.length:Int)∧0<List.length s_) ((iter (fun (s:List (List Int)×Nat×Nat)=>zan.s18 eq_ a1 s.1 s.2.1 s.2.2) fuel (s_,a1,1):Option (List (List Int)×Nat)).bind (fun (s:List (List Int)×Nat)=>zan.k19 s.1 s.2))) (some (.inl (a1+1)))) (some (.inr (.inl ())))
def zan (s_:List (List Int)) (eq_:(List Int)→(List Int)→Option Bool):Option (List (List Int)) :=
 cond (decide ((↑s_.length:Int)<2)) (some s_) ((iter (fun (s:Nat)=>zan.s20 s_ eq_ s) fuel 1:Option (Unit⊕List (List Int))).bind (Sum.elim (fun (_:Unit)=>some s_) some))
def zda.s2 (a6:List (List Int)) (a2:List (List Int)) (a1:Nat):Option ((List (List Int)×Nat)⊕List (List Int)) :=
 cond (decide ((↑a1:Int)<(↑a6.length:Int))) (idxn a2 a1 fun a7=>(zi9 a7).bind fun a8=>idxn a2 a1 fun b0=>chk (inR ((↑a1:Int)+1)) (some (.inl ((List.set a2 a1 a8),(a1+1))))) (some (.inr a2))
def zda (l_:List (List Int)) (order_:(List Int)→(List Int)→Option Int):Option (List (List Int)) :=
 (zj1 l_).bind fun a2=>(zfv a2 order_).bind fun a6=>(zan a6 (fun u0 u1=>ze7 u0 u1 order_)).bind fun a1=>(iter (fun (s:List (List Int)×Nat)=>zda.s2 a1 s.1 s.2) fuel (a1,0):Option (List (List Int))).bind (fun (a7:List (List Int))=>some a7)
def zdy (l_:List (List Int)):Option (List (List Int)) :=
 (zda l_ (fun u0 u1=>zd0 u0 u1)).bind fun a1=>some a1
def zgq (lists_:List (List (List Int))):Option (List (List Int)) :=
 (za4 lists_).bind fun a1=>(zdy a1).bind fun a2=>some a2
def zdf.s2 (l_:List (List Int)) (a2:Int) (a1:Nat):Option ((Int×Nat)⊕Int) :=
 cond (decide ((↑a1:Int)<(↑l_.length:Int))) (idxn l_ a1 fun a6=>some (.inl ((max a2 (↑a6.length:Int)),(a1+1)))) (some (.inr a2))
def zdf (l_:List (List Int)):Option (Int) :=
 (iter (fun (s:Int×Nat)=>zdf.s2 l_ s.1 s.2) fuel (0,0):Option (Int)).bind (fun (a1:Int)=>some a1)
def zbl.s2 (slices_:List (List Int)) (size73:Nat) (a1:Nat):Option ((Nat×Nat)⊕Nat) :=
 cond (decide ((↑a1:Int)<(↑slices_.length:Int))) (idxn slices_ a1 fun a2=>chk (inR ((↑size73:Int)+(↑a2.length:Int))) (cond (decide (((↑size73:Int)+(↑a2.length:Int))<0)) (none) (some (.inl ((size73+a2.length),(a1+1)))))) (some (.inr size73))
def zbl.s4 (slices_:List (List Int)) (a1:List Int) (a2:Nat):Option ((List Int×Nat)⊕List Int) :=
 cond (decide ((↑a2:Int)<(↑slices_.length:Int))) (idxn slices_ a2 fun a6=>chk (za0 (List.length a1+List.length a6) 8) (some (.inl ((a1++a6),(a2+1))))) (some (.inr a1))
def zbl (slices_:List (List Int)):Option (List Int) :=
 (iter (fun (s:Nat×Nat)=>zbl.s2 slices_ s.1 s.2) fuel (0,0):Option (Nat)).bind (fun (size68:Nat)=>(zoa (↑size68:Int)).bind fun a2=>(iter (fun (s:List Int×Nat)=>zbl.s4 slices_ s.1 s.2) fuel (a2,0):Option (List Int)).bind (fun (a1:List Int)=>some a1))
def zg2 (parts_:List (List Int)):Option (List Int) :=
 (zbl parts_).bind fun a1=>some a1
def zbm.k53 (a1:Nat) (a2:List (ByteArray×Bool)) (a6:List (List Int)):Option (((List (ByteArray×Bool))×List (List Int)×Nat)⊕(((List (ByteArray×Bool))×List (List Int))⊕(((List (ByteArray×Bool))×List (List Int)×Nat)⊕(List (List Int)⊕(List (List Int)×Int))))) :=
 some (.inl (a2,a6,(a1+1)))
def zbm.s54 (b2:List (List Int)) (b0:List Int) (a2:List (ByteArray×Bool)) (a1:List (List Int)) (a6:Nat):Option (((List (ByteArray×Bool))×List (List Int)×Nat)⊕(((List (ByteArray×Bool))×List (List Int))⊕(((List (ByteArray×Bool))×List (List Int)×Nat)⊕(List (List Int)⊕(List (List Int)×Int))))) :=
 cond (decide ((↑a6:Int)<(↑b2.length:Int))) ((idxn b2 a6 fun b1=>(zg2 [b0,b1]).bind fun a7=>(zo7 a7).bind fun a8=>cond (((mget a8 a2).getD false)) (some (.inl (a2,a1))) (cond (decide ((↑a1.length:Int)=10000)) (some (.inr (.inr (.inr (.inr (.inr ([],11))))))) (chk (za0 (List.length a1+1) 24) (some (.inl ((mset a8 true a2),(a1++[a7])))))):Option (((List (ByteArray×Bool))×List (List Int))⊕(((List (ByteArray×Bool))×List (List Int)×Nat)⊕(((List (ByteArray×Bool))×List (List Int))⊕(((List (ByteArray×Bool))×List (List Int)×Nat)⊕(List (List Int)⊕(List (List Int)×Int))))))).bind (Sum.elim (fun (s:(List (ByteArray×Bool))×List (List Int))=>zbm.k53 a6 s.1 s.2) some)) (some (.inr (.inl (a2,a1))))
def zbm.k55 (a1:Nat) (a2:List (ByteArray×Bool)) (a6:List (List Int)):Option (((List (ByteArray×Bool))×List (List Int)×Nat)⊕(List (List Int)⊕(List (List Int)×Int))) :=
 some (.inl (a2,a6,(a1+1)))
def zbm.s56 (a8:List (List Int)) (b0:List (List Int)) (a6:List (ByteArray×Bool)) (a2:List (List Int)) (a1:Nat):Option (((List (ByteArray×Bool))×List (List Int)×Nat)⊕(List (List Int)⊕(List (List Int)×Int))) :=
 cond (decide ((↑a1:Int)<(↑a8.length:Int))) (idxn a8 a1 fun a7=>(iter (fun (s:(List (ByteArray×Bool))×List (List Int)×Nat)=>zbm.s54 b0 a7 s.1 s.2.1 s.2.2) fuel (a6,a2,0):Option (((List (ByteArray×Bool))×List (List Int))⊕(((List (ByteArray×Bool))×List (List Int)×Nat)⊕(List (List Int)⊕(List (List Int)×Int))))).bind (Sum.elim (fun (s:(List (ByteArray×Bool))×List (List Int))=>zbm.k55 a1 s.1 s.2) some)) (some (.inr (.inl a2)))
def zbm (a_:List (List Int)) (b_:List (List Int)):Option (List (List Int)×Int) :=
 (cond (decide ((↑a_.length:Int)=0)) (some true) (some (decide ((↑b_.length:Int)=0))):Option (Bool)).bind (fun (b1:Bool)=>cond (b1) (some ([],0)) ((zdf a_).bind fun a6=>(zdf b_).bind fun a7=>chk (inR (a6+a7)) (cond (decide (1024<(a6+a7))) (some ([],3)) ((zdy a_).bind fun a8=>(zdy b_).bind fun b0=>cond (decide (10000<(max (↑a8.length:Int) (↑b0.length:Int)))) (some ([],11)) ((iter (fun (s:(List (ByteArray×Bool))×List (List Int)×Nat)=>zbm.s56 a8 b0 s.1 s.2.1 s.2.2) fuel (([]:List (ByteArray×Bool)),[],0):Option (List (List Int)⊕(List (List Int)×Int))).bind (Sum.elim (fun (a1:List (List Int))=>(zfv a1 (fun u0 u1=>zd0 u0 u1)).bind fun a2=>some (a2,0)) some))))))
def zdl.s2 (a7:List (List Int)) (a2:List (List Int)) (a1:Nat):Option ((List (List Int)×Nat)⊕List (List Int)) :=
 cond (decide ((↑a1:Int)<(↑a7.length:Int))) (idxn a7 a1 fun a6=>(cond (decide (((↑a1:Int)+1)=(↑a7.length:Int))) (some true) (idxn a7 (a1+1) fun a8=>(zee a8 a6).bind fun b0=>some (!b0)):Option (Bool)).bind (fun (b1:Bool)=>cond (b1) (chk (za0 (List.length a2+1) 24) (some (.inl ((a2++[a6]),(a1+1))))) (some (.inl (a2,(a1+1)))))) (some (.inr a2))
def zdl (l_:List (List Int)):Option (List (List Int)) :=
 (zda l_ (fun u0 u1=>zhm u0 u1)).bind fun a6=>(iter (fun (s:List (List Int)×Nat)=>zdl.s2 a6 s.1 s.2) fuel ([],0):Option (List (List Int))).bind (fun (a1:List (List Int))=>(zdy a1).bind fun a2=>some a2)
def zcc.s13 (m_:zae) (a2:Nat) (a1:Nat):Option (Nat⊕(Unit⊕(Nat⊕(Unit⊕Int)))) :=
 cond (decide ((↑a1:Int)<m_.Inputs)) (idxn m_.Next a2 fun a8=>idxn a8 a1 fun a6=>idxn m_.Out a2 fun b0=>idxn b0 a1 fun a7=>(cond (decide (a6<0)) (some true) (cond (decide ((↑m_.Next.length:Int)≤a6)) (some true) (cond (decide (a7<0)) (some true) (some (decide (1048576<a7))))):Option (Bool)).bind (fun (b1:Bool)=>cond (b1) (some (.inr (.inr (.inr (.inr 2))))) (chk (inR ((↑a1:Int)+1)) (some (.inl (a1+1)))))) (some (.inr (.inl ())))
def zcc.s14 (m_:zae) (a1:Nat):Option (Nat⊕(Unit⊕Int)) :=
 cond (decide ((↑a1:Int)<(↑m_.Next.length:Int))) ((idxn m_.Next a1 fun a2=>cond (decide ((↑a2.length:Int)≠m_.Inputs)) (some true) (idxn m_.Out a1 fun a6=>some (decide ((↑a6.length:Int)≠m_.Inputs))):Option (Bool)).bind (fun (a7:Bool)=>cond (a7) (some (.inr (.inr 1))) ((iter (fun (s:Nat)=>zcc.s13 m_ a1 s) fuel 0:Option (Unit⊕(Nat⊕(Unit⊕Int)))).bind (Sum.elim (fun (_:Unit)=>some (.inl (a1+1))) some)))) (some (.inr (.inl ())))
def zcc (m_:zae):Option (Int) :=
 (cond (decide (m_.Inputs<1)) (some true) (some (decide (64<m_.Inputs))):Option (Bool)).bind (fun (a1:Bool)=>cond (a1) (some 2) (cond (decide ((↑m_.Next.length:Int)=0)) (some 19) (cond (decide (128<(↑m_.Next.length:Int))) (some 11) ((cond (decide (m_.Start<0)) (some true) (some (decide ((↑m_.Next.length:Int)≤m_.Start))):Option (Bool)).bind (fun (a2:Bool)=>cond (a2) (some 2) (cond (decide ((↑m_.Out.length:Int)≠(↑m_.Next.length:Int))) (some 1) ((iter (fun (s:Nat)=>zcc.s14 m_ s) fuel 0:Option (Unit⊕Int)).bind (Sum.elim (fun (_:Unit)=>some 0) some))))))))
def zcm.s18 (a8:List Int) (a1:List Bool) (a2:List Int) (a6:Nat):Option ((List Bool×List Int×Nat)⊕(List Bool×List Int)) :=
 cond (decide ((↑a6:Int)<(↑a8.length:Int))) (idxn a8 a6 fun a7=>idx a1 a7 fun b0=>cond ((!b0)) (idx a1 a7 fun b1=>chk (za0 (List.length a2+1) 8) (some (.inl ((List.set a1 a7.toNat true),(a2++[a7]),(a6+1))))) (some (.inl (a1,a2,(a6+1))))) (some (.inr (a1,a2)))
def zcm.k19 (a1:Nat) (a2:List Bool) (a6:List Int):Option ((List Bool×List Int×Nat)⊕List Int) :=
 some (.inl (a2,a6,(a1+1)))
def zcm.s20 (m_:zae) (a6:List Bool) (a1:List Int) (a2:Nat):Option ((List Bool×List Int×Nat)⊕List Int) :=
 cond (decide ((↑a2:Int)<(↑a1.length:Int))) (idxn a1 a2 fun a7=>idx m_.Next a7 fun a8=>(iter (fun (s:List Bool×List Int×Nat)=>zcm.s18 a8 s.1 s.2.1 s.2.2) fuel (a6,a1,0):Option (List Bool×List Int)).bind (fun (s:List Bool×List Int)=>zcm.k19 a2 s.1 s.2)) (some (.inr a1))
def zcm (m_:zae):Option (List Int) :=
 (zcc m_).bind fun a2=>cond (decide (a2≠0)) (some []) (chk ((0:Int)≤(↑m_.Next.length:Int)∧(↑m_.Next.length:Int)≤(↑m_.Next.length:Int)∧za0 (Int.toNat (↑m_.Next.length:Int)) 1) (idx (List.replicate m_.Next.length false) m_.Start fun a6=>(iter (fun (s:List Bool×List Int×Nat)=>zcm.s20 m_ s.1 s.2.1 s.2.2) fuel ((List.set (List.replicate m_.Next.length false) m_.Start.toNat true),[m_.Start],0):Option (List Int)).bind (fun (a1:List Int)=>some a1)))
def zcg.s2 (a6:List Int) (a2:List Int) (a1:Nat):Option ((List Int×Nat)⊕List Int) :=
 cond (decide ((↑a1:Int)<(↑a6.length:Int))) (idxn a6 a1 fun a7=>idx a2 a7 fun a8=>some (.inl ((List.set a2 a7.toNat (↑a1:Int)),(a1+1)))) (some (.inr a2))
def zcg.s15 (b0:List Int) (a6:List Int) (a2:List Int) (a1:Nat):Option ((List Int×Nat)⊕List Int) :=
 cond (decide ((↑a1:Int)<(↑a6.length:Int))) (idxn a6 a1 fun a7=>idx b0 a7 fun a8=>idxn a2 a1 fun b1=>some (.inl ((List.set a2 a1 a8),(a1+1)))) (some (.inr a2))
def zcg.s16 (m_:zae) (b3:List Int) (b4:List Int) (a1:List (List Int)) (a2:List (List Int)) (a6:Nat):Option ((List (List Int)×List (List Int)×Nat)⊕(List (List Int)×List (List Int))) :=
 cond (decide ((↑a6:Int)<(↑b3.length:Int))) (idxn b3 a6 fun a7=>chk ((0:Int)≤m_.Inputs∧m_.Inputs≤m_.Inputs∧za0 (Int.toNat m_.Inputs) 8) (idx m_.Next a7 fun a8=>(iter (fun (s:List Int×Nat)=>zcg.s15 b4 a8 s.1 s.2) fuel ((List.replicate (Int.toNat m_.Inputs) (0:Int)),0):Option (List Int)).bind (fun (b0:List Int)=>chk (za0 (List.length a1+1) 24) (idx m_.Out a7 fun b1=>(zi9 b1).bind fun b2=>chk (za0 (List.length a2+1) 24) (some (.inl ((a1++[b0]),(a2++[b2]),(a6+1)))))))) (some (.inr (a1,a2)))
def zcg.k17 (m_:zae) (a1:List (List Int)) (a2:List (List Int)):Option (zae×Int) :=
 some ((⟨m_.Inputs,0,a1,a2⟩:zae),0)
def zcg (m_:zae):Option (zae×Int) :=
 (zcc m_).bind fun a1=>cond (decide (a1≠0)) (some ((⟨0,0,[],[]⟩:zae),a1)) ((zcm m_).bind fun a2=>chk ((0:Int)≤(↑m_.Next.length:Int)∧(↑m_.Next.length:Int)≤(↑m_.Next.length:Int)∧za0 (Int.toNat (↑m_.Next.length:Int)) 8) ((iter (fun (s:List Int×Nat)=>zcg.s2 a2 s.1 s.2) fuel ((List.replicate m_.Next.length (0:Int)),0):Option (List Int)).bind (fun (a6:List Int)=>(iter (fun (s:List (List Int)×List (List Int)×Nat)=>zcg.s16 m_ a2 a6 s.1 s.2.1 s.2.2) fuel ([],[],0):Option (List (List Int)×List (List Int))).bind (fun (s:List (List Int)×List (List Int))=>zcg.k17 m_ s.1 s.2))))
def zbu.s18 (m_:zae) (class_:List Int) (a6:Nat) (a2:List Int) (a1:Nat):Option ((List Int×Nat)⊕List Int) :=
 cond (decide ((↑a1:Int)<m_.Inputs)) (idxn m_.Out a6 fun a8=>idxn a8 a1 fun a7=>chk ((↑a1:Int)<128) (idxn a2 a1 fun b3=>chk (inR (64+(↑a1:Int))) (idxn m_.Next a6 fun b0=>idxn b0 a1 fun b1=>idx class_ b1 fun b2=>chk ((64+(↑a1:Int))<128) (idxn (List.set a2 a1 a7) (64+a1) fun b4=>chk (inR ((↑a1:Int)+1)) (some (.inl ((List.set (List.set a2 a1 a7) (64+a1) b2),(a1+1)))))))) (some (.inr a2))
def zbu.k19 (a2:List Int) (a1:Nat) (a6:List (List Int×Int)) (a7:Int):Option (((List (List Int×Int))×List Int×Nat)⊕((List (List Int×Int))×List Int)) :=
 idxn a2 a1 fun a8=>some (.inl (a6,(List.set a2 a1 a7),(a1+1)))
def zbu.s20 (m_:zae) (class_:List Int) (a1:List (List Int×Int)) (a7:List Int) (a6:Nat):Option (((List (List Int×Int))×List Int×Nat)⊕((List (List Int×Int))×List Int)) :=
 cond (decide ((↑a6:Int)<(↑class_.length:Int))) ((iter (fun (s:List Int×Nat)=>zbu.s18 m_ class_ a6 s.1 s.2) fuel ((List.replicate 128 0),0):Option (List Int)).bind (fun (a2:List Int)=>chk (List.length a2=128) (chk (List.length a2=128∧∀ p∈a1,List.length p.1=128) ((cond ((!((mget a2 a1).isSome))) (chk (List.length a2=128) (chk (List.length a2=128∧∀ p∈a1,List.length p.1=128) (some ((mset a2 (↑a1.length:Int) a1),(↑a1.length:Int))))) (some (a1,((mget a2 a1).getD 0))):Option ((List (List Int×Int))×Int)).bind (fun (s:(List (List Int×Int))×Int)=>zbu.k19 a7 a6 s.1 s.2))))) (some (.inr (a1,a7)))
def zbu.k21 (a1:List (List Int×Int)) (a2:List Int):Option (List Int×Int) :=
 some (a2,(↑a1.length:Int))
def zbu (m_:zae) (class_:List Int):Option (List Int×Int) :=
 chk ((0:Int)≤(↑class_.length:Int)∧(↑class_.length:Int)≤(↑class_.length:Int)∧za0 (Int.toNat (↑class_.length:Int)) 8) ((iter (fun (s:(List (List Int×Int))×List Int×Nat)=>zbu.s20 m_ class_ s.1 s.2.1 s.2.2) fuel (([]:List (List Int×Int)),(List.replicate class_.length (0:Int)),0):Option ((List (List Int×Int))×List Int)).bind (fun (s:(List (List Int×Int))×List Int)=>zbu.k21 s.1 s.2))
def zdo.s2 (m_:zae) (k_:Int) (class71:List Int) (a6:Int) (a1:Nat):Option ((List Int×Int×Nat)⊕(List Int⊕(List Int×Int))) :=
 cond (decide ((↑a1:Int)<(min (max k_ 0) (↑m_.Next.length:Int)))) ((zbu m_ class71).bind fun a2=>cond (decide (a2.2=a6)) (some (.inr (.inr (class71,(↑a1:Int))))) (some (.inl (a2.1,a2.2,(a1+1))))) (some (.inr (.inl class71)))
def zdo (m_:zae) (k_:Int):Option (List Int×Int) :=
 chk ((0:Int)≤(↑m_.Next.length:Int)∧(↑m_.Next.length:Int)≤(↑m_.Next.length:Int)∧za0 (Int.toNat (↑m_.Next.length:Int)) 8) ((iter (fun (s:List Int×Int×Nat)=>zdo.s2 m_ k_ s.1 s.2.1 s.2.2) fuel ((List.replicate m_.Next.length (0:Int)),1,0):Option (List Int⊕(List Int×Int))).bind (Sum.elim (fun (class67:List Int)=>some (class67,(min (max k_ 0) (↑m_.Next.length:Int)))) some))
def zf0 (m_:zae) (k_:Int):Option (List Int×Int) :=
 (zcc m_).bind fun a1=>cond (decide (a1≠0)) (some ([],a1)) ((zdo m_ k_).bind fun a2=>some (a2.1,0))
def zgl (m_:zae):Option (List Int×Int) :=
 (zf0 m_ 128).bind fun a1=>some (a1.1,a1.2)
def zbx.s30 (b0:List Int×Int) (a6:List Int) (a1:List Int) (a2:Nat):Option ((List Int×Nat)⊕List Int) :=
 cond (decide ((↑a2:Int)<(↑a6.length:Int))) (idxn a6 a2 fun a7=>idx b0.1 a7 fun a8=>chk (za0 (List.length a1+1) 8) (some (.inl ((a1++[a8]),(a2+1))))) (some (.inr a1))
def zbx.k31 (a1:Nat) (a2:List (List Int)) (a6:List (List Int)):Option ((List (List Int)×List (List Int)×Nat)⊕(List (List Int)×List (List Int))) :=
 some (.inl (a2,a6,(a1+1)))
def zbx.s32 (b3:zae×Int) (a8:List Int×Int) (a1:List (List Int)) (a6:List (List Int)) (a2:Nat):Option ((List (List Int)×List (List Int)×Nat)⊕(List (List Int)×List (List Int))) :=
 cond (decide ((↑a2:Int)<(↑a8.1.length:Int))) ((idxn a8.1 a2 fun b0=>cond (decide (b0<(↑a1.length:Int))) (some (a1,a6)) (idxn b3.1.Next a2 fun b1=>(iter (fun (s:List Int×Nat)=>zbx.s30 a8 b1 s.1 s.2) fuel ([],0):Option (List Int)).bind (fun (b2:List Int)=>chk (za0 (List.length a1+1) 24) (idxn b3.1.Out a2 fun a7=>chk (za0 (List.length ([]:List Unit)+List.length a7) 8) (chk (za0 (List.length a6+1) 24) (some ((a1++[b2]),(a6++[([]++a7)]))))))):Option (List (List Int)×List (List Int))).bind (fun (s:List (List Int)×List (List Int))=>zbx.k31 a2 s.1 s.2)) (some (.inr (a1,a6)))
def zbx.k33 (a6:zae×Int) (a1:List (List Int)) (a2:List (List Int)):Option (zae×Int) :=
 some ((⟨a6.1.Inputs,0,a1,a2⟩:zae),0)
def zbx (m_:zae):Option (zae×Int) :=
 (zcg m_).bind fun a1=>cond (decide (a1.2≠0)) (some ((⟨0,0,[],[]⟩:zae),a1.2)) ((zgl a1.1).bind fun a2=>cond (decide (a2.2≠0)) (some ((⟨0,0,[],[]⟩:zae),a2.2)) ((iter (fun (s:List (List Int)×List (List Int)×Nat)=>zbx.s32 a1 a2 s.1 s.2.1 s.2.2) fuel ([],[],0):Option (List (List Int)×List (List Int))).bind (fun (s:List (List Int)×List (List Int))=>zbx.k33 a1 s.1 s.2)))
def zcd.s18 (b0:Nat) (a8:List Int) (a1:List Bool) (a2:List zbj) (a6:Nat):Option ((List Bool×List zbj×Nat)⊕(List Bool×List zbj)) :=
 cond (decide ((↑a6:Int)<(↑a8.length:Int))) (idxn a8 a6 fun a7=>idx a1 a7 fun b1=>cond ((!b1)) (idx a1 a7 fun b4=>idxn a2 b0 fun b2=>(zg2 [b2.word,[(↑a6:Int)]]).bind fun b3=>chk (za0 (List.length a2+1) 32) (some (.inl ((List.set a1 a7.toNat true),(a2++[(⟨a7,b3⟩:zbj)]),(a6+1))))) (some (.inl (a1,a2,(a6+1))))) (some (.inr (a1,a2)))
def zcd.k19 (a1:Nat) (a2:List Bool) (a6:List zbj):Option ((List Bool×List zbj×Nat)⊕List zbj) :=
 some (.inl (a2,a6,(a1+1)))
def zcd.s20 (m_:zae) (a6:List Bool) (a1:List zbj) (a2:Nat):Option ((List Bool×List zbj×Nat)⊕List zbj) :=
 cond (decide ((↑a2:Int)<(↑a1.length:Int))) (idxn a1 a2 fun a7=>idx m_.Next a7.state fun a8=>(iter (fun (s:List Bool×List zbj×Nat)=>zcd.s18 a2 a8 s.1 s.2.1 s.2.2) fuel (a6,a1,0):Option (List Bool×List zbj)).bind (fun (s:List Bool×List zbj)=>zcd.k19 a2 s.1 s.2)) (some (.inr a1))
def zcd (m_:zae) (from_:Int):Option (List zbj) :=
 chk ((0:Int)≤(↑m_.Next.length:Int)∧(↑m_.Next.length:Int)≤(↑m_.Next.length:Int)∧za0 (Int.toNat (↑m_.Next.length:Int)) 1) (idx (List.replicate m_.Next.length false) from_ fun a2=>(iter (fun (s:List Bool×List zbj×Nat)=>zcd.s20 m_ s.1 s.2.1 s.2.2) fuel ((List.set (List.replicate m_.Next.length false) from_.toNat true),[(⟨from_,[]⟩:zbj)],0):Option (List zbj)).bind (fun (a1:List zbj)=>some a1))
def zc6.s2 (a7:List zbj) (a1:List Int) (a2:List (List Int)) (a6:Nat):Option ((List Int×List (List Int)×Nat)⊕(List Int×List (List Int))) :=
 cond (decide ((↑a6:Int)<(↑a7.length:Int))) (idxn a7 a6 fun a8=>chk (za0 (List.length a1+1) 8) (chk (za0 (List.length a2+1) 24) (some (.inl ((a1++[a8.state]),(a2++[a8.word]),(a6+1)))))) (some (.inr (a1,a2)))
def zc6.k3 (a1:List Int) (a2:List (List Int)):Option (List Int×List (List Int)×Int) :=
 some (a1,a2,0)
def zc6 (m_:zae):Option (List Int×List (List Int)×Int) :=
 (zcc m_).bind fun a1=>cond (decide (a1≠0)) (some ([],[],a1)) ((zcd m_ m_.Start).bind fun a2=>(iter (fun (s:List Int×List (List Int)×Nat)=>zc6.s2 a2 s.1 s.2.1 s.2.2) fuel ([],[],0):Option (List Int×List (List Int))).bind (fun (s:List Int×List (List Int))=>zc6.k3 s.1 s.2))
def zgm (m_:zae):Option (List (List Int)×Int) :=
 (zc6 m_).bind fun a1=>some (a1.2.1,a1.2.2)
def zb2.s13 (m_:zae) (a6:List Int) (a2:List (List Int)) (a1:Nat):Option ((List (List Int)×Nat)⊕List (List Int)) :=
 cond (decide ((↑a1:Int)<m_.Inputs)) ((zg2 [a6,[(↑a1:Int)]]).bind fun a7=>chk (za0 (List.length a2+1) 24) (chk (inR ((↑a1:Int)+1)) (some (.inl ((a2++[a7]),(a1+1)))))) (some (.inr a2))
def zb2.s14 (m_:zae) (a8:List Int×List (List Int)×Int) (a2:List (List Int)) (a1:Nat):Option ((List (List Int)×Nat)⊕List (List Int)) :=
 cond (decide ((↑a1:Int)<(↑a8.2.1.length:Int))) (idxn a8.2.1 a1 fun a6=>(iter (fun (s:List (List Int)×Nat)=>zb2.s13 m_ a6 s.1 s.2) fuel (a2,0):Option (List (List Int))).bind (fun (a7:List (List Int))=>some (.inl (a7,(a1+1))))) (some (.inr a2))
def zb2 (m_:zae):Option (List (List Int)×Int) :=
 (zc6 m_).bind fun a1=>cond (decide (a1.2.2≠0)) (some ([],a1.2.2)) ((iter (fun (s:List (List Int)×Nat)=>zb2.s14 m_ a1 s.1 s.2) fuel ([],0):Option (List (List Int))).bind (fun (a2:List (List Int))=>(zdy a2).bind fun a6=>some (a6,0)))
def zdx.s2 (m_:zae) (w_:List Int) (b2:Int) (a2:List Int) (a6:Nat):Option ((Int×List Int×Nat)⊕List Int) :=
 cond (decide ((↑a6:Int)<(↑w_.length:Int))) (idxn w_ a6 fun a1=>idx m_.Out b2 fun a7=>idx a7 a1 fun a8=>chk (za0 (List.length a2+1) 8) (idx m_.Next b2 fun b0=>idx b0 a1 fun b1=>some (.inl (b1,(a2++[a8]),(a6+1))))) (some (.inr a2))
def zdx (m_:zae) (s_:Int) (w_:List Int):Option (List Int) :=
 chk ((0:Int)≤0∧0≤(↑w_.length:Int)∧za0 (Int.toNat (↑w_.length:Int)) 8) ((iter (fun (s:Int×List Int×Nat)=>zdx.s2 m_ w_ s.1 s.2.1 s.2.2) fuel (s_,[],0):Option (List Int)).bind (fun (a1:List Int)=>some a1))
def zcf.s2 (s1_:List Int) (s2_:List Int) (a1:Nat):Option (Nat⊕(Unit⊕Bool)) :=
 cond (decide ((↑a1:Int)<(↑s1_.length:Int))) (idxn s1_ a1 fun a2=>idxn s2_ a1 fun a6=>cond (decide (a2≠a6)) (some (.inr (.inr false))) (some (.inl (a1+1)))) (some (.inr (.inl ())))
def zcf (s1_:List Int) (s2_:List Int):Option (Bool) :=
 cond (decide ((↑s1_.length:Int)≠(↑s2_.length:Int))) (some false) ((iter (fun (s:Nat)=>zcf.s2 s1_ s2_ s) fuel 0:Option (Unit⊕Bool)).bind (Sum.elim (fun (_:Unit)=>some true) some))
def zeh (w_:List Int) (p1_:zae) (p2_:Int) (p3_:Int):Option (Bool) :=
 (zdx p1_ p2_ w_).bind fun a1=>(zdx p1_ p3_ w_).bind fun a2=>(zcf a1 a2).bind fun a6=>some (!a6)
def zce.s2 (l_:List (List Int)) (has_:(List Int)→Option Bool) (a1:Nat):Option (Nat⊕(Unit⊕Bool)) :=
 cond (decide ((↑a1:Int)<(↑l_.length:Int))) (idxn l_ a1 fun a2=>(has_ a2).bind fun a6=>cond (a6) (some (.inr (.inr true))) (some (.inl (a1+1)))) (some (.inr (.inl ())))
def zce (l_:List (List Int)) (has_:(List Int)→Option Bool):Option (Bool) :=
 (iter (fun (s:Nat)=>zce.s2 l_ has_ s) fuel 0:Option (Unit⊕Bool)).bind (Sum.elim (fun (_:Unit)=>some false) some)
def zfu (m_:zae) (words_:List (List Int)) (s_:Int) (t_:Int):Option (Bool) :=
 (zce words_ (fun u0=>zeh u0 m_ s_ t_)).bind fun a1=>some a1
def zgi (m_:zae):Option (Bool) :=
 ((zcc m_).bind fun a2=>cond (decide (a2≠0)) (some true) ((zcm m_).bind fun a6=>some (decide ((↑a6.length:Int)≠(↑m_.Next.length:Int)))):Option (Bool)).bind (fun (a7:Bool)=>cond (a7) (some false) ((zbx m_).bind fun a1=>(cond (decide (a1.2=0)) (some (decide ((↑a1.1.Next.length:Int)=(↑m_.Next.length:Int)))) (some false):Option (Bool)).bind (fun (a8:Bool)=>some a8)))
def zhy (m_:zae):Option (Int) :=
 (zcc m_).bind fun a1=>cond (decide (a1≠0)) (some a1) ((zgi m_).bind fun a2=>cond ((!a2)) (some 1) (some 0))
def zbw.s2 (a_:zae) (b_:zae) (a2:List (List Bool)) (a1:Nat):Option ((List (List Bool)×Nat)⊕List (List Bool)) :=
 cond (decide ((↑a1:Int)<(↑(List.length (List.replicate a_.Next.length ([]:List Bool))):Int))) (chk ((0:Int)≤(↑b_.Next.length:Int)∧(↑b_.Next.length:Int)≤(↑b_.Next.length:Int)∧za0 (Int.toNat (↑b_.Next.length:Int)) 1) (idxn a2 a1 fun a6=>chk (inR ((↑a1:Int)+1)) (some (.inl ((List.set a2 a1 (List.replicate b_.Next.length false)),(a1+1)))))) (some (.inr a2))
def zbw.s20 (a_:zae) (b_:zae) (b2:Nat) (a2:zbq) (a7:List (List Bool)) (a6:List zbq) (a1:Nat):Option ((List (List Bool)×List zbq×Nat)⊕((List (List Bool)×List zbq)⊕((List (List Bool)×List zbq×Nat)⊕(Unit⊕(List Int×Bool))))) :=
 cond (decide ((↑a1:Int)<a_.Inputs)) (idx a_.Out a2.at_.s fun b3=>idxn b3 a1 fun b4=>idx b_.Out a2.at_.t fun b5=>idxn b5 a1 fun b6=>cond (decide (b4≠b6)) (idxn a6 b2 fun b7=>(zg2 [b7.word,[(↑a1:Int)]]).bind fun b8=>some (.inr (.inr (.inr (.inr (b8,true)))))) (idx a_.Next a2.at_.s fun b9=>idxn b9 a1 fun a8=>idx b_.Next a2.at_.t fun c0=>idxn c0 a1 fun b0=>(cond ((!(decide (a8=a2.at_.s)&&(decide (b0=a2.at_.t)&&true)))) (idx a7 a8 fun c3=>idx c3 b0 fun c4=>some (!c4)) (some false):Option (Bool)).bind (fun (c5:Bool)=>cond (c5) (idx a7 a8 fun b1=>idx b1 b0 fun c8=>idxn a6 b2 fun c6=>(zg2 [c6.word,[(↑a1:Int)]]).bind fun c7=>chk (za0 (List.length a6+1) 40) (chk (inR ((↑a1:Int)+1)) (some (.inl ((List.set a7 (Int.toNat a8) (List.set b1 (Int.toNat b0) true)),(a6++[(⟨(⟨a8,b0⟩:zd2),c7⟩:zbq)]),(a1+1)))))) (chk (inR ((↑a1:Int)+1)) (some (.inl (a7,a6,(a1+1)))))))) (some (.inr (.inl (a7,a6))))
def zbw.k21 (a6:Nat) (a1:List (List Bool)) (a2:List zbq):Option ((List (List Bool)×List zbq×Nat)⊕(Unit⊕(List Int×Bool))) :=
 some (.inl (a1,a2,(a6+1)))
def zbw.s22 (a_:zae) (b_:zae) (a7:List (List Bool)) (a2:List zbq) (a1:Nat):Option ((List (List Bool)×List zbq×Nat)⊕(Unit⊕(List Int×Bool))) :=
 cond (decide ((↑a1:Int)<(↑a2.length:Int))) (idxn a2 a1 fun a6=>(iter (fun (s:List (List Bool)×List zbq×Nat)=>zbw.s20 a_ b_ a1 a6 s.1 s.2.1 s.2.2) fuel (a7,a2,0):Option ((List (List Bool)×List zbq)⊕((List (List Bool)×List zbq×Nat)⊕(Unit⊕(List Int×Bool))))).bind (Sum.elim (fun (s:List (List Bool)×List zbq)=>zbw.k21 a1 s.1 s.2) some)) (some (.inr (.inl ())))
def zbw (a_:zae) (b_:zae) (first_:zd2):Option (List Int×Bool) :=
 chk ((0:Int)≤(↑a_.Next.length:Int)∧(↑a_.Next.length:Int)≤(↑a_.Next.length:Int)∧za0 (Int.toNat (↑a_.Next.length:Int)) 24) ((iter (fun (s:List (List Bool)×Nat)=>zbw.s2 a_ b_ s.1 s.2) fuel ((List.replicate a_.Next.length ([]:List Bool)),0):Option (List (List Bool))).bind (fun (a1:List (List Bool))=>idx a1 first_.s fun a2=>idx a2 first_.t fun a6=>(iter (fun (s:List (List Bool)×List zbq×Nat)=>zbw.s22 a_ b_ s.1 s.2.1 s.2.2) fuel ((List.set a1 (Int.toNat first_.s) (List.set a2 (Int.toNat first_.t) true)),[(⟨first_,[]⟩:zbq)],0):Option (Unit⊕(List Int×Bool))).bind (Sum.elim (fun (_:Unit)=>some ([],false)) some)))
def zjs (m_:zae) (s_:Int) (t_:Int):Option (List Int×Bool×Int) :=
 (zcc m_).bind fun a1=>cond (decide (a1≠0)) (some ([],false,a1)) ((cond (decide (s_<0)) (some true) (cond (decide ((↑m_.Next.length:Int)≤s_)) (some true) (cond (decide (t_<0)) (some true) (some (decide ((↑m_.Next.length:Int)≤t_))))):Option (Bool)).bind (fun (a6:Bool)=>cond (a6) (some ([],false,2)) ((zbw m_ m_ (⟨s_,t_⟩:zd2)).bind fun a2=>some (a2.1,a2.2,0))))
def zb8.s13 (m_:zae) (a7:Nat) (a1:List (List Int)) (a2:Nat):Option ((List (List Int)×Nat)⊕(List (List Int)⊕((List (List Int)×Nat)⊕(List (List Int)⊕(List (List Int)×Int))))) :=
 cond (decide ((↑a2:Int)<(↑m_.Next.length:Int))) (((zfu m_ a1 (↑a7:Int) (↑a2:Int)).bind fun a8=>cond (a8) (some (.inl a1)) ((zjs m_ (↑a7:Int) (↑a2:Int)).bind fun a6=>cond (decide (a6.2.2≠0)) (some (.inr (.inr (.inr (.inr (.inr ([],a6.2.2))))))) (chk (za0 (List.length a1+1) 24) (some (.inl (a1++[a6.1]))))):Option (List (List Int)⊕((List (List Int)×Nat)⊕(List (List Int)⊕((List (List Int)×Nat)⊕(List (List Int)⊕(List (List Int)×Int))))))).bind (Sum.elim (fun (b0:List (List Int))=>some (.inl (b0,(a2+1)))) some)) (some (.inr (.inl a1)))
def zb8.s14 (m_:zae) (a2:List (List Int)) (a1:Nat):Option ((List (List Int)×Nat)⊕(List (List Int)⊕(List (List Int)×Int))) :=
 cond (decide ((↑a1:Int)<(↑m_.Next.length:Int))) ((iter (fun (s:List (List Int)×Nat)=>zb8.s13 m_ a1 s.1 s.2) fuel (a2,(a1+1)):Option (List (List Int)⊕((List (List Int)×Nat)⊕(List (List Int)⊕(List (List Int)×Int))))).bind (Sum.elim (fun (a6:List (List Int))=>some (.inl (a6,(a1+1)))) some)) (some (.inr (.inl a2)))
def zb8 (m_:zae):Option (List (List Int)×Int) :=
 (zhy m_).bind fun a6=>cond (decide (a6≠0)) (some ([],a6)) ((iter (fun (s:List (List Int)×Nat)=>zb8.s14 m_ s.1 s.2) fuel ([],0):Option (List (List Int)⊕(List (List Int)×Int))).bind (Sum.elim (fun (a1:List (List Int))=>(zdy a1).bind fun a2=>some (a2,0)) some))
def zkb (m_:zae):Option (List (List Int)×Int) :=
 (zcc m_).bind fun a6=>cond (decide (a6≠0)) (some ([],a6)) ((zbx m_).bind fun a1=>(zgm a1.1).bind fun b0=>(zb2 a1.1).bind fun a7=>(zb8 a1.1).bind fun a8=>(cond (decide ((↑a8.1.length:Int)=0)) (some [[]]) (some a8.1):Option (List (List Int))).bind (fun (ends60:List (List Int))=>(zgq [b0.1,a7.1]).bind fun b1=>(zbm b1 ends60).bind fun a2=>cond (decide (a2.2≠0)) (some ([],a2.2)) ((zgq [a7.1,a2.1]).bind fun b2=>(zdl b2).bind fun b3=>some (b3,0))))
def zbp.s18 (p_:zaa) (out_:Int) (b0:Nat) (b1:List Int) (a2:List Int) (a6:List Int) (a1:Nat):Option ((List Int×List Int×Nat)⊕(List Int×List Int)) :=
 cond (decide ((↑a1:Int)<(↑b1.length:Int))) (idxn b1 a1 fun a7=>idxn p_.Out b0 fun b2=>idxn b2 a1 fun a8=>idxn a2 a1 fun b3=>idxn a6 a1 fun b4=>cond (decide (a7=(-1:Int))) (idxn (List.set a2 a1 a7) a1 fun b5=>idxn (List.set a6 a1 a8) a1 fun b6=>some (.inl ((List.set (List.set a2 a1 a7) a1 (↑b0:Int)),(List.set (List.set a6 a1 a8) a1 out_),(a1+1)))) (some (.inl ((List.set a2 a1 a7),(List.set a6 a1 a8),(a1+1))))) (some (.inr (a2,a6)))
def zbp.k19 (a1:List (List Int)) (a2:List (List Int)) (a6:Nat) (a7:List Int) (a8:List Int):Option ((List (List Int)×List (List Int)×Nat)⊕(List (List Int)×List (List Int))) :=
 chk (za0 (List.length a1+1) 24) (chk (za0 (List.length a2+1) 24) (some (.inl ((a1++[a7]),(a2++[a8]),(a6+1)))))
def zbp.s20 (p_:zaa) (out_:Int) (a2:List (List Int)) (a6:List (List Int)) (a1:Nat):Option ((List (List Int)×List (List Int)×Nat)⊕(List (List Int)×List (List Int))) :=
 cond (decide ((↑a1:Int)<(↑p_.Next.length:Int))) (chk ((0:Int)≤p_.Inputs∧p_.Inputs≤p_.Inputs∧za0 (Int.toNat p_.Inputs) 8) (chk ((0:Int)≤p_.Inputs∧p_.Inputs≤p_.Inputs∧za0 (Int.toNat p_.Inputs) 8) (idxn p_.Next a1 fun a7=>(iter (fun (s:List Int×List Int×Nat)=>zbp.s18 p_ out_ a1 a7 s.1 s.2.1 s.2.2) fuel ((List.replicate (Int.toNat p_.Inputs) (0:Int)),(List.replicate (Int.toNat p_.Inputs) (0:Int)),0):Option (List Int×List Int)).bind (fun (s:List Int×List Int)=>zbp.k19 a2 a6 a1 s.1 s.2)))) (some (.inr (a2,a6)))
def zbp.k21 (p_:zaa) (a1:List (List Int)) (a2:List (List Int)):Option (zae×Int) :=
 some ((⟨p_.Inputs,p_.Start,a1,a2⟩:zae),0)
def zbp (p_:zaa) (out_:Int):Option (zae×Int) :=
 (zc3 p_).bind fun a1=>cond (decide (a1≠0)) (some ((⟨0,0,[],[]⟩:zae),a1)) ((cond (decide (out_<0)) (some true) (some (decide (1048576<out_))):Option (Bool)).bind (fun (a2:Bool)=>cond (a2) (some ((⟨0,0,[],[]⟩:zae),2)) (cond (decide (128<(↑p_.Next.length:Int))) (some ((⟨0,0,[],[]⟩:zae),11)) ((iter (fun (s:List (List Int)×List (List Int)×Nat)=>zbp.s20 p_ out_ s.1 s.2.1 s.2.2) fuel ([],[],0):Option (List (List Int)×List (List Int))).bind (fun (s:List (List Int)×List (List Int))=>zbp.k21 p_ s.1 s.2)))))
def zgw (a_:zaa) (b_:zaa):Option (Bool) :=
 (cond (decide (a_.Inputs=b_.Inputs)) (cond (decide (a_.Start=b_.Start)) ((zcb a_.Next b_.Next).bind fun a1=>cond (a1) ((zcb a_.Out b_.Out).bind fun a2=>some a2) (some false)) (some false)) (some false):Option (Bool)).bind (fun (a6:Bool)=>some a6)
def ziw:Option (Bool) :=
 (za3 (⟨1,[(⟨[0,0],[1,2]⟩:zag)]⟩:zav)).bind fun a1=>(zku a1.1 0 1).bind fun b1=>(zku a1.1 0 2).bind fun a2=>(zcn (⟨1,[(⟨[0,0,0,0],[1,2,1,2]⟩:zag)]⟩:zav)).bind fun a6=>(zge a6.1 [0,0,0,0,0]).bind fun b2=>(L35_gate).bind fun b4=>(zkb b4).bind fun b3=>(zbp a1.1 7).bind fun a7=>((zgw a1.1 (⟨1,0,[[1],[2],[(-1:Int)]],[[1],[2],[(-1:Int)]]⟩:zaa)).bind fun b5=>cond (b5) (cond (decide (a1.2=0)) (cond ((!b1.2.1)) (cond (decide (b1.2.2=0)) ((zgw a2.1 (⟨1,0,[[1],[0]],[[1],[2]]⟩:zaa)).bind fun b6=>cond (b6) (cond (a2.2.1) (cond (decide (a2.2.2=0)) ((zgw a6.1 (⟨1,0,[[1],[0]],[[1],[2]]⟩:zaa)).bind fun b7=>cond (b7) (cond (decide (a6.2=0)) ((zgr b2.1 [1,2,1,2,1]).bind fun b8=>cond (b8) (cond (b2.2) ((zcb b3.1 [[1,1],[0,0,1],[0,1,1]]).bind fun b9=>cond (b9) (cond (decide (b3.2=0)) ((zcb a7.1.Next [[1],[2],[2]]).bind fun a8=>cond (a8) ((zcb a7.1.Out [[1],[2],[7]]).bind fun b0=>cond (b0) (some (decide (a7.2=0))) (some false)) (some false)) (some false)) (some false)) (some false)) (some false)) (some false)) (some false)) (some false)) (some false)) (some false)) (some false)) (some false)) (some false)) (some false):Option (Bool)).bind (fun (c0:Bool)=>some c0)
def ze5.s2 (l_:List (List Int)) (w_:List Int) (low84:Nat) (high85:Nat):Option ((Nat×Nat)⊕Nat) :=
 cond (decide ((↑low84:Int)<(↑high85:Int))) (chk (inR ((↑low84:Int)+(↑high85:Int))) (chk (inR (((↑low84:Int)+(↑high85:Int)) / 2)∧(0:Int)≤((↑low84:Int)+(↑high85:Int))∧(1:Int)≤2) (idxn l_ ((low84+high85) / 2) fun a1=>(zf9 a1 w_).bind fun a2=>cond (decide (a2<0)) (chk (inR ((((↑low84:Int)+(↑high85:Int)) / 2)+1)) (some (.inl ((((low84+high85) / 2)+1),high85)))) (some (.inl (low84,((low84+high85) / 2))))))) (some (.inr low84))
def ze5 (l_:List (List Int)) (w_:List Int):Option (Int) :=
 (iter (fun (s:Nat×Nat)=>ze5.s2 l_ w_ s.1 s.2) fuel (0,l_.length):Option (Nat)).bind (fun (low77:Nat)=>some (↑low77:Int))
def zfk.s2 (a7:Int) (a2:List (List Int)) (a1:Int):Option ((List (List Int)×Int)⊕List (List Int)) :=
 cond (decide (a7<a1)) (chk (inR (a1-1)) (idx a2 (a1-1) fun a6=>idx a2 a1 fun a8=>chk (inR (a1-1)) (some (.inl ((List.set a2 a1.toNat a6),(a1-1)))))) (some (.inr a2))
def zfk (l_:List (List Int)) (w_:List Int):Option (List (List Int)) :=
 (ze5 l_ w_).bind fun a1=>(cond (decide (a1<(↑l_.length:Int))) (idx l_ a1 fun a6=>(zgr a6 w_).bind fun a7=>some a7) (some false):Option (Bool)).bind (fun (a8:Bool)=>cond (a8) (some l_) (chk (za0 (List.length l_+1) 24) (chk (inR ((↑(List.length (l_++[[]])):Int)-1)) ((iter (fun (s:List (List Int)×Int)=>zfk.s2 a1 s.1 s.2) fuel ((l_++[[]]),((↑(List.length (l_++[[]])):Int)-1)):Option (List (List Int))).bind (fun (a2:List (List Int))=>chk (za0 (List.length ([]:List Unit)+List.length w_) 8) (idx a2 a1 fun b0=>some (List.set a2 a1.toNat ([]++w_))))))))
def zb6.s13 (l_:List (List Int)) (a2:Nat) (a6:List (List Int)) (a1:Nat):Option ((List (List Int)×Nat)⊕List (List Int)) :=
 idxn l_ a2 fun a8=>cond (decide ((↑a1:Int)≤(↑a8.length:Int))) (idxn l_ a2 fun a7=>chk ((0:Int)≤(↑a1:Int)∧(↑a1:Int)≤(↑a7.length:Int)) ((zfk a6 (List.take a1 a7)).bind fun b0=>chk (inR ((↑a1:Int)+1)) (some (.inl (b0,(a1+1)))))) (some (.inr a6))
def zb6.s14 (l_:List (List Int)) (a2:List (List Int)) (a1:Nat):Option ((List (List Int)×Nat)⊕List (List Int)) :=
 cond (decide ((↑a1:Int)<(↑l_.length:Int))) ((iter (fun (s:List (List Int)×Nat)=>zb6.s13 l_ a1 s.1 s.2) fuel (a2,0):Option (List (List Int))).bind (fun (a6:List (List Int))=>some (.inl (a6,(a1+1))))) (some (.inr a2))
def zb6 (l_:List (List Int)):Option (List (List Int)) :=
 (iter (fun (s:List (List Int)×Nat)=>zb6.s14 l_ s.1 s.2) fuel ([],0):Option (List (List Int))).bind (fun (a1:List (List Int))=>some a1)
def zfa.s2 (l_:List (List Int)) (w_:List Int) (a1:Nat):Option (Nat⊕Nat) :=
 (cond (decide ((↑a1:Int)<(↑l_.length:Int))) (idxn l_ a1 fun a2=>(zgr a2 w_).bind fun a6=>some (!a6)) (some false):Option (Bool)).bind (fun (a7:Bool)=>cond (a7) (chk (inR ((↑a1:Int)+1)) (some (.inl (a1+1)))) (some (.inr a1)))
def zfa (l_:List (List Int)) (w_:List Int):Option (Int) :=
 (iter (fun (s:Nat)=>zfa.s2 l_ w_ s) fuel 0:Option (Nat)).bind (fun (a1:Nat)=>some (↑a1:Int))
def zca.s18 (inputs_:Int) (a1:List Int) (a2:List Int) (a6:Nat):Option ((List Int×List Int×Nat)⊕(List Int×List Int)) :=
 cond (decide ((↑a6:Int)<inputs_)) (chk (za0 (List.length a1+1) 8) (chk (za0 (List.length a2+1) 8) (chk (inR ((↑a6:Int)+1)) (some (.inl ((a1++[(-1:Int)]),(a2++[(-1:Int)]),(a6+1))))))) (some (.inr (a1,a2)))
def zca.k19 (a1:List (List Int)) (a2:List (List Int)) (a6:Nat) (a7:List Int) (a8:List Int):Option ((List (List Int)×List (List Int)×Nat)⊕(List (List Int)×List (List Int))) :=
 chk (za0 (List.length a1+List.length [a7]) 24) (chk (za0 (List.length a2+List.length [a8]) 24) (chk (inR ((↑a6:Int)+1)) (some (.inl ((a1++[a7]),(a2++[a8]),(a6+1))))))
def zca.s20 (inputs_:Int) (states_:Int) (a1:List (List Int)) (a2:List (List Int)) (a6:Nat):Option ((List (List Int)×List (List Int)×Nat)⊕(List (List Int)×List (List Int))) :=
 cond (decide ((↑a6:Int)<states_)) ((iter (fun (s:List Int×List Int×Nat)=>zca.s18 inputs_ s.1 s.2.1 s.2.2) fuel ([],[],0):Option (List Int×List Int)).bind (fun (s:List Int×List Int)=>zca.k19 a1 a2 a6 s.1 s.2)) (some (.inr (a1,a2)))
def zca.k21 (inputs_:Int) (a1:List (List Int)) (a2:List (List Int)):Option (zaa) :=
 some (⟨inputs_,0,a1,a2⟩:zaa)
def zca (inputs_:Int) (states_:Int):Option (zaa) :=
 (iter (fun (s:List (List Int)×List (List Int)×Nat)=>zca.s20 inputs_ states_ s.1 s.2.1 s.2.2) fuel ([],[],0):Option (List (List Int)×List (List Int))).bind (fun (s:List (List Int)×List (List Int))=>zca.k21 inputs_ s.1 s.2)
def zbv.s2 (o_:zav) (a1:List (List Int)) (a2:Nat):Option ((List (List Int)×Nat)⊕List (List Int)) :=
 cond (decide ((↑a2:Int)<(↑o_.Traces.length:Int))) (idxn o_.Traces a2 fun a6=>chk (za0 (List.length a1+1) 24) (some (.inl ((a1++[a6.In]),(a2+1))))) (some (.inr a1))
def zbv.s20 (b6:List (List Int)) (a2:zag) (a7:List (List Int)) (a8:List (List Int)) (a1:Nat):Option ((List (List Int)×List (List Int)×Nat)⊕(List (List Int)×List (List Int))) :=
 cond (decide ((↑a1:Int)<(↑a2.In.length:Int))) (chk ((0:Int)≤(↑a1:Int)∧(↑a1:Int)≤(↑a2.In.length:Int)) ((zfa b6 (List.take a1 a2.In)).bind fun a6=>idx a7 a6 fun b0=>idxn a2.In a1 fun b1=>chk ((0:Int)≤((↑a1:Int)+1)∧((↑a1:Int)+1)≤(↑a2.In.length:Int)) ((zfa b6 (List.take (a1+1) a2.In)).bind fun b4=>idx b0 b1 fun b7=>idx a8 a6 fun b2=>idxn a2.In a1 fun b3=>idxn a2.Out a1 fun b5=>idx b2 b3 fun b8=>some (.inl ((List.set a7 (Int.toNat a6) (List.set b0 (Int.toNat b1) b4)),(List.set a8 (Int.toNat a6) (List.set b2 (Int.toNat b3) b5)),(a1+1)))))) (some (.inr (a7,a8)))
def zbv.k21 (a1:Nat) (a2:List (List Int)) (a6:List (List Int)):Option ((List (List Int)×List (List Int)×Nat)⊕(List (List Int)×List (List Int))) :=
 some (.inl (a2,a6,(a1+1)))
def zbv.s22 (o_:zav) (a8:List (List Int)) (a2:List (List Int)) (a6:List (List Int)) (a1:Nat):Option ((List (List Int)×List (List Int)×Nat)⊕(List (List Int)×List (List Int))) :=
 cond (decide ((↑a1:Int)<(↑o_.Traces.length:Int))) (idxn o_.Traces a1 fun a7=>(iter (fun (s:List (List Int)×List (List Int)×Nat)=>zbv.s20 a8 a7 s.1 s.2.1 s.2.2) fuel (a2,a6,0):Option (List (List Int)×List (List Int))).bind (fun (s:List (List Int)×List (List Int))=>zbv.k21 a1 s.1 s.2)) (some (.inr (a2,a6)))
def zbv.k23 (a6:zaa) (a1:List (List Int)) (a2:List (List Int)):Option (zaa×Int) :=
 some ((⟨a6.Inputs,a6.Start,a1,a2⟩:zaa),0)
def zbv (o_:zav):Option (zaa×Int) :=
 (iter (fun (s:List (List Int)×Nat)=>zbv.s2 o_ s.1 s.2) fuel ([[]],0):Option (List (List Int))).bind (fun (a6:List (List Int))=>(zb6 a6).bind fun a1=>cond (decide (4096<(↑a1.length:Int))) (some ((⟨0,0,[],[]⟩:zaa),11)) ((zca o_.Inputs (↑a1.length:Int)).bind fun a2=>(iter (fun (s:List (List Int)×List (List Int)×Nat)=>zbv.s22 o_ a1 s.1 s.2.1 s.2.2) fuel (a2.Next,a2.Out,0):Option (List (List Int)×List (List Int))).bind (fun (s:List (List Int)×List (List Int))=>zbv.k23 a2 s.1 s.2)))
def zc7.s2 (l_:List Int) (n_:Int) (a1:Nat):Option (Nat⊕Nat) :=
 (cond (decide ((↑a1:Int)<(↑l_.length:Int))) (idxn l_ a1 fun a2=>some (decide (a2≠n_))) (some false):Option (Bool)).bind (fun (a6:Bool)=>cond (a6) (chk (inR ((↑a1:Int)+1)) (some (.inl (a1+1)))) (some (.inr a1)))
def zc7 (l_:List Int) (n_:Int):Option (Int) :=
 (iter (fun (s:Nat)=>zc7.s2 l_ n_ s) fuel 0:Option (Nat)).bind (fun (a1:Nat)=>some (↑a1:Int))
def zcp.s13 (p_:zaa) (red_:List Bool) (a2:Nat) (is377:Bool) (a1:Nat):Option ((Bool×Nat)⊕Bool) :=
 cond (decide ((↑a1:Int)<(↑red_.length:Int))) (cond (is377) (some (.inl (true,(a1+1)))) (idxn red_ a1 fun a6=>cond (a6) (idxn p_.Next a1 fun a7=>(zc7 a7 (↑a2:Int)).bind fun a8=>some (.inl (decide (a8<p_.Inputs),(a1+1)))) (some (.inl (false,(a1+1)))))) (some (.inr is377))
def zcp.s14 (p_:zaa) (red_:List Bool) (a2:List Int) (a1:Nat):Option ((List Int×Nat)⊕List Int) :=
 cond (decide ((↑a1:Int)<(↑red_.length:Int))) ((iter (fun (s:Bool×Nat)=>zcp.s13 p_ red_ a1 s.1 s.2) fuel (false,0):Option (Bool)).bind (fun (is371:Bool)=>(cond (is371) (idxn red_ a1 fun a6=>some (!a6)) (some false):Option (Bool)).bind (fun (a7:Bool)=>cond (a7) (chk (za0 (List.length a2+1) 8) (some (.inl ((a2++[(↑a1:Int)]),(a1+1))))) (some (.inl (a2,(a1+1))))))) (some (.inr a2))
def zcp (p_:zaa) (red_:List Bool):Option (List Int) :=
 (iter (fun (s:List Int×Nat)=>zcp.s14 p_ red_ s.1 s.2) fuel ([],0):Option (List Int)).bind (fun (a1:List Int)=>some a1)
def zer.s2 (p_:zaa) (class_:List Int) (c_:Int) (a_:Int) (a1:Nat):Option (Nat⊕(Unit⊕Int)) :=
 cond (decide ((↑a1:Int)<(↑class_.length:Int))) ((idxn class_ a1 fun a2=>cond (decide (a2=c_)) (idxn p_.Next a1 fun a6=>idx a6 a_ fun a7=>some (decide (a7≠(-1:Int)))) (some false):Option (Bool)).bind (fun (a8:Bool)=>cond (a8) (some (.inr (.inr (↑a1:Int)))) (some (.inl (a1+1))))) (some (.inr (.inl ())))
def zer (p_:zaa) (class_:List Int) (c_:Int) (a_:Int):Option (Int) :=
 (iter (fun (s:Nat)=>zer.s2 p_ class_ c_ a_ s) fuel 0:Option (Unit⊕Int)).bind (Sum.elim (fun (_:Unit)=>some (-1:Int)) some)
def zbh.k53 (a1:Nat) (a2:List Int) (a6:List Int) (a7:List Int):Option ((List Int×List Int×List Int×Nat)⊕(List Int×List Int×List Int)) :=
 chk (inR ((↑a1:Int)+1)) (some (.inl (a2,a6,a7,(a1+1))))
def zbh.s54 (p_:zaa) (class_:List Int) (b2:Nat) (a1:List Int) (a2:List Int) (a6:List Int) (a7:Nat):Option ((List Int×List Int×List Int×Nat)⊕(List Int×List Int×List Int)) :=
 cond (decide ((↑a7:Int)<p_.Inputs)) ((idxn a1 b2 fun b3=>(zer p_ class_ b3 (↑a7:Int)).bind fun a8=>cond (decide (a8=(-1:Int))) (chk (za0 (List.length a2+1) 8) (chk (za0 (List.length a6+1) 8) (some (a1,(a2++[(-1:Int)]),(a6++[(-1:Int)]))))) (idx p_.Next a8 fun b4=>idxn b4 a7 fun b5=>idx class_ b5 fun b0=>((zc7 a1 b0).bind fun b6=>cond (decide (b6=(↑a1.length:Int))) (chk (za0 (List.length a1+1) 8) (some (a1++[b0]))) (some a1):Option (List Int)).bind (fun (b1:List Int)=>(zc7 b1 b0).bind fun b7=>chk (za0 (List.length a2+1) 8) (idx p_.Out a8 fun b8=>idxn b8 a7 fun b9=>chk (za0 (List.length a6+1) 8) (some (b1,(a2++[b7]),(a6++[b9])))))):Option (List Int×List Int×List Int)).bind (fun (s:List Int×List Int×List Int)=>zbh.k53 a7 s.1 s.2.1 s.2.2)) (some (.inr (a1,a2,a6)))
def zbh.k55 (a1:List (List Int)) (a2:List (List Int)) (a6:Nat) (a7:List Int) (a8:List Int) (b0:List Int):Option ((List Int×List (List Int)×List (List Int)×Nat)⊕(List Int×List (List Int)×List (List Int))) :=
 chk (za0 (List.length a1+1) 24) (chk (za0 (List.length a2+1) 24) (some (.inl (a7,(a1++[a8]),(a2++[b0]),(a6+1)))))
def zbh.s56 (p_:zaa) (class_:List Int) (a1:List Int) (a6:List (List Int)) (a7:List (List Int)) (a2:Nat):Option ((List Int×List (List Int)×List (List Int)×Nat)⊕(List Int×List (List Int)×List (List Int))) :=
 cond (decide ((↑a2:Int)<(↑a1.length:Int))) ((iter (fun (s:List Int×List Int×List Int×Nat)=>zbh.s54 p_ class_ a2 s.1 s.2.1 s.2.2.1 s.2.2.2) fuel (a1,[],[],0):Option (List Int×List Int×List Int)).bind (fun (s:List Int×List Int×List Int)=>zbh.k55 a6 a7 a2 s.1 s.2.1 s.2.2)) (some (.inr (a1,a6,a7)))
def zbh.k57 (p_:zaa) (a1:List Int) (a2:List (List Int)) (a6:List (List Int)):Option (zaa×List Int) :=
 some ((⟨p_.Inputs,0,a2,a6⟩:zaa),a1)
def zbh (p_:zaa) (class_:List Int):Option (zaa×List Int) :=
 idx class_ p_.Start fun a1=>(iter (fun (s:List Int×List (List Int)×List (List Int)×Nat)=>zbh.s56 p_ class_ s.1 s.2.1 s.2.2.1 s.2.2.2) fuel ([a1],[],[],0):Option (List Int×List (List Int)×List (List Int))).bind (fun (s:List Int×List (List Int)×List (List Int))=>zbh.k57 p_ s.1 s.2.1 s.2.2)
def zeg.s2 (red_:List Bool) (class_:List Int) (l_:List Int) (a2:List Bool) (a1:Nat):Option ((List Bool×Nat)⊕List Bool) :=
 cond (decide ((↑a1:Int)<(↑red_.length:Int))) (idxn red_ a1 fun a7=>cond (a7) (idxn class_ a1 fun a8=>(zc7 l_ a8).bind fun a6=>idx a2 a6 fun b0=>some (.inl ((List.set a2 a6.toNat true),(a1+1)))) (some (.inl (a2,(a1+1))))) (some (.inr a2))
def zeg (red_:List Bool) (class_:List Int) (l_:List Int):Option (List Bool) :=
 chk ((0:Int)≤(↑l_.length:Int)∧(↑l_.length:Int)≤(↑l_.length:Int)∧za0 (Int.toNat (↑l_.length:Int)) 1) ((iter (fun (s:List Bool×Nat)=>zeg.s2 red_ class_ l_ s.1 s.2) fuel ((List.replicate l_.length false),0):Option (List Bool)).bind (fun (a1:List Bool)=>some a1))
def ze9.s2 (a6:Int) (a7:Int) (a8:Int) (b0:Int) (a1:List Int) (a2:Nat):Option ((List Int×Nat)⊕List Int) :=
 cond (decide ((↑a2:Int)<(↑a1.length:Int))) (idxn a1 a2 fun b1=>cond (decide (b1=(max a8 b0))) (idxn a1 a2 fun b2=>some (.inl ((List.set a1 a2 (min a6 a7)),(a2+1)))) (some (.inl (a1,(a2+1))))) (some (.inr a1))
def ze9 (class_:List Int) (s_:Int) (t_:Int):Option (List Int) :=
 idx class_ s_ fun a1=>idx class_ t_ fun a2=>idx class_ s_ fun a6=>idx class_ t_ fun a7=>(iter (fun (s:List Int×Nat)=>ze9.s2 a1 a2 a6 a7 s.1 s.2) fuel (class_,0):Option (List Int)).bind (fun (a8:List Int)=>some a8)
def zao.s2 (p_:zaa) (a2:List Int) (a1:Nat):Option ((List Int×Nat)⊕List Int) :=
 cond (decide ((↑a1:Int)<(↑p_.Next.length:Int))) (idxn a2 a1 fun a6=>some (.inl ((List.set a2 a1 (↑a1:Int)),(a1+1)))) (some (.inr a2))
def zao.s196 (p_:zaa) (a2:List Int) (a1:Nat):Option ((List Int×Nat)⊕List Int) :=
 cond (decide ((↑a1:Int)<(↑p_.Next.length:Int))) (idxn a2 a1 fun a6=>some (.inl ((List.set a2 a1 (-1:Int)),(a1+1)))) (some (.inr a2))
def zao.s198 (p_:zaa) (a6:List Int) (more12838:Bool) (a2:Nat) (a7:List Int) (a1:Nat):Option ((List Int×Nat)⊕((List Int×Bool)⊕((List Int×Bool×Nat)⊕((List Int×Bool)⊕((List Int×Bool)⊕(List Int⊕(List Int×Bool))))))) :=
 cond (decide ((↑a1:Int)<(↑p_.Next.length:Int))) ((idxn p_.Next a1 fun b1=>idxn b1 a2 fun b2=>cond (decide (b2=(-1:Int))) (some (.inl a7)) (idxn a6 a1 fun b3=>idx a7 b3 fun a8=>cond (decide (a8=(-1:Int))) (idxn a6 a1 fun b0=>idx a7 b0 fun d2=>some (.inl (List.set a7 b0.toNat (↑a1:Int)))) (idx p_.Out a8 fun b4=>idxn b4 a2 fun b5=>idxn p_.Out a1 fun b6=>idxn b6 a2 fun b7=>cond (decide (b5≠b7)) (some (.inr (.inr (.inr (.inr (.inr (.inr (.inr ([],false))))))))) (idx p_.Next a8 fun b8=>idxn b8 a2 fun b9=>idx a6 b9 fun c0=>idxn p_.Next a1 fun c3=>idxn c3 a2 fun c4=>idx a6 c4 fun c5=>cond (decide (c0≠c5)) (idx p_.Next a8 fun c6=>idxn c6 a2 fun c7=>idxn p_.Next a1 fun c8=>idxn c8 a2 fun c9=>(ze9 a6 c7 c9).bind fun d0=>some (.inr (.inr (.inl (d0,true))))) (some (.inl a7))))):Option (List Int⊕((List Int×Nat)⊕((List Int×Bool)⊕((List Int×Bool×Nat)⊕((List Int×Bool)⊕((List Int×Bool)⊕(List Int⊕(List Int×Bool))))))))).bind (Sum.elim (fun (d1:List Int)=>some (.inl (d1,(a1+1)))) some)) (some (.inr (.inl (a6,more12838))))
def zao.k199 (a1:Nat) (a2:List Int) (more13414:Bool):Option ((List Int×Bool×Nat)⊕((List Int×Bool)⊕((List Int×Bool)⊕(List Int⊕(List Int×Bool))))) :=
 chk (inR ((↑a1:Int)+1)) (some (.inl (a2,more13414,(a1+1))))
def zao.s200 (p_:zaa) (a2:List Int) (more12838:Bool) (a1:Nat):Option ((List Int×Bool×Nat)⊕((List Int×Bool)⊕((List Int×Bool)⊕(List Int⊕(List Int×Bool))))) :=
 cond (decide ((↑a1:Int)<p_.Inputs)) (chk ((0:Int)≤(↑p_.Next.length:Int)∧(↑p_.Next.length:Int)≤(↑p_.Next.length:Int)∧za0 (Int.toNat (↑p_.Next.length:Int)) 8) ((iter (fun (s:List Int×Nat)=>zao.s196 p_ s.1 s.2) fuel ((List.replicate p_.Next.length (0:Int)),0):Option (List Int)).bind (fun (a6:List Int)=>(iter (fun (s:List Int×Nat)=>zao.s198 p_ a2 more12838 a1 s.1 s.2) fuel (a6,0):Option ((List Int×Bool)⊕((List Int×Bool×Nat)⊕((List Int×Bool)⊕((List Int×Bool)⊕(List Int⊕(List Int×Bool))))))).bind (Sum.elim (fun (s:List Int×Bool)=>zao.k199 a1 s.1 s.2) some)))) (some (.inr (.inl (a2,more12838))))
def zao.k201 (a1:List Int) (more12464:Bool):Option ((List Int×Bool)⊕(List Int⊕(List Int×Bool))) :=
 some (.inl (a1,more12464))
def zao.s202 (p_:zaa) (a1:List Int) (more9085:Bool):Option ((List Int×Bool)⊕(List Int⊕(List Int×Bool))) :=
 cond (more9085) ((iter (fun (s:List Int×Bool×Nat)=>zao.s200 p_ s.1 s.2.1 s.2.2) fuel (a1,false,0):Option ((List Int×Bool)⊕((List Int×Bool)⊕(List Int⊕(List Int×Bool))))).bind (Sum.elim (fun (s:List Int×Bool)=>zao.k201 s.1 s.2) some)) (some (.inr (.inl a1)))
def zao (p_:zaa) (s_:Int) (t_:Int):Option (List Int×Bool) :=
 chk ((0:Int)≤(↑p_.Next.length:Int)∧(↑p_.Next.length:Int)≤(↑p_.Next.length:Int)∧za0 (Int.toNat (↑p_.Next.length:Int)) 8) ((iter (fun (s:List Int×Nat)=>zao.s2 p_ s.1 s.2) fuel ((List.replicate p_.Next.length (0:Int)),0):Option (List Int)).bind (fun (a2:List Int)=>(ze9 a2 s_ t_).bind fun a6=>(iter (fun (s:List Int×Bool)=>zao.s202 p_ s.1 s.2) fuel (a6,true):Option (List Int⊕(List Int×Bool))).bind (Sum.elim (fun (a1:List Int)=>some (a1,true)) some)))
def za9.k53 (a1:Nat) (a2:Int) (a6:Int) (a7:List (List Int)) (a8:List (List Int)) (b0:List Bool) (done1583:Bool):Option ((Int×Int×List (List Int)×List (List Int)×List Bool×Bool×Nat)⊕(Int×Int×List (List Int)×List (List Int)×List Bool×Bool)) :=
 chk (inR ((↑a1:Int)+1)) (some (.inl (a2,a6,a7,a8,b0,done1583,(a1+1))))
def za9.s54 (b3:List Int) (a2:Int) (a6:Int) (a7:List (List Int)) (a8:List (List Int)) (a1:List Bool) (done1521:Bool) (b1:Nat):Option ((Int×Int×List (List Int)×List (List Int)×List Bool×Bool×Nat)⊕(Int×Int×List (List Int)×List (List Int)×List Bool×Bool)) :=
 (cond (decide ((↑b1:Int)<(↑a1.length:Int))) (some (!done1521)) (some false):Option (Bool)).bind (fun (b4:Bool)=>cond (b4) ((idxn a1 b1 fun b5=>cond ((!b5)) (some (a2,a6,a7,a8,a1,done1521)) (idxn b3 0 fun b6=>(zao (⟨a2,a6,a7,a8⟩:zaa) (↑b1:Int) b6).bind fun b2=>cond (b2.2) ((zbh (⟨a2,a6,a7,a8⟩:zaa) b2.1).bind fun b0=>(zeg a1 b2.1 b0.2).bind fun b7=>some (b0.1.Inputs,b0.1.Start,b0.1.Next,b0.1.Out,b7,true)) (some (a2,a6,a7,a8,a1,done1521))):Option (Int×Int×List (List Int)×List (List Int)×List Bool×Bool)).bind (fun (s:Int×Int×List (List Int)×List (List Int)×List Bool×Bool)=>za9.k53 b1 s.1 s.2.1 s.2.2.1 s.2.2.2.1 s.2.2.2.2.1 s.2.2.2.2.2)) (some (.inr (a2,a6,a7,a8,a1,done1521))))
def za9.k55 (b1:List Int) (a2:Int) (a6:Int) (a7:List (List Int)) (a8:List (List Int)) (a1:List Bool) (done1480:Bool):Option ((Int×Int×List (List Int)×List (List Int)×List Bool×List Int)⊕(Int×Int×List (List Int)×List (List Int))) :=
 cond ((!done1480)) (idxn b1 0 fun b0=>idx a1 b0 fun b4=>(zcp (⟨a2,a6,a7,a8⟩:zaa) (List.set a1 b0.toNat true)).bind fun b2=>some (.inl (a2,a6,a7,a8,(List.set a1 b0.toNat true),b2))) ((zcp (⟨a2,a6,a7,a8⟩:zaa) a1).bind fun b3=>some (.inl (a2,a6,a7,a8,a1,b3)))
def za9.s56 (a2:Int) (a6:Int) (a7:List (List Int)) (a8:List (List Int)) (b0:List Bool) (a1:List Int):Option ((Int×Int×List (List Int)×List (List Int)×List Bool×List Int)⊕(Int×Int×List (List Int)×List (List Int))) :=
 cond (decide (0<(↑a1.length:Int))) ((iter (fun (s:Int×Int×List (List Int)×List (List Int)×List Bool×Bool×Nat)=>za9.s54 a1 s.1 s.2.1 s.2.2.1 s.2.2.2.1 s.2.2.2.2.1 s.2.2.2.2.2.1 s.2.2.2.2.2.2) fuel (a2,a6,a7,a8,b0,false,0):Option (Int×Int×List (List Int)×List (List Int)×List Bool×Bool)).bind (fun (s:Int×Int×List (List Int)×List (List Int)×List Bool×Bool)=>za9.k55 a1 s.1 s.2.1 s.2.2.1 s.2.2.2.1 s.2.2.2.2.1 s.2.2.2.2.2)) (some (.inr (a2,a6,a7,a8)))
def za9.k57 (a1:Int) (a2:Int) (a6:List (List Int)) (a7:List (List Int)):Option (zaa×Int) :=
 some ((⟨a1,a2,a6,a7⟩:zaa),0)
def za9 (o_:zav):Option (zaa×Int) :=
 (zbv o_).bind fun a1=>cond (decide (a1.2≠0)) (some ((⟨0,0,[],[]⟩:zaa),a1.2)) (chk ((0:Int)≤(↑a1.1.Next.length:Int)∧(↑a1.1.Next.length:Int)≤(↑a1.1.Next.length:Int)∧za0 (Int.toNat (↑a1.1.Next.length:Int)) 1) (idxn (List.replicate a1.1.Next.length false) 0 fun a6=>(zcp a1.1 (List.set (List.replicate a1.1.Next.length false) 0 true)).bind fun a2=>(iter (fun (s:Int×Int×List (List Int)×List (List Int)×List Bool×List Int)=>za9.s56 s.1 s.2.1 s.2.2.1 s.2.2.2.1 s.2.2.2.2.1 s.2.2.2.2.2) fuel (a1.1.Inputs,a1.1.Start,a1.1.Next,a1.1.Out,(List.set (List.replicate a1.1.Next.length false) 0 true),a2):Option (Int×Int×List (List Int)×List (List Int))).bind (fun (s:Int×Int×List (List Int)×List (List Int))=>za9.k57 s.1 s.2.1 s.2.2.1 s.2.2.2)))
def zez (o_:zav):Option (Bool) :=
 ((zes o_).bind fun a8=>cond (a8) (some true) ((zeo o_).bind fun b0=>some (decide (b0≠0))):Option (Bool)).bind (fun (b1:Bool)=>cond (b1) ((ziw).bind fun b2=>some b2) ((za3 o_).bind fun a1=>(zbv o_).bind fun a2=>(zcn o_).bind fun a6=>(za9 o_).bind fun a7=>((zgw a1.1 a2.1).bind fun b3=>cond (b3) (cond (decide (a1.2=a2.2)) ((zgw a6.1 a7.1).bind fun b4=>cond (b4) (cond (decide (a6.2=a7.2)) ((ziw).bind fun b5=>some b5) (some false)) (some false)) (some false)) (some false):Option (Bool)).bind (fun (b6:Bool)=>some b6)))
end
section
section
variable {S R A B α β:Type}
theorem za8 {step:S→Option (S⊕R)} (I:S→Prop) (m:S→Nat) (Q:R→Prop) (h:∀ s,I s→(∃ s',step s=some (.inl s')∧I s'∧m s'<m s)∨∃ r,step s=some (.inr r)∧Q r) :
  ∀ (n:Nat) (s:S),I s→m s<n→∃ r,iter step n s=some r∧Q r
 | 0,_,_,hm=>absurd hm (Nat.not_lt_zero _)
 | n+1,s,hi,hm=>by
  unfold iter;rcases h s hi with ⟨s',e,hi',hm'⟩ | ⟨r,e,hq⟩
  ·rw [e];exact za8 I m Q h n s' hi' (by omega)
  ·rw [e];exact ⟨r,rfl,hq⟩
theorem zkm {step:S→Option (S⊕R)} {r:R} (I:S→Prop) (m:S→Nat) (h:∀ s,I s→(∃ s',step s=some (.inl s')∧I s'∧m s'<m s)∨step s=some (.inr r)) {n:Nat} {s:S} (hi:I s) (hm:m s<n):iter step n s=some r:=by
 obtain ⟨r',e,rfl⟩:=za8 I m (fun r'=>r'=r) (fun s hs=>(h s hs).imp id fun e=>⟨r,e,rfl⟩) n s hi hm;exact e
def walk (g:A→Nat→α→Option (A⊕R)) (fin:A→Option R):A→Nat→List α→Option R
 | a,_,[]=>fin a
 | a,i,x::l=>(g a i x).bind (Sum.elim (fun a'=>walk g fin a' (i+1) l) some)
theorem zas {l:List α} {i:Nat} {x:α} {k:α→Option β} (h:l[i]?=some x):idxn l i k=k x:=by unfold idxn;rw [h]
theorem zb5 {l:List α} {n:Int} {i:Nat} {x:α} {k:α→Option β} (hn:n=(i:Int)) (h:l[i]?=some x):idx l n k=k x:=by
 subst hn;unfold idx;rw [if_pos (by omega),Int.toNat_natCast,h]
theorem za5 {c:Prop} [Decidable c] {k:Option α} (h:c):chk c k=k:=by unfold chk;rw [if_pos h]
theorem zau {a:α} {f:α→Option β}:(some a).bind f=f a:=(Option.bind_some a f).trans (Eq.trans rfl rfl)
theorem zbg:100000000000000<fuel:=by unfold fuel;omega
theorem zen {l:List α} {i:Nat} {x:α} (h:l[i]?=some x):decide ((↑i:Int)<(↑l.length:Int))=true:=by
 have:=(zkI.1 h).1;simpa using this
theorem zh4 (l:List α):decide ((↑l.length:Int)<(↑l.length:Int))=false:=by simp
def scan (g:Nat→α→Option R):Nat→List α→Option R
 | _,[]=>none
 | i,x::l=>match g i x with | some r=>some r | none=>scan g (i+1) l
theorem zh8 {g:Nat→α→Option R}:∀ {l:List α} {j:Nat},scan g j l=none↔∀ i x,l[i]?=some x→g (j+i) x=none
 | [],j=>by simp [scan]
 | y::l,j=>by
  constructor
  ·intro h i x hx;unfold scan at h;cases e:g j y with
   | some r=>rw [e] at h;cases h
   | none =>
    rw [e] at h
    match i,hx with
    | 0,hx =>
     simp at hx;subst hx;exact e
    | i+1,hx =>
     have:=(zh8 (g:=g) (l:=l) (j:=j+1)).1 h i x (by simpa using hx)
     rwa [show j+1+i=j+(i+1) by omega] at this
  ·intro h;unfold scan;have h0:=h 0 y rfl;rw [Nat.add_zero] at h0;rw [h0]
   exact (zh8 (g:=g) (l:=l) (j:=j+1)).2 fun i x hx=>by
    have:=h (i+1) x (by simpa using hx)
    rwa [show j+(i+1)=j+1+i by omega] at this
theorem zgd {step:Nat→Option (Nat⊕(Unit⊕R))} {l:List α} (g:Nat→α→Option R) (h1:∀ i x,l[i]?=some x→step i=some (match g i x with | some r=>.inr (.inr r) | none=>.inl (i+1))) (h2:step l.length=some (.inr (.inl ()))) (hl:l.length≤100000000000000) :
  iter step fuel 0=some (match scan g 0 l with | some r=>.inr r | none=>.inl ()):=by
 have key:∀ (n i:Nat),i≤l.length→l.length-i<n→iter step n i=some (match scan g i (l.drop i) with | some r=>.inr r | none=>.inl ()):=by
  intro n
  induction n with
  | zero=>intro i _ h;omega
  | succ n ih =>
   intro i hi hn;rcases Nat.lt_or_ge i l.length with h | h
   ·rw [List.drop_eq_getElem_cons h];unfold iter scan;rw [h1 i _ (zkM h)];cases g i l[i] with
    | some r=>rfl
    | none=>exact ih (i+1) h (by omega)
   ·have e:i=l.length:=by omega
    subst e;rw [List.drop_length];unfold iter scan;rw [h2]
 exact key fuel 0 (Nat.zero_le _) (by have:=zbg;omega)
end
end
section
open Go.RowKit
theorem zhg (x y:Int):cmp_Compare_int x y=some (cmpI x y):=by
 unfold cmp_Compare_int cmp_isNaN_int cmpI;by_cases h1:x<y
 ·simp [h1]
 ·by_cases h2:y<x<;>simp [h1,h2]
theorem zio (s t:List Int) (hs:s.length≤100000000000000):zbf s t=some (lexI s t):=by
 have key:=za8 (step:=fun k=>zbf.s2 s t k) (fun k=>k≤s.length∧k≤t.length∧lexI s t=lexI (s.drop k) (t.drop k)) (fun k=>s.length-k)
  (fun r=>Sum.elim (fun (_:Unit)=>cond (decide ((↑s.length:Int)<(↑t.length:Int))) (some (-1:Int)) (some 0)) some r=some (lexI s t)) (fun k ⟨h1,h2,h3⟩=>by
   unfold zbf.s2
   rcases Nat.lt_or_ge k s.length with h | h
   ·have hx:=zkM h
    rw [zen hx,zkD,zas hx]
    by_cases h4:t.length≤k
    ·right
     refine ⟨.inr 1,by simp [h4],?_⟩
     rw [h3,lexI_long h h4]
     rfl
    ·have hy:=zkM (show k<t.length by omega)
     have hst:=lexI_step hx hy
     have d4:decide ((↑t.length:Int)≤(↑k:Int))=false:=by simp;omega
     rw [d4,zkC,zas hy,zhg]
     by_cases h5:cmpI s[k] t[k]=0
     ·left
      rw [if_pos h5] at hst
      exact ⟨k+1,by simp [h5],⟨by omega,by omega,by rw [h3,hst]⟩,by omega⟩
     ·right
      rw [if_neg h5] at hst
      exact ⟨.inr (cmpI s[k] t[k]),by simp [h5],by rw [h3,hst];rfl⟩
   ·right
    have e:k=s.length:=by omega
    subst e
    rw [zh4,zkC]
    refine ⟨.inl (),rfl,?_⟩
    rw [h3,lexI_end (Nat.le_refl _)]
    by_cases h4:s.length<t.length<;>simp [h4]) fuel 0 ⟨Nat.zero_le _,Nat.zero_le _,rfl⟩ (by have:=zbg;simp only [Nat.sub_zero];omega)
 obtain ⟨r,e,hq⟩:=key;unfold zbf;rw [e];exact hq
theorem cmp_Or_two (x y:Int):zdr [x,y]=some (if x≠0 then x else y):=by
 unfold zdr;have e:fuel=(fuel-3)+1+1+1:=by unfold fuel;omega
 rw [e];by_cases h1:x=0
 ·by_cases h2:y=0
  ·simp [iter,zdr.s2,idxn,h1,h2]
  ·simp [iter,zdr.s2,idxn,h1,h2]
 ·simp [iter,zdr.s2,idxn,h1]
theorem zli (s t:List Int) (hs:s.length≤100000000000000):zhm s t=some (lexI s t):=by
 unfold zhm;rw [zio s t hs];rfl
theorem zjy (s t:List Int) (hs:s.length≤100000000000000):zd0 s t=some (cmpW s t):=by
 unfold zd0;rw [zio s t hs,zhg];show (zdr [cmpI s.length t.length,lexI s t]).bind some=_;rw [cmp_Or_two];show some _=some _;congr 1;unfold cmpI cmpW;by_cases h1:s.length<t.length
 ·simp [h1]
 ·by_cases h2:t.length<s.length
  ·simp [h1,h2]
  ·simp [h1,h2]
theorem cmpE_word_Lex:CmpE Tryz.prog 99 (fun x=>nL cI x) (fun x y=>zhm x y) :=
 ⟨fun args w=>zec rfl rfl rfl args w,cmpG_lex fun x y r hx h=>by rw [zli x y (by omega)] at h;injection h with h;exact h.symm⟩
theorem zib:CmpE Tryz.prog 96 (fun x=>nL cI x) (fun x y=>zd0 x y) :=
 ⟨fun args w=>zec rfl rfl rfl args w,cmpG_compare fun x y r hx h=>by rw [zjy x y (by omega)] at h;injection h with h;exact h.symm⟩
theorem zls:CmpE Tryz.prog 110 (fun x=>.agg (zaq x)) (fun x y=>zc9 x y) :=
 ⟨fun args w=>zec rfl rfl rfl args w,cmpG_fits1 (T:=zag) (i:=fun x=>x.In) (o:=fun x=>x.Out) (f:=fun x y=>zc9 x y) (fun _=>rfl) fun x y r hx h=>by
  simp only [zc9] at h
  rw [zli _ _ (by omega)] at h
  injection h with h
  exact h.symm⟩
end
section
section
variable {α β R:Type}
theorem get_at {l:List α} {i:Nat} (h:i<l.length):l[i]?=some l[i]:=zkM h
theorem iter_all2 [DecidableEq α] {a b:List α} {step:Nat→Option (Nat⊕(Unit⊕Bool))} (hlen:a.length=b.length) (h1:∀ i x y,a[i]?=some x→b[i]?=some y→step i=some (if x=y then .inl (i+1) else .inr (.inr false)))
  (h2:step a.length=some (.inr (.inl ()))) (hl:a.length≤100000000000000):(iter step fuel 0).bind (Sum.elim (fun _=>some true) some)=some (decide (a=b)):=by
 rw [zgd (l:=a) (fun i x=>if b[i]?=some x then none else some false) (fun i x hx=>?_) h2 hl]
 ·cases e:scan (fun i x=>if b[i]?=some x then none else some false) 0 a with
  | none =>
   have:=zh8.1 e
   have hab:a=b:=by
    apply List.ext_getElem?;intro i;rcases Nat.lt_or_ge i a.length with h | h
    ·have h3:=this i _ (get_at h);rw [Nat.zero_add] at h3;split at h3
     ·rename_i h4;rw [get_at h,h4]
     ·cases h3
    ·rw [List.getElem?_eq_none h,List.getElem?_eq_none (by omega)]
   simp [hab]
  | some r =>
   have hne:a≠b:=fun hab=>by
    subst hab;have:scan (fun i x=>if a[i]?=some x then none else some false) 0 a=none:=zh8.2 fun i x hx=>by rw [Nat.zero_add,if_pos hx]
    rw [this] at e;cases e
   have hr:r=false:=by
    have key:∀ (l:List α) (j:Nat),scan (fun i x=>if b[i]?=some x then none else some false) j l=some r→r=false:=by
     intro l
     induction l with
     | nil=>intro j h;cases h
     | cons x l ih =>
      intro j h;unfold scan at h;split at h
      ·rename_i r' h3;injection h with h
       subst h;split at h3
       ·cases h3
       ·injection h3 with h3
        exact h3.symm
      ·exact ih _ h
    exact key a 0 e
   subst hr;simp [hne]
 ·have hi:=(zkI.1 hx).1;have hy:=get_at (l:=b) (i:=i) (by omega);rw [h1 i x _ hx hy];by_cases h:x=b[i]'(by omega)
  ·rw [if_pos h,hy,if_pos (by rw [h])]
  ·rw [if_neg h,hy,if_neg (fun h3=>h (by injection h3 with h3;exact h3.symm))]
end
def SmW (x:List Int):Prop:=x.length≤2000000
def SmL (l:List (List Int)):Prop:=l.length≤2000000∧∀ x∈l,SmW x
theorem R01_Size_eq (n:Int):zmg n=some (decide (1≤n∧n≤1024)):=by
 unfold zmg;by_cases h1:1≤n<;>by_cases h2:n≤1024<;>simp [h1,h2]
theorem znp (n:Int):zfi n=some (decide (1≤n∧n≤1024)):=by
 unfold zfi;by_cases h1:1≤n<;>by_cases h2:n≤1024<;>simp [h1,h2]
theorem scan_all {α R:Type} {p:α→Bool} {r:R}:∀ (l:List α) (j:Nat),scan (fun _ x=>if p x=true then none else some r) j l=if l.all p=true then none else some r
 | [],_=>rfl
 | x::l,j=>by
  unfold scan;by_cases h:p x=true
  ·simp only [h,if_true,List.all_cons,Bool.true_and];exact scan_all l (j+1)
  ·simp [h]
theorem zn9 (w:List Int) (n:Int) (hl:SmW w):zeb w n=some (zil w n):=by
 unfold zeb zil;rw [R01_Size_eq];by_cases h1:1≤n∧n≤1024
 ·rw [if_pos h1];simp only [Option.bind_some,h1,and_self,decide_true,Bool.not_true,zkC];by_cases h2:1024<w.length
  ·rw [if_pos h2,show decide ((1024:Int)<(↑w.length:Int))=true from zkB (by omega),zkD]
  ·rw [if_neg h2,show decide ((1024:Int)<(↑w.length:Int))=false from zkA (by omega),zkC]
   have key:=zgd (step:=fun s=>zeb.s2 w n s) (l:=w) (fun _ x=>if decide (0≤x∧x<n)=true then none else some (1:Int)) (fun i x hx=>by
    simp only [zeb.s2]
    rw [zen hx,zkD,zas hx,zas hx]
    by_cases a1:x<0
    ·simp [a1,show ¬ (0≤x) by omega]
    ·by_cases a2:n≤x
     ·simp [a1,a2,show ¬ (x<n) by omega]
     ·simp [a1,a2,show 0≤x by omega,show x<n by omega]) (by
    simp only [zeb.s2]
    rw [zh4]
    rfl) (by unfold SmW at hl;omega)
   rw [key,scan_all (p:=fun x=>decide (0≤x∧x<n))];by_cases h:(w.all fun x=>decide (0≤x∧x<n))=true
   ·rw [if_pos h,if_pos h];rfl
   ·rw [if_neg h,if_neg h];rfl
 ·rw [if_neg h1];simp [h1]
theorem zmd (w:List Int) (n:Int) (hl:SmW w):zgy w n=some (zil w n):=by
 unfold zgy zil zcr za1;rw [znp];by_cases h1:1≤n∧n≤1024
 ·rw [if_pos h1];simp only [Option.bind_some,h1,and_self,decide_true,Bool.not_true,zkC];by_cases h2:1024<w.length
  ·rw [if_pos h2,show decide ((1024:Int)<(↑w.length:Int))=true from zkB (by omega),zkD]
  ·rw [if_neg h2,show decide ((1024:Int)<(↑w.length:Int))=false from zkA (by omega),zkC]
   have key:=zgd (step:=fun s=>za1.s2 w (fun u0=>zfp u0 n) s) (l:=w) (fun i x=>if decide (0≤x∧x<n)=true then none else some (i:Int)) (fun i x hx=>by
    simp only [za1.s2,zfp]
    rw [zen hx,zkD,zas hx]
    by_cases a1:x<0
    ·simp [a1,show ¬ (0≤x) by omega]
    ·by_cases a2:n≤x
     ·simp [a1,a2,show ¬ (x<n) by omega]
     ·simp [a1,a2,show 0≤x by omega,show x<n by omega]) (by
    simp only [za1.s2]
    rw [zh4]
    rfl) (by unfold SmW at hl;omega)
   rw [key];cases e:scan (fun i x=>if decide (0≤x∧x<n)=true then none else some (i:Int)) 0 w with
   | none =>
    have h3:=zh8.1 e
    have h:(w.all fun x=>decide (0≤x∧x<n))=true:=List.all_eq_true.2 fun x hx=>by
     obtain ⟨i,hi,rfl⟩:=List.mem_iff_getElem.1 hx;have:=h3 i _ (get_at hi);split at this
     ·assumption
     ·cases this
    rw [if_pos h];simp
   | some r =>
    have h:¬ (w.all fun x=>decide (0≤x∧x<n))=true:=fun h=>by
     have:scan (fun i x=>if decide (0≤x∧x<n)=true then none else some (i:Int)) 0 w=none:=zh8.2 fun i x hx=>if_pos (List.all_eq_true.1 h x (zkH hx));rw [this] at e;cases e
    have hr:0≤r:=by
     have key:∀ (l:List Int) (j:Nat),scan (fun i x=>if decide (0≤x∧x<n)=true then none else some (i:Int)) j l=some r→0≤r:=by
      intro l
      induction l with
      | nil=>intro j h;cases h
      | cons x l ih =>
       intro j h;unfold scan at h;split at h
       ·rename_i r' h3;injection h with h
        subst h;split at h3
        ·cases h3
        ·injection h3 with h3
         omega
       ·exact ih _ h
     exact key w 0 e
    rw [if_neg h];simp [hr]
 ·rw [if_neg h1];simp [h1]
theorem zgo (a b:List Int) (ha:SmW a):zdt a b=some (zbc a b:Int):=by
 unfold zdt;rw [zkm (r:=zbc a b) (fun k=>k≤a.length∧zbc a b=zbc (a.drop k) (b.drop k)+k) (fun k=>a.length-k) (fun k ⟨h1,h2⟩=>?_) ⟨Nat.zero_le _,by simp⟩ (by have:=zbg;unfold SmW at ha;omega)]
 ·rfl
 ·simp only [zdt.s2];rcases Nat.lt_or_ge k a.length with h | h
  ·have hx:=get_at h;rcases Nat.lt_or_ge k b.length with h' | h'
   ·have hy:=get_at h';rw [zen hx,zen hy,zkD,zkD,zas hx,zas hy];rw [List.drop_eq_getElem_cons h,List.drop_eq_getElem_cons h'] at h2;by_cases e:a[k]=b[k]
    ·left;unfold SmW at ha;refine ⟨k+1,?_,⟨h,?_⟩,by omega⟩
     ·rw [za5 (by unfold inR;omega)];simp [e]
     ·rw [h2,e];simp [zbc];omega
    ·right;simp only [zbc,e,if_false,Nat.zero_add] at h2;simp [e,h2]
   ·right;rw [zen hx,zkD,show decide ((↑k:Int)<(↑b.length:Int))=false by simp;omega];rw [znk (Or.inr h'),Nat.zero_add] at h2;simp [h2]
  ·right;rw [show decide ((↑k:Int)<(↑a.length:Int))=false by simp;omega];rw [znk (Or.inl h),Nat.zero_add] at h2;simp [h2]
theorem zjf (a b:List Int) (ha:SmW a):zgr a b=some (decide (a=b)):=by
 unfold zgr;rw [zgo a b ha];have h:=same_iff a b;by_cases h1:a.length=b.length
 ·rw [show decide ((↑a.length:Int)=(↑b.length:Int))=true from zkB (by omega),zkD];by_cases h2:zbc a b=a.length
  ·have:a=b:=h.1 ⟨h1,h2⟩;subst this;simp [zlz]
  ·have:a≠b:=fun e=>h2 (h.2 e).2;simp only [Option.bind_some,this,decide_false];rw [zkA (by omega)]
 ·have:a≠b:=fun e=>h1 (by rw [e]);rw [show decide ((↑a.length:Int)=(↑b.length:Int))=false from zkA (by omega),zkC];simp [this]
theorem R01_Lex_eq (a b:List Int) (ha:SmW a):zp4 a b=some (lexI a b):=by
 unfold zp4;rw [zgo a b ha];have hle:=zia a b;have hlc:=zoz a b;rw [hlc];simp only [Option.bind_some];by_cases h1:zbc a b=a.length
 ·rw [show decide ((↑(zbc a b):Int)=↑a.length)=true from zkB (by omega),zkD,zkD];by_cases h2:zbc a b=b.length
  ·rw [show decide ((↑(zbc a b):Int)=↑b.length)=true from zkB (by omega),if_pos ⟨h1,h2⟩];rfl
  ·rw [show decide ((↑(zbc a b):Int)=↑b.length)=false from zkA (by omega),if_neg (fun h=>h2 h.2),if_pos (Or.inl h1)];rfl
 ·rw [show decide ((↑(zbc a b):Int)=↑a.length)=false from zkA (by omega),zkC,zkC,if_neg (fun h=>h1 h.1)];by_cases h2:zbc a b=b.length
  ·rw [show decide ((↑(zbc a b):Int)<(↑b.length:Int))=false from zkA (by omega),if_neg (fun h=>by omega)];rfl
  ·have hx:=get_at (l:=a) (i:=zbc a b) (by omega);have hy:=get_at (l:=b) (i:=zbc a b) (by omega);rw [show decide ((↑(zbc a b):Int)<(↑b.length:Int))=true from zkB (by omega),zkD,zb5 rfl hx,zb5 rfl hy];rw [List.getD_eq_getElem?_getD,List.getD_eq_getElem?_getD,hx,hy];by_cases h3:a[zbc a b]'(by omega)<b[zbc a b]'(by omega)
   ·rw [if_pos (Or.inr ⟨by omega,h3⟩)];simp [h3]
   ·rw [if_neg (fun h=>by
     rcases h with h | ⟨_,h⟩
     ·omega
     ·exact h3 h)]
    simp [h3]
theorem zle (a b:List Int) (ha:SmW a):zf9 a b=some (cmpW a b):=by
 unfold zf9 cmpW;rw [R01_Lex_eq a b ha];by_cases h1:a.length<b.length
 ·rw [show decide ((↑a.length:Int)<(↑b.length:Int))=true from zkB (by omega),if_pos h1];rfl
 ·rw [show decide ((↑a.length:Int)<(↑b.length:Int))=false from zkA (by omega),if_neg h1,zkC];by_cases h2:b.length<a.length
  ·rw [show decide ((↑b.length:Int)<(↑a.length:Int))=true from zkB (by omega),if_pos h2];rfl
  ·rw [show decide ((↑b.length:Int)<(↑a.length:Int))=false from zkA (by omega),if_neg h2];rfl
end
section
section
variable {κ ν:Type} [BEq κ]
theorem zlf {k:κ} {v:ν} (hb:∀ a b:κ,(a==b)=true↔a=b):∀ m:List (κ×ν),mget k (mset k v m)=some v
 | []=>by
  unfold mset mget;rw [(hb k k).2 rfl]
 | p::m=>by
  unfold mset;cases h:k==p.1 with
  | true =>
   show mget k ((k,v)::m)=_;unfold mget;rw [(hb k k).2 rfl]
  | false =>
   show mget k (p::mset k v m)=_;unfold mget;rw [h];exact zlf hb m
theorem zkd {k k':κ} {v:ν} (hb:∀ a b:κ,(a==b)=true↔a=b) (hne:¬ k'=k):∀ m:List (κ×ν),mget k' (mset k v m)=mget k' m
 | []=>by
  have e:(k'==k)=false:=by
   cases e:k'==k with
   | true=>exact absurd ((hb _ _).1 e) hne
   | false=>rfl
  unfold mset mget;simp only [e];rfl
 | p::m=>by
  unfold mset;cases h:k==p.1 with
  | true =>
   have e1:k=p.1:=(hb _ _).1 h;show mget k' ((k,v)::m)=mget k' (p::m)
   have e:(k'==k)=false:=by
    cases e:k'==k with
    | true=>exact absurd ((hb _ _).1 e) hne
    | false=>rfl
   unfold mget;rw [← e1];simp only [e]
  | false =>
   show mget k' (p::mset k v m)=mget k' (p::m);unfold mget;rw [zkd hb hne m]
end
def SmT (t:zqf):Prop:=inR t.Inputs∧SmL t.Prefixes∧SmL t.Suffixes∧∀ x∈t.Prefixes,∀ a∈x,inR a
end
section

end
section

end
end Go.Proofs.YteigfkncoiiaiaaGreatDoor.Sym
namespace Go.Proofs.YteigfkncoiiaiaaGreatDoor
section
structure TotalCmp (cf:List Int→List Int→Int):Prop where
 range:∀ a b,cf a b=-1∨cf a b=0∨cf a b=1
 zero:∀ a b,cf a b=0↔a=b
 swap:∀ a b,cf b a=- cf a b
 trans:∀ a b c,cf a b=-1→cf b c=-1→cf a c=-1
end
section
def zd8 (x:List Int):List (List Int):=(List.range (x.length+1)).map x.take
def suffixes (x:List Int):List (List Int):=(List.range (x.length+1)).map x.drop
def preL (l:List (List Int)):List (List Int):=l.flatMap zd8
theorem prefixes_take (x:List Int) {j:Nat} (hj:j≤x.length):(zd8 x).take (j+1)=(zd8 x).take j++[x.take j]:=by
 have:(zd8 x)[j]?=some (x.take j):=by simp [zd8,List.getElem?_range (show j<x.length+1 by omega)]
 exact zf1 this
theorem ze4 (x:List Int):(zd8 x).length=x.length+1:=by simp [zd8]
theorem preL_step {l:List (List Int)} {k:Nat} {x:List Int} (h:l[k]?=some x):preL (l.take (k+1))=preL (l.take k)++zd8 x:=by rw [zf1 h];simp [preL]
end
end Go.Proofs.YteigfkncoiiaiaaGreatDoor
namespace Go.Proofs.YteigfkncoiiaiaaGreatDoor.Sym
section
theorem flat_take_len {α:Type} {l:List (List α)} (i:Nat):(l.take i).flatten.length≤l.flatten.length:=by
 have h:l.flatten=(l.take i).flatten++(l.drop i).flatten:=by rw [← List.flatten_append,List.take_append_drop]
 rw [h,zkJ];omega
theorem sml_sort {l:List (List Int)} (h:SmL l):SmL (sortW l):=⟨Nat.le_trans (zn6 l) h.1,fun x hx=>h.2 x ((zfg l x).1 hx)⟩
theorem R02_place_eq {l:List (List Int)} {w:List Int} (hA:Asc l) (hl:SmL l):ze5 l w=some (↑(zcl l w):Int):=by
 have hl1:l.length≤2000000:=hl.1;have hsp:=ziy l w;have hle:=placeL_le l w;unfold ze5
 rw [zkm (r:=zcl l w) (fun s=>s.1≤zcl l w∧zcl l w≤s.2∧s.2≤l.length) (fun s=>s.2-s.1) (fun s ⟨h1,h2,h3⟩=>by
  obtain ⟨lo,hi⟩:=s
  simp only at h1 h2 h3
  simp only [ze5.s2]
  by_cases h4:lo<hi
  ·left
   have hx:=get_at (l:=l) (i:=(lo+hi) / 2) (by omega)
   rw [zkB (by omega),zkD,za5 (by unfold inR;omega),za5 (by unfold inR;omega),zas hx,zle _ _ (hl.2 _ (List.getElem_mem _))]
   simp only [Option.bind_some]
   by_cases h5:cmpW (l[(lo+hi) / 2]'(by omega)) w<0
   ·refine ⟨((lo+hi) / 2+1,hi),by rw [zkB h5,zkD,za5 (by unfold inR;omega)],⟨?_,h2,h3⟩,by simp only;omega⟩
    simp only
    rcases Nat.lt_or_ge ((lo+hi) / 2) (zcl l w) with h | h
    ·exact h
    ·exfalso
     have hp:=get_at (l:=l) (i:=zcl l w) (by omega)
     have hne:=hsp.2 _ hp
     have r1:=zm9 (l[(lo+hi) / 2]'(by omega)) w
     rcases Nat.lt_or_ge (zcl l w) ((lo+hi) / 2) with h' | h'
     ·have:=hA.get h' hp hx
      exact hne (zky _ _ _ this (by omega))
     ·have e:zcl l w=(lo+hi) / 2:=by omega
      simp only [e] at hne
      omega
   ·refine ⟨(lo,(lo+hi) / 2),by rw [zkA h5,zkC],⟨h1,?_,by simp only;omega⟩,by simp only;omega⟩
    simp only
    rcases Nat.lt_or_ge ((lo+hi) / 2) (zcl l w) with h | h
    ·exfalso
     have:=hsp.1 _ _ h hx
     omega
    ·exact h
  ·right
   rw [zkA (by omega),zkC,show lo=zcl l w by omega]) (s:=(0,l.length)) ⟨Nat.zero_le _,hle,Nat.le_refl _⟩ (by have:=zbg;simp only;omega)]
 rfl
theorem R02_with_eq {l:List (List Int)} {w:List Int} (hA:Asc l) (hl:SmL l) (hw:SmW w):zfk l w=some (insW l w):=by
 have hl1:l.length≤2000000:=hl.1;have hw1:w.length≤2000000:=hw;have hle:=placeL_le l w;have hmp:=hA.mem_place w;unfold zfk;rw [R02_place_eq hA hl];simp only [Option.bind_some];by_cases hm:w∈l
 ·have hx:=hmp.1 hm;have hlt:=(zkI.1 hx).1;rw [zkB (show (↑(zcl l w):Int)<(↑l.length:Int) by omega),zkD,zb5 rfl hx,zjf _ _ hw];unfold insW;rw [if_pos hm];simp
 ·have hc:(cond (decide ((↑(zcl l w):Int)<(↑l.length:Int))) (idx l (↑(zcl l w):Int) fun a1=>(zgr a1 w).bind fun a2=>some a2) (some false):Option Bool)=some false:=by
   by_cases hlt:zcl l w<l.length
   ·have hx:=get_at hlt;rw [zkB (by omega),zkD,zb5 rfl hx,zjf _ _ (hl.2 _ (List.getElem_mem _))];have:¬ l[zcl l w]=w:=fun e=>hm (hmp.2 (by rw [hx,e]));simp [this]
   ·rw [zkA (by omega),zkC]
  rw [hc];simp only [Option.bind_some,zkC];have hlen:(l++[([]:List Int)]).length=l.length+1:=by simp
  rw [za5 (by unfold za0;omega),za5 (by rw [hlen];unfold inR;omega)]
  have key:=za8 (step:=fun (s:List (List Int)×Int)=>zfk.s2 (↑(zcl l w):Int) s.1 s.2) (fun s=>∃ i:Nat,s.2=(i:Int)∧zcl l w≤i∧i≤l.length∧∃ z,s.1=stage l z i) (fun s=>s.2.toNat-zcl l w) (fun r=>∃ z,r=stage l z (zcl l w)) (fun s ⟨i,h1,h2,h3,z,h4⟩=>by
   obtain ⟨y,i'⟩:=s
   simp only at h1 h4
   subst h1 h4
   simp only [zfk.s2]
   by_cases h5:zcl l w<i
   ·left
    have hx:=get_at (l:=l) (i:=i-1) (by omega)
    have e1:(stage l z i)[i-1]?=some (l[i-1]'(by omega)):=by rw [stage_before (by omega) h3];exact hx
    have e2:(stage l z i)[i]?=some z:=stage_at h3
    refine ⟨(stage l (l[i-1]'(by omega)) (i-1),↑(i-1:Nat)),?_,⟨i-1,rfl,by omega,by omega,_,rfl⟩,by simp only;omega⟩
    rw [zkB (by omega),zkD,za5 (by unfold inR;omega),zb5 (i:=i-1) (by omega) e1,zb5 rfl e2,za5 (by unfold inR;omega),Int.toNat_natCast,stage_set h3]
    have h6:=stage_down (us:=l) (j:=i-1) hx
    rw [show i-1+1=i by omega] at h6
    rw [h6,show (↑i:Int)-1=((i-1:Nat):Int) by omega]
   ·right
    have e:i=zcl l w:=by omega
    subst e
    refine ⟨_,by rw [zkA (by omega),zkC],z,rfl⟩) fuel (l++[[]],(↑(l++[([]:List Int)]).length:Int)-1) ⟨l.length,by simp only [hlen];omega,hle,Nat.le_refl _,[],(stage_end l []).symm⟩ (by have:=zbg;simp only [hlen];omega)
  obtain ⟨r,e,z,hz⟩:=key;subst hz;rw [e];simp only [Option.bind_some];have e2:(stage l z (zcl l w))[zcl l w]?=some z:=stage_at hle;rw [za5 (by unfold za0;simp;omega),zb5 rfl e2,Int.toNat_natCast,stage_set hle,List.nil_append];unfold insW;rw [if_neg hm];rfl
end
section
theorem preL_take_len {l:List (List Int)} (i:Nat):(preL (l.take i)).length≤(preL l).length:=by
 unfold preL;rw [List.flatMap_def,List.flatMap_def,List.map_take];exact flat_take_len i
theorem zp0 {l:List (List Int)} {i:Nat} {x:List Int} {y:List (List Int)} (hx:l[i]?=some x) (hx1:x.length≤1000000) (hy:SmL y) (hlen:y.length+x.length+1≤2000000) :
  iter (fun (s:List (List Int)×Nat)=>zb6.s13 l i s.1 s.2) fuel (sortW y,0)=some (sortW (y++zd8 x)):=by
 refine zkm (fun s=>s.2≤x.length+1∧s.1=sortW (y++(zd8 x).take s.2)) (fun s=>x.length+1-s.2) (fun s ⟨g1,g2⟩=>?_) ⟨Nat.zero_le _,by simp⟩ (by have:=zbg;simp only;omega);obtain ⟨z,k⟩:=s;simp only at g1 g2;subst g2;simp only [zb6.s13];rw [zas hx];by_cases g3:k<x.length+1
 ·left
  have e1:SmL (y++(zd8 x).take k):=by
   refine ⟨by rw [zkJ,List.length_take,ze4];omega,fun u hu=>?_⟩;rcases List.mem_append.1 hu with h | h
   ·exact hy.2 u h
   ·have h2:=List.mem_of_mem_take h;unfold zd8 at h2;obtain ⟨j,_,rfl⟩:=List.mem_map.1 h2;unfold SmW;rw [List.length_take];omega
  have e2:SmW (x.take k):=by
   unfold SmW;rw [List.length_take];omega
  have e3:=R02_with_eq (zie (y++(zd8 x).take k)) (sml_sort e1) e2;refine ⟨(sortW (y++(zd8 x).take (k+1)),k+1),?_,⟨g3,rfl⟩,by simp only;omega⟩;rw [zkB (by omega),zkD,zas hx,za5 (by omega),e3];simp only [zau];rw [za5 (by unfold inR;omega),prefixes_take _ (by omega),← List.append_assoc,sortW_snoc]
 ·right;have e:k=x.length+1:=by omega
  subst e;rw [zkA (by omega),zkC,← ze4,List.take_length]
theorem zpg {l:List (List Int)} (hl:SmL l) (hw:∀ x∈l,x.length≤1000000) (hp:SmL (preL l)):zb6 l=some (sortW (preL l)):=by
 have hl1:l.length≤2000000:=hl.1;have hp1:(preL l).length≤2000000:=hp.1;unfold zb6
 have key:=zkm (step:=fun (s:List (List Int)×Nat)=>zb6.s14 l s.1 s.2) (r:=sortW (preL l)) (fun s=>s.2≤l.length∧s.1=sortW (preL (l.take s.2))) (fun s=>l.length-s.2) (fun s ⟨h1,h2⟩=>by
  obtain ⟨y,i⟩:=s
  simp only at h1 h2
  subst h2
  simp only [zb6.s14]
  by_cases h3:i<l.length
  ·left
   have hx:=get_at h3
   have hst:=preL_step hx
   have hle:=preL_take_len (l:=l) (i+1)
   rw [hst,zkJ,ze4] at hle
   have hin:=zp0 (y:=preL (l.take i)) hx (hw _ (List.getElem_mem _)) ⟨by omega,fun u hu=>hp.2 u (by
    unfold preL at hu ⊢
    obtain ⟨z,hz,hz2⟩:=List.mem_flatMap.1 hu
    exact List.mem_flatMap.2 ⟨z,List.mem_of_mem_take hz,hz2⟩)⟩ (by omega)
   refine ⟨(sortW (preL (l.take i)++zd8 l[i]),i+1),?_,⟨h3,by simp only;rw [hst]⟩,by simp only;omega⟩
   rw [zen hx,zkD,hin]
   simp only [zau]
  ·right
   have e:i=l.length:=by omega
   subst e
   rw [zkA (by omega),zkC,List.take_length]) (n:=fuel) (s:=([],0)) ⟨Nat.zero_le _,by simp [preL,sortW]⟩ (by have:=zbg;simp only;omega)
 rw [key];simp only [zau]
end
section
def SmO (o:zav):Prop:=o.Traces.length≤1100000∧∀ t∈o.Traces,t.In.length≤1100000∧t.Out.length≤2000000
theorem zoi (w p:List Int) (hw:SmW w):zfc w p=some (decide (p <+: w)):=by
 unfold zfc;rw [zgo w p hw,zau];congr 1;exact decide_eq_decide.2 (by rw [← zkw w p];omega)
theorem zhu (a b:List Int) (ha:SmW a):zde a b=some (zbc a b:Int):=by
 have ha':a.length≤2000000:=ha;have hle:=zia a b;unfold zde
 have key:=za8 (step:=fun k=>zde.s2 a b k) (fun k=>k≤a.length∧k≤b.length∧zbc a b=zbc (a.drop k) (b.drop k)+k) (fun k=>a.length-k) (fun r=>Sum.elim (fun (_:Unit)=>some (min (↑a.length:Int) (↑b.length:Int))) some r=some (zbc a b:Int)) (fun k ⟨h1,h2,h3⟩=>by
  simp only [zde.s2]
  by_cases h4:k<a.length∧k<b.length
  ·have hx:=get_at h4.1
   have hy:=get_at h4.2
   rw [zkB (show (↑k:Int)<min (↑a.length:Int) (↑b.length:Int) by omega),zkD,zas hx,zas hy]
   rw [List.drop_eq_getElem_cons h4.1,List.drop_eq_getElem_cons h4.2] at h3
   by_cases e:a[k]=b[k]
   ·left
    refine ⟨k+1,by simp [e],⟨h4.1,h4.2,?_⟩,by omega⟩
    rw [h3,e]
    simp [zbc]
    omega
   ·right
    simp only [zbc,e,if_false,Nat.zero_add] at h3
    exact ⟨.inr (k:Int),by simp [e],by rw [h3];rfl⟩
  ·right
   rw [zkA (by omega),zkC]
   refine ⟨.inl (),rfl,?_⟩
   rw [znk (by omega),Nat.zero_add] at h3
   simp only [Sum.elim_inl]
   congr 1
   omega) fuel 0 ⟨Nat.zero_le _,Nat.zero_le _,by simp⟩ (by have:=zbg;omega)
 obtain ⟨r,e,hq⟩:=key;rw [e];exact hq
theorem ziv (w p:List Int) (hw:SmW w):zee w p=some (decide (p <+: w)):=by
 unfold zee;rw [zhu w p hw,zau];congr 1;exact decide_eq_decide.2 (by rw [← zkw w p];omega)
def zme (n:Int) (t:zag):Prop:=zil t.In n=0∧t.Out.length=t.In.length∧∀ y∈t.Out,0≤y∧y≤1048576
theorem zqy (t:zag) (n:Int) (h1:SmW t.In) (h2:SmW t.Out):∃ e,zd6 t n=some e∧(e=0→zme n t):=by
 unfold zd6;rw [zn9 _ _ h1,zau];by_cases g1:zil t.In n=0
 ·rw [zkA (by simpa using g1),zkC];by_cases g2:t.Out.length=t.In.length
  ·rw [zkA (by omega),zkC]
   have key:=zgd (step:=fun s=>zd6.s2 t s) (l:=t.Out) (fun _ y=>if decide (0≤y∧y≤1048576)=true then none else some (2:Int)) (fun i y hy=>by
    simp only [zd6.s2]
    rw [zen hy,zkD,zas hy,zas hy]
    by_cases a1:y<0
    ·rw [zkB a1,zkD,zau,zkD,zkA (show ¬ (0≤y∧y≤1048576) by omega)];rfl
    ·by_cases a2:1048576<y
     ·rw [zkA a1,zkC,zkB a2,zau,zkD,zkA (show ¬ (0≤y∧y≤1048576) by omega)];rfl
     ·rw [zkA a1,zkC,zkA a2,zau,zkC,zkB (show (0≤y∧y≤1048576) by omega)];rfl) (by
    simp only [zd6.s2]
    rw [zh4]
    rfl) (by unfold SmW at h2;omega)
   rw [key,scan_all (p:=fun y=>decide (0≤y∧y≤1048576))];by_cases h:(t.Out.all fun y=>decide (0≤y∧y≤1048576))=true
   ·rw [if_pos h];exact ⟨0,rfl,fun _=>⟨g1,g2,fun y hy=>of_decide_eq_true (List.all_eq_true.1 h y hy)⟩⟩
   ·rw [if_neg h];exact ⟨2,rfl,fun e=>by cases e⟩
  ·rw [zkB (by omega),zkD];exact ⟨1,rfl,fun e=>by cases e⟩
 ·rw [zkB g1,zkD];exact ⟨_,rfl,fun e=>absurd e g1⟩
def Agree (a b:zag):Prop:=a.Out.take (zbc a.In b.In)=b.Out.take (zbc a.In b.In)
theorem zqq (a b:zag) {n:Int} (ha:zme n a) (hb:zme n b) (h1:SmW a.In):∃ d,zea a b=some d∧(¬ 0≤d→Agree a b):=by
 have h1':a.In.length≤2000000:=h1;have hc:=zia a.In b.In;have la:=ha.2.1;have lb:=hb.2.1;unfold zea;rw [zgo _ _ h1,zau]
 have key:=za8 (step:=fun k=>zea.s2 a b (↑(zbc a.In b.In):Int) k) (fun k=>k≤zbc a.In b.In∧a.Out.take k=b.Out.take k) (fun k=>zbc a.In b.In-k) (fun r=>match r with | .inl ()=>Agree a b | .inr d=>0≤d) (fun k ⟨g1,g2⟩=>by
  simp only [zea.s2]
  by_cases g3:k<zbc a.In b.In
  ·have hx:=get_at (l:=a.Out) (i:=k) (by omega)
   have hy:=get_at (l:=b.Out) (i:=k) (by omega)
   rw [zkB (by omega),zkD,zas hx,zas hy]
   by_cases e:a.Out[k]'(by omega)=b.Out[k]'(by omega)
   ·left
    refine ⟨k+1,by rw [zkA (by simpa using e),zkC,za5 (by unfold inR;omega)],⟨g3,?_⟩,by omega⟩
    rw [zf1 hx,zf1 hy,g2,e]
   ·right
    exact ⟨.inr (k:Int),by rw [zkB e,zkD],by simp⟩
  ·right
   have e:k=zbc a.In b.In:=by omega
   subst e
   exact ⟨.inl (),by rw [zkA (by omega),zkC],g2⟩) fuel 0 ⟨Nat.zero_le _,by simp⟩ (by have:=zbg;omega)
 obtain ⟨r,e,hq⟩:=key;rw [e];cases r with
 | inl u=>exact ⟨-1,rfl,fun _=>hq⟩
 | inr d=>exact ⟨d,rfl,fun h=>absurd hq h⟩
structure zlp (o:zav):Prop where
 inp:1≤o.Inputs∧o.Inputs≤64
 num:o.Traces.length≤10000
 prop:∀ t∈o.Traces,zme o.Inputs t∧t.In≠[]
 asc:∀ (i j:Nat) a b,i<j→o.Traces[i]?=some a→o.Traces[j]?=some b→cmpW a.In b.In=-1
 apart:∀ (i j:Nat) a b,i<j→o.Traces[i]?=some a→o.Traces[j]?=some b→¬ a.In <+: b.In∧Agree a b
theorem R16_apart_tot (o:zav) (ho:SmO o) (hp:∀ t∈o.Traces,zme o.Inputs t):∃ e,zcj o=some e∧(e=0→∀ (i j:Nat) a b,i<j→o.Traces[i]?=some a→o.Traces[j]?=some b→¬ a.In <+: b.In∧Agree a b):=by
 obtain ⟨hl,hs⟩:=ho;unfold zcj
 have inner:∀ (i:Nat) (a:zag),o.Traces[i]?=some a→∃ p c,iter (fun (s:Bool×Bool×Nat)=>zcj.s30 o i s.1 s.2.1 s.2.2) fuel (false,false,i+1)=some (p,c)∧(p=false→c=false→∀ j b,i<j→o.Traces[j]?=some b→¬ a.In <+: b.In∧Agree a b):=by
  intro i a ha;have hi:=(zkI.1 ha).1;have ham:=zkH ha
  have key:=za8 (step:=fun (s:Bool×Bool×Nat)=>zcj.s30 o i s.1 s.2.1 s.2.2) (fun s=>i<s.2.2∧s.2.2≤o.Traces.length∧(s.1=false→s.2.1=false→∀ j b,i<j→j<s.2.2→o.Traces[j]?=some b→¬ a.In <+: b.In∧Agree a b)) (fun s=>o.Traces.length-s.2.2) (fun r=>r.1=false→r.2=false→∀ j b,i<j→o.Traces[j]?=some b→¬ a.In <+: b.In∧Agree a b) (fun s ⟨g1,g2,g3⟩=>by
   obtain ⟨p,c,k⟩:=s
   simp only at g1 g2 g3
   simp only [zcj.s30]
   by_cases g4:k<o.Traces.length
   ·left
    have hx:=get_at g4
    have hxm:=List.getElem_mem g4
    have sx:SmW o.Traces[k].In:=by have:=(hs _ hxm).1;unfold SmW;omega
    have sa:SmW a.In:=by have:=(hs _ ham).1;unfold SmW;omega
    obtain ⟨d,hd,hd2⟩:=zqq a o.Traces[k] (hp a ham) (hp _ hxm) sa
    have hc1:(cond p (some true) (idxn o.Traces k fun a1=>idxn o.Traces i fun a2=>(zfc a1.In a2.In).bind fun a6=>some a6):Option Bool)=some (p||decide (a.In <+: o.Traces[k].In)):=by
     cases p with
     | true=>rfl
     | false =>
      rw [zkC,zas hx,zas ha,zoi _ _ sx,zau]
      rfl
    rw [zen hx,zkD,hc1,zau]
    cases c with
    | true =>
     refine ⟨(p||decide (a.In <+: o.Traces[k].In),true,k+1),rfl,⟨by simp only;omega,by simp only;omega,fun _ h=>by cases h⟩,by simp only;omega⟩
    | false =>
     rw [zkC,zas ha,zas hx,hd,zau]
     refine ⟨(p||decide (a.In <+: o.Traces[k].In),decide (0≤d),k+1),rfl,⟨by simp only;omega,by simp only;omega,fun h1 h2 j b hj1 hj2 hb=>?_⟩,by simp only;omega⟩
     simp only [Bool.or_eq_false_iff] at h1
     rcases Nat.lt_or_ge j k with h | h
     ·exact g3 h1.1 rfl j b hj1 h hb
     ·simp only at hj2
      have e:j=k:=by omega
      subst e
      rw [hx] at hb
      injection hb with hb
      subst hb
      exact ⟨of_decide_eq_false h1.2,hd2 (of_decide_eq_false h2)⟩
   ·right
    have e:k=o.Traces.length:=by omega
    refine ⟨(p,c),by rw [zkA (by omega),zkC],fun h1 h2 j b hj hb=>g3 h1 h2 j b hj ?_ hb⟩
    have:=(zkI.1 hb).1
    omega) fuel (false,false,i+1) ⟨by simp only;omega,by simp only;omega,fun _ _ j b h1 h2=>by simp only at h2;omega⟩ (by have:=zbg;simp only;omega)
  obtain ⟨⟨p,c⟩,e,hq⟩:=key;exact ⟨p,c,e,hq⟩
 have key:=za8 (step:=fun i=>zcj.s32 o i) (fun i=>i≤o.Traces.length∧∀ i' j a b,i'<i→i'<j→o.Traces[i']?=some a→o.Traces[j]?=some b→¬ a.In <+: b.In∧Agree a b) (fun i=>o.Traces.length-i) (fun r=>match r with | .inl ()=>∀ (i j:Nat) a b,i<j→o.Traces[i]?=some a→o.Traces[j]?=some b→¬ a.In <+: b.In∧Agree a b | .inr e=>e≠0) (fun i ⟨g1,g2⟩=>by
  simp only [zcj.s32]
  by_cases g3:i<o.Traces.length
  ·have hx:=get_at g3
   obtain ⟨p,c,e,hq⟩:=inner i _ hx
   rw [zen hx,zkD,e,zau]
   simp only [zcj.k31]
   cases p with
   | true=>exact .inr ⟨.inr 7,rfl,(show (7:Int)≠0 by decide)⟩
   | false =>
    cases c with
    | true=>exact .inr ⟨.inr 13,rfl,(show (13:Int)≠0 by decide)⟩
    | false =>
     left
     refine ⟨i+1,rfl,⟨g3,fun i' j a b h1 h2 ha hb=>?_⟩,by omega⟩
     rcases Nat.lt_or_ge i' i with h | h
     ·exact g2 i' j a b h h2 ha hb
     ·have e:i'=i:=by omega
      subst e
      rw [hx] at ha
      injection ha with ha
      subst ha
      exact hq rfl rfl j b h2 hb
  ·right
   refine ⟨.inl (),by rw [zkA (by omega),zkC],fun i' j a b h ha hb=>g2 i' j a b ?_ h ha hb⟩
   have:=(zkI.1 ha).1
   omega) fuel 0 ⟨Nat.zero_le _,fun i' j a b h=>by omega⟩ (by have:=zbg;omega)
 obtain ⟨r,e,hq⟩:=key;rw [e];cases r with
 | inl u=>exact ⟨0,rfl,fun _=>hq⟩
 | inr e'=>exact ⟨e',rfl,fun h=>absurd h hq⟩
theorem R16_Valid_tot (o:zav) (ho:SmO o):∃ e,zeo o=some e∧(e=0→zlp o):=by
 obtain ⟨hl,hs⟩:=ho;unfold zeo;by_cases h1:o.Inputs<1
 ·rw [zkB h1,zkD,zau,zkD];exact ⟨2,rfl,fun e=>by cases e⟩
 by_cases h2:64<o.Inputs
 ·rw [zkA h1,zkC,zkB h2,zau,zkD];exact ⟨2,rfl,fun e=>by cases e⟩
 rw [zkA h1,zkC,zkA h2,zau,zkC];by_cases h3:10000<o.Traces.length
 ·rw [zkB (by omega),zkD];exact ⟨11,rfl,fun e=>by cases e⟩
 rw [zkA (by omega),zkC]
 have key:=za8 (step:=fun i=>zeo.s2 o i) (fun i=>i≤o.Traces.length∧(∀ j t,j<i→o.Traces[j]?=some t→zme o.Inputs t∧t.In≠[])∧∀ j a b,j+1<i→o.Traces[j]?=some a→o.Traces[j+1]?=some b→cmpW a.In b.In=-1) (fun i=>o.Traces.length-i)
  (fun r=>match r with | .inl ()=>(∀ t∈o.Traces,zme o.Inputs t∧t.In≠[])∧∀ (j:Nat) a b,o.Traces[j]?=some a→o.Traces[j+1]?=some b→cmpW a.In b.In=-1 | .inr e=>e≠0) (fun i ⟨g1,g2,g3⟩=>by
  simp only [zeo.s2]
  by_cases g4:i<o.Traces.length
  ·have hx:=get_at g4
   have hxm:=List.getElem_mem g4
   have sx:SmW o.Traces[i].In:=by have:=(hs _ hxm).1;unfold SmW;omega
   obtain ⟨e,he,he2⟩:=zqy o.Traces[i] o.Inputs sx (hs _ hxm).2
   rw [zen hx,zkD,zas hx,zn9 _ _ sx,zau]
   by_cases g5:zil o.Traces[i].In o.Inputs=0
   ·rw [zkA (by simpa using g5),zkC]
    by_cases g6:o.Traces[i].In.length=0
    ·rw [zkB (by omega),zkD]
     exact .inr ⟨.inr 19,rfl,(show (19:Int)≠0 by decide)⟩
    ·rw [zkA (by omega),zkC,he,zau]
     by_cases g7:e=0
     ·rw [zkA (by simpa using g7),zkC]
      have hP:=he2 g7
      have fin:∀ b:Bool,(b=false→0<i→∀ a,o.Traces[i-1]?=some a→cmpW a.In o.Traces[i].In=-1)→(∃ s',(some b).bind (fun (a1:Bool)=>cond a1 (some (.inr (.inr 10))) (some (.inl (i+1))))=some (.inl s':Nat⊕(Unit⊕Int))∧(s'≤o.Traces.length∧(∀ j t,j<s'→o.Traces[j]?=some t→zme o.Inputs t∧t.In≠[])∧∀ j a b,j+1<s'→o.Traces[j]?=some a→o.Traces[j+1]?=some b→cmpW a.In b.In=-1)∧o.Traces.length-s'<o.Traces.length-i)∨∃ r,(some b).bind (fun (a1:Bool)=>cond a1 (some (.inr (.inr 10))) (some (.inl (i+1))))=some (.inr r:Nat⊕(Unit⊕Int))∧(match r with | .inl ()=>(∀ t∈o.Traces,zme o.Inputs t∧t.In≠[])∧∀ (j:Nat) a b,o.Traces[j]?=some a→o.Traces[j+1]?=some b→cmpW a.In b.In=-1 | .inr e=>e≠0):=by
       intro b hb
       cases b with
       | true=>exact .inr ⟨.inr 10,rfl,(show (10:Int)≠0 by decide)⟩
       | false =>
        left
        refine ⟨i+1,rfl,⟨g4,fun j t hj ht=>?_,fun j a b hj ha hb'=>?_⟩,by omega⟩
        ·rcases Nat.lt_or_ge j i with h | h
         ·exact g2 j t h ht
         ·have ej:j=i:=by omega
          subst ej
          rw [hx] at ht
          injection ht with ht
          subst ht
          exact ⟨hP,fun e=>g6 (by rw [e];rfl)⟩
        ·rcases Nat.lt_or_ge (j+1) i with h | h
         ·exact g3 j a b h ha hb'
         ·have ej:j+1=i:=by omega
          subst ej
          rw [hx] at hb'
          injection hb' with hb'
          subst hb'
          exact hb rfl (by omega) a (by simpa using ha)
      by_cases g8:0<i
      ·have hpv:=get_at (l:=o.Traces) (i:=i-1) (by omega)
       have sp:SmW (o.Traces[i-1]'(by omega)).In:=by have:=(hs _ (List.getElem_mem (show i-1<o.Traces.length by omega))).1;unfold SmW;omega
       rw [zkB (by omega),zkD,zb5 (i:=i-1) (by omega) hpv,zle _ _ sp,zau]
       refine fin _ fun hb _ a ha=>?_
       rw [hpv] at ha
       injection ha with ha
       subst ha
       have h5:=of_decide_eq_false hb
       have:=zm9 (o.Traces[i-1]'(by omega)).In o.Traces[i].In
       omega
      ·rw [zkA (by omega),zkC]
       exact fin false fun _ h=>absurd h g8
     ·rw [zkB g7,zkD]
      exact .inr ⟨.inr e,rfl,g7⟩
   ·rw [zkB g5,zkD]
    exact .inr ⟨.inr _,rfl,g5⟩
  ·right
   refine ⟨.inl (),by rw [zkA (by omega),zkC],fun t ht=>?_,fun j a b ha hb=>g3 j a b ?_ ha hb⟩
   ·obtain ⟨j,hj,rfl⟩:=List.mem_iff_getElem.1 ht
    exact g2 j _ (by omega) (get_at hj)
   ·have:=(zkI.1 hb).1
    omega) fuel 0 ⟨Nat.zero_le _,fun j t h=>by omega,fun j a b h=>by omega⟩ (by have:=zbg;omega)
 obtain ⟨r,e,hq⟩:=key;rw [e,zau];cases r with
 | inr e'=>exact ⟨e',rfl,fun h=>absurd h hq⟩
 | inl u =>
  obtain ⟨hp,hone⟩:=hq;obtain ⟨e',he,he2⟩:=R16_apart_tot o ⟨hl,hs⟩ fun t ht=>(hp t ht).1;simp only [Sum.elim_inl];rw [he,zau];refine ⟨e',rfl,fun h=>⟨by omega,by omega,hp,?_,he2 h⟩⟩
  have key:∀ (d i:Nat) a b,o.Traces[i]?=some a→o.Traces[i+d+1]?=some b→cmpW a.In b.In=-1:=by
   intro d
   induction d with
   | zero=>exact fun i a b=>hone i a b
   | succ d ih =>
    intro i a b ha hb;have hj:=(zkI.1 hb).1;have hm:=get_at (l:=o.Traces) (i:=i+d+1) (by omega);exact zky _ _ _ (ih i a _ ha hm) (hone _ _ _ hm (by rw [show i+d+1+1=i+(d+1)+1 by omega];exact hb))
  intro i j a b hij ha hb;exact key (j-i-1) i a b ha (by rw [show i+(j-i-1)+1=j by omega];exact hb)
end
section
theorem sum_mem {α:Type} {f:α→Nat}:∀ {l:List α} {x:α},x∈l→f x≤(l.map f).sum
 | y::l,x,h=>by
  rw [List.map_cons,List.sum_cons];rcases List.mem_cons.1 h with rfl | h
  ·omega
  ·have:=sum_mem (f:=f) h;omega
theorem sum_len {α:Type} {f:α→Nat} (hf:∀ x,1≤f x):∀ l:List α,l.length≤(l.map f).sum
 | []=>by simp
 | y::l=>by
  have:=sum_len hf l;have:=hf y;rw [List.map_cons,List.sum_cons,zkL];omega
theorem sz_word {x:List Int}:x.length+1=szL sz1 x:=by
 unfold szL sz1
 induction x with
 | nil=>rfl
 | cons y l ih=>simp at ih ⊢;omega
theorem trace_pos (t:zag):1≤zd1 t:=by unfold zd1;omega
theorem smo_of {o:zav} (s:zk2 o≤1048576):SmO o:=by
 unfold zk2 at s;have s1:szL zd1 o.Traces≤1048576:=by omega
 refine ⟨?_,fun t ht=>?_⟩
 ·have:=sum_len (f:=zd1) trace_pos o.Traces;unfold szL at s1;omega
 ·have h1:=sum_mem (f:=zd1) ht;have h2:=sz_word (x:=t.In);have h3:=sz_word (x:=t.Out);have h4:(o.Traces.map zd1).sum+1≤1048576:=s1;have h5:zd1 t=(szL sz1 t.In+(szL sz1 t.Out+0))+1:=rfl;omega
end
section
structure zci (p:zaa):Prop where
 i1:1≤p.Inputs
 i2:p.Inputs≤64
 n1:0<p.Next.length
 n2:p.Next.length≤4096
 st:0≤p.Start∧p.Start<(↑p.Next.length:Int)
 ol:p.Out.length=p.Next.length
 row:∀ s,s<p.Next.length→∃ x y,p.Next[s]?=some x∧p.Out[s]?=some y∧(↑x.length:Int)=p.Inputs∧(↑y.length:Int)=p.Inputs∧∀ (a:Nat) (t o:Int),x[a]?=some t→y[a]?=some o→-1≤t∧t<(↑p.Next.length:Int)∧-1≤o∧o≤1048576∧(t=-1↔o=-1)
structure Wrt (f:Nat→Int) (init:List Int) (a:Nat) (y:List Int):Prop where
 len:y.length=init.length
 at_:∀ b,b<init.length→y[b]?=if b<a then some (f b) else init[b]?
theorem Wrt.zero (f:Nat→Int) (init:List Int):Wrt f init 0 init:=⟨rfl,fun b _=>by rw [if_neg (by omega)]⟩
theorem Wrt.step {f:Nat→Int} {init:List Int} {a:Nat} {y:List Int} (h:Wrt f init a y) (ha:a<init.length) {v:Int} (hv:v=f a):Wrt f init (a+1) (y.set a v):=by
 refine ⟨by rw [List.length_set];exact h.len,fun b hb=>?_⟩;have hl:=h.len;by_cases e:b=a
 ·subst e;rw [if_pos (by omega),List.getElem?_set_self (by omega),hv]
 ·rw [List.getElem?_set_ne (by omega),h.at_ b hb];by_cases g:b<a
  ·rw [if_pos g,if_pos (by omega)]
  ·rw [if_neg g,if_neg (by omega)]
theorem Wrt.skip {f:Nat→Int} {init:List Int} {a:Nat} {y:List Int} (h:Wrt f init a y) (ha:a<init.length) (hv:init[a]?=some (f a)):Wrt f init (a+1) y:=by
 refine ⟨h.len,fun b hb=>?_⟩;rw [h.at_ b hb];by_cases e:b=a
 ·subst e;rw [if_neg (by omega),if_pos (by omega),hv]
 ·by_cases g:b<a
  ·rw [if_pos g,if_pos (by omega)]
  ·rw [if_neg g,if_neg (by omega)]
theorem Wrt.done {f:Nat→Int} {init y:List Int} {a:Nat} (h:Wrt f init a y) (ha:init.length≤a):y=(List.range init.length).map f:=by
 refine List.ext_getElem? fun b=>?_;by_cases g:b<init.length
 ·rw [h.at_ b g,if_pos (by omega),List.getElem?_map,List.getElem?_range g];rfl
 ·rw [List.getElem?_eq_none (by have:=h.len;omega),List.getElem?_eq_none (by simp;omega)]
theorem Wrt.cur {f:Nat→Int} {init:List Int} {a:Nat} {y:List Int} (h:Wrt f init a y) (ha:a<init.length):y[a]?=init[a]?:=by rw [h.at_ a ha,if_neg (by omega)]
end
section
def pnx (p:zaa) (s a:Nat):Int:=(((p.Next[s]?).getD [])[a]?).getD (-1)
def pot (p:zaa) (s a:Nat):Int:=(((p.Out[s]?).getD [])[a]?).getD (-1)
theorem zci.at {p:zaa} (H:zci p) {s a:Nat} (hs:s<p.Next.length) (ha:a<p.Inputs.toNat):-1≤pnx p s a∧pnx p s a<(↑p.Next.length:Int)∧-1≤pot p s a∧pot p s a≤1048576∧(pnx p s a=-1↔pot p s a=-1)∧∃ x y,p.Next[s]?=some x∧p.Out[s]?=some y∧x[a]?=some (pnx p s a)∧y[a]?=some (pot p s a)∧(↑x.length:Int)=p.Inputs∧(↑y.length:Int)=p.Inputs:=by
 obtain ⟨x,y,h1,h2,h3,h4,h5⟩:=H.row s hs;have hx:=get_at (l:=x) (i:=a) (by omega);have hy:=get_at (l:=y) (i:=a) (by omega);have e1:pnx p s a=x[a]:=by unfold pnx;rw [h1,Option.getD_some,hx,Option.getD_some]
 have e2:pot p s a=y[a]:=by unfold pot;rw [h2,Option.getD_some,hy,Option.getD_some]
 obtain ⟨k1,k2,k3,k4,k5⟩:=h5 a _ _ hx hy;rw [e1,e2];exact ⟨k1,k2,k3,k4,k5,x,y,h1,h2,hx,hy,h3,h4⟩
theorem zjz {p:zaa} (H:zci p) {q a u:Nat} (h:pnx p q a=(↑u:Int)):q<p.Next.length∧a<p.Inputs.toNat∧u<p.Next.length:=by
 have hq:q<p.Next.length:=Classical.byContradiction fun g=>by
  unfold pnx at h;rw [show p.Next[q]?=none from List.getElem?_eq_none (by omega)] at h;have h:(-1:Int)=↑u:=h;omega
 have ha:a<p.Inputs.toNat:=Classical.byContradiction fun g=>by
  obtain ⟨x,y,h1,h2,h3,h4,h5⟩:=H.row q hq;unfold pnx at h;rw [h1,Option.getD_some,show x[a]?=none from List.getElem?_eq_none (by omega)] at h;have h:(-1:Int)=↑u:=h;omega
 have:=(H.at hq ha).2.1;exact ⟨hq,ha,by omega⟩
inductive Cong (p:zaa) (s t:Nat):Nat→Nat→Prop
 | base:Cong p s t s t
 | refl (q:Nat):Cong p s t q q
 | symm {q r:Nat} (h:Cong p s t q r):Cong p s t r q
 | trans {q r u:Nat} (h:Cong p s t q r) (k:Cong p s t r u):Cong p s t q u
 | step {q r:Nat} (a u v:Nat) (h:Cong p s t q r) (hu:pnx p q a=(↑u:Int)) (hv:pnx p r a=(↑v:Int)):Cong p s t u v
def znn (p:zaa) (s t:Nat):Prop:=∃ q r a,Cong p s t q r∧pnx p q a≠-1∧pnx p r a≠-1∧pot p q a≠pot p r a
noncomputable def clsOf (p:zaa) (s t q:Nat):Nat:=by
 classical
 exact ((List.range (q+1)).find? fun r=>decide (Cong p s t q r)).getD q
section
variable {p:zaa} {s t:Nat}
theorem znb (q:Nat):clsOf p s t q≤q∧Cong p s t q (clsOf p s t q)∧∀ r,r<clsOf p s t q→¬ Cong p s t q r:=by
 classical
 unfold clsOf;cases h:(List.range (q+1)).find? fun r=>decide (Cong p s t q r) with
 | none=>exact absurd (zkB (Cong.refl q)) (List.find?_eq_none.1 h q (List.mem_range.2 (by omega)))
 | some r =>
  obtain ⟨h1,h2,h3⟩:=List.find?_range_eq_some.1 h;rw [Option.getD_some];have h2:=List.mem_range.1 h2;refine ⟨by omega,of_decide_eq_true h1,fun u hu hc=>?_⟩;have:=h3 u hu;simp [hc] at this
theorem clsOf_eq {q c:Nat} (h:Cong p s t q c) (h2:∀ r,Cong p s t q r→c≤r):clsOf p s t q=c:=by
 obtain ⟨g1,g2,g3⟩:=znb (p:=p) (s:=s) (t:=t) q;have h3:=h2 _ g2;rcases Nat.lt_or_ge c (clsOf p s t q) with k | k
 ·exact absurd h (g3 c k)
 ·omega
theorem clsOf_same {q r:Nat}:Cong p s t q r↔clsOf p s t q=clsOf p s t r:=by
 obtain ⟨a1,a2,a3⟩:=znb (p:=p) (s:=s) (t:=t) q;obtain ⟨b1,b2,b3⟩:=znb (p:=p) (s:=s) (t:=t) r;constructor
 ·intro h;refine clsOf_eq (h.trans b2) fun u hu=>Nat.le_of_not_lt fun k=>b3 u k (h.symm.trans hu)
 ·intro h;rw [h] at a2;exact a2.trans b2.symm
theorem cong_into (H:zci p) (hs:s<p.Next.length) (ht:t<p.Next.length) {cl:Nat→Nat} (h0:cl s=cl t) (hc:∀ q r a u v:Nat,q<p.Next.length→r<p.Next.length→cl q=cl r→pnx p q a=(↑u:Int)→pnx p r a=(↑v:Int)→cl u=cl v) {q r:Nat} (h:Cong p s t q r):q=r∨(q<p.Next.length∧r<p.Next.length∧cl q=cl r):=by
 induction h with
 | base=>exact .inr ⟨hs,ht,h0⟩
 | refl q=>exact .inl rfl
 | symm _ ih =>
  rcases ih with e | ⟨a,b,c⟩
  ·exact .inl e.symm
  ·exact .inr ⟨b,a,c.symm⟩
 | trans _ _ ih1 ih2 =>
  rcases ih1 with rfl | ⟨a,b,c⟩
  ·exact ih2
  ·rcases ih2 with rfl | ⟨a',b',c'⟩
   ·exact .inr ⟨a,b,c⟩
   ·exact .inr ⟨a,b',c.trans c'⟩
 | step a u v _ hu hv ih =>
  obtain ⟨q1,_,q3⟩:=zjz H hu;obtain ⟨r1,_,r3⟩:=zjz H hv;rcases ih with rfl | ⟨_,_,c⟩
  ·rw [hu] at hv;exact .inl (by omega)
  ·exact .inr ⟨q3,r3,hc _ _ a u v q1 r1 c hu hv⟩
structure ClsL (p:zaa) (s t:Nat) (C:List Int) (cl:Nat→Nat):Prop where
 len:C.length=p.Next.length
 at_:∀ q,q<p.Next.length→C[q]?=some (↑(cl q):Int)
 le:∀ q,q<p.Next.length→cl q≤q
 idem:∀ q,q<p.Next.length→cl (cl q)=cl q
 sound:∀ q,q<p.Next.length→Cong p s t q (cl q)
def zgu (n:Nat) (cl:Nat→Nat):Nat:=(List.range n).countP fun q=>decide (cl q=q)
def zei (cl:Nat→Nat) (u v q:Nat):Nat:=if cl q=max (cl u) (cl v) then min (cl u) (cl v) else cl q
theorem zra (cl:Nat→Nat) (u v:Nat):zei cl u v u=zei cl u v v:=by
 unfold zei;rcases Nat.le_total (cl u) (cl v) with h | h
 ·rw [Nat.max_eq_right h,Nat.min_eq_left h,if_pos rfl];split<;>omega
 ·rw [Nat.max_eq_left h,Nat.min_eq_right h,if_pos rfl];split<;>omega
theorem znt {cl:Nat→Nat} {u v q r:Nat} (h:cl q=cl r):zei cl u v q=zei cl u v r:=by unfold zei;rw [h]
theorem countP_lt {n:Nat} {f g:Nat→Bool} (h:∀ q,q<n→g q=true→f q=true) {x:Nat} (hx:x<n) (h1:f x=true) (h2:g x=false):(List.range n).countP g<(List.range n).countP f:=by
 induction n with
 | zero=>omega
 | succ n ih =>
  rw [List.range_succ,List.countP_append,List.countP_append,List.countP_singleton,List.countP_singleton];by_cases e:x=n
  ·subst e;have hle:(List.range x).countP g≤(List.range x).countP f:=List.countP_mono_left fun q hq hg=>h q (by have:=List.mem_range.1 hq;omega) hg;rw [h1,h2];simp;omega
  ·have:=ih (fun q hq=>h q (by omega)) (by omega)
   have h3:(if g n=true then 1 else 0)≤(if f n=true then 1 else 0:Nat):=by
    by_cases k:g n=true
    ·rw [if_pos k,if_pos (h n (by omega) k)];omega
    ·rw [if_neg k];omega
   omega
theorem ClsL.join {C:List Int} {cl:Nat→Nat} (K:ClsL p s t C cl) {u v:Nat} (hu:u<p.Next.length) (hv:v<p.Next.length) (hc:Cong p s t u v) (hn:p.Next.length≤10000000):∃ C',ze9 C (↑u:Int) (↑v:Int)=some C'∧ClsL p s t C' (zei cl u v)∧(cl u≠cl v→zgu p.Next.length (zei cl u v)<zgu p.Next.length cl):=by
 have hlen:=K.len
 have key:=za8 (step:=fun (q:List Int×Nat)=>ze9.s2 (↑(cl u):Int) (↑(cl v):Int) (↑(cl u):Int) (↑(cl v):Int) q.1 q.2) (fun q=>q.2≤C.length∧Wrt (fun b=>(↑(zei cl u v b):Int)) C q.2 q.1) (fun q=>C.length-q.2) (fun r=>r=(List.range C.length).map fun b=>(↑(zei cl u v b):Int)) (fun ⟨y,i⟩ ⟨g1,g2⟩=>by
  simp only at g1 g2
  simp only [ze9.s2]
  have hyl:=g2.len
  by_cases h:i<C.length
  ·left
   have hy:y[i]?=some (↑(cl i):Int):=(g2.cur h).trans (K.at_ i (by omega))
   rw [zkB (by omega),zkD,zas hy]
   by_cases e:cl i=max (cl u) (cl v)
   ·refine ⟨(y.set i (min (↑(cl u):Int) (↑(cl v):Int)),i+1),by rw [zkB (by omega),zkD,zas hy],⟨h,g2.step h ?_⟩,by simp only;omega⟩
    unfold zei
    rw [if_pos e]
    omega
   ·refine ⟨(y,i+1),by rw [zkA (by omega),zkC],⟨h,g2.skip h ?_⟩,by simp only;omega⟩
    unfold zei
    rw [if_neg e]
    exact K.at_ i (by omega)
  ·right
   exact ⟨_,by rw [zkA (by omega),zkC],g2.done (by omega)⟩) fuel (C,0) ⟨Nat.zero_le _,Wrt.zero _ _⟩ (by have:=zbg;simp only;omega)
 obtain ⟨r,e,rfl⟩:=key;have hlo:min (cl u) (cl v)<p.Next.length:=by have:=K.le u hu;omega
 have hcl:∀ q,q<p.Next.length→cl q<p.Next.length:=fun q hq=>by have:=K.le q hq;omega
 have hcc:Cong p s t (cl u) (cl v):=(K.sound u hu).symm.trans (hc.trans (K.sound v hv))
 have hmm:Cong p s t (max (cl u) (cl v)) (min (cl u) (cl v)):=by
  rcases Nat.le_total (cl u) (cl v) with h | h
  ·rw [Nat.max_eq_right h,Nat.min_eq_left h];exact hcc.symm
  ·rw [Nat.max_eq_left h,Nat.min_eq_right h];exact hcc
 have hmi:cl (min (cl u) (cl v))=min (cl u) (cl v):=by
  rcases Nat.le_total (cl u) (cl v) with h | h
  ·rw [Nat.min_eq_left h];exact K.idem u hu
  ·rw [Nat.min_eq_right h];exact K.idem v hv
 have hma:cl (max (cl u) (cl v))=max (cl u) (cl v):=by
  rcases Nat.le_total (cl u) (cl v) with h | h
  ·rw [Nat.max_eq_right h];exact K.idem v hv
  ·rw [Nat.max_eq_left h];exact K.idem u hu
 have hlmin:zei cl u v (min (cl u) (cl v))=min (cl u) (cl v):=by
  unfold zei;rw [hmi];split<;>omega
 refine ⟨(List.range C.length).map fun b=>(↑(zei cl u v b):Int),?_,⟨by simp [hlen],fun q hq=>?_,fun q hq=>?_,fun q hq=>?_,fun q hq=>?_⟩,fun hne=>?_⟩
 ·unfold ze9;rw [zb5 (i:=u) rfl (K.at_ u hu),zb5 (i:=v) rfl (K.at_ v hv),zb5 (i:=u) rfl (K.at_ u hu),zb5 (i:=v) rfl (K.at_ v hv),e,zau]
 ·rw [List.getElem?_map,List.getElem?_range (by omega)];rfl
 ·have:=K.le q hq;unfold zei;split<;>omega
 ·have h1:zei cl u v q=min (cl u) (cl v)∨(zei cl u v q=cl q∧cl q≠max (cl u) (cl v)):=by
   unfold zei;split
   ·exact .inl rfl
   ·rename_i g;exact .inr ⟨rfl,g⟩
  rcases h1 with h1 | ⟨h1,h2⟩
  ·rw [h1,hlmin]
  ·rw [h1];unfold zei;rw [K.idem q hq,if_neg h2]
 ·unfold zei;split
  ·rename_i g;have:=K.sound q hq;rw [g] at this;exact this.trans hmm
  ·exact K.sound q hq
 ·have hlt:min (cl u) (cl v)<max (cl u) (cl v):=by omega
  have hmx:max (cl u) (cl v)<p.Next.length:=by have:=hcl u hu;have:=hcl v hv;omega
  refine countP_lt (fun q hq h=>?_) hmx (zkB hma) (zkA ?_)
  ·have h:=of_decide_eq_true h;refine zkB ?_;unfold zei at h;split at h
   ·rename_i g;rw [← h,hmi]
   ·exact h
  ·unfold zei;rw [hma,if_pos rfl];omega
structure FstOk (p:zaa) (cl:Nat→Nat) (a q:Nat) (F:List Int):Prop where
 len:F.length=p.Next.length
 none_:∀ c,c<p.Next.length→F[c]?=some (-1)→∀ r,r<q→cl r=c→pnx p r a=-1
 some_:∀ c,c<p.Next.length→F[c]?≠some (-1)→∃ f:Nat,F[c]?=some (↑f:Int)∧f<q∧cl f=c∧pnx p f a≠-1∧∀ r,r<q→cl r=c→pnx p r a≠-1→pot p f a=pot p r a∧cl (pnx p f a).toNat=cl (pnx p r a).toNat
def SymOk (p:zaa) (cl:Nat→Nat) (a:Nat):Prop:=∀ q r,q<p.Next.length→r<p.Next.length→cl q=cl r→pnx p q a≠-1→pnx p r a≠-1→pot p q a=pot p r a∧cl (pnx p q a).toNat=cl (pnx p r a).toNat
theorem FstOk.end_ (H:zci p) {cl:Nat→Nat} {a:Nat} {F:List Int} (K:FstOk p cl a p.Next.length F) (hcl:∀ q,q<p.Next.length→cl q<p.Next.length):SymOk p cl a:=fun q r hq hr e h1 h2=>by
 have hc:=hcl q hq;by_cases g:F[cl q]?=some (-1)
 ·exact absurd (K.none_ _ hc g q hq rfl) h1
 ·obtain ⟨f,_,_,_,_,h⟩:=K.some_ _ hc g;obtain ⟨a1,a2⟩:=h q hq rfl h1;obtain ⟨b1,b2⟩:=h r hr e.symm h2;exact ⟨a1.symm.trans b1,a2.symm.trans b2⟩
theorem loop_first (H:zci p) {C:List Int} {cl:Nat→Nat} (K:ClsL p s t C cl) {a:Nat} (ha:a<p.Inputs.toNat) (more:Bool) {F0:List Int} (hF:F0=(List.range p.Next.length).map fun _=>(-1:Int)) :
  ∃ r,iter (fun (q:List Int×Nat)=>zao.s198 p C more a q.1 q.2) fuel (F0,0)=some r ∧
   ((r=.inr (.inr (.inr (.inr (.inr ([],false)))))∧znn p s t)∨(∃ C' cl',r=.inl (C',true)∧ClsL p s t C' cl'∧zgu p.Next.length cl'<zgu p.Next.length cl∧∀ q r,cl q=cl r→cl' q=cl' r)∨(r=.inl (C,more)∧SymOk p cl a)):=by
 have hn:=H.n2;have hcl:∀ q,q<p.Next.length→cl q<p.Next.length:=fun q hq=>by have:=K.le q hq;omega
 refine za8 (step:=fun (q:List Int×Nat)=>zao.s198 p C more a q.1 q.2) (fun q=>q.2≤p.Next.length∧FstOk p cl a q.2 q.1) (fun q=>p.Next.length-q.2) (fun r=>_) (fun ⟨F,q⟩ ⟨g1,g2⟩=>?_) fuel (F0,0) ⟨Nat.zero_le _,?_⟩ (by have:=zbg;simp only;omega)
 ·simp only at g1 g2;simp only [zao.s198];by_cases hq:q<p.Next.length
  ·obtain ⟨n1,n2,n3,n4,n5,x,y,hx,hy,hxa,hya,hxl,hyl⟩:=H.at hq ha;rw [zkB (by omega),zkD,zas hx,zas hxa];by_cases e:pnx p q a=-1
   ·left;refine ⟨(F,q+1),by rw [zkB e,zkD,zau];rfl,⟨hq,g2.len,fun c hc hF r hr hrc=>?_,fun c hc hF=>?_⟩,by simp only;omega⟩
    ·by_cases e2:r=q
     ·rw [e2];exact e
     ·exact g2.none_ c hc hF r (by simp only at hr;omega) hrc
    ·obtain ⟨f,f1,f2,f3,f4,f5⟩:=g2.some_ c hc hF;refine ⟨f,f1,by simp only;omega,f3,f4,fun r hr hrc hr1=>?_⟩;by_cases e2:r=q
     ·rw [e2] at hr1;exact absurd e hr1
     ·exact f5 r (by simp only at hr;omega) hrc hr1
   ·have hCq:=K.at_ q hq;have hFl:=g2.len;have hc:=hcl q hq;have hFc:=get_at (l:=F) (i:=cl q) (by omega);rw [zkA e,zkC,zas hCq,zb5 (i:=cl q) rfl hFc];by_cases e1:F[cl q]=-1
    ·left;refine ⟨(F.set (cl q) (↑q:Int),q+1),by rw [zkB e1,zkD,zas hCq,zb5 (i:=cl q) rfl hFc,zau];rfl,⟨hq,by rw [List.length_set];exact hFl,fun c hc' hF r hr hrc=>?_,fun c hc' hF=>?_⟩,by simp only;omega⟩
     ·simp only at hF hr;by_cases e2:c=cl q
      ·subst e2;rw [List.getElem?_set_self (by omega)] at hF;injection hF with hF
       omega
      ·rw [List.getElem?_set_ne (by omega)] at hF;exact g2.none_ c hc' hF r (Nat.lt_of_le_of_ne (by omega) fun e3=>e2 (by rw [← hrc,e3])) hrc
     ·simp only at hF ⊢;by_cases e2:c=cl q
      ·subst e2;refine ⟨q,by rw [List.getElem?_set_self (by omega)],by omega,rfl,e,fun r hr hrc hr1=>?_⟩;by_cases e3:r=q
       ·rw [e3];exact ⟨rfl,rfl⟩
       ·exact absurd (g2.none_ _ hc (by rw [hFc,e1]) r (by omega) hrc) hr1
      ·rw [List.getElem?_set_ne (by omega)] at hF ⊢;obtain ⟨f,f1,f2,f3,f4,f5⟩:=g2.some_ c hc' hF;exact ⟨f,f1,by omega,f3,f4,fun r hr hrc hr1=>f5 r (Nat.lt_of_le_of_ne (by omega) fun e3=>e2 (by rw [← hrc,e3])) hrc hr1⟩
    ·obtain ⟨f,f1,f2,f3,f4,f5⟩:=g2.some_ (cl q) hc (by rw [hFc];intro h;injection h with h;exact e1 h);rw [hFc] at f1;injection f1 with f1
     have hf:f<p.Next.length:=by omega
     obtain ⟨m1,m2,m3,m4,m5,x',y',hx',hy',hxa',hya',hxl',hyl'⟩:=H.at hf ha;have hcong:Cong p s t f q:=(K.sound f hf).trans (by rw [f3];exact (K.sound q hq).symm);rw [zkA e1,zkC,f1,zb5 (i:=f) rfl hy',zas hya',zas hy,zas hya];by_cases e4:pot p f a≠pot p q a
     ·right;exact ⟨_,by rw [zkB e4,zkD,zau];rfl,.inl ⟨rfl,f,q,a,hcong,f4,e,e4⟩⟩
     ·obtain ⟨u,hu⟩:∃ u:Nat,pnx p f a=(↑u:Int):=⟨(pnx p f a).toNat,by omega⟩;obtain ⟨v,hv⟩:∃ v:Nat,pnx p q a=(↑v:Int):=⟨(pnx p q a).toNat,by omega⟩;have hul:u<p.Next.length:=by omega
      have hvl:v<p.Next.length:=by omega
      rw [zkA e4,zkC,zb5 (i:=f) rfl hx',zas hxa',hu,zb5 (i:=u) rfl (K.at_ u hul),zas hx,zas hxa,hv,zb5 (i:=v) rfl (K.at_ v hvl)];by_cases e5:cl u=cl v
      ·left;refine ⟨(F,q+1),by rw [zkA (by omega),zkC,zau];rfl,⟨hq,hFl,fun c hc' hF r hr hrc=>?_,fun c hc' hF=>?_⟩,by simp only;omega⟩
       ·simp only at hF hr;by_cases e2:c=cl q
        ·rw [e2,hFc] at hF;injection hF with hF
         exact absurd hF e1
        ·exact g2.none_ c hc' hF r (Nat.lt_of_le_of_ne (by omega) fun e3=>e2 (by rw [← hrc,e3])) hrc
       ·simp only at hF ⊢;obtain ⟨f',f1',f2',f3',f4',f5'⟩:=g2.some_ c hc' hF;refine ⟨f',f1',by omega,f3',f4',fun r hr hrc hr1=>?_⟩;by_cases e3:r=q
        ·rw [e3] at hrc ⊢;rw [← hrc,hFc] at f1';injection f1' with f1'
         have:f'=f:=by omega
         rw [this,hu,hv];exact ⟨Classical.not_not.1 e4,by simpa using e5⟩
        ·exact f5' r (by omega) hrc hr1
      ·right;obtain ⟨C',j1,j2,j3⟩:=K.join hul hvl (.step a u v hcong hu hv) (by omega);rw [zkB (by omega),zkD,zb5 (i:=f) rfl hx',zas hxa',hu,zas hx,zas hxa,hv,j1,zau,zau];exact ⟨_,rfl,.inr (.inl ⟨C',zei cl u v,rfl,j2,j3 e5,fun q r h=>znt h⟩)⟩
  ·right;have e:q=p.Next.length:=by omega
   subst e;exact ⟨_,by rw [zkA (by omega),zkC],.inr (.inr ⟨rfl,g2.end_ H hcl⟩)⟩
 ·subst hF;refine ⟨by simp,fun c _ _ r hr=>by simp only at hr;omega,fun c hc hF=>absurd ?_ hF⟩;simp only;rw [List.getElem?_map,List.getElem?_range hc];rfl
end
end
section
section
variable {p:zaa} {s t:Nat}
theorem all_minus (H:zci p):iter (fun (q:List Int×Nat)=>zao.s196 p q.1 q.2) fuel (List.replicate p.Next.length 0,0)=some ((List.range p.Next.length).map fun _=>(-1:Int)):=by
 have hn:=H.n2
 have key:=za8 (step:=fun (q:List Int×Nat)=>zao.s196 p q.1 q.2) (fun q=>q.2≤p.Next.length∧Wrt (fun _=>(-1:Int)) (List.replicate p.Next.length 0) q.2 q.1) (fun q=>p.Next.length-q.2) (fun r=>r=(List.range p.Next.length).map fun _=>(-1:Int)) (fun ⟨y,i⟩ ⟨g1,g2⟩=>by
  simp only at g1 g2
  simp only [zao.s196]
  have hyl:=g2.len
  rw [List.length_replicate] at hyl
  by_cases h:i<p.Next.length
  ·left
   exact ⟨(y.set i (-1),i+1),by rw [zkB (by omega),zkD,zas (get_at (l:=y) (i:=i) (by omega))],⟨h,g2.step (by rw [List.length_replicate];exact h) rfl⟩,by simp only;omega⟩
  ·right
   refine ⟨_,by rw [zkA (by omega),zkC],?_⟩
   rw [g2.done (by rw [List.length_replicate];omega),List.length_replicate]) fuel (List.replicate p.Next.length 0,0) ⟨Nat.zero_le _,Wrt.zero _ _⟩ (by have:=zbg;simp only;omega)
 obtain ⟨r,e,rfl⟩:=key;exact e
theorem pass_at (H:zci p) {C:List Int} {cl:Nat→Nat} (K:ClsL p s t C cl) {a:Nat} (ha:a<p.Inputs.toNat) (m:Bool) :
  (zao.s200 p C m a=some (.inr (.inr (.inr (.inr ([],false)))))∧znn p s t)∨(∃ C' cl',zao.s200 p C m a=some (.inl (C',true,a+1))∧ClsL p s t C' cl'∧zgu p.Next.length cl'<zgu p.Next.length cl∧∀ q r,cl q=cl r→cl' q=cl' r)∨(zao.s200 p C m a=some (.inl (C,m,a+1))∧SymOk p cl a):=by
 have hn:=H.n2;have hi:=H.i2
 have k:∀ (y:List Int) (b:Bool),zao.k199 a y b=some (.inl (y,b,a+1)):=fun y b=>by
  unfold zao.k199;rw [za5 (by unfold inR;omega)]
 obtain ⟨r,e,hr⟩:=loop_first H K ha m rfl
 have e2:zao.s200 p C m a=Sum.elim (fun (s:List Int×Bool)=>zao.k199 a s.1 s.2) some r:=by
  unfold zao.s200;rw [zkB (by omega),zkD,za5 ⟨by omega,Int.le_refl _,by unfold za0;omega⟩,all_minus H,zau,e,zau]
 rw [e2];rcases hr with ⟨hr,hc⟩ | ⟨C2,cl2,hr,h⟩ | ⟨hr,hs⟩
 ·exact .inl ⟨by rw [hr,Sum.elim_inr],hc⟩
 ·exact .inr (.inl ⟨C2,cl2,by rw [hr,Sum.elim_inl,k],h⟩)
 ·exact .inr (.inr ⟨by rw [hr,Sum.elim_inl,k],hs⟩)
def PassQ (p:zaa) (s t:Nat) (cl:Nat→Nat) (r:(List Int×Bool)⊕((List Int×Bool)⊕(List Int⊕(List Int×Bool)))):Prop:=(r=.inr (.inr (.inr ([],false)))∧znn p s t)∨∃ C' cl' m,r=.inl (C',m)∧ClsL p s t C' cl'∧(m=true→zgu p.Next.length cl'<zgu p.Next.length cl)∧(m=false→cl'=cl∧∀ a,a<p.Inputs.toNat→SymOk p cl' a)∧∀ q r,cl q=cl r→cl' q=cl' r
theorem loop_pass (H:zci p) {C:List Int} {cl:Nat→Nat} (K:ClsL p s t C cl) :
  ∃ r,iter (fun (q:List Int×Bool×Nat)=>zao.s200 p q.1 q.2.1 q.2.2) fuel (C,false,0)=some r∧PassQ p s t cl r:=by
 have hn:=H.n2;have hi:=H.i2;refine za8 (step:=fun (q:List Int×Bool×Nat)=>zao.s200 p q.1 q.2.1 q.2.2) (fun q=>q.2.2≤p.Inputs.toNat∧∃ cl',ClsL p s t q.1 cl'∧(q.2.1=true→zgu p.Next.length cl'<zgu p.Next.length cl)∧(q.2.1=false→cl'=cl∧∀ a,a<q.2.2→SymOk p cl' a)∧∀ q r,cl q=cl r→cl' q=cl' r) (fun q=>p.Inputs.toNat-q.2.2) (PassQ p s t cl) (fun ⟨C1,m,a⟩ ⟨g1,cl1,K1,g2,g3,g4⟩=>?_) fuel (C,false,0) ⟨Nat.zero_le _,cl,K,(fun h=>by cases h),(fun _=>⟨rfl,fun a ha=>by simp only at ha;omega⟩),fun q r h=>h⟩ (by have:=zbg;simp only;omega);unfold PassQ;simp only at g1 K1 g2 g3;simp only;by_cases ha:a<p.Inputs.toNat
 ·have hle:zgu p.Next.length cl1≤zgu p.Next.length cl:=by
   cases m with
   | true=>exact Nat.le_of_lt (g2 rfl)
   | false=>rw [(g3 rfl).1];exact Nat.le_refl _
  rcases pass_at H K1 ha m with ⟨e,hc⟩ | ⟨C2,cl2,e,K2,h2,h3⟩ | ⟨e,hs⟩
  ·exact .inr ⟨_,e,.inl ⟨rfl,hc⟩⟩
  ·exact .inl ⟨(C2,true,a+1),e,⟨ha,cl2,K2,(fun _=>by omega),(fun h=>by cases h),fun q r h=>h3 q r (g4 q r h)⟩,by simp only;omega⟩
  ·refine .inl ⟨(C1,m,a+1),e,⟨ha,cl1,K1,g2,fun hm=>⟨(g3 hm).1,fun b hb=>?_⟩,g4⟩,by simp only;omega⟩;simp only at hb;by_cases e2:b=a
   ·rw [e2];exact hs
   ·exact (g3 hm).2 b (by omega)
 ·have e:a=p.Inputs.toNat:=by have:=g1;omega
  subst e;exact .inr ⟨_,by unfold zao.s200;rw [zkA (by have:=H.i1;omega),zkC],.inr ⟨C1,cl1,m,rfl,K1,g2,g3,g4⟩⟩
def clF (C:List Int) (q:Nat):Nat:=((C[q]?).getD 0).toNat
theorem ClsL.reps {C:List Int} {cl:Nat→Nat} (K:ClsL p s t C cl):zgu p.Next.length (clF C)=zgu p.Next.length cl:=by
 unfold zgu;refine List.countP_congr fun q hq=>?_
 have e:clF C q=cl q:=by
  unfold clF;rw [K.at_ q (List.mem_range.1 hq),Option.getD_some];rfl
 rw [e]
theorem repsN_le (n:Nat) (cl:Nat→Nat):zgu n cl≤n:=by
 have:=List.countP_le_length (p:=fun q=>decide (cl q=q)) (l:=List.range n);rw [List.length_range] at this;exact this
theorem cls_done (H:zci p) (hs:s<p.Next.length) (ht:t<p.Next.length) {C:List Int} {cl:Nat→Nat} (K:ClsL p s t C cl) (h0:cl s=cl t) (hS:∀ a,a<p.Inputs.toNat→SymOk p cl a):(∀ q,q<p.Next.length→cl q=clsOf p s t q)∧¬ znn p s t:=by
 have hinto:∀ {q r:Nat},Cong p s t q r→q=r∨(q<p.Next.length∧r<p.Next.length∧cl q=cl r):=fun h=>cong_into H hs ht h0 (fun q r a u v hq hr e hu hv=>by
  obtain ⟨_,ha,_⟩:=zjz H hu
  have:=(hS a ha q r hq hr e (by rw [hu];omega) (by rw [hv];omega)).2
  rw [hu,hv] at this
  simpa using this) h
 refine ⟨fun q hq=>(clsOf_eq (K.sound q hq) fun r hr=>?_).symm,fun ⟨q,r,a,hc,h1,h2,h3⟩=>?_⟩
 ·rcases hinto hr with rfl | ⟨_,hr2,e⟩
  ·exact K.le q hq
  ·rw [e];exact K.le r hr2
 ·have rng:∀ q,pnx p q a≠-1→q<p.Next.length∧a<p.Inputs.toNat:=fun q h=>by
   have hq:q<p.Next.length:=Classical.byContradiction fun g=>h (by unfold pnx;rw [show p.Next[q]?=none from List.getElem?_eq_none (by omega)];rfl);refine ⟨hq,Classical.byContradiction fun g=>h ?_⟩;obtain ⟨x,y,e1,e2,e3,e4,e5⟩:=H.row q hq;unfold pnx;rw [e1,Option.getD_some,show x[a]?=none from List.getElem?_eq_none (by omega)];rfl
  obtain ⟨hq,ha⟩:=rng q h1;obtain ⟨hr,_⟩:=rng r h2;rcases hinto hc with rfl | ⟨_,_,e⟩
  ·exact h3 rfl
  ·exact h3 (hS a ha q r hq hr e h1 h2).1
theorem zla (H:zci p) (hs:s<p.Next.length) (ht:t<p.Next.length):(znn p s t∧zao p (↑s:Int) (↑t:Int)=some ([],false))∨(¬ znn p s t∧zao p (↑s:Int) (↑t:Int)=some ((List.range p.Next.length).map fun q=>(↑(clsOf p s t q):Int),true)):=by
 have hn:=H.n2
 have init:=za8 (step:=fun (q:List Int×Nat)=>zao.s2 p q.1 q.2) (fun q=>q.2≤p.Next.length∧Wrt (fun b=>(↑b:Int)) (List.replicate p.Next.length 0) q.2 q.1) (fun q=>p.Next.length-q.2) (fun r=>r=(List.range p.Next.length).map fun (b:Nat)=>(↑b:Int)) (fun ⟨y,i⟩ ⟨g1,g2⟩=>by
  simp only at g1 g2
  simp only [zao.s2]
  have hyl:=g2.len
  rw [List.length_replicate] at hyl
  by_cases h:i<p.Next.length
  ·left
   exact ⟨(y.set i (↑i:Int),i+1),by rw [zkB (by omega),zkD,zas (get_at (l:=y) (i:=i) (by omega))],⟨h,g2.step (by rw [List.length_replicate];exact h) rfl⟩,by simp only;omega⟩
  ·right
   refine ⟨_,by rw [zkA (by omega),zkC],?_⟩
   rw [g2.done (by rw [List.length_replicate];omega),List.length_replicate]) fuel (List.replicate p.Next.length 0,0) ⟨Nat.zero_le _,Wrt.zero _ _⟩ (by have:=zbg;simp only;omega)
 obtain ⟨r,e,rfl⟩:=init;have K0:ClsL p s t ((List.range p.Next.length).map fun (b:Nat)=>(↑b:Int)) (fun b=>b):=⟨by simp,fun q hq=>by rw [List.getElem?_map,List.getElem?_range hq];rfl,fun q _=>Nat.le_refl q,fun _ _=>rfl,fun q _=>.refl q⟩;obtain ⟨C1,j1,K1,_⟩:=K0.join hs ht .base (by omega);unfold zao;rw [za5 ⟨by omega,Int.le_refl _,by unfold za0;omega⟩,e,zau,j1,zau]
 have key:=za8 (step:=fun (q:List Int×Bool)=>zao.s202 p q.1 q.2) (fun q=>∃ cl,ClsL p s t q.1 cl∧cl s=cl t∧(q.2=false→∀ a,a<p.Inputs.toNat→SymOk p cl a)) (fun q=>2*zgu p.Next.length (clF q.1)+(if q.2=true then 1 else 0)) (fun r=>(r=.inr ([],false)∧znn p s t)∨∃ C cl,r=.inl C∧ClsL p s t C cl∧cl s=cl t∧∀ a,a<p.Inputs.toNat→SymOk p cl a) (fun ⟨C,m⟩ ⟨cl,K,g1,g2⟩=>by
  simp only at K g2
  simp only [zao.s202]
  cases m with
  | false =>
   right
   exact ⟨_,by rw [zkC],.inr ⟨C,cl,rfl,K,g1,g2 rfl⟩⟩
  | true =>
   rw [zkD]
   obtain ⟨r,e,hr⟩:=loop_pass H K
   rw [e,zau]
   rcases hr with ⟨rfl,hc⟩ | ⟨C',cl',m',rfl,K',h1,h2,h3⟩
   ·right
    exact ⟨_,rfl,.inl ⟨rfl,hc⟩⟩
   ·left
    refine ⟨(C',m'),rfl,⟨cl',K',h3 _ _ g1,fun hm=>(h2 hm).2⟩,?_⟩
    simp only
    rw [K.reps,K'.reps]
    cases m' with
    | true =>
     have:=h1 rfl
     simp only [if_true]
     omega
    | false =>
     rw [(h2 rfl).1]
     simp) fuel (C1,true) ⟨_,K1,zra _ s t,(fun h=>by cases h)⟩ (by
  have:=zbg
  have:=repsN_le p.Next.length (clF C1)
  simp only [if_true]
  omega)
 obtain ⟨r,e2,hr⟩:=key;rw [e2,zau];rcases hr with ⟨rfl,hc⟩ | ⟨C,cl,rfl,K,h0,hS⟩
 ·exact .inl ⟨hc,rfl⟩
 ·obtain ⟨d1,d2⟩:=cls_done H hs ht K h0 hS;refine .inr ⟨d2,?_⟩
  have hC:C=(List.range p.Next.length).map fun q=>(↑(clsOf p s t q):Int):=List.ext_getElem? fun q=>by
   by_cases hq:q<p.Next.length
   ·rw [K.at_ q hq,d1 q hq,List.getElem?_map,List.getElem?_range hq];rfl
   ·rw [List.getElem?_eq_none (by have:=K.len;omega),List.getElem?_eq_none (by simp;omega)]
  rw [hC];rfl
end
end
section
def gx (N:List (List Int)) (q a:Nat):Int:=(((N[q]?).getD [])[a]?).getD (-1)
structure Grid (n I:Nat) (N:List (List Int)):Prop where
 len:N.length=n
 row:∀ q,q<n→∃ x,N[q]?=some x∧x.length=I
theorem Grid.at {n I:Nat} {N:List (List Int)} (G:Grid n I N) {q a:Nat} (hq:q<n) (ha:a<I):∃ x,N[q]?=some x∧x[a]?=some (gx N q a)∧x.length=I:=by
 obtain ⟨x,h1,h2⟩:=G.row q hq;refine ⟨x,h1,?_,h2⟩;have hx:=get_at (l:=x) (i:=a) (by omega);unfold gx;rw [h1,Option.getD_some,hx,Option.getD_some]
theorem Grid.put {n I:Nat} {N:List (List Int)} (G:Grid n I N) {c a:Nat} {x:List Int} (hc:c<n) (ha:a<I) (hx:N[c]?=some x) (v:Int):Grid n I (N.set c (x.set a v))∧∀ q b,q<n→b<I→gx (N.set c (x.set a v)) q b=if q=c∧b=a then v else gx N q b:=by
 obtain ⟨x',h1,h2⟩:=G.row c hc;rw [hx] at h1;injection h1 with h1
 subst h1;have hlen:=G.len;constructor
 ·refine ⟨by rw [List.length_set];exact G.len,fun q hq=>?_⟩;by_cases e:q=c
  ·subst e;exact ⟨_,List.getElem?_set_self (by omega),by rw [List.length_set];exact h2⟩
  ·rw [List.getElem?_set_ne (by omega)];exact G.row q hq
 ·intro q b hq hb;by_cases e:q=c
  ·subst e;unfold gx;rw [List.getElem?_set_self (by omega),Option.getD_some];by_cases e2:b=a
   ·subst e2;rw [List.getElem?_set_self (by omega),Option.getD_some,if_pos ⟨rfl,rfl⟩]
   ·rw [List.getElem?_set_ne (by omega),if_neg (fun h=>e2 h.2),hx,Option.getD_some]
  ·unfold gx;rw [List.getElem?_set_ne (by omega),if_neg (fun h=>e h.1)]
theorem zci.gn {p:zaa} (H:zci p):Grid p.Next.length p.Inputs.toNat p.Next:=⟨rfl,fun q hq=>by
 obtain ⟨x,y,h1,h2,h3,h4,h5⟩:=H.row q hq
 exact ⟨x,h1,by omega⟩⟩
theorem zci.go {p:zaa} (H:zci p):Grid p.Next.length p.Inputs.toNat p.Out:=⟨H.ol,fun q hq=>by
 obtain ⟨x,y,h1,h2,h3,h4,h5⟩:=H.row q hq
 exact ⟨y,h2,by omega⟩⟩
structure UpOk (n:Nat) (cl:Nat→Nat) (M:List (Int×Int)):Prop where
 u0:∀ q,q<n→cl q=q→mget (↑q:Int) M=none
 u1:∀ q,q<n→cl q≠q→∃ u:Nat,u<q∧mget (↑q:Int) M=some (↑u:Int)∧cl u=cl q
theorem of_eq {n:Nat} {cl:Nat→Nat} {M:List (Int×Int)} (U:UpOk n cl M) (hn:n≤10000000) {u:Nat} (hu:u<n):zbi ⟨M⟩ (↑u:Int)=some ((↑(cl u):Int),M):=by
 unfold zbi
 have key:=za8 (step:=fun (s:Int)=>zbi.s1 ⟨M⟩ s) (fun s=>∃ v:Nat,s=(↑v:Int)∧v≤u∧cl v=cl u) (fun s=>s.toNat) (fun r=>r=((↑(cl u):Int),M)) (fun s ⟨v,e,h1,h2⟩=>by
  subst e
  simp only [zbi.s1]
  by_cases g:cl v=v
  ·right
   rw [U.u0 v (by omega) g]
   exact ⟨_,rfl,by rw [← h2,g]⟩
  ·left
   obtain ⟨w,w1,w2,w3⟩:=U.u1 v (by omega) g
   rw [w2]
   exact ⟨_,rfl,⟨w,rfl,by omega,w3.trans h2⟩,by rw [Option.getD_some];omega⟩) fuel (↑u) ⟨u,rfl,Nat.le_refl _,rfl⟩ (by have:=zbg;omega)
 obtain ⟨r,e,rfl⟩:=key;exact e
section
variable {p:zaa} {s t:Nat}
theorem ClsL.mm {C:List Int} {cl:Nat→Nat} (K:ClsL p s t C cl) {u v:Nat} (hu:u<p.Next.length) (hv:v<p.Next.length):cl (min (cl u) (cl v))=min (cl u) (cl v)∧cl (max (cl u) (cl v))=max (cl u) (cl v):=by
 rcases Nat.le_total (cl u) (cl v) with h | h
 ·rw [Nat.min_eq_left h,Nat.max_eq_right h];exact ⟨K.idem u hu,K.idem v hv⟩
 ·rw [Nat.min_eq_right h,Nat.max_eq_left h];exact ⟨K.idem v hv,K.idem u hu⟩
theorem joinF_min {C:List Int} {cl:Nat→Nat} (K:ClsL p s t C cl) {u v:Nat} (hu:u<p.Next.length) (hv:v<p.Next.length):zei cl u v (min (cl u) (cl v))=min (cl u) (cl v):=by
 unfold zei;rw [(K.mm hu hv).1];split<;>omega
theorem UpOk.join {C:List Int} {cl:Nat→Nat} {M:List (Int×Int)} (K:ClsL p s t C cl) (U:UpOk p.Next.length cl M) {u v:Nat} (hu:u<p.Next.length) (hv:v<p.Next.length) (hne:cl u≠cl v):UpOk p.Next.length (zei cl u v) (mset (↑(max (cl u) (cl v)):Int) (↑(min (cl u) (cl v)):Int) M):=by
 obtain ⟨m1,m2⟩:=K.mm hu hv;have hb:∀ a b:Int,(a==b)=true↔a=b:=fun a b=>beq_iff_eq;have hcmax:zei cl u v (max (cl u) (cl v))=min (cl u) (cl v):=by unfold zei;rw [m2,if_pos rfl]
 refine ⟨fun q hq h=>?_,fun q hq h=>?_⟩
 ·by_cases e:q=max (cl u) (cl v)
  ·rw [e,hcmax] at h;omega
  ·rw [zkd hb (by omega)];refine U.u0 q hq ?_;unfold zei at h;split at h
   ·rw [← h,m1]
   ·exact h
 ·by_cases e:q=max (cl u) (cl v)
  ·subst e;exact ⟨min (cl u) (cl v),by omega,zlf hb _,by rw [hcmax,joinF_min K hu hv]⟩
  ·rw [zkd hb (by omega)]
   have h0:cl q≠q:=fun g=>h (by
    unfold zei
    rw [g,if_neg e])
   obtain ⟨w,w1,w2,w3⟩:=U.u1 q hq h0;exact ⟨w,w1,w2,znt w3⟩
end
structure InI (n I:Nat) (N O:List (List Int)) (W0:List T_A2) (c1 c2:Nat) (N1 O1:List (List Int)) (W1:List T_A2) (a:Nat):Prop where
 gn:Grid n I N1
 go:Grid n I O1
 nx:∀ q b,q<n→b<I→gx N1 q b=if q=c1∧b<a∧gx N c1 b=-1 then gx N c2 b else gx N q b
 ot:∀ q b,q<n→b<I→gx O1 q b=if q=c1∧b<a∧gx N c1 b=-1 then gx O c2 b else gx O q b
 wk:∀ w,w∈W1→w∈W0∨∃ b,b<a∧gx N c1 b≠-1∧gx N c2 b≠-1∧w=⟨gx N c1 b,gx N c2 b⟩
 w0:∀ w,w∈W0→w∈W1
 w1:∀ b,b<a→gx N c1 b≠-1→gx N c2 b≠-1→gx O c1 b=gx O c2 b∧(⟨gx N c1 b,gx N c2 b⟩:T_A2)∈W1
 few:W1.length≤W0.length+a
def InQ (n I:Nat) (N O:List (List Int)) (W0:List T_A2) (c1 c2:Nat) (r:(List (List Int)×List (List Int)×List T_A2)⊕((List (List Int)×List (List Int)×(List (Int×Int))×List T_A2)⊕((List (List Int)×List (List Int)×(List (Int×Int))×List T_A2)⊕((List (List Int)×List (List Int)×(List (Int×Int)))⊕(zaa×List Int×Bool))))):Prop :=
 (r=.inr (.inr (.inr (.inr (⟨0,0,[],[]⟩,[],false))))∧∃ b,b<I∧gx N c1 b≠-1∧gx N c2 b≠-1∧gx O c1 b≠gx O c2 b)∨∃ N1 O1 W1,r=.inl (N1,O1,W1)∧InI n I N O W0 c1 c2 N1 O1 W1 I
theorem loop_in {n I:Nat} {N O:List (List Int)} {W0:List T_A2} {c1 c2:Nat} {x y:Int×List (Int×Int)} (hmin:min x.1 y.1=(↑c1:Int)) (hmax:max x.1 y.1=(↑c2:Int)) (hc1:c1<n) (hc2:c2<n) (hne:c2≠c1) {e:List Int} (he:e.length=I) (hI:I≤64) (GN:Grid n I N) (GO:Grid n I O)
  (h1:∀ b,b<I→gx N c1 b=-1→gx O c1 b=-1) (h2:∀ b,b<I→gx N c2 b=-1→gx O c2 b=-1) (hW:W0.length≤1000000) :
  ∃ r,iter (fun (s:List (List Int)×List (List Int)×List T_A2×Nat)=>zad.s43 x y e s.1 s.2.1 s.2.2.1 s.2.2.2) fuel (N,O,W0,0)=some r∧InQ n I N O W0 c1 c2 r:=by
 refine za8 (step:=fun (s:List (List Int)×List (List Int)×List T_A2×Nat)=>zad.s43 x y e s.1 s.2.1 s.2.2.1 s.2.2.2) (fun s=>s.2.2.2≤I∧InI n I N O W0 c1 c2 s.1 s.2.1 s.2.2.1 s.2.2.2) (fun s=>I-s.2.2.2) (InQ n I N O W0 c1 c2) (fun ⟨N1,O1,W1,a⟩ ⟨g1,g2⟩=>?_) fuel (N,O,W0,0) ⟨Nat.zero_le _,⟨GN,GO,fun q b _ _=>?_,fun q b _ _=>?_,fun w hw=>.inl hw,fun w hw=>hw,fun b hb=>?_,Nat.le_refl _⟩⟩ (by have:=zbg;simp only;omega)
 ·simp only at g1 g2;unfold InQ;simp only [zad.s43,hmin,hmax,Int.toNat_natCast];by_cases ha:a<I
  ·obtain ⟨x2,hx2,hxa2,hl2⟩:=g2.gn.at hc2 ha;obtain ⟨x1,hx1,hxa1,hl1⟩:=g2.gn.at hc1 ha;obtain ⟨y2,hy2,hya2,hm2⟩:=g2.go.at hc2 ha;obtain ⟨y1,hy1,hya1,hm1⟩:=g2.go.at hc1 ha;have e2:gx N1 c2 a=gx N c2 a:=by rw [g2.nx c2 a hc2 ha,if_neg (fun h=>hne h.1)]
   have e1:gx N1 c1 a=gx N c1 a:=by rw [g2.nx c1 a hc1 ha,if_neg (fun h=>Nat.lt_irrefl _ h.2.1)]
   have o2:gx O1 c2 a=gx O c2 a:=by rw [g2.ot c2 a hc2 ha,if_neg (fun h=>hne h.1)]
   have o1:gx O1 c1 a=gx O c1 a:=by rw [g2.ot c1 a hc1 ha,if_neg (fun h=>Nat.lt_irrefl _ h.2.1)]
   rw [e1] at hxa1;rw [e2] at hxa2;rw [o1] at hya1;rw [o2] at hya2;have hf:=g2.few
   have hsame:∀ {q b:Nat} {A B D:Int},(q=c1→b=a→gx N c1 a=-1→A=B)→(if q=c1∧b<a∧gx N c1 b=-1 then A else B)=if q=c1∧b<a+1∧gx N c1 b=-1 then A else B:=fun {q b A B D} h=>by
    by_cases k:q=c1∧b<a∧gx N c1 b=-1
    ·rw [if_pos k,if_pos ⟨k.1,by omega,k.2.2⟩]
    ·rw [if_neg k];by_cases k2:q=c1∧b<a+1∧gx N c1 b=-1
     ·have:b=a:=Nat.le_antisymm (by omega) (Nat.le_of_not_lt fun k3=>k ⟨k2.1,k3,k2.2.2⟩);subst this;rw [if_pos k2,h k2.1 rfl k2.2.2]
     ·rw [if_neg k2]
   rw [zkB (by omega),zkD,zas hx2,zas hxa2];by_cases k2:gx N c2 a=-1
   ·left;refine ⟨(N1,O1,W1,a+1),by rw [zkB k2,zkD,za5 (by unfold inR;omega)],⟨ha,g2.gn,g2.go,fun q b hq hb=>?_,fun q b hq hb=>?_,fun w hw=>?_,g2.w0,fun b hb hb1 hb2=>?_,by simp only;omega⟩,by simp only;omega⟩
    ·simp only;rw [g2.nx q b hq hb];exact hsame (D:=0) fun e3 e4 e5=>by rw [e3,e4,k2,e5]
    ·simp only;rw [g2.ot q b hq hb];exact hsame (D:=0) fun e3 e4 e5=>by rw [e3,e4,h1 a ha e5,h2 a ha k2]
    ·rcases g2.wk w hw with h | ⟨b,b1,b2⟩
     ·exact .inl h
     ·exact .inr ⟨b,by simp only;omega,b2⟩
    ·exact g2.w1 b (Nat.lt_of_le_of_ne (by simp only at hb;omega) fun e3=>hb2 (by rw [e3];exact k2)) hb1 hb2
   ·rw [zkA k2,zkC,zb5 (i:=c1) rfl hx1,zas hxa1];by_cases k1:gx N c1 a=-1
    ·left;obtain ⟨p1,p2⟩:=g2.gn.put hc1 ha hx1 (gx N c2 a);obtain ⟨r1,r2⟩:=g2.go.put hc1 ha hy1 (gx O c2 a);refine ⟨(N1.set c1 (x1.set a (gx N c2 a)),O1.set c1 (y1.set a (gx O c2 a)),W1,a+1),by rw [zkB k1,zkD,zb5 (i:=c1) rfl hx1,zb5 (i:=c1) rfl hy1,zb5 (i:=c2) rfl hy2,zas hya2,zas hxa1,zas hya1,za5 (by unfold inR;omega)],⟨ha,p1,r1,fun q b hq hb=>?_,fun q b hq hb=>?_,fun w hw=>?_,g2.w0,fun b hb hb1 hb2=>?_,by simp only;omega⟩,by simp only;omega⟩
     ·simp only;rw [p2 q b hq hb];by_cases k:q=c1∧b=a
      ·rw [if_pos k,if_pos ⟨k.1,by omega,by rw [k.2];exact k1⟩,k.2]
      ·rw [if_neg k,g2.nx q b hq hb];exact hsame (D:=0) fun e3 e4=>absurd ⟨e3,e4⟩ k
     ·simp only;rw [r2 q b hq hb];by_cases k:q=c1∧b=a
      ·rw [if_pos k,if_pos ⟨k.1,by omega,by rw [k.2];exact k1⟩,k.2]
      ·rw [if_neg k,g2.ot q b hq hb];exact hsame (D:=0) fun e3 e4=>absurd ⟨e3,e4⟩ k
     ·rcases g2.wk w hw with h | ⟨b,b1,b2⟩
      ·exact .inl h
      ·exact .inr ⟨b,by simp only;omega,b2⟩
     ·exact g2.w1 b (Nat.lt_of_le_of_ne (by simp only at hb;omega) fun e3=>hb1 (by rw [e3];exact k1)) hb1 hb2
    ·rw [zkA k1,zkC,zb5 (i:=c1) rfl hy1,zas hya1,zb5 (i:=c2) rfl hy2,zas hya2];by_cases k3:gx O c1 a≠gx O c2 a
     ·right;exact ⟨_,by rw [zkB k3,zkD],.inl ⟨rfl,a,ha,k1,k2,k3⟩⟩
     ·left;have k3:=Classical.not_not.1 k3;refine ⟨(N1,O1,W1++[⟨gx N c1 a,gx N c2 a⟩],a+1),by rw [zkA (fun h=>h k3),zkC,zb5 (i:=c1) rfl hx1,zas hxa1,za5 (by unfold za0;omega),za5 (by unfold inR;omega)],⟨ha,g2.gn,g2.go,fun q b hq hb=>?_,fun q b hq hb=>?_,fun w hw=>?_,fun w hw=>List.mem_append_left _ (g2.w0 w hw),fun b hb hb1 hb2=>?_,by simp only [zkJ,List.length_singleton];omega⟩,by simp only;omega⟩
      ·simp only;rw [g2.nx q b hq hb];exact hsame (D:=0) fun _ _ e5=>absurd e5 k1
      ·simp only;rw [g2.ot q b hq hb];exact hsame (D:=0) fun _ _ e5=>absurd e5 k1
      ·rcases List.mem_append.1 hw with hw | hw
       ·rcases g2.wk w hw with h | ⟨b,b1,b2⟩
        ·exact .inl h
        ·exact .inr ⟨b,by simp only;omega,b2⟩
       ·exact .inr ⟨a,by simp only;omega,k1,k2,List.mem_singleton.1 hw⟩
      ·by_cases e3:b=a
       ·rw [e3];exact ⟨k3,List.mem_append_right _ (List.mem_singleton.2 rfl)⟩
       ·obtain ⟨q1,q2⟩:=g2.w1 b (by simp only at hb;omega) hb1 hb2;exact ⟨q1,List.mem_append_left _ q2⟩
  ·right;have e3:a=I:=by omega
   rw [e3] at g2;exact ⟨_,by rw [zkA (by omega),zkC],.inr ⟨N1,O1,W1,rfl,g2⟩⟩
 ·rw [if_neg (fun h=>Nat.not_lt_zero _ h.2.1)]
 ·rw [if_neg (fun h=>Nat.not_lt_zero _ h.2.1)]
 ·exact absurd hb (Nat.not_lt_zero _)
end
section
def Lab (n:Nat) (cl:Nat→Nat) (W:List T_A2) (f:Nat→Nat):Prop:=(∀ q r,q<n→r<n→cl q=cl r→f q=f r)∧∀ u v:Nat,(⟨(↑u:Int),(↑v:Int)⟩:T_A2)∈W→f u=f v
structure zm3 (p:zaa) (s t:Nat) (cl:Nat→Nat) (N O:List (List Int)) (M:List (Int×Int)) (W:List T_A2):Prop where
 gn:Grid p.Next.length p.Inputs.toNat N
 go:Grid p.Next.length p.Inputs.toNat O
 cls:∃ C,ClsL p s t C cl
 up:UpOk p.Next.length cl M
 wk:∀ w,w∈W→∃ u v:Nat,w=⟨(↑u:Int),(↑v:Int)⟩∧u<p.Next.length∧v<p.Next.length∧Cong p s t u v
 st:∀ f,Lab p.Next.length cl W f→f s=f t
 row:∀ c a,c<p.Next.length→a<p.Inputs.toNat→cl c=c→(gx N c a=-1→gx O c a=-1∧∀ r,r<p.Next.length→cl r=c→pnx p r a=-1)∧(gx N c a≠-1→∃ u:Nat,gx N c a=(↑u:Int)∧u<p.Next.length∧(∃ r,r<p.Next.length∧cl r=c∧pnx p r a=(↑u:Int)∧pot p r a=gx O c a)∧∀ r,r<p.Next.length→cl r=c→pnx p r a≠-1→pot p r a=gx O c a∧∀ f,Lab p.Next.length cl W f→f u=f (pnx p r a).toNat)
 few:65*zgu p.Next.length cl+W.length≤65*p.Next.length+1
 rng:∀ q a,q<p.Next.length→a<p.Inputs.toNat→gx N q a=-1∨∃ u:Nat,gx N q a=(↑u:Int)∧u<p.Next.length
section
variable {p:zaa} {s t:Nat}
theorem zm3.join {cl:Nat→Nat} {N O:List (List Int)} {M:List (Int×Int)} {W:List T_A2} {u v:Nat} (H:zci p) (F:zm3 p s t cl N O M (⟨(↑u:Int),(↑v:Int)⟩::W)) (hu:u<p.Next.length) (hv:v<p.Next.length) (huv:Cong p s t u v) (hne:cl u≠cl v) {N1 O1:List (List Int)} {W1:List T_A2} (J:InI p.Next.length p.Inputs.toNat N O W (min (cl u) (cl v)) (max (cl u) (cl v)) N1 O1 W1 p.Inputs.toNat) :
  zm3 p s t (zei cl u v) N1 O1 (mset (↑(max (cl u) (cl v)):Int) (↑(min (cl u) (cl v)):Int) M) W1∧65*zgu p.Next.length (zei cl u v)+W1.length<65*zgu p.Next.length cl+(W.length+1):=by
 obtain ⟨C,K⟩:=F.cls;have hn:=H.n2;have hi:=H.i2;obtain ⟨C',_,K',hreps⟩:=K.join hu hv huv (by omega);have hreps:=hreps hne;obtain ⟨m1,m2⟩:=K.mm hu hv;have hup:=F.up.join K hu hv hne;have hcu:=K.le u hu;have hcv:=K.le v hv
 have hcc:Cong p s t (min (cl u) (cl v)) (max (cl u) (cl v)):=by
  have h0:Cong p s t (cl u) (cl v):=(K.sound u hu).symm.trans (huv.trans (K.sound v hv));rcases Nat.le_total (cl u) (cl v) with h | h
  ·rw [Nat.max_eq_right h,Nat.min_eq_left h];exact h0
  ·rw [Nat.max_eq_left h,Nat.min_eq_right h];exact h0.symm
 have hj:∀ r,zei cl u v r=if cl r=max (cl u) (cl v) then min (cl u) (cl v) else cl r:=fun r=>rfl
 have hsame:=zra cl u v;have hlt:min (cl u) (cl v)<max (cl u) (cl v):=by omega
 have hl1:min (cl u) (cl v)<p.Next.length:=by omega
 have hl2:max (cl u) (cl v)<p.Next.length:=by omega
 generalize hc1:min (cl u) (cl v)=c1 at *;generalize hc2:max (cl u) (cl v)=c2 at *;have hj1:∀ r,cl r=c1→zei cl u v r=c1:=fun r h=>by rw [hj,h,if_neg (by omega)]
 have hj2:∀ r,cl r=c2→zei cl u v r=c1:=fun r h=>by rw [hj,h,if_pos rfl]
 have hj3:∀ r c,cl r=c→c≠c2→zei cl u v r=c:=fun r c h h2=>by rw [hj,h,if_neg h2]
 have hsub:∀ f,Lab p.Next.length (zei cl u v) W1 f→Lab p.Next.length cl (⟨(↑u:Int),(↑v:Int)⟩::W) f:=fun f ⟨f1,f2⟩=>⟨fun q r hq hr e=>f1 q r hq hr (znt e),fun u' v' h=>by
  rcases List.mem_cons.1 h with h | h
  ·injection h with h3 h4
   have e1:u'=u:=by omega
   have e2:v'=v:=by omega
   rw [e1,e2]
   exact f1 _ _ hu hv hsame
  ·exact f2 u' v' (J.w0 _ h)⟩
 have hfew:=F.few;have hJ:=J.few;rw [zkL] at hfew
 have hrng:∀ q a,q<p.Next.length→a<p.Inputs.toNat→gx N1 q a=-1∨∃ u:Nat,gx N1 q a=(↑u:Int)∧u<p.Next.length:=fun q a hq ha=>by
  rw [J.nx q a hq ha];split
  ·exact F.rng _ _ hl2 ha
  ·exact F.rng _ _ hq ha
 refine ⟨⟨J.gn,J.go,⟨C',K'⟩,hup,fun w hw=>?_,fun f hf=>F.st f (hsub f hf),fun c a hc ha hcl=>?_,by omega,hrng⟩,by omega⟩
 ·rcases J.wk w hw with h | ⟨b,b1,b2,b3,b4⟩
  ·exact F.wk w (List.mem_cons_of_mem _ h)
  ·obtain ⟨u1,a1,a2,⟨r1,d1,d2,d3,_⟩,_⟩:=(F.row c1 b hl1 b1 m1).2 b2;obtain ⟨u2,e1,e2,⟨r2,g1,g2,g3,_⟩,_⟩:=(F.row c2 b hl2 b1 m2).2 b3;refine ⟨u1,u2,by rw [b4,a1,e1],a2,e2,.step b u1 u2 ?_ d3 g3⟩;have k1:=K.sound r1 d1;have k2:=K.sound r2 g1;rw [d2] at k1;rw [g2] at k2;exact k1.trans (hcc.trans k2.symm)
 ·have hcc2:cl c=c∧c≠c2:=by
   rw [hj] at hcl;split at hcl
   ·rename_i g;rw [← hcl,m1] at g;omega
   ·rename_i g;exact ⟨hcl,fun e=>g (by rw [e];exact m2)⟩
  have hclass:∀ r,zei cl u v r=c→cl r=c∨(c=c1∧cl r=c2):=fun r h=>by
   rw [hj] at h;split at h
   ·rename_i g;exact .inr ⟨h.symm,g⟩
   ·exact .inl h
  by_cases e:c=c1
  ·have hN:=J.nx c a hc ha;have hO:=J.ot c a hc ha;rw [e] at hN hO hclass;rw [e];have row1:=F.row c1 a hl1 ha m1;have row2:=F.row c2 a hl2 ha m2;by_cases k1:gx N c1 a=-1
   ·rw [if_pos ⟨rfl,ha,k1⟩] at hN hO;rw [hN,hO];refine ⟨fun k2=>⟨(row2.1 k2).1,fun r hr hrc=>?_⟩,fun k2=>?_⟩
    ·rcases hclass r hrc with h | ⟨_,h⟩
     ·exact (row1.1 k1).2 r hr h
     ·exact (row2.1 k2).2 r hr h
    ·obtain ⟨u2,a1,a2,⟨r2,b1,b2,b3,b4⟩,a4⟩:=row2.2 k2;refine ⟨u2,a1,a2,⟨r2,b1,hj2 _ b2,b3,b4⟩,fun r hr hrc hp=>?_⟩;rcases hclass r hrc with h | ⟨_,h⟩
     ·exact absurd ((row1.1 k1).2 r hr h) hp
     ·obtain ⟨d1,d2⟩:=a4 r hr h hp;exact ⟨d1,fun f hf=>d2 f (hsub f hf)⟩
   ·rw [if_neg (fun h=>k1 h.2.2)] at hN hO;rw [hN,hO];refine ⟨fun k=>absurd k k1,fun _=>?_⟩;obtain ⟨u1,a1,a2,⟨r1,b1,b2,b3,b4⟩,a4⟩:=row1.2 k1;refine ⟨u1,a1,a2,⟨r1,b1,hj1 _ b2,b3,b4⟩,fun r hr hrc hp=>?_⟩;rcases hclass r hrc with h | ⟨_,h⟩
    ·obtain ⟨d1,d2⟩:=a4 r hr h hp;exact ⟨d1,fun f hf=>d2 f (hsub f hf)⟩
    ·have k2:gx N c2 a≠-1:=fun k=>hp ((row2.1 k).2 r hr h);obtain ⟨u2,e1,e2,_,e4⟩:=row2.2 k2;obtain ⟨d1,d2⟩:=e4 r hr h hp;obtain ⟨j1,j2⟩:=J.w1 a ha k1 k2;rw [a1,e1] at j2;exact ⟨by rw [j1];exact d1,fun f hf=>(hf.2 u1 u2 j2).trans (d2 f (hsub f hf))⟩
  ·have hN:=J.nx c a hc ha;have hO:=J.ot c a hc ha;rw [if_neg (fun h=>e h.1)] at hN hO;rw [hN,hO];have row1:=F.row c a hc ha hcc2.1;have hcl2:∀ r,zei cl u v r=c→cl r=c:=fun r h=>(hclass r h).elim id fun h=>absurd h.1 e;refine ⟨fun k=>⟨(row1.1 k).1,fun r hr hrc=>(row1.1 k).2 r hr (hcl2 r hrc)⟩,fun k=>?_⟩;obtain ⟨u1,a1,a2,⟨r1,b1,b2,b3,b4⟩,a4⟩:=row1.2 k;refine ⟨u1,a1,a2,⟨r1,b1,hj3 _ _ b2 hcc2.2,b3,b4⟩,fun r hr hrc hp=>?_⟩;obtain ⟨d1,d2⟩:=a4 r hr (hcl2 r hrc) hp;exact ⟨d1,fun f hf=>d2 f (hsub f hf)⟩
theorem fold_step (H:zci p) {cl:Nat→Nat} {N O:List (List Int)} {M:List (Int×Int)} {W:List T_A2} (F:zm3 p s t cl N O M W) :
  (W=[]∧zad.s46 N O M W=some (.inr (.inl (N,O,M))))∨(zad.s46 N O M W=some (.inr (.inr (⟨0,0,[],[]⟩,[],false)))∧znn p s t)∨∃ N' O' M' W' cl',zad.s46 N O M W=some (.inl (N',O',M',W'))∧zm3 p s t cl' N' O' M' W'∧65*zgu p.Next.length cl'+W'.length<65*zgu p.Next.length cl+W.length:=by
 have hn:=H.n2;have hi:=H.i2;cases W with
 | nil=>exact .inl ⟨rfl,by unfold zad.s46;rw [zkA (by simp),zkC]⟩
 | cons w W =>
  right;obtain ⟨u,v,rfl,hu,hv,huv⟩:=F.wk w List.mem_cons_self;obtain ⟨C,K⟩:=F.cls;have hfew:=F.few;rw [zkL] at hfew;have hcu:=K.le u hu;have hcv:=K.le v hv;have e0:=of_eq F.up (by omega) hu;have e1:=of_eq F.up (by omega) hv;by_cases g:cl u=cl v
  ·right;refine ⟨N,O,M,W,cl,?_,⟨F.gn,F.go,F.cls,F.up,fun w hw=>F.wk w (List.mem_cons_of_mem _ hw),fun f hf=>F.st f ?_,fun c a hc ha hcl=>?_,by omega,F.rng⟩,by rw [zkL];omega⟩
   ·unfold zad.s46;rw [zkB (by rw [zkL];omega),zkD,zas (x:=⟨(↑u:Int),(↑v:Int)⟩) rfl,e0,zau,zas (x:=⟨(↑u:Int),(↑v:Int)⟩) rfl,e1,zau,za5 (by simp),zkB (by simp [g]),zkD,zau,Sum.elim_inl];rfl
   ·refine ⟨hf.1,fun u' v' h=>?_⟩;rcases List.mem_cons.1 h with h | h
    ·injection h with h3 h4
     have q1:u'=u:=by omega
     have q2:v'=v:=by omega
     rw [q1,q2];exact hf.1 u v hu hv g
    ·exact hf.2 u' v' h
   ·have hlab:∀ f,Lab p.Next.length cl W f→Lab p.Next.length cl (⟨(↑u:Int),(↑v:Int)⟩::W) f:=fun f hf=>⟨hf.1,fun u' v' h=>by
     rcases List.mem_cons.1 h with h | h
     ·injection h with h3 h4
      have q1:u'=u:=by omega
      have q2:v'=v:=by omega
      rw [q1,q2]
      exact hf.1 u v hu hv g
     ·exact hf.2 u' v' h⟩
    obtain ⟨r1,r2⟩:=F.row c a hc ha hcl;refine ⟨r1,fun k=>?_⟩;obtain ⟨x,a1,a2,a3,a4⟩:=r2 k;exact ⟨x,a1,a2,a3,fun r hr hrc hp=>⟨(a4 r hr hrc hp).1,fun f hf=>(a4 r hr hrc hp).2 f (hlab f hf)⟩⟩
  ·have hl1:min (cl u) (cl v)<p.Next.length:=by omega
   have hl2:max (cl u) (cl v)<p.Next.length:=by omega
   obtain ⟨m1,m2⟩:=K.mm hu hv;obtain ⟨x2,hx2,hxl⟩:=F.gn.row _ hl2;obtain ⟨r,e,hr⟩:=loop_in (W0:=W) (c1:=min (cl u) (cl v)) (c2:=max (cl u) (cl v)) (x:=((↑(cl u):Int),M)) (y:=((↑(cl v):Int),M)) (show min (↑(cl u):Int) (↑(cl v):Int)=_ by omega) (show max (↑(cl u):Int) (↑(cl v):Int)=_ by omega) hl1 hl2 (by omega) hxl (by omega) F.gn F.go (fun b hb h=>((F.row _ b hl1 hb m1).1 h).1) (fun b hb h=>((F.row _ b hl2 hb m2).1 h).1) (by omega)
   have es:zad.s46 N O M (⟨(↑u:Int),(↑v:Int)⟩::W)=((Sum.elim (fun (s:List (List Int)×List (List Int)×List T_A2)=>zad.k44 (mset (↑(max (cl u) (cl v)):Int) (↑(min (cl u) (cl v)):Int) M) s.1 s.2.1 s.2.2) some r)).bind (Sum.elim (fun (s:List (List Int)×List (List Int)×(List (Int×Int))×List T_A2)=>zad.k45 s.1 s.2.1 s.2.2.1 s.2.2.2) some):=by
    unfold zad.s46
    have ej:zdm ⟨M⟩ (min (↑(cl u):Int) (↑(cl v):Int)) (max (↑(cl u):Int) (↑(cl v):Int))=some (mset (↑(max (cl u) (cl v)):Int) (↑(min (cl u) (cl v)):Int) M):=by
     unfold zdm;rw [show max (↑(cl u):Int) (↑(cl v):Int)=(↑(max (cl u) (cl v)):Int) by omega,show min (↑(cl u):Int) (↑(cl v):Int)=(↑(min (cl u) (cl v)):Int) by omega]
    rw [zkB (by rw [zkL];omega),zkD,zas (x:=⟨(↑u:Int),(↑v:Int)⟩) rfl,e0,zau,zas (x:=⟨(↑u:Int),(↑v:Int)⟩) rfl,e1,zau,za5 (by simp),zkA (by simp only;omega),zkC,ej,zau,zb5 (i:=max (cl u) (cl v)) (by simp only;omega) hx2,List.drop_succ_cons,List.drop_zero,e,zau]
   rw [es];rcases hr with ⟨hr,b,b1,b2,b3,b4⟩ | ⟨N1,O1,W1,hr,J⟩
   ·left;refine ⟨by rw [hr,Sum.elim_inr,zau,Sum.elim_inr],?_⟩;obtain ⟨u1,_,_,⟨r1,d1,d2,d3,d4⟩,_⟩:=(F.row _ b hl1 b1 m1).2 b2;obtain ⟨u2,_,_,⟨r2,g1,g2,g3,g4⟩,_⟩:=(F.row _ b hl2 b1 m2).2 b3;have k1:=K.sound r1 d1;have k2:=K.sound r2 g1;rw [d2] at k1;rw [g2] at k2;have h0:Cong p s t (cl u) (cl v):=(K.sound u hu).symm.trans (huv.trans (K.sound v hv))
    have hcc:Cong p s t (min (cl u) (cl v)) (max (cl u) (cl v)):=by
     rcases Nat.le_total (cl u) (cl v) with h | h
     ·rw [Nat.max_eq_right h,Nat.min_eq_left h];exact h0
     ·rw [Nat.max_eq_left h,Nat.min_eq_right h];exact h0.symm
    exact ⟨r1,r2,b,k1.trans (hcc.trans k2.symm),by rw [d3];omega,by rw [g3];omega,by rw [d4,g4];exact b4⟩
   ·right;obtain ⟨F',hd⟩:=F.join H hu hv huv g J;exact ⟨N1,O1,_,W1,_,by rw [hr,Sum.elim_inl];unfold zad.k44;rw [zau,Sum.elim_inl];rfl,F',by rw [zkL];exact hd⟩
def repsM (n:Nat) (M:List (Int×Int)):Nat:=(List.range n).countP fun (q:Nat)=>(mget (↑q:Int) M).isNone
theorem loop_fold (H:zci p) (hs:s<p.Next.length) (ht:t<p.Next.length) :
  ∃ r,iter (fun (q:List (List Int)×List (List Int)×(List (Int×Int))×List T_A2)=>zad.s46 q.1 q.2.1 q.2.2.1 q.2.2.2) fuel (p.Next,p.Out,[],[⟨(↑s:Int),(↑t:Int)⟩])=some r ∧
   ((r=.inr (⟨0,0,[],[]⟩,[],false)∧znn p s t)∨∃ N O M cl,r=.inl (N,O,M)∧zm3 p s t cl N O M []):=by
 have hn:=H.n2;have hi:=H.i2;have K0:ClsL p s t ((List.range p.Next.length).map fun (b:Nat)=>(↑b:Int)) (fun b=>b):=⟨by simp,fun q hq=>by rw [List.getElem?_map,List.getElem?_range hq];rfl,fun q _=>Nat.le_refl q,fun _ _=>rfl,fun q _=>.refl q⟩
 have F0:zm3 p s t (fun b=>b) p.Next p.Out [] [⟨(↑s:Int),(↑t:Int)⟩]:=by
  refine ⟨H.gn,H.go,⟨_,K0⟩,⟨fun q _ _=>rfl,fun q _ h=>absurd rfl h⟩,fun w hw=>⟨s,t,List.mem_singleton.1 hw,hs,ht,.base⟩,fun f hf=>hf.2 s t (List.mem_singleton.2 rfl),fun c a hc ha _=>?_,?_,fun q a hq ha=>?_⟩
  ·obtain ⟨n1,n2,n3,n4,n5,_⟩:=H.at hc ha;have h1:gx p.Next c a=pnx p c a:=rfl;have h2:gx p.Out c a=pot p c a:=rfl;rw [h1,h2];refine ⟨fun h=>⟨n5.1 h,fun r _ e=>by rw [e];exact h⟩,fun h=>⟨(pnx p c a).toNat,by omega,by omega,⟨c,hc,rfl,by omega,rfl⟩,fun r _ e _=>?_⟩⟩;rw [e];exact ⟨rfl,fun f _=>rfl⟩
  ·have:=repsN_le p.Next.length fun b=>b;simp only [List.length_singleton];omega
  ·obtain ⟨n1,n2,_⟩:=H.at hq ha;have h1:gx p.Next q a=pnx p q a:=rfl;rw [h1];by_cases k:pnx p q a=-1
   ·exact .inl k
   ·exact .inr ⟨(pnx p q a).toNat,by omega,by omega⟩
 have hm:∀ (cl:Nat→Nat) (M:List (Int×Int)),UpOk p.Next.length cl M→repsM p.Next.length M=zgu p.Next.length cl:=fun cl M U=>by
  unfold repsM zgu;refine List.countP_congr fun q hq=>?_;have hq:=List.mem_range.1 hq;by_cases h:cl q=q
  ·rw [U.u0 q hq h,zkB h];simp
  ·obtain ⟨w,_,w2,_⟩:=U.u1 q hq h;rw [w2,zkA h];simp
 refine za8 (step:=fun (q:List (List Int)×List (List Int)×(List (Int×Int))×List T_A2)=>zad.s46 q.1 q.2.1 q.2.2.1 q.2.2.2) (fun q=>∃ cl,zm3 p s t cl q.1 q.2.1 q.2.2.1 q.2.2.2) (fun q=>65*repsM p.Next.length q.2.2.1+q.2.2.2.length) (fun r=>(r=.inr (⟨0,0,[],[]⟩,[],false)∧znn p s t)∨∃ N O M cl,r=.inl (N,O,M)∧zm3 p s t cl N O M []) (fun ⟨N,O,M,W⟩ ⟨cl,F⟩=>?_) fuel _ ⟨_,F0⟩ ?_
 ·simp only at F;simp only;rcases fold_step H F with ⟨e1,e2⟩ | ⟨e1,e2⟩ | ⟨N',O',M',W',cl',e1,F',e2⟩
  ·rw [e1] at F;exact .inr ⟨_,e2,.inr ⟨N,O,M,cl,rfl,F⟩⟩
  ·exact .inr ⟨_,e1,.inl ⟨rfl,e2⟩⟩
  ·exact .inl ⟨(N',O',M',W'),e1,⟨cl',F'⟩,by simp only;rw [hm _ _ F.up,hm _ _ F'.up];exact e2⟩
 ·have h1:=hm _ _ F0.up;have h2:=repsN_le p.Next.length fun b=>b;have:=zbg;simp only [List.length_singleton];omega
theorem zm3.done (H:zci p) (hs:s<p.Next.length) (ht:t<p.Next.length) {cl:Nat→Nat} {N O:List (List Int)} {M:List (Int×Int)} (F:zm3 p s t cl N O M []):(∀ q,q<p.Next.length→cl q=clsOf p s t q)∧¬ znn p s t:=by
 obtain ⟨C,K⟩:=F.cls;have hlab:Lab p.Next.length cl [] cl:=⟨fun _ _ _ _ h=>h,fun _ _ h=>by cases h⟩;refine cls_done H hs ht K (F.st cl hlab) fun a ha q r hq hr e h1 h2=>?_;have hc:cl q<p.Next.length:=by have:=K.le q hq;omega
 obtain ⟨r1,r2⟩:=F.row (cl q) a hc ha (K.idem q hq);by_cases k:gx N (cl q) a=-1
 ·exact absurd ((r1 k).2 q hq rfl) h1
 ·obtain ⟨u,a1,a2,a3,a4⟩:=r2 k;obtain ⟨b1,b2⟩:=a4 q hq rfl h1;obtain ⟨c1,c2⟩:=a4 r hr e.symm h2;exact ⟨b1.trans c1.symm,(b2 cl hlab).symm.trans (c2 cl hlab)⟩
end
end
section
theorem zir {α:Type} [DecidableEq α]:∀ {a b:List α},a.Nodup→(∀ x∈a,x∈b)→a.length≤b.length
 | [],_,_,_=>Nat.zero_le _
 | x::a,b,hn,h=>by
  obtain ⟨h1,h2⟩:=List.nodup_cons.1 hn;have:=zir (a:=a) (b:=b.erase x) h2 fun y hy=>(List.mem_erase_of_ne (fun e=>h1 (by rw [← e];exact hy))).2 (h y (List.mem_cons_of_mem _ hy));rw [List.length_erase_of_mem (h x List.mem_cons_self)] at this;have hp:0<b.length:=List.length_pos_of_mem (h x List.mem_cons_self);rw [zkL];omega
def addT (L:List Nat) (t:Int):List Nat:=if t=-1∨t.toNat∈L then L else L++[t.toNat]
def bfsL (R:Nat→List Int):Nat→Nat→List Nat→List Nat
 | 0,_,L=>L
 | f+1,i,L=>match L[i]? with
  | none=>L
  | some c=>bfsL R f (i+1) ((R c).foldl addT L)
structure NumL (n:Nat) (L:List Nat) (nums:List Int):Prop where
 len:nums.length=n
 at_:∀ c,c<n→nums[c]?=some (if c∈L then (↑(L.idxOf c):Int) else -1)
 nd:L.Nodup
 lt:∀ c,c∈L→c<n
theorem NumL.le {n:Nat} {L:List Nat} {nums:List Int} (A:NumL n L nums):L.length≤n:=by
 have:=zir (b:=List.range n) A.nd fun x hx=>List.mem_range.2 (A.lt x hx)
 rwa [List.length_range] at this
theorem NumL.push {n:Nat} {L:List Nat} {nums:List Int} (A:NumL n L nums) {c:Nat} (hc:c<n) (h:c∉L):NumL n (L++[c]) (nums.set c (↑L.length:Int)):=by
 have hl:=A.len;refine ⟨by rw [List.length_set];exact A.len,fun d hd=>?_,?_,fun d hd=>?_⟩
 ·by_cases e:d=c
  ·subst e;rw [List.getElem?_set_self (by omega),if_pos (List.mem_append_right _ (List.mem_singleton.2 rfl)),List.idxOf_append,if_neg h];simp
  ·rw [List.getElem?_set_ne (by omega),A.at_ d hd];by_cases k:d∈L
   ·rw [if_pos k,if_pos (List.mem_append_left _ k),List.idxOf_append,if_pos k]
   ·rw [if_neg k,if_neg (fun g=>(List.mem_append.1 g).elim k fun g=>e (List.mem_singleton.1 g))]
 ·refine List.nodup_append.2 ⟨A.nd,by simp,fun a ha b hb=>?_⟩;rw [List.mem_singleton.1 hb];exact fun g=>h (by rw [← g];exact ha)
 ·rcases List.mem_append.1 hd with k | k
  ·exact A.lt d k
  ·rw [List.mem_singleton.1 k];exact hc
def zck (L:List Nat):List Int:=L.map fun (c:Nat)=>(↑c:Int)
theorem loop_s18 {n:Nat} {e:List Int} (he:∀ (k:Nat) (t:Int),e[k]?=some t→t=-1∨∃ u:Nat,t=(↑u:Int)∧u<n) (hl:e.length≤1000000) {L:List Nat} {nums:List Int} (A:NumL n L nums) (hn:n≤1000000) :
  ∃ nums',iter (fun (s:List Int×List Int×Nat)=>zah.s18 e s.1 s.2.1 s.2.2) fuel (nums,zck L,0)=some (nums',zck (e.foldl addT L))∧NumL n (e.foldl addT L) nums':=by
 have key:=za8 (step:=fun (s:List Int×List Int×Nat)=>zah.s18 e s.1 s.2.1 s.2.2) (fun s=>s.2.2≤e.length∧∃ L',s.2.1=zck L'∧NumL n L' s.1∧(e.drop s.2.2).foldl addT L'=e.foldl addT L) (fun s=>e.length-s.2.2) (fun r=>∃ nums',r=(nums',zck (e.foldl addT L))∧NumL n (e.foldl addT L) nums') (fun ⟨y,z,k⟩ ⟨g1,L',g2,g3,g4⟩=>by
  simp only at g1 g2 g3 g4
  subst g2
  simp only [zah.s18]
  by_cases h:k<e.length
  ·left
   have hx:=get_at h
   have hd:(e.drop k).foldl addT L'=(e.drop (k+1)).foldl addT (addT L' e[k]):=by rw [List.drop_eq_getElem_cons h,List.foldl_cons]
   rw [hd] at g4
   rw [zen hx,zkD,zas hx]
   by_cases t0:e[k]=-1
   ·exact ⟨(y,zck L',k+1),by rw [zkA (fun g=>g t0),zkC,zau,zkC],⟨h,L',rfl,g3,by rw [← g4];unfold addT;rw [if_pos (.inl t0)]⟩,by simp only;omega⟩
   ·obtain ⟨u,hu,hun⟩:=(he k _ hx).resolve_left t0
    have hy:=g3.at_ u hun
    rw [zkB t0,zkD,zb5 (i:=u) hu hy,zau]
    by_cases k1:u∈L'
    ·rw [if_pos k1,zkA (by omega),zkC]
     exact ⟨(y,zck L',k+1),rfl,⟨h,L',rfl,g3,by rw [← g4];unfold addT;rw [if_pos (.inr (by rw [hu];exact k1))]⟩,by simp only;omega⟩
    ·have hle:=g3.le
     have hcl:(zck L').length=L'.length:=by unfold zck;rw [zkK]
     rw [if_neg k1,zkB rfl,zkD,zb5 (i:=u) hu hy,za5 (by unfold za0;omega)]
     refine ⟨(y.set u (↑L'.length:Int),zck (L'++[u]),k+1),?_,⟨h,L'++[u],rfl,g3.push hun k1,?_⟩,by simp only;omega⟩
     ·rw [hu,hcl]
      unfold zck
      rw [List.map_append,Int.toNat_natCast]
      rfl
     ·rw [← g4]
      unfold addT
      rw [if_neg (fun g=>g.elim t0 fun g=>k1 (by rw [hu] at g;exact g)),hu,Int.toNat_natCast]
  ·right
   have e1:k=e.length:=by omega
   subst e1
   rw [List.drop_length] at g4
   refine ⟨_,by rw [zh4,zkC],y,?_,?_⟩
   ·rw [← g4];rfl
   ·rw [← g4];exact g3) fuel (nums,zck L,0) ⟨Nat.zero_le _,L,rfl,A,rfl⟩ (by have:=zbg;simp only;omega)
 obtain ⟨r,e1,nums',rfl,h⟩:=key;exact ⟨nums',e1,h⟩
structure RenOk (p:zaa):Prop where
 i1:0≤p.Inputs
 i2:p.Inputs≤64
 n2:p.Next.length≤1000000
 st:∃ c:Nat,p.Start=(↑c:Int)∧c<p.Next.length
 gn:Grid p.Next.length p.Inputs.toNat p.Next
 go:Grid p.Next.length p.Inputs.toNat p.Out
 rng:∀ q a,q<p.Next.length→a<p.Inputs.toNat→gx p.Next q a=-1∨∃ u:Nat,gx p.Next q a=(↑u:Int)∧u<p.Next.length
def ordP (p:zaa):List Nat:=bfsL (fun c=>(p.Next[c]?).getD []) (p.Next.length+1) 0 [p.Start.toNat]
theorem zhr {x:Nat} (hx:x≤1000000):zcz (↑x:Int)=some (List.replicate x (-1)):=by
 unfold zcz;rw [za5 ⟨by omega,Int.le_refl _,by unfold za0;omega⟩,Int.toNat_natCast]
 have key:=za8 (step:=fun (q:List Int×Nat)=>zcz.s2 (↑x:Int) q.1 q.2) (fun q=>q.2≤x∧Wrt (fun _=>(-1:Int)) (List.replicate x 0) q.2 q.1) (fun q=>x-q.2) (fun r=>r=List.replicate x (-1)) (fun ⟨y,i⟩ ⟨g1,g2⟩=>by
  simp only at g1 g2
  simp only [zcz.s2,Int.toNat_natCast,List.length_replicate]
  have hyl:=g2.len
  rw [List.length_replicate] at hyl
  by_cases h:i<x
  ·left
   exact ⟨(y.set i (-1),i+1),by rw [zkB (by omega),zkD,zas (get_at (l:=y) (i:=i) (by omega)),za5 (by unfold inR;omega)],⟨h,g2.step (by rw [List.length_replicate];exact h) rfl⟩,by simp only;omega⟩
  ·right
   refine ⟨_,by rw [zkA (by omega),zkC],?_⟩
   rw [g2.done (by rw [List.length_replicate];omega),List.length_replicate]
   exact List.ext_getElem? fun b=>by
    by_cases g:b<x
    ·rw [List.getElem?_map,List.getElem?_range g,List.getElem?_replicate,if_pos g];rfl
    ·rw [List.getElem?_eq_none (by simp;omega),List.getElem?_eq_none (by simp;omega)]) fuel (List.replicate x 0,0) ⟨Nat.zero_le _,Wrt.zero _ _⟩ (by have:=zbg;simp only;omega)
 obtain ⟨r,e,rfl⟩:=key;rw [e,zau]
theorem loop_s20 {p:zaa} (R:RenOk p):∃ nums,iter (fun (s:List Int×List Int×Nat)=>zah.s20 p s.1 s.2.1 s.2.2) fuel ((List.replicate p.Next.length (-1)).set p.Start.toNat 0,[p.Start],0)=some (nums,zck (ordP p))∧NumL p.Next.length (ordP p) nums:=by
 obtain ⟨c,hc,hcl⟩:=R.st;have hn:=R.n2
 have A0:NumL p.Next.length [c] ((List.replicate p.Next.length (-1)).set c 0):=by
  have B:NumL p.Next.length [] (List.replicate p.Next.length (-1)):=⟨List.length_replicate,fun d hd=>by rw [List.getElem?_replicate,if_pos hd,if_neg List.not_mem_nil],List.nodup_nil,fun d hd=>by cases hd⟩;exact B.push hcl List.not_mem_nil
 have key:=za8 (step:=fun (s:List Int×List Int×Nat)=>zah.s20 p s.1 s.2.1 s.2.2) (fun s=>∃ L,s.2.1=zck L∧s.2.2≤L.length∧NumL p.Next.length L s.1∧bfsL (fun c=>(p.Next[c]?).getD []) (p.Next.length+1-s.2.2) s.2.2 L=ordP p) (fun s=>p.Next.length+1-s.2.2) (fun r=>∃ nums,r=(nums,zck (ordP p))∧NumL p.Next.length (ordP p) nums) (fun ⟨y,z,i⟩ ⟨L,g1,g2,g3,g4⟩=>by
  simp only at g1 g2 g3 g4
  subst g1
  simp only [zah.s20]
  have hle:=g3.le
  have hcast:(zck L).length=L.length:=by unfold zck;rw [zkK]
  by_cases h:i<L.length
  ·left
   have hx:=get_at h
   have hq:L[i]<p.Next.length:=g3.lt _ (List.getElem_mem h)
   obtain ⟨x,x1,x2⟩:=R.gn.row _ hq
   obtain ⟨nums',e1,e2⟩:=loop_s18 (e:=x) (fun k t hk=>by
    have hk2:=(zkI.1 hk).1
    have:=R.rng L[i] k hq (by omega)
    unfold gx at this
    rw [x1,Option.getD_some,hk,Option.getD_some] at this
    exact this) (by have:=R.i2;omega) g3 hn
   have hL2:=e2.le
   have hgrow:i+1≤(x.foldl addT L).length:=by
    have:∀ (x:List Int) (L:List Nat),L.length≤(x.foldl addT L).length:=by
     intro x
     induction x with
     | nil=>exact fun L=>Nat.le_refl _
     | cons t x ih =>
      intro L
      rw [List.foldl_cons]
      refine Nat.le_trans ?_ (ih _)
      unfold addT
      split
      ·exact Nat.le_refl _
      ·rw [zkJ];omega
    have:=this x L
    omega
   refine ⟨(nums',zck (x.foldl addT L),i+1),?_,⟨_,rfl,hgrow,e2,?_⟩,by simp only;omega⟩
   ·rw [zkB (by omega),zkD,zas (x:=(↑L[i]:Int)) (by unfold zck;rw [List.getElem?_map,hx];rfl),zb5 (i:=L[i]) rfl x1,e1,zau]
    rfl
   ·rw [← g4,show p.Next.length+1-i=(p.Next.length+1-(i+1))+1 by omega]
    simp only [bfsL,hx,x1,Option.getD_some]
  ·right
   have e1:ordP p=L:=by
    rw [← g4]
    cases hk:p.Next.length+1-i with
    | zero=>rfl
    | succ k =>
     simp only [bfsL]
     rw [show L[i]?=none from List.getElem?_eq_none (by omega)]
   exact ⟨_,by rw [zkA (by omega),zkC],y,by rw [e1],by rw [e1];exact g3⟩) fuel ((List.replicate p.Next.length (-1)).set p.Start.toNat 0,[p.Start],0) ⟨[c],by rw [hc];rfl,Nat.zero_le _,by rw [hc];exact A0,by unfold ordP;rw [hc,Int.toNat_natCast];rfl⟩ (by have:=zbg;simp only;omega)
 obtain ⟨r,e1,nums,rfl,h⟩:=key;exact ⟨nums,e1,h⟩
end
section
def numT (F:List Nat) (t:Int):Int:=if t≠-1∧t.toNat∈F then (↑(F.idxOf t.toNat):Int) else -1
def zg5 (p:zaa) (F:List Nat) (c:Nat):List Int:=(List.range p.Inputs.toNat).map fun a=>numT F (gx p.Next c a)
def zi7 (p:zaa) (c:Nat):List Int:=(List.range p.Inputs.toNat).map fun a=>if gx p.Next c a=-1 then (-1:Int) else gx p.Out c a
theorem loop_s38 {p:zaa} (R:RenOk p) {F:List Nat} {nums:List Int} (A:NumL p.Next.length F nums) {c:Nat} (hc:c<p.Next.length) {x:List Int} (hx:p.Next[c]?=some x) :
  iter (fun (s:List Int×List Int×Nat)=>zah.s38 p nums (↑c:Int) x s.1 s.2.1 s.2.2) fuel (List.replicate p.Inputs.toNat (-1),List.replicate p.Inputs.toNat (-1),0)=some (zg5 p F c,zi7 p c):=by
 have hi:=R.i2;obtain ⟨x',hx',hxl⟩:=R.gn.row c hc;rw [hx] at hx';injection hx' with hx'
 subst hx'
 have key:=za8 (step:=fun (s:List Int×List Int×Nat)=>zah.s38 p nums (↑c:Int) x s.1 s.2.1 s.2.2) (fun s=>s.2.2≤p.Inputs.toNat∧Wrt (fun a=>numT F (gx p.Next c a)) (List.replicate p.Inputs.toNat (-1)) s.2.2 s.1∧Wrt (fun a=>if gx p.Next c a=-1 then (-1:Int) else gx p.Out c a) (List.replicate p.Inputs.toNat (-1)) s.2.2 s.2.1) (fun s=>p.Inputs.toNat-s.2.2) (fun r=>r=(zg5 p F c,zi7 p c)) (fun ⟨y,z,k⟩ ⟨g1,g2,g3⟩=>by
  simp only at g1 g2 g3
  simp only [zah.s38]
  have hl2:=g2.len
  have hl3:=g3.len
  rw [List.length_replicate] at hl2 hl3
  by_cases h:k<p.Inputs.toNat
  ·left
   obtain ⟨x1,q1,q2,q3⟩:=R.gn.at hc h
   obtain ⟨o1,r1,r2,r3⟩:=R.go.at hc h
   rw [hx] at q1
   injection q1 with q1
   subst q1
   rw [zkB (by omega),zkD,zas q2]
   by_cases t0:gx p.Next c k=-1
   ·refine ⟨(y,z,k+1),by rw [zkA (fun g=>g t0),zkC],⟨h,g2.skip (by rw [List.length_replicate];exact h) ?_,g3.skip (by rw [List.length_replicate];exact h) ?_⟩,by simp only;omega⟩
    ·rw [List.getElem?_replicate,if_pos h]
     unfold numT
     rw [if_neg (fun g=>g.1 t0)]
    ·rw [List.getElem?_replicate,if_pos h,if_pos t0]
   ·obtain ⟨u,hu,hun⟩:=(R.rng c k hc h).resolve_left t0
    have hy:=A.at_ u hun
    refine ⟨(y.set k (numT F (gx p.Next c k)),z.set k (gx p.Out c k),k+1),?_,⟨h,g2.step (by rw [List.length_replicate];exact h) rfl,g3.step (by rw [List.length_replicate];exact h) (by rw [if_neg t0])⟩,by simp only;omega⟩
    rw [zkB t0,zkD,zb5 (i:=u) hu hy,zb5 (i:=c) rfl r1,zas r2,zas (get_at (l:=y) (i:=k) (by omega)),zas (get_at (l:=z) (i:=k) (by omega))]
    have:numT F (gx p.Next c k)=if u∈F then (↑(F.idxOf u):Int) else -1:=by
     unfold numT
     rw [hu,Int.toNat_natCast]
     by_cases k1:u∈F
     ·rw [if_pos ⟨by omega,k1⟩,if_pos k1]
     ·rw [if_neg (fun g=>k1 g.2),if_neg k1]
    rw [this]
  ·right
   have e1:k=p.Inputs.toNat:=by omega
   subst e1
   refine ⟨_,by rw [zkA (by omega),zkC],?_⟩
   rw [g2.done (by rw [List.length_replicate];exact Nat.le_refl _),g3.done (by rw [List.length_replicate];exact Nat.le_refl _),List.length_replicate]
   rfl) fuel (List.replicate p.Inputs.toNat (-1),List.replicate p.Inputs.toNat (-1),0) ⟨Nat.zero_le _,Wrt.zero _ _,Wrt.zero _ _⟩ (by have:=zbg;simp only;omega)
 obtain ⟨r,e1,rfl⟩:=key;exact e1
def renP (p:zaa):zaa:=⟨p.Inputs,0,(ordP p).map (zg5 p (ordP p)),(ordP p).map (zi7 p)⟩
theorem zc4 {p:zaa} (R:RenOk p):∃ nums,zah p=some (renP p,nums)∧NumL p.Next.length (ordP p) nums:=by
 obtain ⟨nums,e1,A⟩:=loop_s20 R;obtain ⟨c,hc,hcl⟩:=R.st;have hn:=R.n2;have hi:=R.i2;have hi1:=R.i1;have hle:=A.le;refine ⟨nums,?_,A⟩
 have hmr:zcz p.Inputs=some (List.replicate p.Inputs.toNat (-1)):=by
  have:=zhr (x:=p.Inputs.toNat) (by omega)
  rwa [Int.toNat_of_nonneg hi1] at this
 have hcast:(zck (ordP p)).length=(ordP p).length:=by unfold zck;rw [zkK]
 have key:=za8 (step:=fun (s:List (List Int)×List (List Int)×Nat)=>zah.s40 p nums (zck (ordP p)) s.1 s.2.1 s.2.2) (fun s=>s.2.2≤(ordP p).length∧s.1=((ordP p).take s.2.2).map (zg5 p (ordP p))∧s.2.1=((ordP p).take s.2.2).map (zi7 p)) (fun s=>(ordP p).length-s.2.2) (fun r=>r=((ordP p).map (zg5 p (ordP p)),(ordP p).map (zi7 p))) (fun ⟨y,z,k⟩ ⟨g1,g2,g3⟩=>by
  simp only at g1 g2 g3
  subst g2
  subst g3
  simp only [zah.s40]
  by_cases h:k<(ordP p).length
  ·left
   have hx:=get_at h
   have hq:(ordP p)[k]<p.Next.length:=A.lt _ (List.getElem_mem h)
   obtain ⟨x,x1,x2⟩:=R.gn.row _ hq
   have hl1:(((ordP p).take k).map (zg5 p (ordP p))).length=k:=by rw [zkK,List.length_take];omega
   have hl2:(((ordP p).take k).map (zi7 p)).length=k:=by rw [zkK,List.length_take];omega
   refine ⟨(((ordP p).take (k+1)).map (zg5 p (ordP p)),((ordP p).take (k+1)).map (zi7 p),k+1),?_,⟨h,rfl,rfl⟩,by simp only;omega⟩
   rw [zkB (by omega),zkD,zas (x:=(↑(ordP p)[k]:Int)) (by unfold zck;rw [List.getElem?_map,hx];rfl),hmr,zau,zau,zb5 (i:=(ordP p)[k]) rfl x1,loop_s38 R A hq x1,zau]
   unfold zah.k39
   simp only
   rw [za5 (by unfold za0;omega),za5 (by unfold za0;omega),List.take_succ_eq_append_getElem h,List.map_append,List.map_append]
   rfl
  ·right
   have e1:k=(ordP p).length:=by omega
   subst e1
   exact ⟨_,by rw [zkA (by omega),zkC],by rw [List.take_length]⟩) fuel ([],[],0) ⟨Nat.zero_le _,rfl,rfl⟩ (by have:=zbg;simp only;omega)
 obtain ⟨r,e2,rfl⟩:=key;unfold zah;rw [zhr hn,zau,zb5 (i:=c) hc (x:=(-1:Int)) (by rw [List.getElem?_replicate,if_pos hcl]),e1,zau];unfold zah.k42;simp only;rw [e2,zau];rfl
end
section
theorem zor {L:List Nat} {d:Nat} (hl:L.length≤10000000):zc7 (zck L) (↑d:Int)=some (↑(L.idxOf d):Int):=by
 have hcast:(zck L).length=L.length:=by unfold zck;rw [zkK]
 have key:=za8 (step:=fun (i:Nat)=>zc7.s2 (zck L) (↑d:Int) i) (fun i=>i≤L.length∧d∉L.take i) (fun i=>L.length-i) (fun r=>r=L.idxOf d) (fun i ⟨g1,g2⟩=>by
  simp only [zc7.s2]
  by_cases h:i<L.length
  ·have hx:=get_at h
   rw [zkB (by omega),zkD,zas (x:=(↑L[i]:Int)) (by unfold zck;rw [List.getElem?_map,hx];rfl),zau]
   by_cases e:L[i]=d
   ·right
    refine ⟨i,by rw [zkA (by omega),zkC],?_⟩
    have hL:L=L.take i++L[i]::L.drop (i+1):=by rw [← List.drop_eq_getElem_cons h,List.take_append_drop]
    rw [hL,List.idxOf_append,if_neg g2,e,List.idxOf_cons_self,Nat.zero_add,List.length_take]
    omega
   ·left
    refine ⟨i+1,by rw [zkB (by omega),zkD,za5 (by unfold inR;omega)],⟨h,fun hm=>?_⟩,by omega⟩
    rw [List.take_succ_eq_append_getElem h] at hm
    rcases List.mem_append.1 hm with k | k
    ·exact g2 k
    ·exact e (List.mem_singleton.1 k).symm
  ·right
   have e1:i=L.length:=by omega
   subst e1
   rw [List.take_length] at g2
   exact ⟨L.length,by rw [zkA (by omega),zkC,zau,zkC],(List.idxOf_eq_length g2).symm⟩) fuel 0 ⟨Nat.zero_le _,by simp⟩ (by have:=zbg;omega)
 obtain ⟨r,e1,rfl⟩:=key;unfold zc7;rw [e1,zau]
section
variable {p:zaa}
theorem known_eq (H:zci p) {cl:Nat→Nat} {c a:Nat} (ha:a<p.Inputs.toNat):∃ k,zer p ((List.range p.Next.length).map fun q=>(↑(cl q):Int)) (↑c:Int) (↑a:Int)=some k∧((k=-1∧∀ r,r<p.Next.length→cl r=c→pnx p r a=-1)∨∃ q:Nat,k=(↑q:Int)∧q<p.Next.length∧cl q=c∧pnx p q a≠-1):=by
 have hn:=H.n2
 have key:=za8 (step:=fun (q:Nat)=>zer.s2 p ((List.range p.Next.length).map fun q=>(↑(cl q):Int)) (↑c:Int) (↑a:Int) q) (fun q=>q≤p.Next.length∧∀ r,r<q→cl r=c→pnx p r a=-1) (fun q=>p.Next.length-q) (fun r=>(r=.inl ()∧∀ r,r<p.Next.length→cl r=c→pnx p r a=-1)∨∃ q:Nat,r=.inr (↑q:Int)∧q<p.Next.length∧cl q=c∧pnx p q a≠-1) (fun q ⟨g1,g2⟩=>by
  simp only [zer.s2,zkK,List.length_range]
  by_cases h:q<p.Next.length
  ·obtain ⟨_,_,_,_,_,x,y,hx,hy,hxa,hya,_,_⟩:=H.at h ha
   rw [zkB (by omega),zkD,zas (x:=(↑(cl q):Int)) (by rw [List.getElem?_map,List.getElem?_range h];rfl)]
   by_cases e:cl q=c
   ·rw [zkB (by omega),zkD,zas hx,zb5 (i:=a) rfl hxa,zau]
    by_cases k:pnx p q a=-1
    ·left
     refine ⟨q+1,by rw [zkA (fun g=>g k),zkC],⟨h,fun r hr hrc=>?_⟩,by omega⟩
     by_cases e2:r=q
     ·rw [e2];exact k
     ·exact g2 r (by omega) hrc
    ·right
     exact ⟨_,by rw [zkB k,zkD],.inr ⟨q,rfl,h,e,k⟩⟩
   ·left
    refine ⟨q+1,by rw [zkA (by omega),zkC,zau,zkC],⟨h,fun r hr hrc=>?_⟩,by omega⟩
    by_cases e2:r=q
    ·rw [e2] at hrc;exact absurd hrc e
    ·exact g2 r (by omega) hrc
  ·right
   have e1:q=p.Next.length:=by omega
   subst e1
   exact ⟨_,by rw [zkA (by omega),zkC],.inl ⟨rfl,g2⟩⟩) fuel 0 ⟨Nat.zero_le _,fun r hr=>absurd hr (Nat.not_lt_zero _)⟩ (by have:=zbg;omega)
 obtain ⟨r,e1,hr⟩:=key;unfold zer;rw [e1,zau];rcases hr with ⟨rfl,h⟩ | ⟨q,rfl,h⟩
 ·exact ⟨-1,by rw [Sum.elim_inl],.inl ⟨rfl,h⟩⟩
 ·exact ⟨_,by rw [Sum.elim_inr],.inr ⟨q,rfl,h⟩⟩
structure QuoOk (p Q:zaa) (cl:Nat→Nat):Prop where
 ren:RenOk Q
 len:Q.Next.length=p.Next.length
 inp:Q.Inputs=p.Inputs
 st:Q.Start=(↑(cl p.Start.toNat):Int)
 idem:∀ q,q<p.Next.length→cl (cl q)=cl q
 lt:∀ q,q<p.Next.length→cl q<p.Next.length
 row:∀ c a,c<p.Next.length→a<p.Inputs.toNat→cl c=c→(gx Q.Next c a=-1→∀ r,r<p.Next.length→cl r=c→pnx p r a=-1)∧(gx Q.Next c a≠-1→(∃ r,r<p.Next.length∧cl r=c∧pnx p r a≠-1)∧∀ r,r<p.Next.length→cl r=c→pnx p r a≠-1→gx Q.Next c a=(↑(cl (pnx p r a).toNat):Int)∧pot p r a=gx Q.Out c a)
structure OrdI (n:Nat) (cl:Nat→Nat) (L:List Nat):Prop where
 nd:L.Nodup
 lt:∀ c,c∈L→c<n∧cl c=c
theorem OrdI.le {n:Nat} {cl:Nat→Nat} {L:List Nat} (A:OrdI n cl L):L.length≤n:=by
 have:=zir (b:=List.range n) A.nd fun x hx=>List.mem_range.2 (A.lt x hx).1
 rwa [List.length_range] at this
theorem OrdI.push {n:Nat} {cl:Nat→Nat} {L:List Nat} (A:OrdI n cl L) {c:Nat} (hc:c<n) (h2:cl c=c) (h:c∉L):OrdI n cl (L++[c]):=by
 refine ⟨List.nodup_append.2 ⟨A.nd,by simp,fun a ha b hb=>?_⟩,fun d hd=>?_⟩
 ·rw [List.mem_singleton.1 hb];exact fun g=>h (by rw [← g];exact ha)
 ·rcases List.mem_append.1 hd with k | k
  ·exact A.lt d k
  ·rw [List.mem_singleton.1 k];exact ⟨hc,h2⟩
theorem numT_grow {L L':List Nat} (h:L <+: L') {t:Int} (ht:t=-1∨t.toNat∈L):numT L' t=numT L t:=by
 obtain ⟨K,rfl⟩:=h;unfold numT;by_cases t0:t=-1
 ·rw [if_neg (fun g=>g.1 t0),if_neg (fun g=>g.1 t0)]
 ·have h:=ht.resolve_left t0;rw [if_pos ⟨t0,List.mem_append_left _ h⟩,if_pos ⟨t0,h⟩,List.idxOf_append,if_pos h]
theorem loop_s54 (H:zci p) {Q:zaa} {cl:Nat→Nat} (K:QuoOk p Q cl) {L:List Nat} (A:OrdI p.Next.length cl L) {i c:Nat} (hi:L[i]?=some c) {x:List Int} (hx:Q.Next[c]?=some x) :
  ∃ L',iter (fun (s:List Int×List Int×List Int×Nat)=>zbh.s54 p ((List.range p.Next.length).map fun q=>(↑(cl q):Int)) i s.1 s.2.1 s.2.2.1 s.2.2.2) fuel (zck L,[],[],0)=some (zck L',zg5 Q L' c,zi7 Q c)∧L'=x.foldl addT L∧L <+: L'∧OrdI p.Next.length cl L'∧∀ b,b<p.Inputs.toNat→gx Q.Next c b=-1∨(gx Q.Next c b).toNat∈L':=by
 have hn:=H.n2;have hi2:=H.i2;obtain ⟨hc,hcc⟩:=A.lt c (zkH hi)
 have hxl:x.length=p.Inputs.toNat:=by
  obtain ⟨x',q1,q2⟩:=K.ren.gn.row c (by rw [K.len];exact hc);rw [hx] at q1;injection q1 with q1
  rw [q1,q2,K.inp]
 have hgx:∀ b,b<p.Inputs.toNat→x[b]?=some (gx Q.Next c b):=fun b hb=>by
  obtain ⟨x',q1,q2,_⟩:=K.ren.gn.at (q:=c) (a:=b) (by rw [K.len];exact hc) (by rw [K.inp];exact hb);rw [hx] at q1;injection q1 with q1
  rw [q1,q2]
 have key:=za8 (step:=fun (s:List Int×List Int×List Int×Nat)=>zbh.s54 p ((List.range p.Next.length).map fun q=>(↑(cl q):Int)) i s.1 s.2.1 s.2.2.1 s.2.2.2) (fun s=>s.2.2.2≤p.Inputs.toNat∧∃ La,s.1=zck La∧La=(x.take s.2.2.2).foldl addT L∧L <+: La∧OrdI p.Next.length cl La∧(∀ b,b<s.2.2.2→gx Q.Next c b=-1∨(gx Q.Next c b).toNat∈La)∧s.2.1=(List.range s.2.2.2).map (fun b=>numT La (gx Q.Next c b))∧s.2.2.1=(List.range s.2.2.2).map (fun a=>if gx Q.Next c a=-1 then (-1:Int) else gx Q.Out c a)) (fun s=>p.Inputs.toNat-s.2.2.2) (fun r=>∃ L',r=(zck L',zg5 Q L' c,zi7 Q c)∧L'=x.foldl addT L∧L <+: L'∧OrdI p.Next.length cl L'∧∀ b,b<p.Inputs.toNat→gx Q.Next c b=-1∨(gx Q.Next c b).toNat∈L') (fun ⟨l,y,z,a⟩ ⟨g1,La,g2,g3,g4,g5,g6,g7,g8⟩=>by
  simp only at g1 g2 g3 g6 g7 g8
  subst g2
  subst g7
  subst g8
  simp only [zbh.s54]
  have hle:=g5.le
  have hcast:∀ L:List Nat,(zck L).length=L.length:=fun L=>by unfold zck;rw [zkK]
  by_cases ha:a<p.Inputs.toNat
  ·left
   have hxa:=hgx a ha
   have hLi:(zck La)[i]?=some (↑c:Int):=by
    obtain ⟨T,rfl⟩:=g4
    unfold zck
    rw [List.getElem?_map,List.getElem?_append_left (zkI.1 hi).1,hi]
    rfl
   have hf:(x.take (a+1)).foldl addT L=addT La (gx Q.Next c a):=by
    have h1:a<x.length:=by omega
    have h2:=get_at h1
    rw [hxa] at h2
    injection h2 with h2
    rw [List.take_succ_eq_append_getElem h1,List.foldl_append,← g3,← h2]
    rfl
   have hk53:∀ (l x y:List Int),zbh.k53 a l x y=some (.inl (l,x,y,a+1)):=fun l x y=>by
    unfold zbh.k53
    rw [za5 (by unfold inR;omega)]
   obtain ⟨k,e1,hk⟩:=known_eq H (cl:=cl) (c:=c) ha
   obtain ⟨row1,row2⟩:=K.row c a hc ha hcc
   rw [zkB (by clear hk row2;omega),zkD,zas hLi,e1,zau]
   by_cases t0:gx Q.Next c a=-1
   ·have hk1:k=-1:=by
     rcases hk with h | ⟨q,_,q2,q3,q4⟩
     ·exact h.1
     ·exact absurd (row1 t0 q q2 q3) q4
    clear hk row2
    have hLa:addT La (gx Q.Next c a)=La:=by unfold addT;rw [if_pos (.inl t0)]
    refine ⟨(zck La,(List.range (a+1)).map (fun b=>numT La (gx Q.Next c b)),(List.range (a+1)).map (fun a=>if gx Q.Next c a=-1 then (-1:Int) else gx Q.Out c a),a+1),?_,⟨ha,La,rfl,by rw [hf,hLa],g4,g5,fun b hb=>?_,rfl,rfl⟩,by simp only;omega⟩
    ·rw [zkB hk1,zkD,za5 (by unfold za0;rw [zkK,List.length_range];omega),za5 (by unfold za0;rw [zkK,List.length_range];omega),zau,hk53,List.range_succ,List.map_append,List.map_append,List.map_singleton,List.map_singleton,if_pos t0,show numT La (gx Q.Next c a)=-1 by unfold numT;rw [if_neg (fun g=>g.1 t0)]]
    ·by_cases e:b=a
     ·rw [e];exact .inl t0
     ·exact g6 b (by simp only at hb;omega)
   ·obtain ⟨⟨r0,r1,r2,r3⟩,row3⟩:=row2 t0
    obtain ⟨q,q1,q2,q3,q4⟩:∃ q:Nat,k=(↑q:Int)∧q<p.Next.length∧cl q=c∧pnx p q a≠-1:=by
     rcases hk with h | h
     ·exact absurd (h.2 r0 r1 r2) r3
     ·exact h
    clear hk row2
    obtain ⟨m1,m2⟩:=row3 q q2 q3 q4
    obtain ⟨w1,w2,w3,w4,w5,xr,yr,hxr,hyr,hxra,hyra,_,_⟩:=H.at q2 ha
    obtain ⟨u,hu⟩:∃ u:Nat,pnx p q a=(↑u:Int):=⟨(pnx p q a).toNat,by omega⟩
    have hul:u<p.Next.length:=by omega
    rw [hu,Int.toNat_natCast] at m1
    have hcu:=K.lt u hul
    have hidem:=K.idem u hul
    -- the order behind this symbol
    have hadd:addT La (gx Q.Next c a)=if cl u∈La then La else La++[cl u]:=by
     unfold addT
     rw [m1,Int.toNat_natCast]
     by_cases h:cl u∈La
     ·rw [if_pos (.inr h),if_pos h]
     ·rw [if_neg (fun g=>g.elim (by omega) h),if_neg h]
    have hb:((zc7 (zck La) (↑(cl u):Int)).bind fun a1=>cond (decide (a1=(↑(List.length (zck La)):Int))) (chk (za0 (List.length (zck La)+1) 8) (some (zck La++[(↑(cl u):Int)]))) (some (zck La)):Option (List Int))=some (zck (addT La (gx Q.Next c a))):=by
     rw [zor (by omega),zau,hcast,hadd]
     by_cases h:cl u∈La
     ·have:=List.idxOf_lt_length_of_mem h
      rw [if_pos h,zkA (by omega),zkC]
     ·have:=List.idxOf_eq_length h
      rw [if_neg h,zkB (by omega),zkD,za5 (by unfold za0;omega)]
      unfold zck
      rw [List.map_append]
      rfl
    have hpre:La <+: addT La (gx Q.Next c a):=by
     rw [hadd]
     split
     ·exact List.prefix_refl _
     ·exact List.prefix_append _ _
    have hmem:cl u∈addT La (gx Q.Next c a):=by
     rw [hadd]
     split
     ·assumption
     ·exact List.mem_append_right _ (List.mem_singleton.2 rfl)
    have hord:OrdI p.Next.length cl (addT La (gx Q.Next c a)):=by
     rw [hadd]
     split
     ·exact g5
     ·rename_i h;exact g5.push hcu hidem h
    have hle2:=hord.le
    refine ⟨(zck (addT La (gx Q.Next c a)),(List.range (a+1)).map (fun b=>numT (addT La (gx Q.Next c a)) (gx Q.Next c b)),(List.range (a+1)).map (fun a=>if gx Q.Next c a=-1 then (-1:Int) else gx Q.Out c a),a+1),?_,⟨ha,_,rfl,hf.symm,g4.trans hpre,hord,fun b hb2=>?_,rfl,rfl⟩,by simp only;omega⟩
    ·rw [zkA (by omega),zkC,zb5 (i:=q) q1 hxr,zas hxra,hu,zb5 (i:=u) rfl (x:=(↑(cl u):Int)) (by rw [List.getElem?_map,List.getElem?_range hul];rfl),hb,zau,zor (by omega),zau,za5 (by unfold za0;rw [zkK,List.length_range];omega),zb5 (i:=q) q1 hyr,zas hyra,za5 (by unfold za0;rw [zkK,List.length_range];omega),zau,hk53,List.range_succ,List.map_append,List.map_append,List.map_singleton,List.map_singleton,if_neg t0,m2]
     have hold:(List.range a).map (fun b=>numT La (gx Q.Next c b))=(List.range a).map (fun b=>numT (addT La (gx Q.Next c a)) (gx Q.Next c b)):=List.map_congr_left fun b hb2=>(numT_grow hpre (g6 b (List.mem_range.1 hb2))).symm
     have hnew:numT (addT La (gx Q.Next c a)) (gx Q.Next c a)=(↑((addT La (gx Q.Next c a)).idxOf (cl u)):Int):=by
      generalize hG:addT La (gx Q.Next c a)=G at hmem ⊢
      unfold numT
      rw [m1,Int.toNat_natCast,if_pos ⟨by omega,hmem⟩]
     rw [hold,hnew]
    ·by_cases e:b=a
     ·rw [e];right;rw [m1,Int.toNat_natCast,← m1];exact hmem
     ·rcases g6 b (by simp only at hb2;omega) with h | h
      ·exact .inl h
      ·exact .inr (hpre.subset h)
  ·right
   have e1:a=p.Inputs.toNat:=by omega
   subst e1
   rw [← hxl,List.take_length] at g3
   refine ⟨_,by rw [zkA (by have:=H.i1;omega),zkC],La,?_,g3,g4,g5,g6⟩
   unfold zg5 zi7
   rw [K.inp]) fuel (zck L,[],[],0) ⟨Nat.zero_le _,L,rfl,rfl,List.prefix_refl _,A,fun b hb=>absurd hb (Nat.not_lt_zero _),rfl,rfl⟩ (by have:=zbg;simp only;omega)
 obtain ⟨r,e1,L',rfl,h⟩:=key;exact ⟨L',e1,h⟩
end
end
section
section
variable {p:zaa}
theorem foldl_len (x:List Int):∀ L:List Nat,L.length≤(x.foldl addT L).length:=by
 induction x with
 | nil=>exact fun L=>Nat.le_refl _
 | cons t x ih =>
  intro L;rw [List.foldl_cons];refine Nat.le_trans ?_ (ih _);unfold addT;split
  ·exact Nat.le_refl _
  ·rw [zkJ];omega
theorem zi5 (H:zci p) {Q:zaa} {cl:Nat→Nat} (K:QuoOk p Q cl):zbh p ((List.range p.Next.length).map fun q=>(↑(cl q):Int))=some (renP Q,zck (ordP Q))∧OrdI p.Next.length cl (ordP Q):=by
 have hn:=H.n2;have hst:=H.st;have hs:p.Start.toNat<p.Next.length:=by omega
 have hcast:∀ L:List Nat,(zck L).length=L.length:=fun L=>by unfold zck;rw [zkK]
 have A0:OrdI p.Next.length cl [cl p.Start.toNat]:=⟨by simp,fun c hc=>by
  rw [List.mem_singleton.1 hc]
  exact ⟨K.lt _ hs,K.idem _ hs⟩⟩
 have key:=za8 (step:=fun (s:List Int×List (List Int)×List (List Int)×Nat)=>zbh.s56 p ((List.range p.Next.length).map fun q=>(↑(cl q):Int)) s.1 s.2.1 s.2.2.1 s.2.2.2) (fun s=>∃ L,s.1=zck L∧s.2.2.2≤L.length∧OrdI p.Next.length cl L∧bfsL (fun c=>(Q.Next[c]?).getD []) (Q.Next.length+1-s.2.2.2) s.2.2.2 L=ordP Q∧s.2.1=(L.take s.2.2.2).map (zg5 Q L)∧s.2.2.1=(L.take s.2.2.2).map (zi7 Q)∧∀ c,c∈L.take s.2.2.2→∀ b,b<p.Inputs.toNat→gx Q.Next c b=-1∨(gx Q.Next c b).toNat∈L) (fun s=>p.Next.length+1-s.2.2.2) (fun r=>r=(zck (ordP Q),(ordP Q).map (zg5 Q (ordP Q)),(ordP Q).map (zi7 Q))∧OrdI p.Next.length cl (ordP Q)) (fun ⟨l,y,z,i⟩ ⟨L,g1,g2,g3,g4,g5,g6,g7⟩=>by
  simp only at g1 g2 g4 g5 g6 g7
  subst g1
  subst g5
  subst g6
  simp only [zbh.s56]
  have hle:=g3.le
  by_cases h:i<L.length
  ·left
   have hx:=get_at h
   obtain ⟨hc,hcc⟩:=g3.lt L[i] (List.getElem_mem h)
   obtain ⟨x,x1,x2⟩:=K.ren.gn.row L[i] (by rw [K.len];exact hc)
   obtain ⟨L',e1,e2,e3,e4,e5⟩:=loop_s54 H K g3 hx x1
   have hgr:i+1≤L'.length:=by
    have:=foldl_len x L
    rw [← e2] at this
    omega
   have htk:L'.take (i+1)=L.take i++[L[i]]:=by
    obtain ⟨T,rfl⟩:=e3
    rw [List.take_append_of_le_length (by omega),List.take_succ_eq_append_getElem h]
   refine ⟨(zck L',(L'.take (i+1)).map (zg5 Q L'),(L'.take (i+1)).map (zi7 Q),i+1),?_,⟨L',rfl,hgr,e4,?_,rfl,rfl,fun c hc2 b hb=>?_⟩,by simp only;omega⟩
   ·rw [zkB (by rw [hcast];omega),zkD,e1,zau]
    unfold zbh.k55
    simp only
    have hold:(L.take i).map (zg5 Q L)=(L.take i).map (zg5 Q L'):=List.map_congr_left fun c hc2=>by
     unfold zg5
     refine List.map_congr_left fun b hb=>(numT_grow e3 (g7 c hc2 b ?_)).symm
     have:=List.mem_range.1 hb
     rwa [K.inp] at this
    rw [za5 (by unfold za0;rw [zkK,List.length_take];omega),za5 (by unfold za0;rw [zkK,List.length_take];omega),htk,List.map_append,List.map_append,hold]
    rfl
   ·rw [← g4,show Q.Next.length+1-i=(Q.Next.length+1-(i+1))+1 by rw [K.len];omega]
    simp only [bfsL,hx,x1,Option.getD_some]
    rw [e2]
   ·rw [htk] at hc2
    rcases List.mem_append.1 hc2 with k | k
    ·exact (g7 c k b hb).elim .inl fun k=>.inr (e3.subset k)
    ·rw [List.mem_singleton.1 k];exact e5 b hb
  ·right
   have e1:i=L.length:=by omega
   have e2:ordP Q=L:=by
    rw [← g4]
    cases hk:Q.Next.length+1-i with
    | zero=>rfl
    | succ k =>
     simp only [bfsL]
     rw [show L[i]?=none from List.getElem?_eq_none (by omega)]
   subst e1
   refine ⟨_,by rw [zkA (by rw [hcast];omega),zkC],?_⟩
   rw [e2,List.take_length]
   exact ⟨rfl,g3⟩) fuel (zck [cl p.Start.toNat],[],[],0) ⟨_,rfl,Nat.zero_le _,A0,by unfold ordP;rw [K.st,Int.toNat_natCast];rfl,rfl,rfl,fun c hc=>by simp at hc⟩ (by have:=zbg;simp only;omega)
 obtain ⟨r,e1,rfl,hO⟩:=key;refine ⟨?_,hO⟩;unfold zbh;rw [zb5 (i:=p.Start.toNat) (by omega) (x:=(↑(cl p.Start.toNat):Int)) (by rw [List.getElem?_map,List.getElem?_range hs];rfl)];have:[(↑(cl p.Start.toNat):Int)]=zck [cl p.Start.toNat]:=rfl;rw [this,e1,zau];unfold zbh.k57 renP;rw [K.inp]
end
end
section
section
variable {p:zaa} {s t:Nat}
def clT (cl:Nat→Nat) (v:Int):Int:=if v=-1 then -1 else (↑(cl v.toNat):Int)
theorem loop_s64 {n I:Nat} {cl:Nat→Nat} {M:List (Int×Int)} (U:UpOk n cl M) (hn:n≤10000000) (hI:I≤64) {G:List (List Int)} (GG:Grid n I G) (rng:∀ q a,q<n→a<I→gx G q a=-1∨∃ u:Nat,gx G q a=(↑u:Int)∧u<n) {q:Nat} (hq:q<n) {e:List Int} (he:e.length=I) :
  ∃ G',iter (fun (s:List (List Int)×(List (Int×Int))×Nat)=>zad.s64 q e s.1 s.2.1 s.2.2) fuel (G,M,0)=some (G',M)∧Grid n I G'∧∀ r b,r<n→b<I→gx G' r b=if r=q then clT cl (gx G r b) else gx G r b:=by
 have key:=za8 (step:=fun (s:List (List Int)×(List (Int×Int))×Nat)=>zad.s64 q e s.1 s.2.1 s.2.2) (fun s=>s.2.2≤I∧s.2.1=M∧Grid n I s.1∧∀ r b,r<n→b<I→gx s.1 r b=if r=q∧b<s.2.2 then clT cl (gx G r b) else gx G r b) (fun s=>I-s.2.2) (fun r=>∃ G',r=(G',M)∧Grid n I G'∧∀ r b,r<n→b<I→gx G' r b=if r=q then clT cl (gx G r b) else gx G r b) (fun ⟨y,m,k⟩ ⟨g1,g2,g3,g4⟩=>by
  simp only at g1 g2 g3 g4
  subst g2
  simp only [zad.s64]
  by_cases h:k<I
  ·left
   obtain ⟨x,x1,x2,x3⟩:=g3.at hq h
   have hcell:gx y q k=gx G q k:=by rw [g4 q k hq h,if_neg (fun g=>Nat.lt_irrefl _ g.2)]
   rw [hcell] at x2
   rw [zkB (by omega),zkD,zas x1,zas x2]
   by_cases t0:gx G q k=-1
   ·refine ⟨(y,m,k+1),by rw [zkA (fun g=>g t0),zkC,za5 (by unfold inR;omega)],⟨h,rfl,g3,fun r b hr hb=>?_⟩,by simp only;omega⟩
    simp only
    rw [g4 r b hr hb]
    by_cases k1:r=q∧b<k
    ·rw [if_pos k1,if_pos ⟨k1.1,by omega⟩]
    ·rw [if_neg k1]
     by_cases k2:r=q∧b<k+1
     ·have e2:b=k:=Nat.le_antisymm (by omega) (Nat.le_of_not_lt fun g=>k1 ⟨k2.1,g⟩)
      rw [if_pos k2,k2.1,e2,t0]
      rfl
     ·rw [if_neg k2]
   ·obtain ⟨u,hu,hul⟩:=(rng q k hq h).resolve_left t0
    obtain ⟨p1,p2⟩:=g3.put hq h x1 (↑(cl u):Int)
    refine ⟨(y.set q (x.set k (↑(cl u):Int)),m,k+1),?_,⟨h,rfl,p1,fun r b hr hb=>?_⟩,by simp only;omega⟩
    ·rw [zkB t0,zkD,zas x1,hu,of_eq U hn hul,zau,zas x2,za5 (by unfold inR;omega)]
    ·simp only
     rw [p2 r b hr hb]
     by_cases k1:r=q∧b=k
     ·rw [if_pos k1,if_pos ⟨k1.1,by omega⟩,k1.1,k1.2]
      unfold clT
      rw [if_neg t0,hu,Int.toNat_natCast]
     ·rw [if_neg k1,g4 r b hr hb]
      by_cases k2:r=q∧b<k
      ·rw [if_pos k2,if_pos ⟨k2.1,by omega⟩]
      ·rw [if_neg k2,if_neg (fun g=>k2 ⟨g.1,Nat.lt_of_le_of_ne (by omega) fun e3=>k1 ⟨g.1,e3⟩⟩)]
  ·right
   have e1:k=I:=by omega
   subst e1
   refine ⟨_,by rw [zkA (by omega),zkC],y,rfl,g3,fun r b hr hb=>?_⟩
   rw [g4 r b hr hb]
   by_cases k1:r=q
   ·rw [if_pos ⟨k1,hb⟩,if_pos k1]
   ·rw [if_neg (fun g=>k1 g.1),if_neg k1]) fuel (G,M,0) ⟨Nat.zero_le _,rfl,GG,fun r b _ _=>by rw [if_neg (fun g=>Nat.not_lt_zero _ g.2)]⟩ (by have:=zbg;simp only;omega)
 obtain ⟨r,e1,G',rfl,h⟩:=key;exact ⟨G',e1,h⟩
theorem loop_s66 {n I:Nat} {cl:Nat→Nat} {M:List (Int×Int)} (U:UpOk n cl M) (hn:n≤10000000) (hI:I≤64) {N:List (List Int)} (GN:Grid n I N) (rng:∀ q a,q<n→a<I→gx N q a=-1∨∃ u:Nat,gx N q a=(↑u:Int)∧u<n) :
  ∃ N',iter (fun (s:List (List Int)×(List (Int×Int))×Nat)=>zad.s66 N s.1 s.2.1 s.2.2) fuel (N,M,0)=some (N',M)∧Grid n I N'∧∀ r b,r<n→b<I→gx N' r b=clT cl (gx N r b):=by
 have hl:=GN.len
 have key:=za8 (step:=fun (s:List (List Int)×(List (Int×Int))×Nat)=>zad.s66 N s.1 s.2.1 s.2.2) (fun s=>s.2.2≤n∧s.2.1=M∧Grid n I s.1∧∀ r b,r<n→b<I→gx s.1 r b=if r<s.2.2 then clT cl (gx N r b) else gx N r b) (fun s=>n-s.2.2) (fun r=>∃ N',r=(N',M)∧Grid n I N'∧∀ r b,r<n→b<I→gx N' r b=clT cl (gx N r b)) (fun ⟨y,m,q⟩ ⟨g1,g2,g3,g4⟩=>by
  simp only at g1 g2 g3 g4
  subst g2
  simp only [zad.s66]
  by_cases h:q<n
  ·left
   obtain ⟨x,x1,x2⟩:=g3.row q h
   obtain ⟨y',e1,e2,e3⟩:=loop_s64 (e:=x) U hn hI g3 (fun r a hr ha=>by
    rw [g4 r a hr ha]
    split
    ·unfold clT
     rcases rng r a hr ha with k | ⟨u,k1,k2⟩
     ·rw [if_pos k];exact .inl rfl
     ·refine .inr ⟨cl u,by rw [if_neg (by omega),k1,Int.toNat_natCast],?_⟩
      by_cases k3:cl u=u
      ·omega
      ·have hcl:∀ v:Nat,v<n→cl v≤v:=fun v=>by
        induction v using Nat.strongRecOn with
        | _ v ih =>
         intro hv
         by_cases k4:cl v=v
         ·omega
         ·obtain ⟨w,w1,_,w3⟩:=U.u1 v hv k4
          have:=ih w w1 (by omega)
          omega
       have:=hcl u k2
       omega
    ·exact rng r a hr ha) h x2
   refine ⟨(y',m,q+1),?_,⟨h,rfl,e2,fun r b hr hb=>?_⟩,by simp only;omega⟩
   ·rw [zkB (by omega),zkD,zas x1,e1,zau]
    rfl
   ·simp only
    rw [e3 r b hr hb,g4 r b hr hb]
    by_cases k1:r=q
    ·rw [if_pos k1,if_neg (by omega),if_pos (by omega)]
    ·rw [if_neg k1]
     by_cases k2:r<q
     ·rw [if_pos k2,if_pos (by omega)]
     ·rw [if_neg k2,if_neg (by omega)]
  ·right
   have e1:q=n:=by omega
   subst e1
   refine ⟨_,by rw [zkA (by omega),zkC],y,rfl,g3,fun r b hr hb=>?_⟩
   rw [g4 r b hr hb,if_pos hr]) fuel (N,M,0) ⟨Nat.zero_le _,rfl,GN,fun r b _ _=>by rw [if_neg (Nat.not_lt_zero _)]⟩ (by have:=zbg;simp only;omega)
 obtain ⟨r,e1,N',rfl,h⟩:=key;exact ⟨N',e1,h⟩
theorem loop_s68 {n:Nat} {cl:Nat→Nat} {M:List (Int×Int)} (U:UpOk n cl M) (hn:n≤1000000) (hcl:∀ q,q<n→cl q<n) {F:List Nat} {nums:List Int} (A:NumL n F nums) (P:zaa) :
  iter (fun (s:(List (Int×Int))×List Int×Nat)=>zad.s68 (P,nums) s.1 s.2.1 s.2.2) fuel (M,List.replicate n 0,0)=some ((List.range n).map fun q=>numT F (↑(cl q):Int)):=by
 have hl:=A.len
 have key:=za8 (step:=fun (s:(List (Int×Int))×List Int×Nat)=>zad.s68 (P,nums) s.1 s.2.1 s.2.2) (fun s=>s.2.2≤n∧s.1=M∧Wrt (fun q=>numT F (↑(cl q):Int)) (List.replicate n 0) s.2.2 s.2.1) (fun s=>n-s.2.2) (fun r=>r=(List.range n).map fun q=>numT F (↑(cl q):Int)) (fun ⟨m,y,q⟩ ⟨g1,g2,g3⟩=>by
  simp only at g1 g2 g3
  subst g2
  simp only [zad.s68,List.length_replicate]
  have hyl:=g3.len
  rw [List.length_replicate] at hyl
  by_cases h:q<n
  ·left
   have hc:=hcl q h
   refine ⟨(m,y.set q (numT F (↑(cl q):Int)),q+1),?_,⟨h,rfl,g3.step (by rw [List.length_replicate];exact h) rfl⟩,by simp only;omega⟩
   rw [zkB (by omega),zkD,of_eq U (by omega) h,zau,zb5 (i:=cl q) rfl (A.at_ _ hc),zas (get_at (l:=y) (i:=q) (by omega)),za5 (by unfold inR;omega)]
   unfold numT
   rw [Int.toNat_natCast]
   by_cases k1:cl q∈F
   ·rw [if_pos k1,if_pos ⟨by omega,k1⟩]
   ·rw [if_neg k1,if_neg (fun g=>k1 g.2)]
  ·right
   have e1:q=n:=by omega
   subst e1
   refine ⟨_,by rw [zkA (by omega),zkC],?_⟩
   rw [g3.done (by rw [List.length_replicate];exact Nat.le_refl _),List.length_replicate]) fuel (M,List.replicate n 0,0) ⟨Nat.zero_le _,rfl,Wrt.zero _ _⟩ (by have:=zbg;simp only;omega)
 obtain ⟨r,e1,rfl⟩:=key;exact e1
theorem zm3.quo (H:zci p) {cl:Nat→Nat} {N O:List (List Int)} {M:List (Int×Int)} (F:zm3 p s t cl N O M []) {N':List (List Int)} (GN:Grid p.Next.length p.Inputs.toNat N') (hN:∀ r b,r<p.Next.length→b<p.Inputs.toNat→gx N' r b=clT cl (gx N r b)):QuoOk p ⟨p.Inputs,(↑(cl p.Start.toNat):Int),N',O⟩ cl:=by
 have hn:=H.n2;have hst:=H.st;obtain ⟨C,K⟩:=F.cls;have hlt:∀ q,q<p.Next.length→cl q<p.Next.length:=fun q hq=>by have:=K.le q hq;omega
 have hl:=GN.len;have hs:p.Start.toNat<p.Next.length:=by omega
 have hlab:Lab p.Next.length cl [] cl:=⟨fun _ _ _ _ h=>h,fun _ _ h=>by cases h⟩;refine ⟨⟨by have:=H.i1;simp only;omega,H.i2,by simp only;omega,⟨cl p.Start.toNat,rfl,by simp only;rw [hl];exact hlt _ hs⟩,by simp only;rw [hl];exact GN,by simp only;rw [hl];exact F.go,fun q a hq ha=>?_⟩,hl,rfl,rfl,K.idem,hlt,fun c a hc ha hcc=>?_⟩
 ·simp only at hq ha ⊢;rw [hl] at hq ⊢;rw [hN q a hq ha];unfold clT;rcases F.rng q a hq ha with k | ⟨u,k1,k2⟩
  ·rw [if_pos k];exact .inl rfl
  ·exact .inr ⟨cl u,by rw [if_neg (by omega),k1,Int.toNat_natCast],hlt u k2⟩
 ·simp only;rw [hN c a hc ha];obtain ⟨r1,r2⟩:=F.row c a hc ha hcc;unfold clT;by_cases k:gx N c a=-1
  ·rw [if_pos k];exact ⟨fun _=>(r1 k).2,fun h=>absurd rfl h⟩
  ·rw [if_neg k];obtain ⟨u,a1,a2,⟨r,b1,b2,b3,b4⟩,a4⟩:=r2 k;refine ⟨fun h=>by omega,fun _=>⟨⟨r,b1,b2,by omega⟩,fun r hr hrc hp=>?_⟩⟩;obtain ⟨d1,d2⟩:=a4 r hr hrc hp;exact ⟨by rw [a1,Int.toNat_natCast,d2 cl hlab],d1⟩
theorem loop_copy (H:zci p):iter (fun (s:List (List Int)×List (List Int)×Nat)=>zad.s2 p s.1 s.2.1 s.2.2) fuel ([],[],0)=some (p.Next,p.Out):=by
 have hn:=H.n2;have hi:=H.i2;have ho:=H.ol
 have key:=za8 (step:=fun (s:List (List Int)×List (List Int)×Nat)=>zad.s2 p s.1 s.2.1 s.2.2) (fun s=>s.2.2≤p.Next.length∧s.1=p.Next.take s.2.2∧s.2.1=p.Out.take s.2.2) (fun s=>p.Next.length-s.2.2) (fun r=>r=(p.Next,p.Out)) (fun ⟨y,z,k⟩ ⟨g1,g2,g3⟩=>by
  simp only at g1 g2 g3
  subst g2
  subst g3
  simp only [zad.s2,List.length_nil,List.nil_append,List.length_take,List.length_singleton,Nat.zero_add]
  by_cases h:k<p.Next.length
  ·left
   obtain ⟨x,y,h1,h2,h3,h4,_⟩:=H.row k h
   refine ⟨(p.Next.take (k+1),p.Out.take (k+1),k+1),?_,⟨h,rfl,rfl⟩,by simp only;omega⟩
   rw [zkB (by omega),zkD,zas h1,za5 (by unfold za0;omega),za5 (by unfold za0;omega),zas h2,za5 (by unfold za0;omega),za5 (by unfold za0;omega)]
   have q1:p.Next.take (k+1)=p.Next.take k++[x]:=by rw [List.take_succ,h1];rfl
   have q2:p.Out.take (k+1)=p.Out.take k++[y]:=by rw [List.take_succ,h2];rfl
   rw [q1,q2]
  ·right
   have e1:k=p.Next.length:=by omega
   subst e1
   exact ⟨_,by rw [zkA (by omega),zkC],by rw [List.take_length,← ho,List.take_length]⟩) fuel ([],[],0) ⟨Nat.zero_le _,rfl,rfl⟩ (by have:=zbg;simp only;omega)
 obtain ⟨r,e1,rfl⟩:=key;exact e1
theorem zpw (H:zci p) (hs:s<p.Next.length) (ht:t<p.Next.length):(znn p s t∧zad p (↑s:Int) (↑t:Int)=some (⟨0,0,[],[]⟩,[],false))∨(¬ znn p s t∧∃ Q cl,QuoOk p Q cl∧(∀ q,q<p.Next.length→cl q=clsOf p s t q)∧zad p (↑s:Int) (↑t:Int)=some (renP Q,(List.range p.Next.length).map fun q=>numT (ordP Q) (↑(cl q):Int),true)):=by
 have hn:=H.n2;have hst:=H.st;have hps:p.Start.toNat<p.Next.length:=by omega
 obtain ⟨r,e1,hr⟩:=loop_fold H hs ht;unfold zad;rw [loop_copy H,zau];unfold zad.k71;simp only;rw [e1,zau];rcases hr with ⟨rfl,hc⟩ | ⟨N,O,M,cl,rfl,F⟩
 ·exact .inl ⟨hc,by rw [Sum.elim_inr]⟩
 ·obtain ⟨d1,d2⟩:=F.done H hs ht;obtain ⟨N',e2,GN,hN⟩:=loop_s66 F.up (by omega) (by have:=H.i2;omega) F.gn F.rng;have K:=F.quo H GN hN;obtain ⟨nums,e3,A⟩:=zc4 K.ren;refine .inr ⟨d2,_,cl,K,d1,?_⟩;rw [Sum.elim_inl];unfold zad.k70;simp only;rw [e2,zau];unfold zad.k69;simp only;have hAl:=A.len;simp only at A hAl;rw [GN.len] at A hAl;rw [show p.Start=(↑p.Start.toNat:Int) by omega,of_eq F.up (by omega) hps,zau,Int.toNat_natCast,e3,zau]
  dsimp only
  rw [za5 ⟨by omega,Int.le_refl _,by unfold za0;omega⟩,hAl,loop_s68 F.up (by omega) K.lt A,zau]
end
end
section

end
section

end
section
structure TabOk (t:zqf):Prop where
 sm:SmT t
 n:t.Inputs≤4
 p:t.Prefixes.length≤80
 s:t.Suffixes.length≤12
 pw:∀ x∈t.Prefixes,x.length≤80
 sw:∀ x∈t.Suffixes,x.length≤30
theorem zjj (a b:List (List Int)) (ha:SmL a):zcb a b=some (decide (a=b)):=by
 have ha1:a.length≤2000000:=ha.1;unfold zcb;by_cases hlen:a.length=b.length
 ·rw [zkA (by omega),zkC];refine iter_all2 hlen (fun i x y hx hy=>?_) ?_ (by omega)
  ·simp only [zcb.s2];rw [zen hx,zkD,zas hx,zas hy,zjf x y (ha.2 x (zkH hx)),zau];by_cases h:x=y<;>simp [h]
  ·simp only [zcb.s2];rw [zh4];rfl
 ·rw [zkB (by omega),zkD];have:a≠b:=fun h=>hlen (by rw [h]);simp [this]
end
section
theorem zny:ziw=some true:=by decide +kernel
end
section
theorem zmc {p:zaa} (h1:SmL p.Next) (h2:SmL p.Out):zgw p p=some true:=by
 unfold zgw;rw [zkB rfl,zkD,zkB rfl,zkD,zjj _ _ h1,zau,zkB rfl,zkD,zjj _ _ h2,zau,zkB rfl,zau]
end
section
theorem scan_idx {α:Type} {p:α→Bool}:∀ (l:List α) (j:Nat),scan (fun i x=>if p x=true then some (↑i:Int) else none) j l=if l.any p=true then some (↑(j+l.findIdx p):Int) else none
 | [],_=>rfl
 | x::l,j=>by
  unfold scan;by_cases h:p x=true
  ·simp [h,List.findIdx_cons]
  ·have hf:p x=false:=by simpa using h
   rw [if_neg h];simp only;rw [scan_idx l (j+1)];simp only [List.any_cons,hf,Bool.false_or,List.findIdx_cons,zkC];split
   ·congr 2;omega
   ·rfl
theorem tindex_eq {l:List zag} {f:zag→Option Bool} {p:zag→Bool} (hl:l.length≤100000000000000) (hf:∀ x∈l,f x=some (p x)) :
  zap l f=some (if l.any p=true then (↑(l.findIdx p):Int) else -1):=by
 unfold zap
 have key:=zgd (step:=fun s=>zap.s2 l f s) (l:=l) (fun i x=>if p x=true then some (↑i:Int) else none) (fun i x hx=>by
  simp only [zap.s2]
  rw [zen hx,zkD,zas hx,hf x (zkH hx),zau]
  cases p x<;>rfl) (by
  simp only [zap.s2]
  rw [zh4]
  rfl) hl
 rw [key,scan_idx,zau];by_cases h:l.any p=true
 ·rw [if_pos h,if_pos h,Nat.zero_add];rfl
 ·rw [if_neg h,if_neg h];rfl
theorem cindex_eq {l:List Int} {f:Int→Option Bool} {p:Int→Bool} (hl:l.length≤100000000000000) (hf:∀ x∈l,f x=some (p x)) :
  zco l f=some (l.any p):=by
 unfold zco zbb
 have key:=zgd (step:=fun s=>zbb.s2 l f s) (l:=l) (fun i x=>if p x=true then some (↑i:Int) else none) (fun i x hx=>by
  simp only [zbb.s2]
  rw [zen hx,zkD,zas hx,hf x (zkH hx),zau]
  cases p x<;>rfl) (by
  simp only [zbb.s2]
  rw [zh4]
  rfl) hl
 rw [key,scan_idx];by_cases h:l.any p=true
 ·rw [if_pos h,h];simp
 ·have h':l.any p=false:=by simpa using h
  rw [if_neg h,h'];rfl
def propI (t:zag) (n:Int):Int :=
 if zil t.In n≠0 then zil t.In n else if t.Out.length≠t.In.length then 1 else if (t.Out.all fun y=>decide (0≤y∧y≤1048576))=true then 0 else 2
theorem propI_zero {t:zag} {n:Int}:propI t n=0↔zme n t:=by
 unfold propI zme;by_cases h1:zil t.In n=0
 ·rw [if_neg (by simpa using h1)];by_cases h2:t.Out.length=t.In.length
  ·rw [if_neg (by simpa using h2)];by_cases h3:(t.Out.all fun y=>decide (0≤y∧y≤1048576))=true
   ·rw [if_pos h3];exact ⟨fun _=>⟨h1,h2,fun y hy=>of_decide_eq_true (List.all_eq_true.1 h3 y hy)⟩,fun _=>rfl⟩
   ·rw [if_neg h3];exact ⟨fun h=>(by cases h),fun h=>absurd (List.all_eq_true.2 fun y hy=>zkB (h.2.2 y hy)) h3⟩
  ·rw [if_pos h2];exact ⟨fun h=>(by cases h),fun h=>absurd h.2.1 h2⟩
 ·rw [if_pos h1];exact ⟨fun h=>absurd h h1,fun h=>absurd h.1 h1⟩
theorem zno (t:zag) (n:Int) (h1:SmW t.In) (h2:SmW t.Out):zfh t n=some (propI t n):=by
 unfold zfh propI;rw [zmd _ _ h1,zau];by_cases g1:zil t.In n=0
 ·rw [zkA (by simpa using g1),zkC,if_neg (by simpa using g1)];by_cases g2:t.Out.length=t.In.length
  ·rw [zkA (by omega),zkC,if_neg (by simpa using g2)]
   rw [cindex_eq (p:=fun y=>!decide (0≤y∧y≤1048576)) (by unfold SmW at h2;omega) fun y _=>by
    unfold zeq
    by_cases a1:y<0
    ·rw [zkB a1,zkD,zau,zkA (show ¬ (0≤y∧y≤1048576) by omega)];rfl
    ·by_cases a2:1048576<y
     ·rw [zkA a1,zkC,zkB a2,zau,zkA (show ¬ (0≤y∧y≤1048576) by omega)];rfl
     ·rw [zkA a1,zkC,zkA a2,zau,zkB (show (0≤y∧y≤1048576) by omega)];rfl,zau]
   by_cases h:(t.Out.all fun y=>decide (0≤y∧y≤1048576))=true
   ·have h':(t.Out.any fun y=>!decide (0≤y∧y≤1048576))=false:=by
     rw [List.any_eq_false];intro y hy;have:=List.all_eq_true.1 h y hy;simp only [this,Bool.not_true];exact Bool.false_ne_true
    rw [h',zkC,if_pos h]
   ·have h':(t.Out.any fun y=>!decide (0≤y∧y≤1048576))=true:=by
     refine Classical.byContradiction fun hn=>h (List.all_eq_true.2 fun y hy=>?_);refine Classical.byContradiction fun hm=>hn (List.any_eq_true.2 ⟨y,hy,?_⟩);have:decide (0≤y∧y≤1048576)=false:=by simpa only [Bool.not_eq_true] using hm
     rw [this];rfl
    rw [h',zkD,if_neg h]
  ·rw [zkB (by omega),zkD,if_pos g2]
 ·rw [zkB g1,zkD,if_pos g1]
theorem zo3:∀ a b:List Int,zbc a b=zbc b a
 | [],[]=>rfl
 | [],_::_=>rfl
 | _::_,[]=>rfl
 | x::a,y::b=>by
  unfold zbc;by_cases h:x=y
  ·rw [if_pos h,if_pos h.symm,zo3 a b]
  ·rw [if_neg h,if_neg fun e=>h e.symm]
theorem Agree.symm {a b:zag} (h:Agree a b):Agree b a:=by
 unfold Agree at h ⊢;rw [zo3];exact h.symm
theorem common_eq_iff {x y:List Int} (h:x.length=y.length):zbc x y=y.length↔x=y:=by
 rw [zkw];exact ⟨fun hp=>(hp.eq_of_length h.symm).symm,fun e=>e ▸ List.prefix_refl _⟩
theorem zhi (a b:zag) {n:Int} (ha:zme n a) (hb:zme n b) (h1:SmW a.In):∃ d,zet a b=some d∧(0≤d↔¬ Agree a b):=by
 have h1':a.In.length≤2000000:=h1;have hc:=zia a.In b.In;have la:=ha.2.1;have lb:=hb.2.1;unfold zet;rw [zhu _ _ h1,zau];have hm:min (min (↑(zbc a.In b.In):Int) (↑a.Out.length:Int)) (↑b.Out.length:Int)=↑(zbc a.In b.In):=by omega
 rw [hm,za5 (by omega),za5 (by omega),Int.toNat_natCast,zhu _ _ (by unfold SmW;rw [List.length_take];omega),zau];have l1:(a.Out.take (zbc a.In b.In)).length=zbc a.In b.In:=by rw [List.length_take];omega
 have l2:(b.Out.take (zbc a.In b.In)).length=zbc a.In b.In:=by rw [List.length_take];omega
 have hle:=zia (a.Out.take (zbc a.In b.In)) (b.Out.take (zbc a.In b.In));have hiff:=common_eq_iff (x:=a.Out.take (zbc a.In b.In)) (y:=b.Out.take (zbc a.In b.In)) (by omega);by_cases h:zbc (a.Out.take (zbc a.In b.In)) (b.Out.take (zbc a.In b.In))<zbc a.In b.In
 ·rw [zkB (by omega),zkD];exact ⟨_,rfl,fun _ hA=>by have:=hiff.2 hA;omega,fun _=>by omega⟩
 ·rw [zkA (by omega),zkC];exact ⟨-1,rfl,fun h=>absurd h (by decide),fun hA=>absurd (hiff.1 (by omega)) hA⟩
def clashO (l:List zag) (t:zag):Prop:=∃ u∈l,¬ Agree u t
instance (a b:zag):Decidable (Agree a b):=by unfold Agree;infer_instance
instance (l:List zag) (t:zag):Decidable (clashO l t):=by unfold clashO;infer_instance
theorem zlp.pw {o:zav} (hv:zlp o):o.Traces.Pairwise (fun a b=>cmpW a.In b.In=-1)∧o.Traces.Pairwise (fun a b=>¬ a.In <+: b.In∧Agree a b) :=
 ⟨List.pairwise_iff_getElem.2 fun i j hi hj hij=>hv.asc i j _ _ hij (get_at hi) (get_at hj),List.pairwise_iff_getElem.2 fun i j hi hj hij=>hv.apart i j _ _ hij (get_at hi) (get_at hj)⟩
end
section
theorem zew {w:List Int} {n:Int} (h:zil w n=0):w.length≤1024∧∀ a∈w,0≤a∧a<n:=by
 unfold zil at h;split at h
 ·split at h
  ·cases h
  ·split at h
   ·rename_i g1 g2 g3;exact ⟨by omega,fun a ha=>by simpa using List.all_eq_true.1 g3 a ha⟩
   ·cases h
 ·cases h
theorem scan_nil {α R:Type}:∀ (l:List α) (j:Nat),scan (fun _ _=>(none:Option R)) j l=none
 | [],_=>rfl
 | _::l,j=>by
  unfold scan;exact scan_nil l (j+1)
theorem fits_tot {l:List zag} (hl:l.length≤1000000) (hw:∀ t∈l,t.In.length≤1000000) {n:Int} (hp:∀ t∈l,zme n t) (hd:∀ a∈l,∀ b∈l,a.In=b.In→a=b):∃ b,zdg l=some b:=by
 have hf:∀ a∈l,∀ b∈l,zc9 a b=some (lexI a.In b.In):=fun a ha b _=>by
  unfold zc9;rw [zli _ _ (by have:=hw a ha;omega),zau]
 have ht:totB (fun u0 u1=>zc9 u0 u1) l=true:=by
  refine List.all_eq_true.2 fun a ha=>List.all_eq_true.2 fun b hb=>?_;simp only;rw [hf a ha b hb,hf b hb a ha];simp only [Bool.and_eq_true];have hz:=zqg a.In b.In;have hs:=zpl a.In b.In;refine ⟨⟨⟨?_,?_⟩,?_⟩,List.all_eq_true.2 fun c hc=>?_⟩
  ·rw [beq_iff_eq];by_cases h:a=b
   ·have:lexI a.In b.In=0:=hz.2 (by rw [h]);rw [zkB this,zkB h]
   ·have h2:¬ lexI a.In b.In=0:=fun e=>h (hd a ha b hb (hz.1 e));rw [zkA h2,zkA h]
  ·rw [beq_iff_eq];by_cases h:lexI a.In b.In<0
   ·rw [zkB h,zkB (by omega)]
   ·rw [zkA h,zkA (by omega)]
  ·have:=zix a.In b.In;exact zkB (by omega)
  ·rw [hf b hb c hc,hf a ha c hc];have r1:=zix a.In b.In;have r2:=zix b.In c.In;by_cases h1:lexI a.In b.In<0
   ·by_cases h2:lexI b.In c.In<0
    ·have:=zng a.In b.In c.In (by omega) (by omega);simp [h1,h2,this]
    ·simp [h1,h2]
   ·simp [h1]
 have hperm:=zfn (fun u0 u1=>zc9 u0 u1) l;generalize hS:zj3 (fun u0 u1=>zc9 u0 u1) l=S at hperm;have hsl:S.length=l.length:=hperm.length_eq;unfold zdg zgj zot zfl libSort;rw [za5 (by unfold za0;omega),zau,za5 (by omega),ht,zkD,hS,zau]
 have key:=za8 (step:=fun (s:Nat)=>zdg.s2 S s) (fun i=>1≤i) (fun i=>S.length+1-i) (fun _=>True) (fun i g1=>by
  simp only [zdg.s2]
  by_cases h:i<S.length
  ·have hx:=get_at h
   have hy:=get_at (l:=S) (i:=i-1) (by omega)
   have mx:S[i]∈l:=hperm.mem_iff.1 (List.getElem_mem h)
   have my:S[i-1]∈l:=hperm.mem_iff.1 (List.getElem_mem _)
   obtain ⟨d,hd1,_⟩:=zhi S[i-1] S[i] (hp _ my) (hp _ mx) (by have:=hw _ my;unfold SmW;omega)
   rw [zen hx,zkD,zas hx,zb5 (i:=i-1) (by omega) hy,ziv _ _ (by have:=hw _ mx;unfold SmW;omega),zau]
   by_cases q:S[i-1].In <+: S[i].In
   ·rw [zkB q,zkD,zau,zkD]
    exact .inr ⟨_,rfl,trivial⟩
   ·rw [zkA q,zkC,zb5 (i:=i-1) (by omega) hy,zas hx,hd1,zau,zau]
    by_cases z:0≤d
    ·rw [zkB z,zkD]
     exact .inr ⟨_,rfl,trivial⟩
    ·rw [zkA z,zkC]
     exact .inl ⟨_,rfl,by omega,by omega⟩
  ·rw [zkA (by omega),zkC]
   exact .inr ⟨_,rfl,trivial⟩) fuel 1 (Nat.le_refl _) (by have:=zbg;omega)
 obtain ⟨r,e,-⟩:=key;rw [e,zau];cases r with
 | inl u=>exact ⟨true,rfl⟩
 | inr b=>exact ⟨b,rfl⟩
theorem zlp.dist {o:zav} (hv:zlp o):∀ a∈o.Traces,∀ b∈o.Traces,a.In=b.In→a=b:=fun a ha b hb e=>by
 obtain ⟨i,hi,rfl⟩:=List.getElem_of_mem ha;obtain ⟨j,hj,rfl⟩:=List.getElem_of_mem hb;rcases Nat.lt_trichotomy i j with h | h | h
 ·exact absurd (e ▸ List.prefix_refl _) (hv.apart i j _ _ h (get_at hi) (get_at hj)).1
 ·subst h;rfl
 ·exact absurd (e ▸ List.prefix_refl _) (hv.apart j i _ _ h (get_at hj) (get_at hi)).1
theorem zmq {l:List zag} {f:zag→Option Bool} (hl:l.length≤100000000000000) (hf:∀ x∈l,f x=some false):zbe l f=some false:=by
 unfold zbe
 have h:¬ l.any (fun _=>false)=true:=fun h=>by
  obtain ⟨x,_,hx⟩:=List.any_eq_true.1 h;cases hx
 rw [tindex_eq (p:=fun _=>false) hl hf,if_neg h,zau];rfl
theorem zoh {o:zav} (ho:SmO o) (hv:zlp o):zbt o=some 0:=by
 obtain ⟨i1,i2⟩:=hv.inp;have hn:=hv.num;have hs:=ho.2;unfold zbt;rw [zkA (by omega),zkC,zkA (by omega),zau,zkC,zkA (by omega),zkC]
 have key:=zgd (step:=fun s=>zbt.s2 o s) (l:=o.Traces) (R:=Int) (fun _ _=>none) (fun i x hx=>by
  obtain ⟨hi,hx'⟩:=zkI.1 hx
  have mx:x∈o.Traces:=zkH hx
  obtain ⟨p1,p2⟩:=hv.prop x mx
  have sx:SmW x.In:=by have:=(hs x mx).1;unfold SmW;omega
  have hpi:propI x o.Inputs=0:=propI_zero.2 p1
  have hne:x.In.length≠0:=fun e=>p2 (List.eq_nil_of_length_eq_zero e)
  simp only [zbt.s2]
  rw [zen hx,zkD,zas hx,zmd _ _ sx,zau,p1.1,zkA (by decide),zkC,zkA (by omega),zkC,zno _ _ sx (hs x mx).2,zau,hpi,zkA (by decide),zkC]
  by_cases h0:0<i
  ·have hy:=get_at (l:=o.Traces) (i:=i-1) (by omega)
   have hc:=hv.asc (i-1) i _ _ (by omega) hy hx
   have my:=zkH hy
   unfold zgv
   rw [zkB (by omega),zkD,zb5 (i:=i-1) (by omega) hy,zjy _ _ (by have:=(hs _ my).1;omega),zau,zau,hc,zkA (by decide),zau,zkC]
  ·rw [zkA (by omega),zkC,zau,zkC]) (by
  simp only [zbt.s2]
  rw [zh4,zkC]) (by omega)
 rw [key,scan_nil,zau];simp only [Sum.elim_inl];obtain ⟨b,hb⟩:=fits_tot (l:=o.Traces) (by omega) (fun t ht=>by have:=(zew (hv.prop t ht).1.1).1;omega) (fun t ht=>(hv.prop t ht).1) hv.dist;rw [hb,zau];cases b with
 | true=>rfl
 | false =>
  rw [zkC]
  have key2:=zgd (step:=fun s=>zbt.s4 o s) (l:=o.Traces) (R:=Int) (fun _ _=>none) (fun i x hx=>by
   obtain ⟨hi,hx'⟩:=zkI.1 hx
   have mx:x∈o.Traces:=zkH hx
   have hl:(o.Traces.drop (i+1)).length≤100000000000000:=by rw [List.length_drop];omega
   have hap:∀ u∈o.Traces.drop (i+1),u∈o.Traces∧¬ x.In <+: u.In∧Agree x u:=fun u hu=>by
    refine ⟨List.mem_of_mem_drop hu,?_⟩
    obtain ⟨k,hk,e⟩:=List.getElem_of_mem hu
    rw [List.getElem_drop] at e
    rw [List.length_drop] at hk
    exact hv.apart i (i+1+k) x u (by omega) hx (by rw [get_at (by omega),e])
   simp only [zbt.s4]
   rw [zen hx,zkD,zas hx,za5 (by omega),zmq hl (fun u hu=>by
    unfold ze0
    rw [ziv _ _ (by have:=(hs u (hap u hu).1).1;unfold SmW;omega),zau,zkA (hap u hu).2.1]),zau,zkC,zmq hl (fun u hu=>by
    unfold ze2
    obtain ⟨d,d1,d2⟩:=zhi x u (hv.prop x mx).1 (hv.prop u (hap u hu).1).1 (by have:=(hs x mx).1;unfold SmW;omega)
    rw [d1,zau,zkA (fun h=>d2.1 h (hap u hu).2.2)]),zau,zkC]) (by
   simp only [zbt.s4]
   rw [zh4,zkC]) (by omega)
  rw [key2,scan_nil,zau];rfl
end
section
theorem addT_pre (L:List Nat) (t:Int):L <+: addT L t:=by
 unfold addT;split
 ·exact List.prefix_refl _
 ·exact List.prefix_append _ _
theorem zjr:∀ (x:List Int) (L:List Nat),L <+: x.foldl addT L
 | [],L=>List.prefix_refl _
 | t::x,L=>by
  rw [List.foldl_cons];exact (addT_pre L t).trans (zjr x _)
theorem foldl_mem:∀ (x:List Int) (L:List Nat) (t:Int),t∈x→t=-1∨t.toNat∈x.foldl addT L
 | u::x,L,t,h=>by
  rw [List.foldl_cons];rcases List.mem_cons.1 h with rfl | h
  ·by_cases t0:t=-1
   ·exact .inl t0
   ·refine .inr ((zjr x _).subset ?_);unfold addT;split
    ·rename_i g;exact g.resolve_left t0
    ·exact List.mem_append_right _ (List.mem_singleton.2 rfl)
  ·exact foldl_mem x _ t h
theorem bfs_pre (R:Nat→List Int):∀ (f i:Nat) (L:List Nat),L <+: bfsL R f i L
 | 0,_,L=>List.prefix_refl _
 | f+1,i,L=>by
  unfold bfsL;cases L[i]? with
  | none=>exact List.prefix_refl _
  | some c=>exact (zjr (R c) L).trans (bfs_pre R f (i+1) _)
theorem zro (R:Nat→List Int):∀ (f i:Nat) (L:List Nat),(∀ c,c∈L.take i→∀ t,t∈R c→t=-1∨t.toNat∈L)→(bfsL R f i L).length≤f+i→∀ c,c∈bfsL R f i L→∀ t,t∈R c→t=-1∨t.toNat∈bfsL R f i L
 | 0,i,L,h,hl=>by
  unfold bfsL at hl ⊢;rw [List.take_of_length_le (by omega)] at h;exact h
 | f+1,i,L,h,hl=>by
  unfold bfsL at hl ⊢;cases e:L[i]? with
  | none =>
   have:L.length≤i:=List.getElem?_eq_none_iff.1 e;rw [List.take_of_length_le this] at h;exact h
  | some c =>
   rw [e] at hl;refine zro R f (i+1) _ (fun d hd t ht=>?_) (by simp only at hl;omega);obtain ⟨hi,hc⟩:=zkI.1 e;have hp:=zjr (R c) L
   have htk:((R c).foldl addT L).take (i+1)=L.take i++[c]:=by
    obtain ⟨T,hT⟩:=hp;rw [← hT,List.take_append_of_le_length (by omega),List.take_succ_eq_append_getElem hi,hc]
   rw [htk] at hd;rcases List.mem_append.1 hd with k | k
   ·exact (h d k t ht).elim .inl fun k=>.inr (hp.subset k)
   ·rw [List.mem_singleton.1 k] at ht;exact foldl_mem _ _ _ ht
theorem zhb {Q:zaa} (R:RenOk Q) {c a:Nat} (hc:c∈ordP Q) (ha:a<Q.Inputs.toNat):gx Q.Next c a=-1∨(gx Q.Next c a).toNat∈ordP Q:=by
 obtain ⟨nums,_,A⟩:=zc4 R;have hle:=A.le;obtain ⟨x,x1,x2,x3⟩:=R.gn.at (A.lt c hc) ha;refine zro (fun c=>(Q.Next[c]?).getD []) (Q.Next.length+1) 0 [Q.Start.toNat] (fun d hd=>by simp at hd) (by have:(bfsL (fun c=>(Q.Next[c]?).getD []) (Q.Next.length+1) 0 [Q.Start.toNat]).length≤Q.Next.length:=hle;omega) c hc _ ?_;rw [x1,Option.getD_some];exact zkH x2
theorem renP_ok {Q:zaa} (R:RenOk Q) (hi:1≤Q.Inputs) (hn:Q.Next.length≤4096) (ho:∀ c a,c∈ordP Q→a<Q.Inputs.toNat→gx Q.Next c a≠-1→0≤gx Q.Out c a∧gx Q.Out c a≤1048576):zci (renP Q):=by
 obtain ⟨nums,_,A⟩:=zc4 R;have hle:=A.le
 have hpos:0<(ordP Q).length:=by
  have:=(bfs_pre (fun c=>(Q.Next[c]?).getD []) (Q.Next.length+1) 0 [Q.Start.toNat]).length_le;exact this
 unfold renP;refine ⟨hi,R.i2,by simp only [zkK];exact hpos,by simp only [zkK];omega,by simp only [zkK];omega,by simp only [zkK],fun s hs=>?_⟩;simp only [zkK] at hs ⊢;have hx:=get_at hs;have hc:(ordP Q)[s]∈ordP Q:=List.getElem_mem hs;refine ⟨zg5 Q (ordP Q) (ordP Q)[s],zi7 Q (ordP Q)[s],by rw [List.getElem?_map,hx];rfl,by rw [List.getElem?_map,hx];rfl,?_,?_,fun a t o h1 h2=>?_⟩
 ·unfold zg5;rw [zkK,List.length_range];omega
 ·unfold zi7;rw [zkK,List.length_range];omega
 ·unfold zg5 at h1;unfold zi7 at h2;rw [List.getElem?_map] at h1 h2;by_cases ha:a<Q.Inputs.toNat
  ·rw [List.getElem?_range ha] at h1 h2;have h1:numT (ordP Q) (gx Q.Next (ordP Q)[s] a)=t:=by injection h1
   have h2:(if gx Q.Next (ordP Q)[s] a=-1 then (-1:Int) else gx Q.Out (ordP Q)[s] a)=o:=by injection h2
   rw [← h1,← h2];unfold numT;by_cases t0:gx Q.Next (ordP Q)[s] a=-1
   ·rw [if_neg (fun g=>g.1 t0),if_pos t0];omega
   ·have hm:=(zhb R hc ha).resolve_left t0;have hlt:=List.idxOf_lt_length_of_mem hm;obtain ⟨o1,o2⟩:=ho _ a hc ha t0;rw [if_pos ⟨t0,hm⟩,if_neg t0];omega
  ·rw [List.getElem?_eq_none (by rw [List.length_range];omega)] at h1;cases h1
theorem QuoOk.part {p Q:zaa} {cl:Nat→Nat} (H:zci p) (K:QuoOk p Q cl):zci (renP Q)∧(renP Q).Next.length≤p.Next.length:=by
 have hO:=(zi5 H K).2;refine ⟨renP_ok K.ren (by rw [K.inp];exact H.i1) (by rw [K.len];exact H.n2) fun c a hc ha h=>?_,?_⟩
 ·obtain ⟨c1,c2⟩:=hO.lt c hc;rw [K.inp] at ha;obtain ⟨⟨r,r1,r2,r3⟩,h3⟩:=(K.row c a c1 ha c2).2 h;obtain ⟨_,h4⟩:=h3 r r1 r2 r3;obtain ⟨n1,n2,n3,n4,n5,_⟩:=H.at r1 ha;rw [← h4];exact ⟨by omega,n4⟩
 ·unfold renP;simp only [zkK];exact hO.le
end
section
theorem place_gen {L:List Int} {d:Int} (hl:L.length≤10000000):zc7 L d=some (↑(L.idxOf d):Int):=by
 have key:=za8 (step:=fun (i:Nat)=>zc7.s2 L d i) (fun i=>i≤L.length∧d∉L.take i) (fun i=>L.length-i) (fun r=>r=L.idxOf d) (fun i ⟨g1,g2⟩=>by
  simp only [zc7.s2]
  by_cases h:i<L.length
  ·have hx:=get_at h
   rw [zkB (by omega),zkD,zas hx,zau]
   by_cases e:L[i]=d
   ·right
    refine ⟨i,by rw [zkA (fun g=>g e),zkC],?_⟩
    have hL:L=L.take i++L[i]::L.drop (i+1):=by rw [← List.drop_eq_getElem_cons h,List.take_append_drop]
    rw [hL,List.idxOf_append,if_neg g2,e,List.idxOf_cons_self,Nat.zero_add,List.length_take]
    omega
   ·left
    refine ⟨i+1,by rw [zkB e,zkD,za5 (by unfold inR;omega)],⟨h,fun hm=>?_⟩,by omega⟩
    rw [List.take_succ_eq_append_getElem h] at hm
    rcases List.mem_append.1 hm with k | k
    ·exact g2 k
    ·exact e (List.mem_singleton.1 k).symm
  ·right
   have e1:i=L.length:=by omega
   subst e1
   rw [List.take_length] at g2
   exact ⟨L.length,by rw [zkA (by omega),zkC,zau,zkC],(List.idxOf_eq_length g2).symm⟩) fuel 0 ⟨Nat.zero_le _,by simp⟩ (by have:=zbg;omega)
 obtain ⟨r,e1,rfl⟩:=key;unfold zc7;rw [e1,zau]
section
variable {p:zaa}
def CandOf (p:zaa) (red:List Bool) (r a b:Nat):Prop:=red[r]?=some true∧pnx p r a=(↑b:Int)∧red[b]?=some false
def BestI (p:zaa) (red:List Bool) (r k B:Nat):Prop:=B≤p.Next.length∧(B<p.Next.length→∃ r a,CandOf p red r a B)∧∀ r' a b,(r'<r∨(r'=r∧a<k))→CandOf p red r' a b→B≤b
theorem loop_s25 (H:zci p) {red:List Bool} (hr:red.length=p.Next.length) {r:Nat} (hrl:r<p.Next.length) (hred:red[r]?=some true) {x:List Int} (hx:p.Next[r]?=some x) {B:Nat} (hB:BestI p red r 0 B):∃ B':Nat,iter (fun (s:Int×Nat)=>zch.s25 red x s.1 s.2) fuel ((↑B:Int),0)=some (↑B':Int)∧BestI p red (r+1) 0 B':=by
 have hi:=H.i2
 have hxl:x.length=p.Inputs.toNat:=by
  obtain ⟨x',q1,q2⟩:=H.gn.row r hrl;rw [hx] at q1;injection q1 with q1
  rw [q1,q2]
 have key:=za8 (step:=fun (s:Int×Nat)=>zch.s25 red x s.1 s.2) (fun s=>s.2≤x.length∧∃ B:Nat,s.1=(↑B:Int)∧BestI p red r s.2 B) (fun s=>x.length-s.2) (fun q=>∃ B':Nat,q=(↑B':Int)∧BestI p red (r+1) 0 B') (fun ⟨b,k⟩ ⟨g1,B,g2,g3⟩=>by
  simp only at g1 g2 g3
  subst g2
  obtain ⟨c1,c2,c3⟩:=g3
  simp only [zch.s25]
  by_cases h:k<x.length
  ·left
   obtain ⟨n1,n2,n3,n4,n5,x',_,hx',_,hxa,_⟩:=H.at hrl (a:=k) (by omega)
   rw [hx] at hx'
   injection hx' with hx'
   subst hx'
   rw [zkB (by omega),zkD,zas hxa]
   by_cases t0:pnx p r k=-1
   ·refine ⟨((↑B:Int),k+1),by rw [zkA (fun g=>g t0),zkC,zau,zkC],⟨h,B,rfl,c1,c2,fun r' a b' q1 q2=>?_⟩,by simp only;omega⟩
    by_cases e:r'=r∧a=k
    ·have:=q2.2.1
     rw [e.1,e.2,t0] at this
     omega
    ·exact c3 r' a b' (by simp only at q1;omega) q2
   ·obtain ⟨u,hu⟩:∃ u:Nat,pnx p r k=(↑u:Int):=⟨(pnx p r k).toNat,by omega⟩
    have hul:u<red.length:=by omega
    have hru:=get_at hul
    rw [zkB t0,zkD,zb5 (i:=u) hu hru,zau]
    cases hb:red[u] with
    | true =>
     refine ⟨((↑B:Int),k+1),by rw [Bool.not_true,zkC],⟨h,B,rfl,c1,c2,fun r' a b' q1 q2=>?_⟩,by simp only;omega⟩
     by_cases e:r'=r∧a=k
     ·obtain ⟨_,m1,m2⟩:=q2
      rw [e.1,e.2,hu] at m1
      have e2:b'=u:=by omega
      rw [e2,hru,hb] at m2
      cases m2
     ·exact c3 r' a b' (by simp only at q1;omega) q2
    | false =>
     refine ⟨((↑(min B u):Int),k+1),?_,⟨h,min B u,rfl,by omega,fun _=>?_,fun r' a b' q1 q2=>?_⟩,by simp only;omega⟩
     ·rw [Bool.not_false,zkD,hu,show min (↑B:Int) (↑u:Int)=(↑(min B u):Int) by omega]
     ·rcases Nat.le_total B u with q | q
      ·rw [Nat.min_eq_left q];exact c2 (by omega)
      ·rw [Nat.min_eq_right q];exact ⟨r,k,hred,hu,by rw [hru,hb]⟩
     ·by_cases e:r'=r∧a=k
      ·have m1:=q2.2.1
       rw [e.1,e.2,hu] at m1
       omega
      ·have:=c3 r' a b' (by simp only at q1;omega) q2
       omega
  ·right
   have e1:k=x.length:=by omega
   subst e1
   refine ⟨_,by rw [zkA (by omega),zkC],B,rfl,c1,c2,fun r' a b' q1 q2=>?_⟩
   by_cases e:r'=r
   ·have:=(zjz H q2.2.1).2.1
    exact c3 r' a b' (.inr ⟨e,by omega⟩) q2
   ·exact c3 r' a b' (.inl (by omega)) q2) fuel ((↑B:Int),0) ⟨Nat.zero_le _,B,rfl,hB⟩ (by have:=zbg;simp only;omega)
 obtain ⟨q,e,B',rfl,h⟩:=key;exact ⟨B',e,h⟩
theorem merge_blue_eq (H:zci p) {red:List Bool} (hr:red.length=p.Next.length):∃ B:Nat,zch p red=some ((↑B:Int),decide (B<p.Next.length))∧B≤p.Next.length∧(B<p.Next.length→∃ r a,CandOf p red r a B)∧∀ r a b,CandOf p red r a b→B≤b:=by
 have hn:=H.n2
 have key:=za8 (step:=fun (s:Int×Nat)=>zch.s26 p red s.1 s.2) (fun s=>s.2≤p.Next.length∧∃ B:Nat,s.1=(↑B:Int)∧BestI p red s.2 0 B) (fun s=>p.Next.length-s.2) (fun q=>∃ B':Nat,q=(↑B':Int)∧BestI p red p.Next.length 0 B') (fun ⟨b,r⟩ ⟨g1,B,g2,g3⟩=>by
  simp only at g1 g2 g3
  subst g2
  simp only [zch.s26]
  by_cases h:r<p.Next.length
  ·left
   have hx:=get_at (l:=red) (i:=r) (by omega)
   rw [zkB (by omega),zkD,zas hx]
   cases hb:red[r] with
   | false =>
    refine ⟨((↑B:Int),r+1),by rw [Bool.not_false,zkD,zau],⟨h,B,rfl,g3.1,g3.2.1,fun r' a b' q1 q2=>?_⟩,by simp only;omega⟩
    by_cases e:r'=r
    ·have:=q2.1
     rw [e,hx,hb] at this
     cases this
    ·exact g3.2.2 r' a b' (.inl (by simp only at q1;omega)) q2
   | true =>
    obtain ⟨x,x1,x2⟩:=H.gn.row r h
    obtain ⟨B',e1,e2⟩:=loop_s25 H hr h (by rw [hx,hb]) x1 g3
    exact ⟨((↑B':Int),r+1),by rw [Bool.not_true,zkC,zas x1,e1,zau,zau],⟨h,B',rfl,e2⟩,by simp only;omega⟩
  ·right
   have e1:r=p.Next.length:=by omega
   subst e1
   exact ⟨_,by rw [zkA (by omega),zkC],B,rfl,g3⟩) fuel ((↑red.length:Int),0) ⟨Nat.zero_le _,p.Next.length,by rw [hr],Nat.le_refl _,fun h=>absurd h (Nat.lt_irrefl _),fun r' a b' q1 q2=>by omega⟩ (by have:=zbg;simp only;omega)
 obtain ⟨q,e,B,rfl,c1,c2,c3⟩:=key;refine ⟨B,?_,c1,c2,fun r a b q=>c3 r a b (.inl ?_) q⟩
 ·unfold zch;rw [e,zau,hr,show decide ((↑B:Int)<(↑p.Next.length:Int))=decide (B<p.Next.length) from by rw [Bool.eq_iff_iff,decide_eq_true_iff,decide_eq_true_iff];omega]
 ·exact (zjz H q.2.1).1
end
end
section
section
variable {p:zaa}
def HasP (p:zaa) (red:List Bool) (k b:Nat):Prop:=∃ r a,r<k∧red[r]?=some true∧pnx p r a=(↑b:Int)
theorem loop_s13 (H:zci p) {red:List Bool} (hr:red.length=p.Next.length) (b:Nat):∃ is:Bool,iter (fun (s:Bool×Nat)=>zcp.s13 p red b s.1 s.2) fuel (false,0)=some is∧(is=true↔HasP p red p.Next.length b):=by
 have hi:=H.i2;have hn:=H.n2
 have key:=za8 (step:=fun (s:Bool×Nat)=>zcp.s13 p red b s.1 s.2) (fun s=>s.2≤p.Next.length∧(s.1=true↔HasP p red s.2 b)) (fun s=>p.Next.length-s.2) (fun is=>is=true↔HasP p red p.Next.length b) (fun ⟨is,r⟩ ⟨g1,g2⟩=>by
  simp only at g1 g2
  simp only [zcp.s13]
  by_cases h:r<p.Next.length
  ·left
   have hx:=get_at (l:=red) (i:=r) (by omega)
   rw [zkB (by omega),zkD]
   cases is with
   | true =>
    obtain ⟨r',a,q1,q2⟩:=g2.1 rfl
    exact ⟨(true,r+1),by rw [zkD],⟨h,fun _=>⟨r',a,by simp only;omega,q2⟩,fun _=>rfl⟩,by simp only;omega⟩
   | false =>
    have hno:¬ HasP p red r b:=fun h=>by have:=g2.2 h;cases this
    rw [zkC,zas hx]
    cases hb:red[r] with
    | false =>
     refine ⟨(false,r+1),by rw [zkC],⟨h,⟨(fun h=>by cases h),fun ⟨r',a,q1,q2,q3⟩=>?_⟩⟩,by simp only;omega⟩
     simp only at q1
     by_cases e:r'=r
     ·rw [e,hx,hb] at q2
      cases q2
     ·exact absurd ⟨r',a,by omega,q2,q3⟩ hno
    | true =>
     obtain ⟨x,x1,x2⟩:=H.gn.row r h
     have hmem:x.idxOf (↑b:Int)<x.length↔∃ a,pnx p r a=(↑b:Int):=by
      constructor
      ·intro h1
       have h2:=List.getElem_idxOf h1
       refine ⟨x.idxOf (↑b:Int),?_⟩
       unfold pnx
       rw [x1,Option.getD_some,get_at h1,Option.getD_some,h2]
      ·rintro ⟨a,ha⟩
       refine List.idxOf_lt_length_of_mem ?_
       unfold pnx at ha
       rw [x1,Option.getD_some] at ha
       cases e:x[a]? with
       | none =>
        rw [e,Option.getD_none] at ha
        omega
       | some v =>
        rw [e,Option.getD_some] at ha
        rw [← ha]
        exact zkH e
     refine ⟨(decide ((↑(x.idxOf (↑b:Int)):Int)<p.Inputs),r+1),by rw [zkD,zas x1,place_gen (by omega),zau],⟨h,fun h1=>?_,fun ⟨r',a,q1,q2,q3⟩=>?_⟩,by simp only;omega⟩
     ·have h1:=of_decide_eq_true h1
      obtain ⟨a,ha⟩:=hmem.1 (by omega)
      exact ⟨r,a,by simp only;omega,by rw [hx,hb],ha⟩
     ·simp only at q1 ⊢
      by_cases e:r'=r
      ·rw [e] at q3
       have:=hmem.2 ⟨a,q3⟩
       exact zkB (by have:=H.i1;omega)
      ·exact absurd ⟨r',a,by omega,q2,q3⟩ hno
  ·right
   have e1:r=p.Next.length:=by omega
   subst e1
   exact ⟨_,by rw [zkA (by omega),zkC],g2⟩) fuel (false,0) ⟨Nat.zero_le _,fun h=>(by cases h),fun ⟨r',a,q1,_⟩=>absurd q1 (Nat.not_lt_zero _)⟩ (by have:=zbg;simp only;omega)
 exact key
theorem zi3 (H:zci p) {red:List Bool} (hr:red.length=p.Next.length):∃ L:List Nat,zcp p red=some (zck L)∧(∀ b,b∈L↔∃ r a,CandOf p red r a b)∧L.Pairwise (·<·):=by
 have hn:=H.n2
 have key:=za8 (step:=fun (s:List Int×Nat)=>zcp.s14 p red s.1 s.2) (fun s=>s.2≤p.Next.length∧∃ L:List Nat,s.1=zck L∧L.length≤s.2∧(∀ b,b∈L↔b<s.2∧HasP p red p.Next.length b∧red[b]?=some false)∧L.Pairwise (·<·)) (fun s=>p.Next.length-s.2) (fun q=>∃ L:List Nat,q=zck L∧(∀ b,b∈L↔b<p.Next.length∧HasP p red p.Next.length b∧red[b]?=some false)∧L.Pairwise (·<·)) (fun ⟨y,b⟩ ⟨g1,L,g2,g3,g4,g5⟩=>by
  simp only at g1 g2 g3 g4
  subst g2
  have hcast:(zck L).length=L.length:=by unfold zck;rw [zkK]
  simp only [zcp.s14]
  by_cases h:b<p.Next.length
  ·left
   have hx:=get_at (l:=red) (i:=b) (by omega)
   obtain ⟨is,e1,e2⟩:=loop_s13 H hr b
   have hskip:¬ (HasP p red p.Next.length b∧red[b]?=some false)→∀ d,d∈L↔d<b+1∧HasP p red p.Next.length d∧red[d]?=some false:=fun hno d=>by
    rw [g4 d]
    constructor
    ·exact fun q=>⟨by omega,q.2⟩
    ·exact fun q=>⟨Nat.lt_of_le_of_ne (by omega) fun e=>hno (by rw [← e];exact q.2),q.2⟩
   rw [zkB (by omega),zkD,e1,zau]
   cases is with
   | false =>
    have hno:¬ HasP p red p.Next.length b:=fun h=>by have:=e2.2 h;cases this
    exact ⟨(zck L,b+1),by rw [zkC,zau,zkC],⟨h,L,rfl,by simp only;omega,hskip (fun q=>hno q.1),g5⟩,by simp only;omega⟩
   | true =>
    rw [zkD,zas hx,zau]
    cases hb:red[b] with
    | true =>
     exact ⟨(zck L,b+1),by rw [Bool.not_true,zkC],⟨h,L,rfl,by simp only;omega,hskip (fun q=>by have q2:=q.2;rw [hx,hb] at q2;cases q2),g5⟩,by simp only;omega⟩
    | false =>
     refine ⟨(zck (L++[b]),b+1),?_,⟨h,L++[b],rfl,by simp only [zkJ,List.length_singleton];omega,fun d=>?_,?_⟩,by simp only;omega⟩
     ·rw [Bool.not_false,zkD,za5 (by unfold za0;omega)]
      unfold zck
      rw [List.map_append]
      rfl
     ·simp only
      rw [List.mem_append,List.mem_singleton,g4 d]
      constructor
      ·rintro (q | q)
       ·exact ⟨by omega,q.2⟩
       ·rw [q];exact ⟨by omega,e2.1 rfl,by rw [hx,hb]⟩
      ·intro q
       by_cases e:d=b
       ·exact .inr e
       ·exact .inl ⟨by omega,q.2⟩
     ·refine List.pairwise_append.2 ⟨g5,by simp,fun u hu v hv=>?_⟩
      rw [List.mem_singleton.1 hv]
      exact ((g4 u).1 hu).1
  ·right
   have e1:b=p.Next.length:=by omega
   subst e1
   exact ⟨_,by rw [zkA (by omega),zkC],L,rfl,g4,g5⟩) fuel ([],0) ⟨Nat.zero_le _,[],rfl,Nat.zero_le _,fun b=>⟨fun h=>(by cases h),fun h=>absurd h.1 (Nat.not_lt_zero _)⟩,List.Pairwise.nil⟩ (by have:=zbg;simp only;omega)
 obtain ⟨q,e,L,rfl,c1,c2⟩:=key;refine ⟨L,by unfold zcp;rw [e,zau],fun b=>?_,c2⟩;rw [c1 b];constructor
 ·rintro ⟨_,⟨r,a,_,q1,q2⟩,q3⟩;exact ⟨r,a,q1,q2,q3⟩
 ·rintro ⟨r,a,q1,q2,q3⟩;obtain ⟨m1,m2,m3⟩:=zjz H q2;exact ⟨m3,⟨r,a,m1,q1,q2⟩,q3⟩
theorem blue_head (H:zci p) {red:List Bool} (hr:red.length=p.Next.length):(zch p red=some ((↑p.Next.length:Int),false)∧zcp p red=some [])∨∃ (b:Nat) (L:List Nat),zch p red=some ((↑b:Int),true)∧zcp p red=some (zck (b::L))∧b<p.Next.length∧red[b]?=some false:=by
 obtain ⟨B,e1,c1,c2,c3⟩:=merge_blue_eq H hr;obtain ⟨L,e2,d1,d2⟩:=zi3 H hr;cases L with
 | nil =>
  left
  have hB:B=p.Next.length:=Nat.le_antisymm c1 (Nat.le_of_not_lt fun h=>by
   obtain ⟨r,a,q⟩:=c2 h
   have:=(d1 B).2 ⟨r,a,q⟩
   cases this)
  subst hB;exact ⟨by rw [e1,zkA (Nat.lt_irrefl _)],e2⟩
 | cons b L =>
  right;obtain ⟨r,a,q⟩:=(d1 b).1 List.mem_cons_self;have hb:=(zjz H q.2.1).2.2;have h1:=c3 r a b q;obtain ⟨r',a',q'⟩:=c2 (by omega)
  have h2:b≤B:=by
   rcases List.mem_cons.1 ((d1 B).2 ⟨r',a',q'⟩) with h | h
   ·omega
   ·exact Nat.le_of_lt ((List.pairwise_cons.1 d2).1 B h)
  have hBb:B=b:=by omega
  subst hBb;exact ⟨B,L,by rw [e1,zkB hb],e2,hb,q.2.2⟩
end
end
section
inductive RS (p:zaa):Nat→Prop
 | st:RS p p.Start.toNat
 | step {q:Nat} (a u:Nat) (h:RS p q) (hu:pnx p q a=(↑u:Int)):RS p u
def Conn (p:zaa):Prop:=∀ q,q<p.Next.length→RS p q
theorem znf (Q:zaa):Q.Start.toNat∈ordP Q:=(bfs_pre (fun c=>(Q.Next[c]?).getD []) (Q.Next.length+1) 0 [Q.Start.toNat]).subset (List.mem_singleton.2 rfl)
theorem QuoOk.mem {p Q:zaa} {cl:Nat→Nat} (H:zci p) (K:QuoOk p Q cl) {q:Nat} (h:RS p q):cl q∈ordP Q:=by
 induction h with
 | st =>
  have:=znf Q
  rwa [K.st,Int.toNat_natCast] at this
 | step a u h hu ih =>
  obtain ⟨h1,h2,h3⟩:=zjz H hu;rename_i q;have hc:=K.lt q h1;have hcc:=K.idem q h1;have hne:pnx p q a≠-1:=by omega
  obtain ⟨r1,r2⟩:=K.row (cl q) a hc h2 hcc;by_cases k:gx Q.Next (cl q) a=-1
  ·exact absurd (r1 k q h1 rfl) hne
  ·obtain ⟨e,_⟩:=(r2 k).2 q h1 rfl hne;rw [hu,Int.toNat_natCast] at e;have:=(zhb K.ren ih (a:=a) (by rw [K.inp];exact h2)).resolve_left k
   rwa [e,Int.toNat_natCast] at this
theorem zqj (P:Nat→Prop):∀ (x:List Int) (L:List Nat),(∀ c,c∈L→P c)→(∀ t,t∈x→t≠-1→P t.toNat)→∀ c,c∈x.foldl addT L→P c
 | [],L,h,_,c,hc=>h c hc
 | t::x,L,h,hx,c,hc=>by
  rw [List.foldl_cons] at hc;refine zqj P x _ (fun d hd=>?_) (fun u hu=>hx u (List.mem_cons_of_mem _ hu)) c hc;unfold addT at hd;split at hd
  ·exact h d hd
  ·rename_i g;rcases List.mem_append.1 hd with k | k
   ·exact h d k
   ·rw [List.mem_singleton.1 k];exact hx t List.mem_cons_self fun e=>g (.inl e)
theorem bfs_sound (R:Nat→List Int) (P:Nat→Prop) (hR:∀ c,P c→∀ t,t∈R c→t≠-1→P t.toNat):∀ (f i:Nat) (L:List Nat),(∀ c,c∈L→P c)→∀ c,c∈bfsL R f i L→P c
 | 0,_,L,h,c,hc=>h c hc
 | f+1,i,L,h,c,hc=>by
  unfold bfsL at hc;cases e:L[i]? with
  | none =>
   rw [e] at hc;exact h c hc
  | some d =>
   rw [e] at hc;exact bfs_sound R P hR f (i+1) _ (zqj P _ _ h (hR d (h d (zkH e)))) c hc
theorem renP_conn {Q:zaa} (R:RenOk Q):Conn (renP Q):=by
 obtain ⟨nums,_,A⟩:=zc4 R
 have hpn:∀ c a,c∈ordP Q→a<Q.Inputs.toNat→gx Q.Next c a≠-1→pnx (renP Q) ((ordP Q).idxOf c) a=(↑((ordP Q).idxOf (gx Q.Next c a).toNat):Int):=fun c a hc ha h=>by
  have hm:=(zhb R hc ha).resolve_left h;have hlt:=List.idxOf_lt_length_of_mem hc;unfold pnx renP;rw [List.getElem?_map,get_at hlt,Option.map_some,Option.getD_some,List.getElem_idxOf hlt];unfold zg5;rw [List.getElem?_map,List.getElem?_range ha,Option.map_some,Option.getD_some];unfold numT;rw [if_pos ⟨h,hm⟩]
 have h0:(ordP Q).idxOf Q.Start.toNat=0:=by
  obtain ⟨T,hT⟩:=bfs_pre (fun c=>(Q.Next[c]?).getD []) (Q.Next.length+1) 0 [Q.Start.toNat];unfold ordP;rw [← hT];simp
 have key:∀ c,c∈ordP Q→c∈ordP Q∧RS (renP Q) ((ordP Q).idxOf c):=by
  refine bfs_sound (fun c=>(Q.Next[c]?).getD []) (fun c=>c∈ordP Q∧RS (renP Q) ((ordP Q).idxOf c)) (fun c hc t ht t0=>?_) (Q.Next.length+1) 0 [Q.Start.toNat] fun c hc=>?_
  ·obtain ⟨h1,h2⟩:=hc;obtain ⟨x,x1,x2⟩:=R.gn.row c (A.lt c h1);simp only [x1,Option.getD_some] at ht;obtain ⟨a,ha,hta⟩:=List.mem_iff_getElem.1 ht
   have hg:gx Q.Next c a=t:=by
    unfold gx;rw [x1,Option.getD_some,get_at ha,Option.getD_some,hta]
   have hne:gx Q.Next c a≠-1:=by rw [hg];exact t0
   have hm:=(zhb R h1 (a:=a) (by omega)).resolve_left hne;have hp:=hpn c a h1 (by omega) hne;rw [hg] at hm hp;exact ⟨hm,.step a _ h2 hp⟩
  ·rw [List.mem_singleton.1 hc];refine ⟨znf Q,?_⟩;rw [h0];exact .st
 intro s hs
 have hs:s<(ordP Q).length:=by
  unfold renP at hs;simpa using hs
 have h1:=(key (ordP Q)[s] (List.getElem_mem hs)).2
 rwa [A.nd.idxOf_getElem s hs] at h1
end
section
section
variable {p:zaa}
theorem reds_eq (H:zci p) (G:Conn p) {Q:zaa} {cl:Nat→Nat} (K:QuoOk p Q cl) {red:List Bool} (hr:red.length=p.Next.length) :
  ∃ red':List Bool,red'.length=(renP Q).Next.length∧iter (fun (s:List Bool×Nat)=>zbo.s25 red (renP Q,(List.range p.Next.length).map (fun q=>numT (ordP Q) (↑(cl q):Int)),true) s.1 s.2) fuel (List.replicate (List.length (renP Q).Next) false,0)=some red'∧zeg red ((List.range p.Next.length).map fun q=>(↑(cl q):Int)) (zck (ordP Q))=some red':=by
 have hn:=H.n2;have hO:=(zi5 H K).2;have hle:=hO.le;have hlen:(renP Q).Next.length=(ordP Q).length:=by unfold renP;simp only [zkK]
 have hcast:(zck (ordP Q)).length=(ordP Q).length:=by unfold zck;rw [zkK]
 have hstep:(fun (s:List Bool×Nat)=>zbo.s25 red (renP Q,(List.range p.Next.length).map (fun q=>numT (ordP Q) (↑(cl q):Int)),true) s.1 s.2)=fun (s:List Bool×Nat)=>zeg.s2 red ((List.range p.Next.length).map fun q=>(↑(cl q):Int)) (zck (ordP Q)) s.1 s.2:=by
  funext s;obtain ⟨y,q⟩:=s;simp only [zbo.s25,zeg.s2];by_cases h:q<p.Next.length
  ·have hx:=get_at (l:=red) (i:=q) (by omega);have hm:=K.mem H (G q h)
   have e1:((List.range p.Next.length).map (fun q=>numT (ordP Q) (↑(cl q):Int)))[q]?=some (↑((ordP Q).idxOf (cl q)):Int):=by
    rw [List.getElem?_map,List.getElem?_range h,Option.map_some];unfold numT;rw [Int.toNat_natCast,if_pos ⟨by omega,hm⟩]
   have e2:((List.range p.Next.length).map (fun q=>(↑(cl q):Int)))[q]?=some (↑(cl q):Int):=by
    rw [List.getElem?_map,List.getElem?_range h,Option.map_some]
   rw [zkB (by omega),zkD,zkD,zas hx,zas hx];cases red[q] with
   | false=>rw [zkC,zkC,zau,zkC]
   | true =>
    rw [zkD,zkD,zas e1,zau,zkB (by omega),zkD,zas e1,zas e2,zor (by omega),zau]
  ·rw [zkA (by omega),zkC,zkC]
 have key:=za8 (step:=fun (s:List Bool×Nat)=>zeg.s2 red ((List.range p.Next.length).map fun q=>(↑(cl q):Int)) (zck (ordP Q)) s.1 s.2) (fun s=>s.2≤p.Next.length∧s.1.length=(ordP Q).length) (fun s=>p.Next.length-s.2) (fun r=>r.length=(ordP Q).length) (fun ⟨y,q⟩ ⟨g1,g2⟩=>by
  simp only at g1 g2
  simp only [zeg.s2]
  by_cases h:q<p.Next.length
  ·left
   have hx:=get_at (l:=red) (i:=q) (by omega)
   have hm:=List.idxOf_lt_length_of_mem (K.mem H (G q h))
   have e2:((List.range p.Next.length).map (fun q=>(↑(cl q):Int)))[q]?=some (↑(cl q):Int):=by
    rw [List.getElem?_map,List.getElem?_range h,Option.map_some]
   rw [zkB (by omega),zkD,zas hx]
   cases red[q] with
   | false=>exact ⟨(y,q+1),by rw [zkC],⟨h,g2⟩,by simp only;omega⟩
   | true =>
    exact ⟨(y.set ((ordP Q).idxOf (cl q)) true,q+1),by rw [zkD,zas e2,zor (by omega),zau,zb5 (i:=(ordP Q).idxOf (cl q)) rfl (get_at (l:=y) (i:=(ordP Q).idxOf (cl q)) (by omega)),Int.toNat_natCast],⟨h,by simp only [List.length_set];exact g2⟩,by simp only;omega⟩
  ·right
   exact ⟨_,by rw [zkA (by omega),zkC],g2⟩) fuel (List.replicate (ordP Q).length false,0) ⟨Nat.zero_le _,List.length_replicate⟩ (by have:=zbg;simp only;omega)
 obtain ⟨red',e,hl⟩:=key;refine ⟨red',by rw [hl,hlen],by rw [hstep,hlen];exact e,?_⟩;unfold zeg;rw [hcast,za5 ⟨by omega,Int.le_refl _,by unfold za0;omega⟩,e,zau]
theorem fold_try (H:zci p) (G:Conn p) {red:List Bool} (hr:red.length=p.Next.length) {s t:Nat} (hs:s<p.Next.length) (ht:t<p.Next.length) (hne:s≠t) :
  (zad p (↑s:Int) (↑t:Int)=some (⟨0,0,[],[]⟩,[],false)∧zao p (↑s:Int) (↑t:Int)=some ([],false)) ∨
  ∃ (p':zaa) (pl C L:List Int) (red':List Bool),zad p (↑s:Int) (↑t:Int)=some (p',pl,true)∧zao p (↑s:Int) (↑t:Int)=some (C,true)∧zbh p C=some (p',L)∧iter (fun (s:List Bool×Nat)=>zbo.s25 red (p',pl,true) s.1 s.2) fuel (List.replicate p'.Next.length false,0)=some red'∧zeg red C L=some red'∧red'.length=p'.Next.length∧zci p'∧Conn p'∧p'.Next.length<p.Next.length∧p'.Inputs=p.Inputs:=by
 rcases zpw H hs ht with ⟨f1,f2⟩ | ⟨f1,Q,cl,K,f2,f3⟩
 ·rcases zla H hs ht with ⟨r1,r2⟩ | ⟨r1,r2⟩
  ·exact .inl ⟨f2,r2⟩
  ·exact absurd f1 r1
 ·rcases zla H hs ht with ⟨r1,r2⟩ | ⟨r1,r2⟩
  ·exact absurd r1 f1
  ·right;have hcl:(List.range p.Next.length).map (fun q=>(↑(clsOf p s t q):Int))=(List.range p.Next.length).map fun q=>(↑(cl q):Int):=List.map_congr_left fun q hq=>by rw [f2 q (List.mem_range.1 hq)]
   rw [hcl] at r2;obtain ⟨e1,hO⟩:=zi5 H K;obtain ⟨red',l1,l2,l3⟩:=reds_eq H G K hr;obtain ⟨q1,q2⟩:=K.part H;refine ⟨renP Q,_,_,_,red',f3,r2,e1,l2,l3,l1,q1,renP_conn K.ren,?_,K.inp⟩
   -- one of the two is no least state of its class
   have hst:cl s=cl t:=by rw [f2 s hs,f2 t ht];exact clsOf_same.1 .base
   have hx:∃ x,x<p.Next.length∧cl x≠x:=by
    by_cases k:cl s=s
    ·exact ⟨t,ht,fun e=>hne (by rw [← k,hst,e])⟩
    ·exact ⟨s,hs,k⟩
   obtain ⟨x,x1,x2⟩:=hx;have hlen:(renP Q).Next.length=(ordP Q).length:=by unfold renP;simp only [zkK]
   rw [hlen]
   have:=zir (a:=x::ordP Q) (b:=List.range p.Next.length) (List.nodup_cons.2 ⟨fun h=>x2 (hO.lt x h).2,hO.nd⟩) fun y hy=>by
    rcases List.mem_cons.1 hy with rfl | hy
    ·exact List.mem_range.2 x1
    ·exact List.mem_range.2 (hO.lt y hy).1
   rw [zkL,List.length_range] at this;omega
end
end
section
theorem least_or (P:Nat→Prop):∀ k:Nat,(∀ r,r<k→¬ P r)∨∃ r0,r0<k∧P r0∧∀ r,r<r0→¬ P r
 | 0=>.inl fun r h=>absurd h (Nat.not_lt_zero _)
 | k+1=>by
  rcases least_or P k with h | ⟨r0,h1,h2⟩
  ·by_cases g:P k
   ·exact .inr ⟨k,Nat.lt_succ_self _,g,h⟩
   ·exact .inl fun r hr=>by
     by_cases e:r=k
     ·rw [e];exact g
     ·exact h r (by omega)
  ·exact .inr ⟨r0,by omega,h2⟩
section
variable {p:zaa}
def Succ (p:zaa) (red:List Bool) (b r:Nat):Prop:=red[r]?=some true∧zad p (↑r:Int) (↑b:Int)≠some (⟨0,0,[],[]⟩,[],false)
theorem zms (H:zci p) (G:Conn p) {red:List Bool} (hr:red.length=p.Next.length) {b r:Nat} (hb:b<p.Next.length) (hred:red[b]?=some false) (h1:red[r]?=some true) (h2:¬ Succ p red b r):zad p (↑r:Int) (↑b:Int)=some (⟨0,0,[],[]⟩,[],false)∧zao p (↑r:Int) (↑b:Int)=some ([],false):=by
 have hrl:=(zkI.1 h1).1;have hne:r≠b:=fun e=>by rw [e,hred] at h1;cases h1
 rcases fold_try H G hr (s:=r) (t:=b) (by omega) hb hne with h | ⟨p',pl,C,L,red',q1,_⟩
 ·exact h
 ·exact absurd ⟨h1,by rw [q1];intro h;injection h with h;injection h with _ h;injection h with _ h;cases h⟩ h2
theorem merged_none (H:zci p) (G:Conn p) {red:List Bool} (hr:red.length=p.Next.length) {b:Nat} (hb:b<p.Next.length) (hred:red[b]?=some false) (h:∀ r,r<p.Next.length→¬ Succ p red b r):zbo p red (↑b:Int)=some (p,red.set b true):=by
 have hn:=H.n2
 have key:=za8 (step:=fun (s:Nat)=>zbo.s26 p red (↑b:Int) s) (fun r=>r≤p.Next.length) (fun r=>p.Next.length-r) (fun q=>q=.inl ()) (fun r g1=>by
  simp only [zbo.s26]
  by_cases hrl:r<p.Next.length
  ·left
   have hx:=get_at (l:=red) (i:=r) (by omega)
   refine ⟨r+1,?_,hrl,by omega⟩
   rw [zkB (by omega),zkD,zas hx]
   cases hc:red[r] with
   | false=>rw [Bool.not_false,zkD,zau,Sum.elim_inl]
   | true =>
    rw [Bool.not_true,zkC,(zms H G hr hb hred (by rw [hx,hc]) (h r hrl)).1,zau,Bool.not_false,zkD,zau,Sum.elim_inl]
  ·right
   exact ⟨.inl (),by rw [zkA (by omega),zkC],rfl⟩) fuel 0 (Nat.zero_le _) (by have:=zbg;omega)
 obtain ⟨q,e,rfl⟩:=key;unfold zbo;rw [e,zau,Sum.elim_inl,za5 (by unfold za0;simp only [List.length_nil];omega),List.nil_append,zb5 (i:=b) rfl hred,Int.toNat_natCast]
theorem merged_some (H:zci p) (G:Conn p) {red:List Bool} (hr:red.length=p.Next.length) {b r0:Nat} (hb:b<p.Next.length) (hred:red[b]?=some false) (h0:r0<p.Next.length) (hs:Succ p red b r0) (h:∀ r,r<r0→¬ Succ p red b r) {p':zaa} {pl:List Int} {red':List Bool} (e1:zad p (↑r0:Int) (↑b:Int)=some (p',pl,true)) (e2:iter (fun (s:List Bool×Nat)=>zbo.s25 red (p',pl,true) s.1 s.2) fuel (List.replicate p'.Next.length false,0)=some red') (hl:p'.Next.length≤4096):zbo p red (↑b:Int)=some (p',red'):=by
 have hn:=H.n2
 have key:=za8 (step:=fun (s:Nat)=>zbo.s26 p red (↑b:Int) s) (fun r=>r≤r0) (fun r=>r0+1-r) (fun q=>q=.inr (p',red')) (fun r g1=>by
  simp only [zbo.s26]
  have hx:=get_at (l:=red) (i:=r) (by omega)
  rw [zkB (by omega),zkD,zas hx]
  by_cases hrl:r<r0
  ·left
   refine ⟨r+1,?_,hrl,by omega⟩
   cases hc:red[r] with
   | false=>rw [Bool.not_false,zkD,zau,Sum.elim_inl]
   | true =>
    rw [Bool.not_true,zkC,(zms H G hr hb hred (by rw [hx,hc]) (h r hrl)).1,zau,Bool.not_false,zkD,zau,Sum.elim_inl]
  ·right
   have e:r=r0:=by omega
   subst e
   have hc:=hs.1
   rw [hx] at hc
   injection hc with hc
   refine ⟨.inr (p',red'),?_,rfl⟩
   rw [hc,Bool.not_true,zkC,e1,zau,Bool.not_true,zkC,za5 ⟨by simp only;omega,Int.le_refl _,by unfold za0;simp only;omega⟩,e2,zau,zau,Sum.elim_inr]) fuel 0 (Nat.zero_le _) (by have:=zbg;omega)
 obtain ⟨q,e,rfl⟩:=key;unfold zbo;rw [e,zau,Sum.elim_inr]
theorem ref_none (H:zci p) (G:Conn p) {red:List Bool} (hr:red.length=p.Next.length) {b:Nat} {L:List Nat} (hb:b<p.Next.length) (hred:red[b]?=some false) (h:∀ r,r<p.Next.length→¬ Succ p red b r):iter (fun (s:Int×Int×List (List Int)×List (List Int)×List Bool×Bool×Nat)=>za9.s54 (zck (b::L)) s.1 s.2.1 s.2.2.1 s.2.2.2.1 s.2.2.2.2.1 s.2.2.2.2.2.1 s.2.2.2.2.2.2) fuel (p.Inputs,p.Start,p.Next,p.Out,red,false,0)=some (p.Inputs,p.Start,p.Next,p.Out,red,false):=by
 have hn:=H.n2
 have hk:∀ r,r<p.Next.length→∀ a b c d e f,za9.k53 r a b c d e f=some (.inl (a,b,c,d,e,f,r+1)):=fun r hrl a b c d e f=>by
  unfold za9.k53;rw [za5 (by unfold inR;omega)]
 have key:=za8 (step:=fun (s:Int×Int×List (List Int)×List (List Int)×List Bool×Bool×Nat)=>za9.s54 (zck (b::L)) s.1 s.2.1 s.2.2.1 s.2.2.2.1 s.2.2.2.2.1 s.2.2.2.2.2.1 s.2.2.2.2.2.2) (fun s=>s.2.2.2.2.2.2≤p.Next.length∧s=(p.Inputs,p.Start,p.Next,p.Out,red,false,s.2.2.2.2.2.2)) (fun s=>p.Next.length-s.2.2.2.2.2.2) (fun q=>q=(p.Inputs,p.Start,p.Next,p.Out,red,false)) (fun ⟨x1,x2,x3,x4,x5,x6,r⟩ ⟨g1,g2⟩=>by
  simp only [zkG,and_true] at g1 g2
  obtain ⟨rfl,rfl,rfl,rfl,rfl,rfl⟩:=g2
  simp only [za9.s54]
  by_cases hrl:r<p.Next.length
  ·left
   have hx:=get_at (l:=x5) (i:=r) (by omega)
   refine ⟨(p.Inputs,p.Start,p.Next,p.Out,x5,false,r+1),?_,⟨hrl,rfl⟩,by simp only;omega⟩
   rw [zkB (by omega),zkD,zau,Bool.not_false,zkD,zas hx]
   cases hc:x5[r] with
   | false=>rw [Bool.not_false,zkD,zau,hk r hrl]
   | true =>
    rw [Bool.not_true,zkC,zas (x:=(↑b:Int)) rfl,(zms H G hr hb hred (by rw [hx,hc]) (h r hrl)).2,zau,zkC,zau,hk r hrl]
  ·right
   exact ⟨_,by rw [zkA (by omega),zkC,zau,zkC],rfl⟩) fuel (p.Inputs,p.Start,p.Next,p.Out,red,false,0) ⟨Nat.zero_le _,rfl⟩ (by have:=zbg;simp only;omega)
 obtain ⟨q,e,rfl⟩:=key;exact e
theorem ref_some (H:zci p) (G:Conn p) {red:List Bool} (hr:red.length=p.Next.length) {b r0:Nat} {L:List Nat} (hb:b<p.Next.length) (hred:red[b]?=some false) (h0:r0<p.Next.length) (hs:Succ p red b r0) (h:∀ r,r<r0→¬ Succ p red b r) {p':zaa} {C Lo:List Int} {red':List Bool} (e1:zao p (↑r0:Int) (↑b:Int)=some (C,true)) (e2:zbh p C=some (p',Lo)) (e3:zeg red C Lo=some red'):iter (fun (s:Int×Int×List (List Int)×List (List Int)×List Bool×Bool×Nat)=>za9.s54 (zck (b::L)) s.1 s.2.1 s.2.2.1 s.2.2.2.1 s.2.2.2.2.1 s.2.2.2.2.2.1 s.2.2.2.2.2.2) fuel (p.Inputs,p.Start,p.Next,p.Out,red,false,0)=some (p'.Inputs,p'.Start,p'.Next,p'.Out,red',true):=by
 have hn:=H.n2
 have hk:∀ r,r<p.Next.length→∀ a b c d e f,za9.k53 r a b c d e f=some (.inl (a,b,c,d,e,f,r+1)):=fun r hrl a b c d e f=>by
  unfold za9.k53;rw [za5 (by unfold inR;omega)]
 have key:=za8 (step:=fun (s:Int×Int×List (List Int)×List (List Int)×List Bool×Bool×Nat)=>za9.s54 (zck (b::L)) s.1 s.2.1 s.2.2.1 s.2.2.2.1 s.2.2.2.2.1 s.2.2.2.2.2.1 s.2.2.2.2.2.2) (fun s=>(s.2.2.2.2.2.2≤r0∧s=(p.Inputs,p.Start,p.Next,p.Out,red,false,s.2.2.2.2.2.2))∨s=(p'.Inputs,p'.Start,p'.Next,p'.Out,red',true,r0+1)) (fun s=>r0+2-s.2.2.2.2.2.2) (fun q=>q=(p'.Inputs,p'.Start,p'.Next,p'.Out,red',true)) (fun s g=>by
  rcases g with ⟨g1,g2⟩ | g
  ·obtain ⟨x1,x2,x3,x4,x5,x6,r⟩:=s
   simp only [zkG,and_true] at g1 g2
   obtain ⟨rfl,rfl,rfl,rfl,rfl,rfl⟩:=g2
   simp only [za9.s54]
   left
   have hx:=get_at (l:=x5) (i:=r) (by omega)
   rw [zkB (by omega),zkD,zau,Bool.not_false,zkD,zas hx]
   by_cases hrl:r<r0
   ·refine ⟨(p.Inputs,p.Start,p.Next,p.Out,x5,false,r+1),?_,.inl ⟨hrl,rfl⟩,by simp only;omega⟩
    cases hc:x5[r] with
    | false=>rw [Bool.not_false,zkD,zau,hk r (by omega)]
    | true =>
     rw [Bool.not_true,zkC,zas (x:=(↑b:Int)) rfl,(zms H G hr hb hred (by rw [hx,hc]) (h r hrl)).2,zau,zkC,zau,hk r (by omega)]
   ·have e:r=r0:=by omega
    subst e
    have hc:=hs.1
    rw [hx] at hc
    injection hc with hc
    exact ⟨(p'.Inputs,p'.Start,p'.Next,p'.Out,red',true,r+1),by rw [hc,Bool.not_true,zkC,zas (x:=(↑b:Int)) rfl,e1,zau,zkD,e2,zau,e3,zau,zau,hk r h0],.inr rfl,by simp only;omega⟩
  ·subst g
   right
   refine ⟨_,?_,rfl⟩
   simp only [za9.s54]
   have:(cond (decide ((↑(r0+1):Int)<(↑red'.length:Int))) (some (!true)) (some false):Option Bool)=some false:=by
    cases decide ((↑(r0+1):Int)<(↑red'.length:Int))<;>rfl
   rw [this,zau,zkC]) fuel (p.Inputs,p.Start,p.Next,p.Out,red,false,0) (.inl ⟨Nat.zero_le _,rfl⟩) (by have:=zbg;simp only;omega)
 obtain ⟨q,e,rfl⟩:=key;exact e
end
end
section
theorem iter_pair {S R S' R':Type} {step1:S→Option (S⊕R)} {step2:S'→Option (S'⊕R')} (I:S→S'→Prop) (m:S→Nat) (Q:R→R'→Prop) (h:∀ s s',I s s'→(∃ t t',step1 s=some (.inl t)∧step2 s'=some (.inl t')∧I t t'∧m t<m s)∨∃ r r',step1 s=some (.inr r)∧step2 s'=some (.inr r')∧Q r r') :
  ∀ (n:Nat) (s:S) (s':S'),I s s'→m s<n→∃ r r',iter step1 n s=some r∧iter step2 n s'=some r'∧Q r r'
 | 0,_,_,_,hm=>absurd hm (Nat.not_lt_zero _)
 | n+1,s,s',hi,hm=>by
  unfold iter;rcases h s s' hi with ⟨t,t',e1,e2,h1,h2⟩ | ⟨r,r',e1,e2,h1⟩
  ·rw [e1,e2];exact iter_pair I m Q h n t t' h1 (by omega)
  ·rw [e1,e2];exact ⟨r,r',rfl,rfl,h1⟩
def zj4 (red:List Bool):Nat:=red.countP fun b=>!b
theorem whites_set {red:List Bool}:∀ {b:Nat},red[b]?=some false→zj4 (red.set b true)<zj4 red:=by
 induction red with
 | nil=>intro b h;cases h
 | cons x red ih =>
  intro b h;cases b with
  | zero =>
   have h:x=false:=by injection h
   subst h;unfold zj4;simp
  | succ b =>
   have h:=ih (b:=b) h;unfold zj4 at h ⊢;rw [List.set_cons_succ,List.countP_cons,List.countP_cons];omega
structure LrnI (p:zaa) (red:List Bool):Prop where
 ok:zci p
 con:Conn p
 len:red.length=p.Next.length
def LrnS (a:Int×Int×List (List Int)×List (List Int)×List Bool) (b:Int×Int×List (List Int)×List (List Int)×List Bool×List Int):Prop :=
 ∃ p red L,a=(p.Inputs,p.Start,p.Next,p.Out,red)∧b=(p.Inputs,p.Start,p.Next,p.Out,red,L)∧LrnI p red∧zcp p red=some L
theorem learn_step {p:zaa} {red:List Bool} {L:List Int} (K:LrnI p red) (hL:zcp p red=some L) :
  (∃ p' red' L',zcn.s1 p.Inputs p.Start p.Next p.Out red=some (.inl (p'.Inputs,p'.Start,p'.Next,p'.Out,red'))∧za9.s56 p.Inputs p.Start p.Next p.Out red L=some (.inl (p'.Inputs,p'.Start,p'.Next,p'.Out,red',L'))∧LrnI p' red'∧zcp p' red'=some L'∧5000*p'.Next.length+zj4 red'<5000*p.Next.length+zj4 red) ∨
  (zcn.s1 p.Inputs p.Start p.Next p.Out red=some (.inr (p,0))∧za9.s56 p.Inputs p.Start p.Next p.Out red L=some (.inr (p.Inputs,p.Start,p.Next,p.Out))):=by
 obtain ⟨H,G,hr⟩:=K;have hn:=H.n2;rcases blue_head H hr with ⟨e1,e2⟩ | ⟨b,Lb,e1,e2,hb,hred⟩
 ·right;rw [e2] at hL;injection hL with hL
  subst hL;refine ⟨?_,?_⟩
  ·unfold zcn.s1;rw [e1,zau,Bool.not_false,zkD]
  ·unfold za9.s56;rw [zkA (by simp),zkC]
 ·left;rw [e2] at hL;injection hL with hL
  subst hL;have hc1:0<(zck (b::Lb)).length:=by unfold zck;simp
  have hm1:zcn.s1 p.Inputs p.Start p.Next p.Out red=(zbo p red (↑b:Int)).bind fun a1=>some (.inl (a1.1.Inputs,a1.1.Start,a1.1.Next,a1.1.Out,a1.2)):=by
   unfold zcn.s1;rw [e1,zau,Bool.not_true,zkC]
  rcases least_or (Succ p red b) p.Next.length with h | ⟨r0,h0,hs,h⟩
  ·have hl2:(red.set b true).length=p.Next.length:=by rw [List.length_set];exact hr
   obtain ⟨L',e3,_⟩:=zi3 H hl2;refine ⟨p,red.set b true,zck L',?_,?_,⟨H,G,hl2⟩,e3,by have:=whites_set hred;omega⟩
   ·rw [hm1,merged_none H G hr hb hred h,zau]
   ·unfold za9.s56;rw [zkB (by omega),zkD,ref_none H G hr hb hred h,zau];unfold za9.k55;simp only;rw [Bool.not_false,zkD,zas (x:=(↑b:Int)) rfl,zb5 (i:=b) rfl hred,Int.toNat_natCast,e3,zau]
  ·have hne:r0≠b:=fun e=>by have:=hs.1;rw [e,hred] at this;cases this
   rcases fold_try H G hr h0 hb hne with ⟨q,_⟩ | ⟨p',pl,C,Lo,red',q1,q2,q3,q4,q5,q6,q7,q8,q9,a2⟩
   ·exact absurd q hs.2
   ·obtain ⟨L',e3,_⟩:=zi3 q7 q6
    have hw:zj4 red'≤p'.Next.length:=by
     unfold zj4;rw [← q6];exact List.countP_le_length
    refine ⟨p',red',zck L',?_,?_,⟨q7,q8,q6⟩,e3,by omega⟩
    ·rw [hm1,merged_some H G hr hb hred h0 hs h q1 q4 (by omega),zau]
    ·unfold za9.s56;rw [zkB (by omega),zkD,ref_some H G hr hb hred h0 hs h q2 q3 q5,zau];unfold za9.k55;simp only;rw [Bool.not_true,zkC,e3,zau]
theorem learn_loop {p:zaa} {red:List Bool} {L:List Int} (K:LrnI p red) (hL:zcp p red=some L) :
  ∃ p':zaa,iter (fun (s:Int×Int×List (List Int)×List (List Int)×List Bool)=>zcn.s1 s.1 s.2.1 s.2.2.1 s.2.2.2.1 s.2.2.2.2) fuel (p.Inputs,p.Start,p.Next,p.Out,red)=some (p',0)∧iter (fun (s:Int×Int×List (List Int)×List (List Int)×List Bool×List Int)=>za9.s56 s.1 s.2.1 s.2.2.1 s.2.2.2.1 s.2.2.2.2.1 s.2.2.2.2.2) fuel (p.Inputs,p.Start,p.Next,p.Out,red,L)=some (p'.Inputs,p'.Start,p'.Next,p'.Out)∧zci p':=by
 have hn:=K.ok.n2
 have hw:zj4 red≤4096:=by
  unfold zj4;refine Nat.le_trans List.countP_le_length ?_;rw [K.len];exact hn
 have key:=iter_pair (step1:=fun (s:Int×Int×List (List Int)×List (List Int)×List Bool)=>zcn.s1 s.1 s.2.1 s.2.2.1 s.2.2.2.1 s.2.2.2.2) (step2:=fun (s:Int×Int×List (List Int)×List (List Int)×List Bool×List Int)=>za9.s56 s.1 s.2.1 s.2.2.1 s.2.2.2.1 s.2.2.2.2.1 s.2.2.2.2.2) LrnS (fun s=>5000*s.2.2.1.length+zj4 s.2.2.2.2) (fun r r'=>∃ p':zaa,r=(p',0)∧r'=(p'.Inputs,p'.Start,p'.Next,p'.Out)∧zci p') (fun s s' ⟨p,red,L,h1,h2,h3,h4⟩=>by
  subst h1
  subst h2
  simp only
  rcases learn_step h3 h4 with ⟨p',red',L',q1,q2,q3,q4,q5⟩ | ⟨q1,q2⟩
  ·exact .inl ⟨_,_,q1,q2,⟨p',red',L',rfl,rfl,q3,q4⟩,q5⟩
  ·exact .inr ⟨_,_,q1,q2,p,rfl,rfl,h3.ok⟩) fuel _ _ ⟨p,red,L,rfl,rfl,K,hL⟩ (by have:=zbg;simp only;omega)
 obtain ⟨r,r',e1,e2,p',rfl,rfl,hp⟩:=key;exact ⟨p',e1,e2,hp⟩
end
end Go.Proofs.YteigfkncoiiaiaaGreatDoor.Sym
