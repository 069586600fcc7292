/-
  Parts of the proof, behind each other.
-/
import Derived.Test.YteigfkncoiiaiaaGreatDoorM3
set_option linter.all false
namespace Go.Proofs.YteigfkncoiiaiaaGreatDoor.Sym
open Go.RowKit
set_option maxRecDepth 100000
set_option linter.unusedVariables false
set_option maxHeartbeats 4000000
def zcu.s2 (o_:zal) (n92:Nat) (i93:Nat):Option ((Nat×Nat)⊕Nat) :=
 (cond (decide ((↑i93:Int)<(↑(List.length o_.Traces):Int))) (some (decide ((↑n92:Int)≤60))) (some false):Option (Bool)).bind (fun (y108:Bool)=>cond (y108) (chk (inR ((↑n92:Int)+1)) (idxn o_.Traces i93 fun e112=>chk (inR (((↑n92:Int)+1)+(↑(List.length e112.In):Int))) (chk (inR ((↑i93:Int)+1)) (some (.inl (((n92+1)+(List.length e112.In)),(i93+1))))))) (some (.inr n92)))
def zcu (o_:zal):Option (Bool) :=
 (iter (fun (s:Nat×Nat)=>zcu.s2 o_ s.1 s.2) fuel (0,0):Option (Nat)).bind (fun (n83:Nat)=>(cond (decide (60<(↑n83:Int))) (some true) (some (decide (4<o_.Inputs))):Option (Bool)).bind (fun (y118:Bool)=>some y118))
def R01_Size (inputs_:Int):Option (Bool) :=
 (cond (decide (1≤inputs_)) (some (decide (inputs_≤1024))) (some false):Option (Bool)).bind (fun (y54:Bool)=>some y54)
def zcl.s2 (w_:List Int) (inputs_:Int) (i106:Nat):Option (Nat⊕(Unit⊕Int)) :=
 cond (decide ((↑i106:Int)<(↑(List.length w_):Int))) ((idxn w_ i106 fun e127=>cond (decide (e127<0)) (some true) (idxn w_ i106 fun e129=>some (decide (inputs_≤e129))):Option (Bool)).bind (fun (y126:Bool)=>cond (y126) (some (.inr (.inr 1))) (some (.inl (i106+1))))) (some (.inr (.inl ())))
def zcl (w_:List Int) (inputs_:Int):Option (Int) :=
 (R01_Size inputs_).bind fun c51=>cond ((!c51)) (some 2) (cond (decide (1024<(↑(List.length w_):Int))) (some 3) ((iter (fun (s:Nat)=>zcl.s2 w_ inputs_ s) fuel 0:Option (Unit⊕Int)).bind (Sum.elim (fun (_:Unit)=>some 0) some)))
def zb9.s2 (a_:List Int) (b_:List Int) (i115:Nat):Option (Nat⊕Nat) :=
 (cond (decide ((↑i115:Int)<(↑(List.length a_):Int))) (cond (decide ((↑i115:Int)<(↑(List.length b_):Int))) (idxn a_ i115 fun e141=>idxn b_ i115 fun e142=>some (decide (e141=e142))) (some false)) (some false):Option (Bool)).bind (fun (y138:Bool)=>cond (y138) (chk (inR ((↑i115:Int)+1)) (some (.inl (i115+1)))) (some (.inr i115)))
def zb9 (a_:List Int) (b_:List Int):Option (Int) :=
 (iter (fun (s:Nat)=>zb9.s2 a_ b_ s) fuel 0:Option (Nat)).bind (fun (i100:Nat)=>some (↑i100:Int))
def R01_Lex (a_:List Int) (b_:List Int):Option (Int) :=
 (zb9 a_ b_).bind fun c51=>(cond (decide (c51=(↑(List.length a_):Int))) (some (decide (c51=(↑(List.length b_):Int)))) (some false):Option (Bool)).bind (fun (y55:Bool)=>cond (y55) (some 0) ((cond (decide (c51=(↑(List.length a_):Int))) (some (decide (c51=(↑(List.length a_):Int)))) (cond (decide (c51<(↑(List.length b_):Int))) (idx a_ c51 fun e69=>idx b_ c51 fun e70=>some (decide (e69<e70))) (some false)):Option (Bool)).bind (fun (y66:Bool)=>cond (y66) (some (-1:Int)) (some 1))))
def zdw (a_:List Int) (b_:List Int):Option (Int) :=
 cond (decide ((↑(List.length a_):Int)<(↑(List.length b_):Int))) (some (-1:Int)) (cond (decide ((↑(List.length b_):Int)<(↑(List.length a_):Int))) (some 1) ((R01_Lex a_ b_).bind fun c53=>some c53))
def zci.s2 (t_:zae) (i101:Nat):Option (Nat⊕(Unit⊕Int)) :=
 cond (decide ((↑i101:Int)<(↑(List.length t_.Out):Int))) ((idxn t_.Out i101 fun e121=>cond (decide (e121<0)) (some true) (idxn t_.Out i101 fun e123=>some (decide (1048576<e123))):Option (Bool)).bind (fun (y120:Bool)=>cond (y120) (some (.inr (.inr 2))) (some (.inl (i101+1))))) (some (.inr (.inl ())))
def zci (t_:zae) (inputs_:Int):Option (Int) :=
 (zcl t_.In inputs_).bind fun c51=>cond (decide (c51≠0)) (some c51) (cond (decide ((↑(List.length t_.Out):Int)≠(↑(List.length t_.In):Int))) (some 1) ((iter (fun (s:Nat)=>zci.s2 t_ s) fuel 0:Option (Unit⊕Int)).bind (Sum.elim (fun (_:Unit)=>some 0) some)))
def zc3 (w_:List Int) (p_:List Int):Option (Bool) :=
 (zb9 w_ p_).bind fun c51=>some (decide (c51=(↑(List.length p_):Int)))
def zck.s2 (a_:zae) (b_:zae) (c51:Int) (i73:Nat):Option (Nat⊕(Unit⊕Int)) :=
 cond (decide ((↑i73:Int)<c51)) (idxn a_.Out i73 fun e81=>idxn b_.Out i73 fun e82=>cond (decide (e81≠e82)) (some (.inr (.inr (↑i73:Int)))) (chk (inR ((↑i73:Int)+1)) (some (.inl (i73+1))))) (some (.inr (.inl ())))
def zck (a_:zae) (b_:zae):Option (Int) :=
 (zb9 a_.In b_.In).bind fun c51=>(iter (fun (s:Nat)=>zck.s2 a_ b_ c51 s) fuel 0:Option (Unit⊕Int)).bind (Sum.elim (fun (_:Unit)=>some (-1:Int)) some)
def zbk.s30 (o_:zal) (i518:Nat) (prefix714:Bool) (clash715:Bool) (k716:Nat):Option ((Bool×Bool×Nat)⊕(Bool×Bool)) :=
 cond (decide ((↑k716:Int)<(↑(List.length o_.Traces):Int))) ((cond (prefix714) (some true) (idxn o_.Traces k716 fun e743=>idxn o_.Traces i518 fun e744=>(zc3 e743.In e744.In).bind fun c745=>some c745):Option (Bool)).bind (fun (prefix741:Bool)=>cond (clash715) (some (.inl (prefix741,true,(k716+1)))) (idxn o_.Traces i518 fun e747=>idxn o_.Traces k716 fun e748=>(zck e747 e748).bind fun c749=>some (.inl (prefix741,decide (0≤c749),(k716+1)))))) (some (.inr (prefix714,clash715)))
def zbk.k31 (i518:Nat) (prefix693:Bool) (clash694:Bool):Option (Nat⊕(Unit⊕Int)) :=
 cond (prefix693) (some (.inr (.inr 7))) (cond (clash694) (some (.inr (.inr 13))) (some (.inl (i518+1))))
def zbk.s32 (o_:zal) (i518:Nat):Option (Nat⊕(Unit⊕Int)) :=
 cond (decide ((↑i518:Int)<(↑(List.length o_.Traces):Int))) ((iter (fun (s:Bool×Bool×Nat)=>zbk.s30 o_ i518 s.1 s.2.1 s.2.2) fuel (false,false,(i518+1)):Option (Bool×Bool)).bind (fun (s:Bool×Bool)=>zbk.k31 i518 s.1 s.2)) (some (.inr (.inl ())))
def zbk (o_:zal):Option (Int) :=
 (iter (fun (s:Nat)=>zbk.s32 o_ s) fuel 0:Option (Unit⊕Int)).bind (Sum.elim (fun (_:Unit)=>some 0) some)
def zcv.s2 (o_:zal) (i129:Nat):Option (Nat⊕(Unit⊕Int)) :=
 cond (decide ((↑i129:Int)<(↑(List.length o_.Traces):Int))) (idxn o_.Traces i129 fun e149=>(zcl e149.In o_.Inputs).bind fun c150=>cond (decide (c150≠0)) (some (.inr (.inr c150))) (cond (decide ((↑(List.length e149.In):Int)=0)) (some (.inr (.inr 19))) ((zci e149 o_.Inputs).bind fun c153=>cond (decide (c153≠0)) (some (.inr (.inr c153))) ((cond (decide (0<(↑i129:Int))) (idx o_.Traces ((↑i129:Int)-1) fun e162=>(zdw e162.In e149.In).bind fun c163=>some (decide (0≤c163))) (some false):Option (Bool)).bind (fun (y160:Bool)=>cond (y160) (some (.inr (.inr 10))) (some (.inl (i129+1)))))))) (some (.inr (.inl ())))
def zcv (o_:zal):Option (Int) :=
 (cond (decide (o_.Inputs<1)) (some true) (some (decide (64<o_.Inputs))):Option (Bool)).bind (fun (y54:Bool)=>cond (y54) (some 2) (cond (decide (10000<(↑(List.length o_.Traces):Int))) (some 11) ((iter (fun (s:Nat)=>zcv.s2 o_ s) fuel 0:Option (Unit⊕Int)).bind (Sum.elim (fun (_:Unit)=>(zbk o_).bind fun c165=>some c165) some))))
def za9.s13 (p_:zaa) (y529:Nat) (e657:List Int) (y726:Nat):Option (Nat⊕(Unit⊕(Nat⊕(Unit⊕Int)))) :=
 cond (decide ((↑y726:Int)<(↑(List.length e657):Int))) (idxn e657 y726 fun e745=>idxn p_.Out y529 fun e746=>idxn e746 y726 fun e747=>(cond (decide (e745<(-1:Int))) (some true) (cond (decide ((↑(List.length p_.Next):Int)≤e745)) (some true) (cond (decide (e747<(-1:Int))) (some true) (some (decide (1048576<e747))))):Option (Bool)).bind (fun (y753:Bool)=>cond (y753) (some (.inr (.inr (.inr (.inr 2))))) (cond ((!((decide (e745=(-1:Int)))==(decide (e747=(-1:Int)))))) (some (.inr (.inr (.inr (.inr 1))))) (some (.inl (y726+1)))))) (some (.inr (.inl ())))
def za9.s14 (p_:zaa) (y529:Nat):Option (Nat⊕(Unit⊕Int)) :=
 cond (decide ((↑y529:Int)<(↑(List.length p_.Next):Int))) ((idxn p_.Next y529 fun e653=>cond (decide ((↑(List.length e653):Int)≠p_.Inputs)) (some true) (idxn p_.Out y529 fun e655=>some (decide ((↑(List.length e655):Int)≠p_.Inputs))):Option (Bool)).bind (fun (y652:Bool)=>cond (y652) (some (.inr (.inr 1))) (idxn p_.Next y529 fun e657=>(iter (fun (s:Nat)=>za9.s13 p_ y529 e657 s) fuel 0:Option (Unit⊕(Nat⊕(Unit⊕Int)))).bind (Sum.elim (fun (_:Unit)=>some (.inl (y529+1))) some)))) (some (.inr (.inl ())))
def za9 (p_:zaa):Option (Int) :=
 (cond (decide (p_.Inputs<1)) (some true) (some (decide (64<p_.Inputs))):Option (Bool)).bind (fun (y54:Bool)=>cond (y54) (some 2) (cond (decide ((↑(List.length p_.Next):Int)=0)) (some 19) (cond (decide (4096<(↑(List.length p_.Next):Int))) (some 11) ((cond (decide (p_.Start<0)) (some true) (some (decide ((↑(List.length p_.Next):Int)≤p_.Start))):Option (Bool)).bind (fun (y62:Bool)=>cond (y62) (some 2) (cond (decide ((↑(List.length p_.Out):Int)≠(↑(List.length p_.Next):Int))) (some 1) ((iter (fun (s:Nat)=>za9.s14 p_ s) fuel 0:Option (Unit⊕Int)).bind (Sum.elim (fun (_:Unit)=>some 0) some))))))))
def zb3.s2 (p_:zaa) (w_:List Int) (s141:Int) (y142:List Int) (y143:Nat):Option ((Int×List Int×Nat)⊕(List Int⊕(List Int×Bool))) :=
 cond (decide ((↑y143:Int)<(↑(List.length w_):Int))) (idxn w_ y143 fun e167=>(cond (decide (e167<0)) (some true) (cond (decide (p_.Inputs≤e167)) (some true) (idx p_.Next s141 fun e177=>idx e177 e167 fun e178=>some (decide (e178=(-1:Int))))):Option (Bool)).bind (fun (y174:Bool)=>cond (y174) (some (.inr (.inr ([],false)))) (idx p_.Out s141 fun e182=>idx e182 e167 fun e183=>chk (capOk (List.length y142+1) 8) (idx p_.Next s141 fun e185=>idx e185 e167 fun e186=>some (.inl (e186,(y142++[e183]),(y143+1))))))) (some (.inr (.inl y142)))
def zb3 (p_:zaa) (w_:List Int):Option (List Int×Bool) :=
 (za9 p_).bind fun c51=>cond (decide (c51≠0)) (some ([],false)) ((iter (fun (s:Int×List Int×Nat)=>zb3.s2 p_ w_ s.1 s.2.1 s.2.2) fuel (p_.Start,[],0):Option (List Int⊕(List Int×Bool))).bind (Sum.elim (fun (y121:List Int)=>some (y121,true)) some))
def R01_Same (a_:List Int) (b_:List Int):Option (Bool) :=
 (cond (decide ((↑(List.length a_):Int)=(↑(List.length b_):Int))) ((zb9 a_ b_).bind fun c57=>some (decide (c57=(↑(List.length a_):Int)))) (some false):Option (Bool)).bind (fun (y55:Bool)=>some y55)
def zbs.s2 (a_:List (List Int)) (b_:List (List Int)) (i77:Nat):Option (Nat⊕(Unit⊕Bool)) :=
 cond (decide ((↑i77:Int)<(↑(List.length a_):Int))) (idxn a_ i77 fun e85=>idxn b_ i77 fun e86=>(R01_Same e85 e86).bind fun c87=>cond ((!c87)) (some (.inr (.inr false))) (some (.inl (i77+1)))) (some (.inr (.inl ())))
def zbs (a_:List (List Int)) (b_:List (List Int)):Option (Bool) :=
 cond (decide ((↑(List.length a_):Int)≠(↑(List.length b_):Int))) (some false) ((iter (fun (s:Nat)=>zbs.s2 a_ b_ s) fuel 0:Option (Unit⊕Bool)).bind (Sum.elim (fun (_:Unit)=>some true) some))
def zar.s2 (s_:List Int) (f_:Int→Option Bool) (y71:Nat):Option (Nat⊕(Unit⊕Int)) :=
 cond (decide ((↑y71:Int)<(↑(List.length s_):Int))) (idxn s_ y71 fun e78=>(f_ e78).bind fun c79=>cond (c79) (some (.inr (.inr (↑y71:Int)))) (some (.inl (y71+1)))) (some (.inr (.inl ())))
def zar (s_:List Int) (f_:Int→Option Bool):Option (Int) :=
 (iter (fun (s:Nat)=>zar.s2 s_ f_ s) fuel 0:Option (Unit⊕Int)).bind (Sum.elim (fun (_:Unit)=>some (-1:Int)) some)
def zbm (s_:List Int) (f_:Int→Option Bool):Option (Bool) :=
 (zar s_ f_).bind fun c51=>some (decide (0≤c51))
def zc9 (inputs_:Int):Option (Bool) :=
 (cond (decide (1≤inputs_)) (some (decide (inputs_≤1024))) (some false):Option (Bool)).bind (fun (y54:Bool)=>some y54)
def zdh (a_:Int) (p1_:Int):Option (Bool) :=
 (cond (decide (a_<0)) (some true) (some (decide (p1_≤a_))):Option (Bool)).bind (fun (y54:Bool)=>some y54)
def zan.s2 (s_:List Int) (f_:Int→Option Bool) (y71:Nat):Option (Nat⊕(Unit⊕Int)) :=
 cond (decide ((↑y71:Int)<(↑(List.length s_):Int))) (idxn s_ y71 fun e78=>(f_ e78).bind fun c79=>cond (c79) (some (.inr (.inr (↑y71:Int)))) (some (.inl (y71+1)))) (some (.inr (.inl ())))
def zan (s_:List Int) (f_:Int→Option Bool):Option (Int) :=
 (iter (fun (s:Nat)=>zan.s2 s_ f_ s) fuel 0:Option (Unit⊕Int)).bind (Sum.elim (fun (_:Unit)=>some (-1:Int)) some)
def zbq (s_:List Int) (f_:Int→Option Bool):Option (Bool) :=
 (zan s_ f_).bind fun c51=>some (decide (0≤c51))
def zee (w_:List Int) (inputs_:Int):Option (Int) :=
 (zc9 inputs_).bind fun c51=>cond ((!c51)) (some 2) (cond (decide (1024<(↑(List.length w_):Int))) (some 3) ((zbq w_ (fun u0=>zdh u0 inputs_)).bind fun c54=>cond (c54) (some 1) (some 0)))
def zbz.s2 (a_:List Int) (b_:List Int) (y72:Nat):Option (Nat⊕(Unit⊕Int)) :=
 cond (decide ((↑y72:Int)<(min (↑(List.length a_):Int) (↑(List.length b_):Int)))) (idxn a_ y72 fun e79=>idxn b_ y72 fun e80=>cond (decide (e79≠e80)) (some (.inr (.inr (↑y72:Int)))) (some (.inl (y72+1)))) (some (.inr (.inl ())))
def zbz (a_:List Int) (b_:List Int):Option (Int) :=
 (iter (fun (s:Nat)=>zbz.s2 a_ b_ s) fuel 0:Option (Unit⊕Int)).bind (Sum.elim (fun (_:Unit)=>some (min (↑(List.length a_):Int) (↑(List.length b_):Int))) some)
def zcm (w_:List Int) (p_:List Int):Option (Bool) :=
 (zbz w_ p_).bind fun c51=>some (decide (c51=(↑(List.length p_):Int)))
def zcx (a_:zae) (b_:zae):Option (Int) :=
 (zbz a_.In b_.In).bind fun c51=>chk ((0:Int)≤(min (min c51 (↑(List.length a_.Out):Int)) (↑(List.length b_.Out):Int))∧(min (min c51 (↑(List.length a_.Out):Int)) (↑(List.length b_.Out):Int))≤(↑(List.length a_.Out):Int)) (chk ((0:Int)≤(min (min c51 (↑(List.length a_.Out):Int)) (↑(List.length b_.Out):Int))∧(min (min c51 (↑(List.length a_.Out):Int)) (↑(List.length b_.Out):Int))≤(↑(List.length b_.Out):Int)) ((zbz (List.take (Int.toNat (min (min c51 (↑(List.length a_.Out):Int)) (↑(List.length b_.Out):Int))) a_.Out) (List.take (Int.toNat (min (min c51 (↑(List.length a_.Out):Int)) (↑(List.length b_.Out):Int))) b_.Out)).bind fun c54=>cond (decide (c54<(min (min c51 (↑(List.length a_.Out):Int)) (↑(List.length b_.Out):Int)))) (some c54) (some (-1:Int))))
def cmp_isNaN_int (x_:Int):Option (Bool) :=
 some (decide (x_≠x_))
def cmp_Compare_int (x_:Int) (y_:Int):Option (Int) :=
 (cmp_isNaN_int x_).bind fun c51=>(cmp_isNaN_int y_).bind fun c52=>cond (c51) (cond (c52) (some 0) (some (-1:Int))) (cond (c52) (some 1) (cond (decide (x_<y_)) (some (-1:Int)) (cond (decide (y_<x_)) (some 1) (some 0))))
def zas.s2 (s1_:List Int) (s2_:List Int) (y80:Nat):Option (Nat⊕(Unit⊕Int)) :=
 cond (decide ((↑y80:Int)<(↑(List.length s1_):Int))) (idxn s1_ y80 fun e89=>cond (decide ((↑(List.length s2_):Int)≤(↑y80:Int))) (some (.inr (.inr 1))) (idxn s2_ y80 fun e91=>(cmp_Compare_int e89 e91).bind fun c92=>cond (decide (c92≠0)) (some (.inr (.inr c92))) (some (.inl (y80+1))))) (some (.inr (.inl ())))
def zas (s1_:List Int) (s2_:List Int):Option (Int) :=
 (iter (fun (s:Nat)=>zas.s2 s1_ s2_ s) fuel 0:Option (Unit⊕Int)).bind (Sum.elim (fun (_:Unit)=>cond (decide ((↑(List.length s1_):Int)<(↑(List.length s2_):Int))) (some (-1:Int)) (some 0)) some)
def word_Lex (a_:List Int) (b_:List Int):Option (Int) :=
 (zas a_ b_).bind fun c51=>some c51
def zbx (a_:zae) (b_:zae):Option (Int) :=
 (word_Lex a_.In b_.In).bind fun c51=>some c51
def zb1.s2 (c52:List zae) (i137:Nat):Option (Nat⊕(Unit⊕Bool)) :=
 cond (decide ((↑i137:Int)<(↑(List.length c52):Int))) ((idxn c52 i137 fun e170=>idx c52 ((↑i137:Int)-1) fun e171=>(zcm e170.In e171.In).bind fun c172=>cond (c172) (some true) (idx c52 ((↑i137:Int)-1) fun e174=>idxn c52 i137 fun e175=>(zcx e174 e175).bind fun c176=>some (decide (0≤c176))):Option (Bool)).bind (fun (y169:Bool)=>cond (y169) (some (.inr (.inr false))) (some (.inl (i137+1))))) (some (.inr (.inl ())))
def zb1 (l_:List zae):Option (Bool) :=
 (zd7 l_).bind fun c51=>(zdc c51 (fun u0 u1=>zbx u0 u1)).bind fun c52=>(iter (fun (s:Nat)=>zb1.s2 c52 s) fuel 1:Option (Unit⊕Bool)).bind (Sum.elim (fun (_:Unit)=>some true) some)
def zct (o_:Int):Option (Bool) :=
 (cond (decide (o_<0)) (some true) (some (decide (1048576<o_))):Option (Bool)).bind (fun (y54:Bool)=>some y54)
def zc8 (t_:zae) (inputs_:Int):Option (Int) :=
 (zee t_.In inputs_).bind fun c51=>cond (decide (c51≠0)) (some c51) (cond (decide ((↑(List.length t_.Out):Int)≠(↑(List.length t_.In):Int))) (some 1) ((zbm t_.Out (fun u0=>zct u0)).bind fun c54=>cond (c54) (some 2) (some 0)))
def zb8.s2 (vals_:List Int) (y67:Nat):Option (Nat⊕(Unit⊕Int)) :=
 cond (decide ((↑y67:Int)<(↑(List.length vals_):Int))) (idxn vals_ y67 fun e73=>cond (decide (e73≠0)) (some (.inr (.inr e73))) (some (.inl (y67+1)))) (some (.inr (.inl ())))
def zb8 (vals_:List Int):Option (Int) :=
 (iter (fun (s:Nat)=>zb8.s2 vals_ s) fuel 0:Option (Unit⊕Int)).bind (Sum.elim (fun (_:Unit)=>some 0) some)
def zcg (a_:List Int) (b_:List Int):Option (Int) :=
 (cmp_Compare_int (↑(List.length a_):Int) (↑(List.length b_):Int)).bind fun c51=>(zas a_ b_).bind fun c52=>(zb8 [c51,c52]).bind fun c53=>some c53
def zd8 (a_:zae) (b_:zae):Option (Int) :=
 (zcg a_.In b_.In).bind fun c51=>some c51
def zc2 (u_:zae) (p1_:zae):Option (Bool) :=
 (zcm u_.In p1_.In).bind fun c51=>some c51
def zc1 (u_:zae) (p1_:zae):Option (Bool) :=
 (zcx p1_ u_).bind fun c51=>some (decide (0≤c51))
def zai.s2 (s_:List zae) (f_:zae→Option Bool) (y71:Nat):Option (Nat⊕(Unit⊕Int)) :=
 cond (decide ((↑y71:Int)<(↑(List.length s_):Int))) (idxn s_ y71 fun e78=>(f_ e78).bind fun c79=>cond (c79) (some (.inr (.inr (↑y71:Int)))) (some (.inl (y71+1)))) (some (.inr (.inl ())))
def zai (s_:List zae) (f_:zae→Option Bool):Option (Int) :=
 (iter (fun (s:Nat)=>zai.s2 s_ f_ s) fuel 0:Option (Unit⊕Int)).bind (Sum.elim (fun (_:Unit)=>some (-1:Int)) some)
def zat (s_:List zae) (f_:zae→Option Bool):Option (Bool) :=
 (zai s_ f_).bind fun c51=>some (decide (0≤c51))
def za4.s2 (o_:zal) (y134:Nat):Option (Nat⊕(Unit⊕Int)) :=
 cond (decide ((↑y134:Int)<(↑(List.length o_.Traces):Int))) (idxn o_.Traces y134 fun e155=>(zee e155.In o_.Inputs).bind fun c156=>cond (decide (c156≠0)) (some (.inr (.inr c156))) (cond (decide ((↑(List.length e155.In):Int)=0)) (some (.inr (.inr 19))) ((zc8 e155 o_.Inputs).bind fun c159=>cond (decide (c159≠0)) (some (.inr (.inr c159))) ((cond (decide (0<(↑y134:Int))) (idx o_.Traces ((↑y134:Int)-1) fun e168=>(zd8 e168 e155).bind fun c169=>some (decide (0≤c169))) (some false):Option (Bool)).bind (fun (y166:Bool)=>cond (y166) (some (.inr (.inr 10))) (some (.inl (y134+1)))))))) (some (.inr (.inl ())))
def za4.s4 (o_:zal) (y207:Nat):Option (Nat⊕(Unit⊕Int)) :=
 cond (decide ((↑y207:Int)<(↑(List.length o_.Traces):Int))) (idxn o_.Traces y207 fun e217=>chk ((0:Int)≤((↑y207:Int)+1)∧((↑y207:Int)+1)≤(↑(List.length o_.Traces):Int)) ((zat (List.drop (y207+1) o_.Traces) (fun u0=>zc2 u0 e217)).bind fun c219=>cond (c219) (some (.inr (.inr 7))) ((zat (List.drop (y207+1) o_.Traces) (fun u0=>zc1 u0 e217)).bind fun c221=>cond (c221) (some (.inr (.inr 13))) (some (.inl (y207+1)))))) (some (.inr (.inl ())))
def za4 (o_:zal):Option (Int) :=
 (cond (decide (o_.Inputs<1)) (some true) (some (decide (64<o_.Inputs))):Option (Bool)).bind (fun (y54:Bool)=>cond (y54) (some 2) (cond (decide (10000<(↑(List.length o_.Traces):Int))) (some 11) ((iter (fun (s:Nat)=>za4.s2 o_ s) fuel 0:Option (Unit⊕Int)).bind (Sum.elim (fun (_:Unit)=>(zb1 o_.Traces).bind fun c173=>cond (c173) (some 0) ((iter (fun (s:Nat)=>za4.s4 o_ s) fuel 0:Option (Unit⊕Int)).bind (Sum.elim (fun (_:Unit)=>some 0) some))) some))))
def zbr.s2 (inputs_:Int) (y68:List Int) (y69:Nat):Option ((List Int×Nat)⊕List Int) :=
 cond (decide ((↑y69:Int)<(↑(List.length (List.replicate (Int.toNat inputs_) (0:Int))):Int))) (idxn y68 y69 fun e75=>chk (inR ((↑y69:Int)+1)) (some (.inl ((List.set y68 y69 (-1:Int)),(y69+1))))) (some (.inr y68))
def zbr (inputs_:Int):Option (List Int) :=
 chk ((0:Int)≤inputs_∧inputs_≤inputs_∧capOk (Int.toNat inputs_) 8) ((iter (fun (s:List Int×Nat)=>zbr.s2 inputs_ s.1 s.2) fuel ((List.replicate (Int.toNat inputs_) (0:Int)),0):Option (List Int)).bind (fun (y65:List Int)=>some y65))
def zag.s18 (e628:List Int) (y699:List Int) (y700:List Int) (y701:Nat):Option ((List Int×List Int×Nat)⊕(List Int×List Int)) :=
 cond (decide ((↑y701:Int)<(↑(List.length e628):Int))) (idxn e628 y701 fun e719=>(cond (decide (e719≠(-1:Int))) (idx y699 e719 fun e726=>some (decide (e726=(-1:Int)))) (some false):Option (Bool)).bind (fun (y724:Bool)=>cond (y724) (idx y699 e719 fun e731=>chk (capOk (List.length y700+1) 8) (some (.inl ((List.set y699 e719.toNat (↑(List.length y700):Int)),(y700++[e719]),(y701+1))))) (some (.inl (y699,y700,(y701+1)))))) (some (.inr (y699,y700)))
def zag.k19 (i512:Nat) (y682:List Int) (y683:List Int):Option ((List Int×List Int×Nat)⊕(List Int×List Int)) :=
 some (.inl (y682,y683,(i512+1)))
def zag.s20 (p_:zaa) (y510:List Int) (y511:List Int) (i512:Nat):Option ((List Int×List Int×Nat)⊕(List Int×List Int)) :=
 cond (decide ((↑i512:Int)<(↑(List.length y511):Int))) (idxn y511 i512 fun e627=>idx p_.Next e627 fun e628=>(iter (fun (s:List Int×List Int×Nat)=>zag.s18 e628 s.1 s.2.1 s.2.2) fuel (y510,y511,0):Option (List Int×List Int)).bind (fun (s:List Int×List Int)=>zag.k19 i512 s.1 s.2)) (some (.inr (y510,y511)))
def zag.s38 (p_:zaa) (y396:List Int) (e1172:Int) (e1175:List Int) (y1222:List Int) (y1223:List Int) (y1224:Nat):Option ((List Int×List Int×Nat)⊕(List Int×List Int)) :=
 cond (decide ((↑y1224:Int)<(↑(List.length e1175):Int))) (idxn e1175 y1224 fun e1235=>cond (decide (e1235≠(-1:Int))) (idx y396 e1235 fun e1237=>idx p_.Out e1172 fun e1238=>idxn e1238 y1224 fun e1239=>idxn y1222 y1224 fun e1240=>idxn y1223 y1224 fun e1241=>some (.inl ((List.set y1222 y1224 e1237),(List.set y1223 y1224 e1239),(y1224+1)))) (some (.inl (y1222,y1223,(y1224+1))))) (some (.inr (y1222,y1223)))
def zag.k39 (y1081:List (List Int)) (y1082:List (List Int)) (y1083:Nat) (y1212:List Int) (y1213:List Int):Option ((List (List Int)×List (List Int)×Nat)⊕(List (List Int)×List (List Int))) :=
 chk (capOk (List.length y1081+1) 24) (chk (capOk (List.length y1082+1) 24) (some (.inl ((y1081++[y1212]),(y1082++[y1213]),(y1083+1)))))
def zag.s40 (p_:zaa) (y396:List Int) (y397:List Int) (y1081:List (List Int)) (y1082:List (List Int)) (y1083:Nat):Option ((List (List Int)×List (List Int)×Nat)⊕(List (List Int)×List (List Int))) :=
 cond (decide ((↑y1083:Int)<(↑(List.length y397):Int))) (idxn y397 y1083 fun e1172=>(zbr p_.Inputs).bind fun c1173=>(zbr p_.Inputs).bind fun c1174=>idx p_.Next e1172 fun e1175=>(iter (fun (s:List Int×List Int×Nat)=>zag.s38 p_ y396 e1172 e1175 s.1 s.2.1 s.2.2) fuel (c1173,c1174,0):Option (List Int×List Int)).bind (fun (s:List Int×List Int)=>zag.k39 y1081 y1082 y1083 s.1 s.2)) (some (.inr (y1081,y1082)))
def zag.k41 (p_:zaa) (y396:List Int) (y1001:List (List Int)) (y1002:List (List Int)):Option (zaa×List Int) :=
 some ((⟨p_.Inputs,0,y1001,y1002⟩:zaa),y396)
def zag.k42 (p_:zaa) (y396:List Int) (y397:List Int):Option (zaa×List Int) :=
 (iter (fun (s:List (List Int)×List (List Int)×Nat)=>zag.s40 p_ y396 y397 s.1 s.2.1 s.2.2) fuel ([],[],0):Option (List (List Int)×List (List Int))).bind (fun (s:List (List Int)×List (List Int))=>zag.k41 p_ y396 s.1 s.2)
def zag (p_:zaa):Option (zaa×List Int) :=
 (zbr (↑(List.length p_.Next):Int)).bind fun c51=>idx c51 p_.Start fun e52=>(iter (fun (s:List Int×List Int×Nat)=>zag.s20 p_ s.1 s.2.1 s.2.2) fuel ((List.set c51 p_.Start.toNat 0),[p_.Start],0):Option (List Int×List Int)).bind (fun (s:List Int×List Int)=>zag.k42 p_ s.1 s.2)
def zao.k53 (s1552:Int) (y1553:Nat) (e1595:Int) (y1611:List (List Int)) (y1612:List (List Int)):Option ((List (List Int)×List (List Int)×Int×Nat)⊕((List (List Int)×List (List Int))⊕((List (List Int)×List (List Int)×Nat)⊕((List (List Int)×List (List Int))⊕(zaa×Int))))) :=
 idx y1611 s1552 fun e1631=>idx e1631 e1595 fun e1632=>some (.inl (y1611,y1612,e1632,(y1553+1)))
def zao.s54 (o_:zal) (e1380:zae) (y1550:List (List Int)) (y1551:List (List Int)) (s1552:Int) (y1553:Nat):Option ((List (List Int)×List (List Int)×Int×Nat)⊕((List (List Int)×List (List Int))⊕((List (List Int)×List (List Int)×Nat)⊕((List (List Int)×List (List Int))⊕(zaa×Int))))) :=
 cond (decide ((↑y1553:Int)<(↑(List.length e1380.In):Int))) (idxn e1380.In y1553 fun e1595=>(idx y1550 s1552 fun e1613=>idx e1613 e1595 fun e1614=>cond (decide (e1614=(-1:Int))) (cond (decide ((↑(List.length y1550):Int)=4096)) (some (.inr (.inr (.inr (.inr (.inr ((⟨0,0,[],[]⟩:zaa),11))))))) (idx y1550 s1552 fun e1617=>idx y1551 s1552 fun e1618=>idxn e1380.Out y1553 fun e1619=>idx e1617 e1595 fun e1620=>idx e1618 e1595 fun e1621=>(zbr o_.Inputs).bind fun c1622=>chk (capOk (List.length (List.set y1550 (Int.toNat s1552) (List.set e1617 (Int.toNat e1595) (↑(List.length y1550):Int)))+List.length [c1622]) 24) ((zbr o_.Inputs).bind fun c1624=>chk (capOk (List.length (List.set y1551 (Int.toNat s1552) (List.set e1618 (Int.toNat e1595) e1619))+List.length [c1624]) 24) (some (.inl (((List.set y1550 (Int.toNat s1552) (List.set e1617 (Int.toNat e1595) (↑(List.length y1550):Int)))++[c1622]),((List.set y1551 (Int.toNat s1552) (List.set e1618 (Int.toNat e1595) e1619))++[c1624]))))))) (some (.inl (y1550,y1551))):Option ((List (List Int)×List (List Int))⊕((List (List Int)×List (List Int)×Int×Nat)⊕((List (List Int)×List (List Int))⊕((List (List Int)×List (List Int)×Nat)⊕((List (List Int)×List (List Int))⊕(zaa×Int))))))).bind (Sum.elim (fun (s:List (List Int)×List (List Int))=>zao.k53 s1552 y1553 e1595 s.1 s.2) some)) (some (.inr (.inl (y1550,y1551))))
def zao.k55 (y1115:Nat) (y1509:List (List Int)) (y1510:List (List Int)):Option ((List (List Int)×List (List Int)×Nat)⊕((List (List Int)×List (List Int))⊕(zaa×Int))) :=
 some (.inl (y1509,y1510,(y1115+1)))
def zao.s56 (o_:zal) (y1113:List (List Int)) (y1114:List (List Int)) (y1115:Nat):Option ((List (List Int)×List (List Int)×Nat)⊕((List (List Int)×List (List Int))⊕(zaa×Int))) :=
 cond (decide ((↑y1115:Int)<(↑(List.length o_.Traces):Int))) (idxn o_.Traces y1115 fun e1380=>(iter (fun (s:List (List Int)×List (List Int)×Int×Nat)=>zao.s54 o_ e1380 s.1 s.2.1 s.2.2.1 s.2.2.2) fuel (y1113,y1114,0,0):Option ((List (List Int)×List (List Int))⊕((List (List Int)×List (List Int)×Nat)⊕((List (List Int)×List (List Int))⊕(zaa×Int))))).bind (Sum.elim (fun (s:List (List Int)×List (List Int))=>zao.k55 y1115 s.1 s.2) some)) (some (.inr (.inl (y1113,y1114))))
def zao.k57 (o_:zal) (y849:List (List Int)) (y850:List (List Int)):Option (zaa×Int) :=
 (zag (⟨o_.Inputs,0,y849,y850⟩:zaa)).bind fun c1646=>some (c1646.1,0)
def zao (o_:zal):Option (zaa×Int) :=
 (za4 o_).bind fun c51=>cond (decide (c51≠0)) (some ((⟨0,0,[],[]⟩:zaa),c51)) ((zbr o_.Inputs).bind fun c53=>(zbr o_.Inputs).bind fun c54=>(iter (fun (s:List (List Int)×List (List Int)×Nat)=>zao.s56 o_ s.1 s.2.1 s.2.2) fuel ([c53],[c54],0):Option ((List (List Int)×List (List Int))⊕(zaa×Int))).bind (Sum.elim (fun (s:List (List Int)×List (List Int))=>zao.k57 o_ s.1 s.2) some))
def zau.s1 (b_:zaq) (x52:Int):Option (Int⊕(Int×(List (Int×Int)))) :=
 cond ((!((mget x52 b_.up).isSome))) (some (.inr (x52,b_.up))) (some (.inl ((mget x52 b_.up).getD 0)))
def zau (b_:zaq) (x_:Int):Option (Int×(List (Int×Int))) :=
 iter (fun (s:Int)=>zau.s1 b_ s) fuel x_
def zb7 (b_:zaq) (x_:Int) (y_:Int):Option (List (Int×Int)) :=
 some (mset y_ x_ b_.up)
def zac.s2 (p_:zaa) (y84:List (List Int)) (y85:List (List Int)) (y86:Nat):Option ((List (List Int)×List (List Int)×Nat)⊕(List (List Int)×List (List Int))) :=
 cond (decide ((↑y86:Int)<(↑(List.length p_.Next):Int))) (idxn p_.Next y86 fun e96=>chk (capOk (List.length ([]:List Unit)+List.length e96) 8) (chk (capOk (List.length y84+List.length [([]++e96)]) 24) (idxn p_.Out y86 fun e99=>chk (capOk (List.length ([]:List Unit)+List.length e99) 8) (chk (capOk (List.length y85+List.length [([]++e99)]) 24) (some (.inl ((y84++[([]++e96)]),(y85++[([]++e99)]),(y86+1)))))))) (some (.inr (y84,y85)))
def zac.s43 (c2034:Int×(List (Int×Int))) (c2036:Int×(List (Int×Int))) (e2040:List Int) (y2143:List (List Int)) (y2144:List (List Int)) (y2145:List T_A2) (y2146:Nat):Option ((List (List Int)×List (List Int)×List T_A2×Nat)⊕((List (List Int)×List (List Int)×List T_A2)⊕((List (List Int)×List (List Int)×(List (Int×Int))×List T_A2)⊕((List (List Int)×List (List Int)×(List (Int×Int))×List T_A2)⊕((List (List Int)×List (List Int)×(List (Int×Int)))⊕(zaa×List Int×Bool)))))) :=
 cond (decide ((↑y2146:Int)<(↑(List.length e2040):Int))) (idxn y2143 (Int.toNat (max c2034.1 c2036.1)) fun e2174=>idxn e2174 y2146 fun e2173=>cond (decide (e2173=(-1:Int))) (chk (inR ((↑y2146:Int)+1)) (some (.inl (y2143,y2144,y2145,(y2146+1))))) (idx y2143 (min c2034.1 c2036.1) fun e2177=>idxn e2177 y2146 fun e2178=>cond (decide (e2178=(-1:Int))) (idx y2143 (min c2034.1 c2036.1) fun e2180=>idx y2144 (min c2034.1 c2036.1) fun e2181=>idx y2144 (max c2034.1 c2036.1) fun e2182=>idxn e2182 y2146 fun e2183=>idxn e2180 y2146 fun e2184=>idxn e2181 y2146 fun e2185=>chk (inR ((↑y2146:Int)+1)) (some (.inl ((List.set y2143 (Int.toNat (min c2034.1 c2036.1)) (List.set e2180 y2146 e2173)),(List.set y2144 (Int.toNat (min c2034.1 c2036.1)) (List.set e2181 y2146 e2183)),y2145,(y2146+1))))) (idx y2144 (min c2034.1 c2036.1) fun e2187=>idxn e2187 y2146 fun e2188=>idx y2144 (max c2034.1 c2036.1) fun e2189=>idxn e2189 y2146 fun e2190=>cond (decide (e2188≠e2190)) (some (.inr (.inr (.inr (.inr (.inr ((⟨0,0,[],[]⟩:zaa),[],false))))))) (idx y2143 (min c2034.1 c2036.1) fun e2192=>idxn e2192 y2146 fun e2193=>chk (capOk (List.length y2145+1) 16) (chk (inR ((↑y2146:Int)+1)) (some (.inl (y2143,y2144,(y2145++[(⟨e2193,e2173⟩:T_A2)]),(y2146+1))))))))) (some (.inr (.inl (y2143,y2144,y2145))))
def zac.k44 (c2039:List (Int×Int)) (y2119:List (List Int)) (y2120:List (List Int)) (y2121:List T_A2):Option ((List (List Int)×List (List Int)×(List (Int×Int))×List T_A2)⊕((List (List Int)×List (List Int)×(List (Int×Int))×List T_A2)⊕((List (List Int)×List (List Int)×(List (Int×Int)))⊕(zaa×List Int×Bool)))) :=
 some (.inl (y2119,y2120,c2039,y2121))
def zac.k45 (y2029:List (List Int)) (y2030:List (List Int)) (y2031:List (Int×Int)) (y2032:List T_A2):Option ((List (List Int)×List (List Int)×(List (Int×Int))×List T_A2)⊕((List (List Int)×List (List Int)×(List (Int×Int)))⊕(zaa×List Int×Bool))) :=
 some (.inl (y2029,y2030,y2031,y2032))
def zac.s46 (y1506:List (List Int)) (y1507:List (List Int)) (y1508:List (Int×Int)) (y1509:List T_A2):Option ((List (List Int)×List (List Int)×(List (Int×Int))×List T_A2)⊕((List (List Int)×List (List Int)×(List (Int×Int)))⊕(zaa×List Int×Bool))) :=
 cond (decide (0<(↑(List.length y1509):Int))) ((idxn y1509 0 fun e2033=>(zau (⟨y1508⟩:zaq) e2033.f0).bind fun c2034=>idxn y1509 0 fun e2035=>(zau (⟨c2034.2⟩:zaq) e2035.f1).bind fun c2036=>chk (1≤List.length y1509) (cond (decide (c2034.1=c2036.1)) (some (.inl (y1506,y1507,c2036.2,(List.drop 1 y1509)))) ((zb7 (⟨c2036.2⟩:zaq) (min c2034.1 c2036.1) (max c2034.1 c2036.1)).bind fun c2039=>idx y1506 (max c2034.1 c2036.1) fun e2040=>(iter (fun (s:List (List Int)×List (List Int)×List T_A2×Nat)=>zac.s43 c2034 c2036 e2040 s.1 s.2.1 s.2.2.1 s.2.2.2) fuel (y1506,y1507,(List.drop 1 y1509),0):Option ((List (List Int)×List (List Int)×List T_A2)⊕((List (List Int)×List (List Int)×(List (Int×Int))×List T_A2)⊕((List (List Int)×List (List Int)×(List (Int×Int))×List T_A2)⊕((List (List Int)×List (List Int)×(List (Int×Int)))⊕(zaa×List Int×Bool)))))).bind (Sum.elim (fun (s:List (List Int)×List (List Int)×List T_A2)=>zac.k44 c2039 s.1 s.2.1 s.2.2) some))):Option ((List (List Int)×List (List Int)×(List (Int×Int))×List T_A2)⊕((List (List Int)×List (List Int)×(List (Int×Int))×List T_A2)⊕((List (List Int)×List (List Int)×(List (Int×Int)))⊕(zaa×List Int×Bool))))).bind (Sum.elim (fun (s:List (List Int)×List (List Int)×(List (Int×Int))×List T_A2)=>zac.k45 s.1 s.2.1 s.2.2.1 s.2.2.2) some)) (some (.inr (.inl (y1506,y1507,y1508))))
def zac.s64 (y2497:Nat) (e2569:List Int) (y2611:List (List Int)) (y2612:List (Int×Int)) (y2613:Nat):Option ((List (List Int)×(List (Int×Int))×Nat)⊕(List (List Int)×(List (Int×Int)))) :=
 cond (decide ((↑y2613:Int)<(↑(List.length e2569):Int))) (idxn y2611 y2497 fun e2626=>idxn e2626 y2613 fun e2625=>cond (decide (e2625≠(-1:Int))) (idxn y2611 y2497 fun e2628=>(zau (⟨y2612⟩:zaq) e2625).bind fun c2629=>idxn e2628 y2613 fun e2630=>chk (inR ((↑y2613:Int)+1)) (some (.inl ((List.set y2611 y2497 (List.set e2628 y2613 c2629.1)),c2629.2,(y2613+1))))) (chk (inR ((↑y2613:Int)+1)) (some (.inl (y2611,y2612,(y2613+1)))))) (some (.inr (y2611,y2612)))
def zac.k65 (y2497:Nat) (y2602:List (List Int)) (y2603:List (Int×Int)):Option ((List (List Int)×(List (Int×Int))×Nat)⊕(List (List Int)×(List (Int×Int)))) :=
 some (.inl (y2602,y2603,(y2497+1)))
def zac.s66 (y1156:List (List Int)) (y2495:List (List Int)) (y2496:List (Int×Int)) (y2497:Nat):Option ((List (List Int)×(List (Int×Int))×Nat)⊕(List (List Int)×(List (Int×Int)))) :=
 cond (decide ((↑y2497:Int)<(↑(List.length y1156):Int))) (idxn y2495 y2497 fun e2569=>(iter (fun (s:List (List Int)×(List (Int×Int))×Nat)=>zac.s64 y2497 e2569 s.1 s.2.1 s.2.2) fuel (y2495,y2496,0):Option (List (List Int)×(List (Int×Int)))).bind (fun (s:List (List Int)×(List (Int×Int)))=>zac.k65 y2497 s.1 s.2)) (some (.inr (y2495,y2496)))
def zac.s68 (c2642:zaa×List Int) (y2672:List (Int×Int)) (y2673:List Int) (y2674:Nat):Option (((List (Int×Int))×List Int×Nat)⊕List Int) :=
 cond (decide ((↑y2674:Int)<(↑(List.length (List.replicate (List.length c2642.2) (0:Int))):Int))) ((zau (⟨y2672⟩:zaq) (↑y2674:Int)).bind fun c2682=>idx c2642.2 c2682.1 fun e2683=>idxn y2673 y2674 fun e2684=>chk (inR ((↑y2674:Int)+1)) (some (.inl (c2682.2,(List.set y2673 y2674 e2683),(y2674+1))))) (some (.inr y2673))
def zac.k69 (p_:zaa) (y1157:List (List Int)) (y2424:List (List Int)) (y2425:List (Int×Int)):Option (zaa×List Int×Bool) :=
 (zau (⟨y2425⟩:zaq) p_.Start).bind fun c2641=>(zag (⟨p_.Inputs,c2641.1,y2424,y1157⟩:zaa)).bind fun c2642=>chk ((0:Int)≤(↑(List.length c2642.2):Int)∧(↑(List.length c2642.2):Int)≤(↑(List.length c2642.2):Int)∧capOk (Int.toNat (↑(List.length c2642.2):Int)) 8) ((iter (fun (s:(List (Int×Int))×List Int×Nat)=>zac.s68 c2642 s.1 s.2.1 s.2.2) fuel (c2641.2,(List.replicate (List.length c2642.2) (0:Int)),0):Option (List Int)).bind (fun (y2667:List Int)=>some (c2642.1,y2667,true)))
def zac.k70 (p_:zaa) (y1156:List (List Int)) (y1157:List (List Int)) (y1158:List (Int×Int)):Option (zaa×List Int×Bool) :=
 (iter (fun (s:List (List Int)×(List (Int×Int))×Nat)=>zac.s66 y1156 s.1 s.2.1 s.2.2) fuel (y1156,y1158,0):Option (List (List Int)×(List (Int×Int)))).bind (fun (s:List (List Int)×(List (Int×Int)))=>zac.k69 p_ y1157 s.1 s.2)
def zac.k71 (p_:zaa) (s_:Int) (t_:Int) (y77:List (List Int)) (y78:List (List Int)):Option (zaa×List Int×Bool) :=
 (iter (fun (s:List (List Int)×List (List Int)×(List (Int×Int))×List T_A2)=>zac.s46 s.1 s.2.1 s.2.2.1 s.2.2.2) fuel (y77,y78,([]:List (Int×Int)),[(⟨s_,t_⟩:T_A2)]):Option ((List (List Int)×List (List Int)×(List (Int×Int)))⊕(zaa×List Int×Bool))).bind (Sum.elim (fun (s:List (List Int)×List (List Int)×(List (Int×Int)))=>zac.k70 p_ s.1 s.2.1 s.2.2) some)
def zac (p_:zaa) (s_:Int) (t_:Int):Option (zaa×List Int×Bool) :=
 (iter (fun (s:List (List Int)×List (List Int)×Nat)=>zac.s2 p_ s.1 s.2.1 s.2.2) fuel ([],[],0):Option (List (List Int)×List (List Int))).bind (fun (s:List (List Int)×List (List Int))=>zac.k71 p_ s_ t_ s.1 s.2)
def zds (p_:zaa) (s_:Int) (t_:Int):Option (zaa×Bool×Int) :=
 (za9 p_).bind fun c51=>cond (decide (c51≠0)) (some ((⟨0,0,[],[]⟩:zaa),false,c51)) ((cond (decide ((min s_ t_)<0)) (some true) (some (decide ((↑(List.length p_.Next):Int)≤(max s_ t_)))):Option (Bool)).bind (fun (y56:Bool)=>cond (y56) (some ((⟨0,0,[],[]⟩:zaa),false,2)) ((zac p_ s_ t_).bind fun c59=>some (c59.1,c59.2.2,0))))
def zbn.s25 (red_:List Bool) (e1053:List Int) (best1109:Int) (y1110:Nat):Option ((Int×Nat)⊕Int) :=
 cond (decide ((↑y1110:Int)<(↑(List.length e1053):Int))) (idxn e1053 y1110 fun e1125=>(cond (decide (e1125≠(-1:Int))) (idx red_ e1125 fun e1132=>some (!e1132)) (some false):Option (Bool)).bind (fun (y1130:Bool)=>cond (y1130) (some (.inl ((min best1109 e1125),(y1110+1)))) (some (.inl (best1109,(y1110+1)))))) (some (.inr best1109))
def zbn.s26 (p_:zaa) (red_:List Bool) (best777:Int) (y778:Nat):Option ((Int×Nat)⊕Int) :=
 cond (decide ((↑y778:Int)<(↑(List.length red_):Int))) ((idxn red_ y778 fun e1051=>cond ((!e1051)) (some best777) (idxn p_.Next y778 fun e1053=>(iter (fun (s:Int×Nat)=>zbn.s25 red_ e1053 s.1 s.2) fuel (best777,0):Option (Int)).bind (fun (best1096:Int)=>some best1096)):Option (Int)).bind (fun (best1050:Int)=>some (.inl (best1050,(y778+1))))) (some (.inr best777))
def zbn (p_:zaa) (red_:List Bool):Option (Int×Bool) :=
 (iter (fun (s:Int×Nat)=>zbn.s26 p_ red_ s.1 s.2) fuel ((↑(List.length red_):Int),0):Option (Int)).bind (fun (best596:Int)=>some (best596,decide (best596<(↑(List.length red_):Int))))
def za0.s25 (red_:List Bool) (c1476:zaa×List Int×Bool) (y1557:List Bool) (y1558:Nat):Option ((List Bool×Nat)⊕List Bool) :=
 cond (decide ((↑y1558:Int)<(↑(List.length red_):Int))) (idxn red_ y1558 fun e1578=>(cond (e1578) (idxn c1476.2.1 y1558 fun e1585=>some (decide (e1585≠(-1:Int)))) (some false):Option (Bool)).bind (fun (y1583:Bool)=>cond (y1583) (idxn c1476.2.1 y1558 fun e1592=>idx y1557 e1592 fun e1593=>some (.inl ((List.set y1557 e1592.toNat true),(y1558+1)))) (some (.inl (y1557,(y1558+1)))))) (some (.inr y1557))
def za0.s26 (p_:zaa) (red_:List Bool) (b_:Int) (y1083:Nat):Option (Nat⊕(Unit⊕(zaa×List Bool))) :=
 cond (decide ((↑y1083:Int)<(↑(List.length red_):Int))) ((idxn red_ y1083 fun e1474=>cond ((!e1474)) (some (.inl ())) ((zac p_ (↑y1083:Int) b_).bind fun c1476=>cond ((!c1476.2.2)) (some (.inl ())) (chk ((0:Int)≤(↑(List.length c1476.1.Next):Int)∧(↑(List.length c1476.1.Next):Int)≤(↑(List.length c1476.1.Next):Int)∧capOk (Int.toNat (↑(List.length c1476.1.Next):Int)) 1) ((iter (fun (s:List Bool×Nat)=>za0.s25 red_ c1476 s.1 s.2) fuel ((List.replicate (List.length c1476.1.Next) false),0):Option (List Bool)).bind (fun (y1539:List Bool)=>some (.inr (.inr (.inr (c1476.1,y1539)))))))):Option (Unit⊕(Nat⊕(Unit⊕(zaa×List Bool))))).bind (Sum.elim (fun (_:Unit)=>some (.inl (y1083+1))) some)) (some (.inr (.inl ())))
def za0 (p_:zaa) (red_:List Bool) (b_:Int):Option (zaa×List Bool) :=
 (iter (fun (s:Nat)=>za0.s26 p_ red_ b_ s) fuel 0:Option (Unit⊕(zaa×List Bool))).bind (Sum.elim (fun (_:Unit)=>chk (capOk (List.length ([]:List Unit)+List.length red_) 1) (idx ([]++red_) b_ fun e1606=>some (p_,(List.set ([]++red_) b_.toNat true)))) some)
def zbc.s1 (y58:Int) (y59:Int) (y60:List (List Int)) (y61:List (List Int)) (red62:List Bool):Option ((Int×Int×List (List Int)×List (List Int)×List Bool)⊕(zaa×Int)) :=
 (zbn (⟨y58,y59,y60,y61⟩:zaa) red62).bind fun c67=>cond ((!c67.2)) (some (.inr ((⟨y58,y59,y60,y61⟩:zaa),0))) ((za0 (⟨y58,y59,y60,y61⟩:zaa) red62 c67.1).bind fun c69=>some (.inl (c69.1.Inputs,c69.1.Start,c69.1.Next,c69.1.Out,c69.2)))
def zbc (o_:zal):Option (zaa×Int) :=
 (zao o_).bind fun c51=>cond (decide (c51.2≠0)) (some ((⟨0,0,[],[]⟩:zaa),c51.2)) (chk ((0:Int)≤(↑(List.length c51.1.Next):Int)∧(↑(List.length c51.1.Next):Int)≤(↑(List.length c51.1.Next):Int)∧capOk (Int.toNat (↑(List.length c51.1.Next):Int)) 1) (idx (List.replicate (List.length c51.1.Next) false) c51.1.Start fun e54=>iter (fun (s:Int×Int×List (List Int)×List (List Int)×List Bool)=>zbc.s1 s.1 s.2.1 s.2.2.1 s.2.2.2.1 s.2.2.2.2) fuel (c51.1.Inputs,c51.1.Start,c51.1.Next,c51.1.Out,(List.set (List.replicate (List.length c51.1.Next) false) c51.1.Start.toNat true))))
def L35_gate:Option (zad) :=
 some (⟨2,0,[[1,0],[1,0]],[[1,0],[1,2]]⟩:zad)
def zap.s2 (slices_:List (List (List Int))) (size73:Nat) (y74:Nat):Option ((Nat×Nat)⊕Nat) :=
 cond (decide ((↑y74:Int)<(↑(List.length slices_):Int))) (idxn slices_ y74 fun e81=>chk (inR ((↑size73:Int)+(↑(List.length e81):Int))) (cond (decide (((↑size73:Int)+(↑(List.length e81):Int))<0)) (none) (some (.inl ((size73+(List.length e81)),(y74+1)))))) (some (.inr size73))
def zap.s4 (slices_:List (List (List Int))) (y106:List (List Int)) (y107:Nat):Option ((List (List Int)×Nat)⊕List (List Int)) :=
 cond (decide ((↑y107:Int)<(↑(List.length slices_):Int))) (idxn slices_ y107 fun e113=>chk (capOk (List.length y106+List.length e113) 24) (some (.inl ((y106++e113),(y107+1))))) (some (.inr y106))
def zap (slices_:List (List (List Int))):Option (List (List Int)) :=
 (iter (fun (s:Nat×Nat)=>zap.s2 slices_ s.1 s.2) fuel (0,0):Option (Nat)).bind (fun (size68:Nat)=>(zhb (↑size68:Int)).bind fun c86=>(iter (fun (s:List (List Int)×Nat)=>zap.s4 slices_ s.1 s.2) fuel (c86,0):Option (List (List Int))).bind (fun (y102:List (List Int))=>some y102))
def zc4 (a_:List Int) (b_:List Int) (p2_:(List Int)→(List Int)→Option Int):Option (Bool) :=
 (p2_ a_ b_).bind fun c51=>some (decide (c51=0))
def zah.s18 (eq_:(List Int)→(List Int)→Option Bool) (k356:Nat) (y481:List (List Int)) (k482:Nat) (y483:Nat):Option ((List (List Int)×Nat×Nat)⊕(List (List Int)×Nat)) :=
 cond (decide ((↑y483:Int)<(↑(List.length y481-k356):Int))) (idxn y481 (k356+y483) fun e495=>chk ((0:Int)≤((↑y483:Int)-1)) (idxn y481 (k356+(Int.toNat ((↑y483:Int)-1))) fun e496=>(eq_ e495 e496).bind fun c498=>cond ((!c498)) (idxn y481 (k356+y483) fun e500=>idxn y481 k482 fun e501=>chk (inR ((↑k482:Int)+1)) (some (.inl ((List.set y481 k482 e500),(k482+1),(y483+1))))) (some (.inl (y481,k482,(y483+1)))))) (some (.inr (y481,k482)))
def zah.k19 (y471:List (List Int)) (k472:Nat):Option (Nat⊕(Unit⊕List (List Int))) :=
 chk ((0:Int)≤(↑k472:Int)∧(↑k472:Int)≤(↑(List.length y471):Int)∧0<List.length y471) (chk (k472≤List.length y471) (chk ((0:Int)≤(↑k472:Int)∧(↑k472:Int)≤(↑(List.length (List.take k472 y471++List.replicate (List.length y471-k472) [])):Int)∧0<List.length (List.take k472 y471++List.replicate (List.length y471-k472) [])) (some (.inr (.inr (List.take k472 (List.take k472 y471++List.replicate (List.length y471-k472) [])))))))
def zah.s20 (s_:List (List Int)) (eq_:(List Int)→(List Int)→Option Bool) (k356:Nat):Option (Nat⊕(Unit⊕List (List Int))) :=
 cond (decide ((↑k356:Int)<(↑(List.length s_):Int))) (idxn s_ k356 fun e434=>idx s_ ((↑k356:Int)-1) fun e435=>(eq_ e434 e435).bind fun c436=>cond (c436) (chk ((0:Int)≤(↑k356:Int)∧(↑k356:Int)≤(↑(List.length s_):Int)∧0<List.length s_) ((iter (fun (s:List (List Int)×Nat×Nat)=>zah.s18 eq_ k356 s.1 s.2.1 s.2.2) fuel (s_,k356,1):Option (List (List Int)×Nat)).bind (fun (s:List (List Int)×Nat)=>zah.k19 s.1 s.2))) (some (.inl (k356+1)))) (some (.inr (.inl ())))
def zah (s_:List (List Int)) (eq_:(List Int)→(List Int)→Option Bool):Option (List (List Int)) :=
 cond (decide ((↑(List.length s_):Int)<2)) (some s_) ((iter (fun (s:Nat)=>zah.s20 s_ eq_ s) fuel 1:Option (Unit⊕List (List Int))).bind (Sum.elim (fun (_:Unit)=>some s_) some))
def zb0.s2 (c53:List (List Int)) (y78:List (List Int)) (y79:Nat):Option ((List (List Int)×Nat)⊕List (List Int)) :=
 cond (decide ((↑y79:Int)<(↑(List.length c53):Int))) (idxn y78 y79 fun e87=>(zft e87).bind fun c88=>idxn y78 y79 fun e89=>chk (inR ((↑y79:Int)+1)) (some (.inl ((List.set y78 y79 c88),(y79+1))))) (some (.inr y78))
def zb0 (l_:List (List Int)) (order_:(List Int)→(List Int)→Option Int):Option (List (List Int)) :=
 (zgu l_).bind fun c51=>(zdl c51 order_).bind fun c52=>(zah c52 (fun u0 u1=>zc4 u0 u1 order_)).bind fun c53=>(iter (fun (s:List (List Int)×Nat)=>zb0.s2 c53 s.1 s.2) fuel (c53,0):Option (List (List Int))).bind (fun (y73:List (List Int))=>some y73)
def zce (l_:List (List Int)):Option (List (List Int)) :=
 (zb0 l_ (fun u0 u1=>zcg u0 u1)).bind fun c51=>some c51
def zd9 (lists_:List (List (List Int))):Option (List (List Int)) :=
 (zap lists_).bind fun c51=>(zce c51).bind fun c52=>some c52
def zby.s2 (l_:List (List Int)) (n65:Int) (y66:Nat):Option ((Int×Nat)⊕Int) :=
 cond (decide ((↑y66:Int)<(↑(List.length l_):Int))) (idxn l_ y66 fun e71=>some (.inl ((max n65 (↑(List.length e71):Int)),(y66+1)))) (some (.inr n65))
def zby (l_:List (List Int)):Option (Int) :=
 (iter (fun (s:Int×Nat)=>zby.s2 l_ s.1 s.2) fuel (0,0):Option (Int)).bind (fun (n62:Int)=>some n62)
def zaw.s2 (slices_:List (List Int)) (size73:Nat) (y74:Nat):Option ((Nat×Nat)⊕Nat) :=
 cond (decide ((↑y74:Int)<(↑(List.length slices_):Int))) (idxn slices_ y74 fun e81=>chk (inR ((↑size73:Int)+(↑(List.length e81):Int))) (cond (decide (((↑size73:Int)+(↑(List.length e81):Int))<0)) (none) (some (.inl ((size73+(List.length e81)),(y74+1)))))) (some (.inr size73))
def zaw.s4 (slices_:List (List Int)) (y106:List Int) (y107:Nat):Option ((List Int×Nat)⊕List Int) :=
 cond (decide ((↑y107:Int)<(↑(List.length slices_):Int))) (idxn slices_ y107 fun e113=>chk (capOk (List.length y106+List.length e113) 8) (some (.inl ((y106++e113),(y107+1))))) (some (.inr y106))
def zaw (slices_:List (List Int)):Option (List Int) :=
 (iter (fun (s:Nat×Nat)=>zaw.s2 slices_ s.1 s.2) fuel (0,0):Option (Nat)).bind (fun (size68:Nat)=>(zi0 (↑size68:Int)).bind fun c86=>(iter (fun (s:List Int×Nat)=>zaw.s4 slices_ s.1 s.2) fuel (c86,0):Option (List Int)).bind (fun (y102:List Int)=>some y102))
def zei (parts_:List (List Int)):Option (List Int) :=
 (zaw parts_).bind fun c51=>some c51
def zax.k53 (y886:Nat) (y916:List (ByteArray×Bool)) (y917:List (List Int)):Option (((List (ByteArray×Bool))×List (List Int)×Nat)⊕(((List (ByteArray×Bool))×List (List Int))⊕(((List (ByteArray×Bool))×List (List Int)×Nat)⊕(List (List Int)⊕(List (List Int)×Int))))) :=
 some (.inl (y916,y917,(y886+1)))
def zax.s54 (c64:List (List Int)) (e792:List Int) (y884:List (ByteArray×Bool)) (y885:List (List Int)) (y886:Nat):Option (((List (ByteArray×Bool))×List (List Int)×Nat)⊕(((List (ByteArray×Bool))×List (List Int))⊕(((List (ByteArray×Bool))×List (List Int)×Nat)⊕(List (List Int)⊕(List (List Int)×Int))))) :=
 cond (decide ((↑y886:Int)<(↑(List.length c64):Int))) ((idxn c64 y886 fun e918=>(zei [e792,e918]).bind fun c919=>(zj9 c919).bind fun c920=>cond (((mget c920 y884).getD false)) (some (.inl (y884,y885))) (cond (decide ((↑(List.length y885):Int)=10000)) (some (.inr (.inr (.inr (.inr (.inr ([],11))))))) (chk (capOk (List.length y885+1) 24) (some (.inl ((mset c920 true y884),(y885++[c919])))))):Option (((List (ByteArray×Bool))×List (List Int))⊕(((List (ByteArray×Bool))×List (List Int)×Nat)⊕(((List (ByteArray×Bool))×List (List Int))⊕(((List (ByteArray×Bool))×List (List Int)×Nat)⊕(List (List Int)⊕(List (List Int)×Int))))))).bind (Sum.elim (fun (s:(List (ByteArray×Bool))×List (List Int))=>zax.k53 y886 s.1 s.2) some)) (some (.inr (.inl (y884,y885))))
def zax.k55 (y645:Nat) (y862:List (ByteArray×Bool)) (y863:List (List Int)):Option (((List (ByteArray×Bool))×List (List Int)×Nat)⊕(List (List Int)⊕(List (List Int)×Int))) :=
 some (.inl (y862,y863,(y645+1)))
def zax.s56 (c63:List (List Int)) (c64:List (List Int)) (y643:List (ByteArray×Bool)) (y644:List (List Int)) (y645:Nat):Option (((List (ByteArray×Bool))×List (List Int)×Nat)⊕(List (List Int)⊕(List (List Int)×Int))) :=
 cond (decide ((↑y645:Int)<(↑(List.length c63):Int))) (idxn c63 y645 fun e792=>(iter (fun (s:(List (ByteArray×Bool))×List (List Int)×Nat)=>zax.s54 c64 e792 s.1 s.2.1 s.2.2) fuel (y643,y644,0):Option (((List (ByteArray×Bool))×List (List Int))⊕(((List (ByteArray×Bool))×List (List Int)×Nat)⊕(List (List Int)⊕(List (List Int)×Int))))).bind (Sum.elim (fun (s:(List (ByteArray×Bool))×List (List Int))=>zax.k55 y645 s.1 s.2) some)) (some (.inr (.inl y644)))
def zax (a_:List (List Int)) (b_:List (List Int)):Option (List (List Int)×Int) :=
 (cond (decide ((↑(List.length a_):Int)=0)) (some true) (some (decide ((↑(List.length b_):Int)=0))):Option (Bool)).bind (fun (y54:Bool)=>cond (y54) (some ([],0)) ((zby a_).bind fun c59=>(zby b_).bind fun c60=>chk (inR (c59+c60)) (cond (decide (1024<(c59+c60))) (some ([],3)) ((zce a_).bind fun c63=>(zce b_).bind fun c64=>cond (decide (10000<(max (↑(List.length c63):Int) (↑(List.length c64):Int)))) (some ([],11)) ((iter (fun (s:(List (ByteArray×Bool))×List (List Int)×Nat)=>zax.s56 c63 c64 s.1 s.2.1 s.2.2) fuel (([]:List (ByteArray×Bool)),[],0):Option (List (List Int)⊕(List (List Int)×Int))).bind (Sum.elim (fun (y502:List (List Int))=>(zdl y502 (fun u0 u1=>zcg u0 u1)).bind fun c939=>some (c939,0)) some))))))
def zb6.s2 (c51:List (List Int)) (y119:List (List Int)) (y120:Nat):Option ((List (List Int)×Nat)⊕List (List Int)) :=
 cond (decide ((↑y120:Int)<(↑(List.length c51):Int))) (idxn c51 y120 fun e139=>(cond (decide (((↑y120:Int)+1)=(↑(List.length c51):Int))) (some true) (idxn c51 (y120+1) fun e147=>(zcm e147 e139).bind fun c148=>some (!c148)):Option (Bool)).bind (fun (y145:Bool)=>cond (y145) (chk (capOk (List.length y119+1) 24) (some (.inl ((y119++[e139]),(y120+1))))) (some (.inl (y119,(y120+1)))))) (some (.inr y119))
def zb6 (l_:List (List Int)):Option (List (List Int)) :=
 (zb0 l_ (fun u0 u1=>word_Lex u0 u1)).bind fun c51=>(iter (fun (s:List (List Int)×Nat)=>zb6.s2 c51 s.1 s.2) fuel ([],0):Option (List (List Int))).bind (fun (y104:List (List Int))=>(zce y104).bind fun c157=>some c157)
def zbe.s13 (m_:zad) (y509:Nat) (y697:Nat):Option (Nat⊕(Unit⊕(Nat⊕(Unit⊕Int)))) :=
 cond (decide ((↑y697:Int)<m_.Inputs)) (idxn m_.Next y509 fun e716=>idxn e716 y697 fun e717=>idxn m_.Out y509 fun e718=>idxn e718 y697 fun e719=>(cond (decide (e717<0)) (some true) (cond (decide ((↑(List.length m_.Next):Int)≤e717)) (some true) (cond (decide (e719<0)) (some true) (some (decide (1048576<e719))))):Option (Bool)).bind (fun (y725:Bool)=>cond (y725) (some (.inr (.inr (.inr (.inr 2))))) (chk (inR ((↑y697:Int)+1)) (some (.inl (y697+1)))))) (some (.inr (.inl ())))
def zbe.s14 (m_:zad) (y509:Nat):Option (Nat⊕(Unit⊕Int)) :=
 cond (decide ((↑y509:Int)<(↑(List.length m_.Next):Int))) ((idxn m_.Next y509 fun e628=>cond (decide ((↑(List.length e628):Int)≠m_.Inputs)) (some true) (idxn m_.Out y509 fun e630=>some (decide ((↑(List.length e630):Int)≠m_.Inputs))):Option (Bool)).bind (fun (y627:Bool)=>cond (y627) (some (.inr (.inr 1))) ((iter (fun (s:Nat)=>zbe.s13 m_ y509 s) fuel 0:Option (Unit⊕(Nat⊕(Unit⊕Int)))).bind (Sum.elim (fun (_:Unit)=>some (.inl (y509+1))) some)))) (some (.inr (.inl ())))
def zbe (m_:zad):Option (Int) :=
 (cond (decide (m_.Inputs<1)) (some true) (some (decide (64<m_.Inputs))):Option (Bool)).bind (fun (y54:Bool)=>cond (y54) (some 2) (cond (decide ((↑(List.length m_.Next):Int)=0)) (some 19) (cond (decide (128<(↑(List.length m_.Next):Int))) (some 11) ((cond (decide (m_.Start<0)) (some true) (some (decide ((↑(List.length m_.Next):Int)≤m_.Start))):Option (Bool)).bind (fun (y62:Bool)=>cond (y62) (some 2) (cond (decide ((↑(List.length m_.Out):Int)≠(↑(List.length m_.Next):Int))) (some 1) ((iter (fun (s:Nat)=>zbe.s14 m_ s) fuel 0:Option (Unit⊕Int)).bind (Sum.elim (fun (_:Unit)=>some 0) some))))))))
def zbl.s18 (e359:List Int) (y394:List Bool) (y395:List Int) (y396:Nat):Option ((List Bool×List Int×Nat)⊕(List Bool×List Int)) :=
 cond (decide ((↑y396:Int)<(↑(List.length e359):Int))) (idxn e359 y396 fun e405=>idx y394 e405 fun e406=>cond ((!e406)) (idx y394 e405 fun e408=>chk (capOk (List.length y395+1) 8) (some (.inl ((List.set y394 e405.toNat true),(y395++[e405]),(y396+1))))) (some (.inl (y394,y395,(y396+1))))) (some (.inr (y394,y395)))
def zbl.k19 (i297:Nat) (y386:List Bool) (y387:List Int):Option ((List Bool×List Int×Nat)⊕List Int) :=
 some (.inl (y386,y387,(i297+1)))
def zbl.s20 (m_:zad) (y295:List Bool) (y296:List Int) (i297:Nat):Option ((List Bool×List Int×Nat)⊕List Int) :=
 cond (decide ((↑i297:Int)<(↑(List.length y296):Int))) (idxn y296 i297 fun e358=>idx m_.Next e358 fun e359=>(iter (fun (s:List Bool×List Int×Nat)=>zbl.s18 e359 s.1 s.2.1 s.2.2) fuel (y295,y296,0):Option (List Bool×List Int)).bind (fun (s:List Bool×List Int)=>zbl.k19 i297 s.1 s.2)) (some (.inr y296))
def zbl (m_:zad):Option (List Int) :=
 (zbe m_).bind fun c51=>cond (decide (c51≠0)) (some []) (chk ((0:Int)≤(↑(List.length m_.Next):Int)∧(↑(List.length m_.Next):Int)≤(↑(List.length m_.Next):Int)∧capOk (Int.toNat (↑(List.length m_.Next):Int)) 1) (idx (List.replicate (List.length m_.Next) false) m_.Start fun e54=>(iter (fun (s:List Bool×List Int×Nat)=>zbl.s20 m_ s.1 s.2.1 s.2.2) fuel ((List.set (List.replicate (List.length m_.Next) false) m_.Start.toNat true),[m_.Start],0):Option (List Int)).bind (fun (y236:List Int)=>some y236)))
def zbi.s2 (c53:List Int) (y74:List Int) (y75:Nat):Option ((List Int×Nat)⊕List Int) :=
 cond (decide ((↑y75:Int)<(↑(List.length c53):Int))) (idxn c53 y75 fun e81=>idx y74 e81 fun e82=>some (.inl ((List.set y74 e81.toNat (↑y75:Int)),(y75+1)))) (some (.inr y74))
def zbi.s15 (y70:List Int) (e374:List Int) (y402:List Int) (y403:Nat):Option ((List Int×Nat)⊕List Int) :=
 cond (decide ((↑y403:Int)<(↑(List.length e374):Int))) (idxn e374 y403 fun e410=>idx y70 e410 fun e411=>idxn y402 y403 fun e412=>some (.inl ((List.set y402 y403 e411),(y403+1)))) (some (.inr y402))
def zbi.s16 (m_:zad) (c53:List Int) (y70:List Int) (y310:List (List Int)) (y311:List (List Int)) (y312:Nat):Option ((List (List Int)×List (List Int)×Nat)⊕(List (List Int)×List (List Int))) :=
 cond (decide ((↑y312:Int)<(↑(List.length c53):Int))) (idxn c53 y312 fun e372=>chk ((0:Int)≤m_.Inputs∧m_.Inputs≤m_.Inputs∧capOk (Int.toNat m_.Inputs) 8) (idx m_.Next e372 fun e374=>(iter (fun (s:List Int×Nat)=>zbi.s15 y70 e374 s.1 s.2) fuel ((List.replicate (Int.toNat m_.Inputs) (0:Int)),0):Option (List Int)).bind (fun (y397:List Int)=>chk (capOk (List.length y310+1) 24) (idx m_.Out e372 fun e425=>(zft e425).bind fun c426=>chk (capOk (List.length y311+1) 24) (some (.inl ((y310++[y397]),(y311++[c426]),(y312+1)))))))) (some (.inr (y310,y311)))
def zbi.k17 (m_:zad) (y259:List (List Int)) (y260:List (List Int)):Option (zad×Int) :=
 some ((⟨m_.Inputs,0,y259,y260⟩:zad),0)
def zbi (m_:zad):Option (zad×Int) :=
 (zbe m_).bind fun c51=>cond (decide (c51≠0)) (some ((⟨0,0,[],[]⟩:zad),c51)) ((zbl m_).bind fun c53=>chk ((0:Int)≤(↑(List.length m_.Next):Int)∧(↑(List.length m_.Next):Int)≤(↑(List.length m_.Next):Int)∧capOk (Int.toNat (↑(List.length m_.Next):Int)) 8) ((iter (fun (s:List Int×Nat)=>zbi.s2 c53 s.1 s.2) fuel ((List.replicate (List.length m_.Next) (0:Int)),0):Option (List Int)).bind (fun (y70:List Int)=>(iter (fun (s:List (List Int)×List (List Int)×Nat)=>zbi.s16 m_ c53 y70 s.1 s.2.1 s.2.2) fuel ([],[],0):Option (List (List Int)×List (List Int))).bind (fun (s:List (List Int)×List (List Int))=>zbi.k17 m_ s.1 s.2))))
def za5.s18 (m_:zad) (class_:List Int) (y467:Nat) (y623:List Int) (y624:Nat):Option ((List Int×Nat)⊕List Int) :=
 cond (decide ((↑y624:Int)<m_.Inputs)) (idxn m_.Out y467 fun e639=>idxn e639 y624 fun e640=>chk ((↑y624:Int)<128) (idxn y623 y624 fun e641=>chk (inR (64+(↑y624:Int))) (idxn m_.Next y467 fun e644=>idxn e644 y624 fun e645=>idx class_ e645 fun e646=>chk ((64+(↑y624:Int))<128) (idxn (List.set y623 y624 e640) (64+y624) fun e647=>chk (inR ((↑y624:Int)+1)) (some (.inl ((List.set (List.set y623 y624 e640) (64+y624) e646),(y624+1)))))))) (some (.inr y623))
def za5.k19 (y466:List Int) (y467:Nat) (y663:List (List Int×Int)) (n664:Int):Option (((List (List Int×Int))×List Int×Nat)⊕((List (List Int×Int))×List Int)) :=
 idxn y466 y467 fun e670=>some (.inl (y663,(List.set y466 y467 n664),(y467+1)))
def za5.s20 (m_:zad) (class_:List Int) (y465:List (List Int×Int)) (y466:List Int) (y467:Nat):Option (((List (List Int×Int))×List Int×Nat)⊕((List (List Int×Int))×List Int)) :=
 cond (decide ((↑y467:Int)<(↑(List.length class_):Int))) ((iter (fun (s:List Int×Nat)=>za5.s18 m_ class_ y467 s.1 s.2) fuel ((List.replicate 128 0),0):Option (List Int)).bind (fun (y612:List Int)=>chk (List.length y612=128) (chk (List.length y612=128∧∀ p∈y465,List.length p.1=128) ((cond ((!((mget y612 y465).isSome))) (chk (List.length y612=128) (chk (List.length y612=128∧∀ p∈y465,List.length p.1=128) (some ((mset y612 (↑(List.length y465):Int) y465),(↑(List.length y465):Int))))) (some (y465,((mget y612 y465).getD 0))):Option ((List (List Int×Int))×Int)).bind (fun (s:(List (List Int×Int))×Int)=>za5.k19 y466 y467 s.1 s.2))))) (some (.inr (y465,y466)))
def za5.k21 (y362:List (List Int×Int)) (y363:List Int):Option (List Int×Int) :=
 some (y363,(↑(List.length y362):Int))
def za5 (m_:zad) (class_:List Int):Option (List Int×Int) :=
 chk ((0:Int)≤(↑(List.length class_):Int)∧(↑(List.length class_):Int)≤(↑(List.length class_):Int)∧capOk (Int.toNat (↑(List.length class_):Int)) 8) ((iter (fun (s:(List (List Int×Int))×List Int×Nat)=>za5.s20 m_ class_ s.1 s.2.1 s.2.2) fuel (([]:List (List Int×Int)),(List.replicate (List.length class_) (0:Int)),0):Option ((List (List Int×Int))×List Int)).bind (fun (s:(List (List Int×Int))×List Int)=>za5.k21 s.1 s.2))
def zb5.s2 (m_:zad) (k_:Int) (class71:List Int) (n72:Int) (y73:Nat):Option ((List Int×Int×Nat)⊕(List Int⊕(List Int×Int))) :=
 cond (decide ((↑y73:Int)<(min (max k_ 0) (↑(List.length m_.Next):Int)))) ((za5 m_ class71).bind fun c79=>cond (decide (c79.2=n72)) (some (.inr (.inr (class71,(↑y73:Int))))) (some (.inl (c79.1,c79.2,(y73+1))))) (some (.inr (.inl class71)))
def zb5 (m_:zad) (k_:Int):Option (List Int×Int) :=
 chk ((0:Int)≤(↑(List.length m_.Next):Int)∧(↑(List.length m_.Next):Int)≤(↑(List.length m_.Next):Int)∧capOk (Int.toNat (↑(List.length m_.Next):Int)) 8) ((iter (fun (s:List Int×Int×Nat)=>zb5.s2 m_ k_ s.1 s.2.1 s.2.2) fuel ((List.replicate (List.length m_.Next) (0:Int)),1,0):Option (List Int⊕(List Int×Int))).bind (Sum.elim (fun (class67:List Int)=>some (class67,(min (max k_ 0) (↑(List.length m_.Next):Int)))) some))
def zdk (m_:zad) (k_:Int):Option (List Int×Int) :=
 (zbe m_).bind fun c51=>cond (decide (c51≠0)) (some ([],c51)) ((zb5 m_ k_).bind fun c53=>some (c53.1,0))
def zd5 (m_:zad):Option (List Int×Int) :=
 (zdk m_ 128).bind fun c51=>some (c51.1,c51.2)
def za6.s30 (c53:List Int×Int) (e717:List Int) (y744:List Int) (y745:Nat):Option ((List Int×Nat)⊕List Int) :=
 cond (decide ((↑y745:Int)<(↑(List.length e717):Int))) (idxn e717 y745 fun e752=>idx c53.1 e752 fun e753=>chk (capOk (List.length y744+1) 8) (some (.inl ((y744++[e753]),(y745+1))))) (some (.inr y744))
def za6.k31 (y529:Nat) (y713:List (List Int)) (y714:List (List Int)):Option ((List (List Int)×List (List Int)×Nat)⊕(List (List Int)×List (List Int))) :=
 some (.inl (y713,y714,(y529+1)))
def za6.s32 (c51:zad×Int) (c53:List Int×Int) (y527:List (List Int)) (y528:List (List Int)) (y529:Nat):Option ((List (List Int)×List (List Int)×Nat)⊕(List (List Int)×List (List Int))) :=
 cond (decide ((↑y529:Int)<(↑(List.length c53.1):Int))) ((idxn c53.1 y529 fun e715=>cond (decide (e715<(↑(List.length y527):Int))) (some (y527,y528)) (idxn c51.1.Next y529 fun e717=>(iter (fun (s:List Int×Nat)=>za6.s30 c53 e717 s.1 s.2) fuel ([],0):Option (List Int)).bind (fun (y740:List Int)=>chk (capOk (List.length y527+1) 24) (idxn c51.1.Out y529 fun e769=>chk (capOk (List.length ([]:List Unit)+List.length e769) 8) (chk (capOk (List.length y528+1) 24) (some ((y527++[y740]),(y528++[([]++e769)]))))))):Option (List (List Int)×List (List Int))).bind (fun (s:List (List Int)×List (List Int))=>za6.k31 y529 s.1 s.2)) (some (.inr (y527,y528)))
def za6.k33 (c51:zad×Int) (y418:List (List Int)) (y419:List (List Int)):Option (zad×Int) :=
 some ((⟨c51.1.Inputs,0,y418,y419⟩:zad),0)
def za6 (m_:zad):Option (zad×Int) :=
 (zbi m_).bind fun c51=>cond (decide (c51.2≠0)) (some ((⟨0,0,[],[]⟩:zad),c51.2)) ((zd5 c51.1).bind fun c53=>cond (decide (c53.2≠0)) (some ((⟨0,0,[],[]⟩:zad),c53.2)) ((iter (fun (s:List (List Int)×List (List Int)×Nat)=>za6.s32 c51 c53 s.1 s.2.1 s.2.2) fuel ([],[],0):Option (List (List Int)×List (List Int))).bind (fun (s:List (List Int)×List (List Int))=>za6.k33 c51 s.1 s.2)))
def zbf.s18 (i343:Nat) (e417:List Int) (y460:List Bool) (y461:List zav) (y462:Nat):Option ((List Bool×List zav×Nat)⊕(List Bool×List zav)) :=
 cond (decide ((↑y462:Int)<(↑(List.length e417):Int))) (idxn e417 y462 fun e473=>idx y460 e473 fun e474=>cond ((!e474)) (idx y460 e473 fun e476=>idxn y461 i343 fun e477=>(zei [e477.word,[(↑y462:Int)]]).bind fun c478=>chk (capOk (List.length y461+1) 32) (some (.inl ((List.set y460 e473.toNat true),(y461++[(⟨e473,c478⟩:zav)]),(y462+1))))) (some (.inl (y460,y461,(y462+1))))) (some (.inr (y460,y461)))
def zbf.k19 (i343:Nat) (y450:List Bool) (y451:List zav):Option ((List Bool×List zav×Nat)⊕List zav) :=
 some (.inl (y450,y451,(i343+1)))
def zbf.s20 (m_:zad) (y341:List Bool) (y342:List zav) (i343:Nat):Option ((List Bool×List zav×Nat)⊕List zav) :=
 cond (decide ((↑i343:Int)<(↑(List.length y342):Int))) (idxn y342 i343 fun e416=>idx m_.Next e416.state fun e417=>(iter (fun (s:List Bool×List zav×Nat)=>zbf.s18 i343 e417 s.1 s.2.1 s.2.2) fuel (y341,y342,0):Option (List Bool×List zav)).bind (fun (s:List Bool×List zav)=>zbf.k19 i343 s.1 s.2)) (some (.inr y342))
def zbf (m_:zad) (from_:Int):Option (List zav) :=
 chk ((0:Int)≤(↑(List.length m_.Next):Int)∧(↑(List.length m_.Next):Int)≤(↑(List.length m_.Next):Int)∧capOk (Int.toNat (↑(List.length m_.Next):Int)) 1) (idx (List.replicate (List.length m_.Next) false) from_ fun e52=>(iter (fun (s:List Bool×List zav×Nat)=>zbf.s20 m_ s.1 s.2.1 s.2.2) fuel ((List.set (List.replicate (List.length m_.Next) false) from_.toNat true),[(⟨from_,[]⟩:zav)],0):Option (List zav)).bind (fun (y270:List zav)=>some y270))
def zbw.s2 (c53:List zav) (y76:List Int) (y77:List (List Int)) (y78:Nat):Option ((List Int×List (List Int)×Nat)⊕(List Int×List (List Int))) :=
 cond (decide ((↑y78:Int)<(↑(List.length c53):Int))) (idxn c53 y78 fun e85=>chk (capOk (List.length y76+1) 8) (chk (capOk (List.length y77+1) 24) (some (.inl ((y76++[e85.state]),(y77++[e85.word]),(y78+1)))))) (some (.inr (y76,y77)))
def zbw.k3 (y72:List Int) (y73:List (List Int)):Option (List Int×List (List Int)×Int) :=
 some (y72,y73,0)
def zbw (m_:zad):Option (List Int×List (List Int)×Int) :=
 (zbe m_).bind fun c51=>cond (decide (c51≠0)) (some ([],[],c51)) ((zbf m_ m_.Start).bind fun c53=>(iter (fun (s:List Int×List (List Int)×Nat)=>zbw.s2 c53 s.1 s.2.1 s.2.2) fuel ([],[],0):Option (List Int×List (List Int))).bind (fun (s:List Int×List (List Int))=>zbw.k3 s.1 s.2))
def zd6 (m_:zad):Option (List (List Int)×Int) :=
 (zbw m_).bind fun c51=>some (c51.2.1,c51.2.2)
def za8.s13 (m_:zad) (e260:List Int) (y283:List (List Int)) (y284:Nat):Option ((List (List Int)×Nat)⊕List (List Int)) :=
 cond (decide ((↑y284:Int)<m_.Inputs)) ((zei [e260,[(↑y284:Int)]]).bind fun c291=>chk (capOk (List.length y283+1) 24) (chk (inR ((↑y284:Int)+1)) (some (.inl ((y283++[c291]),(y284+1)))))) (some (.inr y283))
def za8.s14 (m_:zad) (c51:List Int×List (List Int)×Int) (y216:List (List Int)) (y217:Nat):Option ((List (List Int)×Nat)⊕List (List Int)) :=
 cond (decide ((↑y217:Int)<(↑(List.length c51.2.1):Int))) (idxn c51.2.1 y217 fun e260=>(iter (fun (s:List (List Int)×Nat)=>za8.s13 m_ e260 s.1 s.2) fuel (y216,0):Option (List (List Int))).bind (fun (y279:List (List Int))=>some (.inl (y279,(y217+1))))) (some (.inr y216))
def za8 (m_:zad):Option (List (List Int)×Int) :=
 (zbw m_).bind fun c51=>cond (decide (c51.2.2≠0)) (some ([],c51.2.2)) ((iter (fun (s:List (List Int)×Nat)=>za8.s14 m_ c51 s.1 s.2) fuel ([],0):Option (List (List Int))).bind (fun (y177:List (List Int))=>(zce y177).bind fun c302=>some (c302,0)))
def zca.s2 (m_:zad) (w_:List Int) (s88:Int) (y89:List Int) (y90:Nat):Option ((Int×List Int×Nat)⊕List Int) :=
 cond (decide ((↑y90:Int)<(↑(List.length w_):Int))) (idxn w_ y90 fun e100=>idx m_.Out s88 fun e101=>idx e101 e100 fun e102=>chk (capOk (List.length y89+1) 8) (idx m_.Next s88 fun e104=>idx e104 e100 fun e105=>some (.inl (e105,(y89++[e102]),(y90+1))))) (some (.inr y89))
def zca (m_:zad) (s_:Int) (w_:List Int):Option (List Int) :=
 chk ((0:Int)≤0∧0≤(↑(List.length w_):Int)∧capOk (Int.toNat (↑(List.length w_):Int)) 8) ((iter (fun (s:Int×List Int×Nat)=>zca.s2 m_ w_ s.1 s.2.1 s.2.2) fuel (s_,[],0):Option (List Int)).bind (fun (y80:List Int)=>some y80))
def zbg.s2 (s1_:List Int) (s2_:List Int) (y73:Nat):Option (Nat⊕(Unit⊕Bool)) :=
 cond (decide ((↑y73:Int)<(↑(List.length s1_):Int))) (idxn s1_ y73 fun e80=>idxn s2_ y73 fun e81=>cond (decide (e80≠e81)) (some (.inr (.inr false))) (some (.inl (y73+1)))) (some (.inr (.inl ())))
def zbg (s1_:List Int) (s2_:List Int):Option (Bool) :=
 cond (decide ((↑(List.length s1_):Int)≠(↑(List.length s2_):Int))) (some false) ((iter (fun (s:Nat)=>zbg.s2 s1_ s2_ s) fuel 0:Option (Unit⊕Bool)).bind (Sum.elim (fun (_:Unit)=>some true) some))
def zco (w_:List Int) (p1_:zad) (p2_:Int) (p3_:Int):Option (Bool) :=
 (zca p1_ p2_ w_).bind fun c51=>(zca p1_ p3_ w_).bind fun c52=>(zbg c51 c52).bind fun c53=>some (!c53)
def zbh.s2 (l_:List (List Int)) (has_:(List Int)→Option Bool) (y71:Nat):Option (Nat⊕(Unit⊕Bool)) :=
 cond (decide ((↑y71:Int)<(↑(List.length l_):Int))) (idxn l_ y71 fun e78=>(has_ e78).bind fun c79=>cond (c79) (some (.inr (.inr true))) (some (.inl (y71+1)))) (some (.inr (.inl ())))
def zbh (l_:List (List Int)) (has_:(List Int)→Option Bool):Option (Bool) :=
 (iter (fun (s:Nat)=>zbh.s2 l_ has_ s) fuel 0:Option (Unit⊕Bool)).bind (Sum.elim (fun (_:Unit)=>some false) some)
def zdn (m_:zad) (words_:List (List Int)) (s_:Int) (t_:Int):Option (Bool) :=
 (zbh words_ (fun u0=>zco u0 m_ s_ t_)).bind fun c51=>some c51
def zd4 (m_:zad):Option (Bool) :=
 ((zbe m_).bind fun c57=>cond (decide (c57≠0)) (some true) ((zbl m_).bind fun c59=>some (decide ((↑(List.length c59):Int)≠(↑(List.length m_.Next):Int)))):Option (Bool)).bind (fun (y56:Bool)=>cond (y56) (some false) ((za6 m_).bind fun c61=>(cond (decide (c61.2=0)) (some (decide ((↑(List.length c61.1.Next):Int)=(↑(List.length m_.Next):Int)))) (some false):Option (Bool)).bind (fun (y65:Bool)=>some y65)))
def ze4 (m_:zad):Option (Int) :=
 (zbe m_).bind fun c51=>cond (decide (c51≠0)) (some c51) ((zd4 m_).bind fun c53=>cond ((!c53)) (some 1) (some 0))
def za7.s2 (a_:zad) (b_:zad) (y72:List (List Bool)) (y73:Nat):Option ((List (List Bool)×Nat)⊕List (List Bool)) :=
 cond (decide ((↑y73:Int)<(↑(List.length (List.replicate (List.length a_.Next) ([]:List Bool))):Int))) (chk ((0:Int)≤(↑(List.length b_.Next):Int)∧(↑(List.length b_.Next):Int)≤(↑(List.length b_.Next):Int)∧capOk (Int.toNat (↑(List.length b_.Next):Int)) 1) (idxn y72 y73 fun e81=>chk (inR ((↑y73:Int)+1)) (some (.inl ((List.set y72 y73 (List.replicate (List.length b_.Next) false)),(y73+1)))))) (some (.inr y72))
def za7.s20 (a_:zad) (b_:zad) (i900:Nat) (e1104:za2) (y1234:List (List Bool)) (y1235:List za2) (y1236:Nat):Option ((List (List Bool)×List za2×Nat)⊕((List (List Bool)×List za2)⊕((List (List Bool)×List za2×Nat)⊕(Unit⊕(List Int×Bool))))) :=
 cond (decide ((↑y1236:Int)<a_.Inputs)) (idx a_.Out e1104.at_.s fun e1270=>idxn e1270 y1236 fun e1271=>idx b_.Out e1104.at_.t fun e1272=>idxn e1272 y1236 fun e1273=>cond (decide (e1271≠e1273)) (idxn y1235 i900 fun e1275=>(zei [e1275.word,[(↑y1236:Int)]]).bind fun c1276=>some (.inr (.inr (.inr (.inr (c1276,true)))))) (idx a_.Next e1104.at_.s fun e1277=>idxn e1277 y1236 fun e1278=>idx b_.Next e1104.at_.t fun e1279=>idxn e1279 y1236 fun e1280=>(cond ((!(decide (e1278=e1104.at_.s)&&(decide (e1280=e1104.at_.t)&&true)))) (idx y1234 e1278 fun e1288=>idx e1288 e1280 fun e1289=>some (!e1289)) (some false):Option (Bool)).bind (fun (y1286:Bool)=>cond (y1286) (idx y1234 e1278 fun e1293=>idx e1293 e1280 fun e1294=>idxn y1235 i900 fun e1295=>(zei [e1295.word,[(↑y1236:Int)]]).bind fun c1296=>chk (capOk (List.length y1235+1) 40) (chk (inR ((↑y1236:Int)+1)) (some (.inl ((List.set y1234 (Int.toNat e1278) (List.set e1293 (Int.toNat e1280) true)),(y1235++[(⟨(⟨e1278,e1280⟩:zcd),c1296⟩:za2)]),(y1236+1)))))) (chk (inR ((↑y1236:Int)+1)) (some (.inl (y1234,y1235,(y1236+1)))))))) (some (.inr (.inl (y1234,y1235))))
def za7.k21 (i900:Nat) (y1203:List (List Bool)) (y1204:List za2):Option ((List (List Bool)×List za2×Nat)⊕(Unit⊕(List Int×Bool))) :=
 some (.inl (y1203,y1204,(i900+1)))
def za7.s22 (a_:zad) (b_:zad) (y898:List (List Bool)) (y899:List za2) (i900:Nat):Option ((List (List Bool)×List za2×Nat)⊕(Unit⊕(List Int×Bool))) :=
 cond (decide ((↑i900:Int)<(↑(List.length y899):Int))) (idxn y899 i900 fun e1104=>(iter (fun (s:List (List Bool)×List za2×Nat)=>za7.s20 a_ b_ i900 e1104 s.1 s.2.1 s.2.2) fuel (y898,y899,0):Option ((List (List Bool)×List za2)⊕((List (List Bool)×List za2×Nat)⊕(Unit⊕(List Int×Bool))))).bind (Sum.elim (fun (s:List (List Bool)×List za2)=>za7.k21 i900 s.1 s.2) some)) (some (.inr (.inl ())))
def za7 (a_:zad) (b_:zad) (first_:zcd):Option (List Int×Bool) :=
 chk ((0:Int)≤(↑(List.length a_.Next):Int)∧(↑(List.length a_.Next):Int)≤(↑(List.length a_.Next):Int)∧capOk (Int.toNat (↑(List.length a_.Next):Int)) 24) ((iter (fun (s:List (List Bool)×Nat)=>za7.s2 a_ b_ s.1 s.2) fuel ((List.replicate (List.length a_.Next) ([]:List Bool)),0):Option (List (List Bool))).bind (fun (y68:List (List Bool))=>idx y68 first_.s fun e85=>idx e85 first_.t fun e86=>(iter (fun (s:List (List Bool)×List za2×Nat)=>za7.s22 a_ b_ s.1 s.2.1 s.2.2) fuel ((List.set y68 (Int.toNat first_.s) (List.set e85 (Int.toNat first_.t) true)),[(⟨first_,[]⟩:za2)],0):Option (Unit⊕(List Int×Bool))).bind (Sum.elim (fun (_:Unit)=>some ([],false)) some)))
def zgc (m_:zad) (s_:Int) (t_:Int):Option (List Int×Bool×Int) :=
 (zbe m_).bind fun c51=>cond (decide (c51≠0)) (some ([],false,c51)) ((cond (decide (s_<0)) (some true) (cond (decide ((↑(List.length m_.Next):Int)≤s_)) (some true) (cond (decide (t_<0)) (some true) (some (decide ((↑(List.length m_.Next):Int)≤t_))))):Option (Bool)).bind (fun (y58:Bool)=>cond (y58) (some ([],false,2)) ((za7 m_ m_ (⟨s_,t_⟩:zcd)).bind fun c63=>some (c63.1,c63.2,0))))
def zbb.s13 (m_:zad) (y436:Nat) (y597:List (List Int)) (t598:Nat):Option ((List (List Int)×Nat)⊕(List (List Int)⊕((List (List Int)×Nat)⊕(List (List Int)⊕(List (List Int)×Int))))) :=
 cond (decide ((↑t598:Int)<(↑(List.length m_.Next):Int))) (((zdn m_ y597 (↑y436:Int) (↑t598:Int)).bind fun c622=>cond (c622) (some (.inl y597)) ((zgc m_ (↑y436:Int) (↑t598:Int)).bind fun c624=>cond (decide (c624.2.2≠0)) (some (.inr (.inr (.inr (.inr (.inr ([],c624.2.2))))))) (chk (capOk (List.length y597+1) 24) (some (.inl (y597++[c624.1]))))):Option (List (List Int)⊕((List (List Int)×Nat)⊕(List (List Int)⊕((List (List Int)×Nat)⊕(List (List Int)⊕(List (List Int)×Int))))))).bind (Sum.elim (fun (y621:List (List Int))=>some (.inl (y621,(t598+1)))) some)) (some (.inr (.inl y597)))
def zbb.s14 (m_:zad) (y435:List (List Int)) (y436:Nat):Option ((List (List Int)×Nat)⊕(List (List Int)⊕(List (List Int)×Int))) :=
 cond (decide ((↑y436:Int)<(↑(List.length m_.Next):Int))) ((iter (fun (s:List (List Int)×Nat)=>zbb.s13 m_ y436 s.1 s.2) fuel (y435,(y436+1)):Option (List (List Int)⊕((List (List Int)×Nat)⊕(List (List Int)⊕(List (List Int)×Int))))).bind (Sum.elim (fun (y582:List (List Int))=>some (.inl (y582,(y436+1)))) some)) (some (.inr (.inl y435)))
def zbb (m_:zad):Option (List (List Int)×Int) :=
 (ze4 m_).bind fun c51=>cond (decide (c51≠0)) (some ([],c51)) ((iter (fun (s:List (List Int)×Nat)=>zbb.s14 m_ s.1 s.2) fuel ([],0):Option (List (List Int)⊕(List (List Int)×Int))).bind (Sum.elim (fun (y342:List (List Int))=>(zce y342).bind fun c632=>some (c632,0)) some))
def zgd (m_:zad):Option (List (List Int)×Int) :=
 (zbe m_).bind fun c51=>cond (decide (c51≠0)) (some ([],c51)) ((za6 m_).bind fun c53=>(zd6 c53.1).bind fun c54=>(za8 c53.1).bind fun c55=>(zbb c53.1).bind fun c56=>(cond (decide ((↑(List.length c56.1):Int)=0)) (some [[]]) (some c56.1):Option (List (List Int))).bind (fun (ends60:List (List Int))=>(zd9 [c54.1,c55.1]).bind fun c65=>(zax c65 ends60).bind fun c66=>cond (decide (c66.2≠0)) (some ([],c66.2)) ((zd9 [c55.1,c66.1]).bind fun c68=>(zb6 c68).bind fun c69=>some (c69,0))))
def za1.s18 (p_:zaa) (out_:Int) (y395:Nat) (e485:List Int) (y534:List Int) (y535:List Int) (y536:Nat):Option ((List Int×List Int×Nat)⊕(List Int×List Int)) :=
 cond (decide ((↑y536:Int)<(↑(List.length e485):Int))) (idxn e485 y536 fun e548=>idxn p_.Out y395 fun e549=>idxn e549 y536 fun e550=>idxn y534 y536 fun e551=>idxn y535 y536 fun e552=>cond (decide (e548=(-1:Int))) (idxn (List.set y534 y536 e548) y536 fun e554=>idxn (List.set y535 y536 e550) y536 fun e555=>some (.inl ((List.set (List.set y534 y536 e548) y536 (↑y395:Int)),(List.set (List.set y535 y536 e550) y536 out_),(y536+1)))) (some (.inl ((List.set y534 y536 e548),(List.set y535 y536 e550),(y536+1))))) (some (.inr (y534,y535)))
def za1.k19 (y393:List (List Int)) (y394:List (List Int)) (y395:Nat) (y523:List Int) (y524:List Int):Option ((List (List Int)×List (List Int)×Nat)⊕(List (List Int)×List (List Int))) :=
 chk (capOk (List.length y393+1) 24) (chk (capOk (List.length y394+1) 24) (some (.inl ((y393++[y523]),(y394++[y524]),(y395+1)))))
def za1.s20 (p_:zaa) (out_:Int) (y393:List (List Int)) (y394:List (List Int)) (y395:Nat):Option ((List (List Int)×List (List Int)×Nat)⊕(List (List Int)×List (List Int))) :=
 cond (decide ((↑y395:Int)<(↑(List.length p_.Next):Int))) (chk ((0:Int)≤p_.Inputs∧p_.Inputs≤p_.Inputs∧capOk (Int.toNat p_.Inputs) 8) (chk ((0:Int)≤p_.Inputs∧p_.Inputs≤p_.Inputs∧capOk (Int.toNat p_.Inputs) 8) (idxn p_.Next y395 fun e485=>(iter (fun (s:List Int×List Int×Nat)=>za1.s18 p_ out_ y395 e485 s.1 s.2.1 s.2.2) fuel ((List.replicate (Int.toNat p_.Inputs) (0:Int)),(List.replicate (Int.toNat p_.Inputs) (0:Int)),0):Option (List Int×List Int)).bind (fun (s:List Int×List Int)=>za1.k19 y393 y394 y395 s.1 s.2)))) (some (.inr (y393,y394)))
def za1.k21 (p_:zaa) (y314:List (List Int)) (y315:List (List Int)):Option (zad×Int) :=
 some ((⟨p_.Inputs,p_.Start,y314,y315⟩:zad),0)
def za1 (p_:zaa) (out_:Int):Option (zad×Int) :=
 (za9 p_).bind fun c51=>cond (decide (c51≠0)) (some ((⟨0,0,[],[]⟩:zad),c51)) ((cond (decide (out_<0)) (some true) (some (decide (1048576<out_))):Option (Bool)).bind (fun (y56:Bool)=>cond (y56) (some ((⟨0,0,[],[]⟩:zad),2)) (cond (decide (128<(↑(List.length p_.Next):Int))) (some ((⟨0,0,[],[]⟩:zad),11)) ((iter (fun (s:List (List Int)×List (List Int)×Nat)=>za1.s20 p_ out_ s.1 s.2.1 s.2.2) fuel ([],[],0):Option (List (List Int)×List (List Int))).bind (fun (s:List (List Int)×List (List Int))=>za1.k21 p_ s.1 s.2)))))
def R35_Same (a_:zaa) (b_:zaa):Option (Bool) :=
 (cond (decide (a_.Inputs=b_.Inputs)) (cond (decide (a_.Start=b_.Start)) ((zbs a_.Next b_.Next).bind fun c61=>cond (c61) ((zbs a_.Out b_.Out).bind fun c63=>some c63) (some false)) (some false)) (some false):Option (Bool)).bind (fun (y58:Bool)=>some y58)
def ze9:Option (Bool) :=
 (zao (⟨1,[(⟨[0,0],[1,2]⟩:zae)]⟩:zal)).bind fun c51=>(zds c51.1 0 1).bind fun c52=>(zds c51.1 0 2).bind fun c53=>(zbc (⟨1,[(⟨[0,0,0,0],[1,2,1,2]⟩:zae)]⟩:zal)).bind fun c54=>(zb3 c54.1 [0,0,0,0,0]).bind fun c55=>(L35_gate).bind fun c56=>(zgd c56).bind fun c57=>(za1 c51.1 7).bind fun c58=>((R35_Same c51.1 (⟨1,0,[[1],[2],[(-1:Int)]],[[1],[2],[(-1:Int)]]⟩:zaa)).bind fun c84=>cond (c84) (cond (decide (c51.2=0)) (cond ((!c52.2.1)) (cond (decide (c52.2.2=0)) ((R35_Same c53.1 (⟨1,0,[[1],[0]],[[1],[2]]⟩:zaa)).bind fun c89=>cond (c89) (cond (c53.2.1) (cond (decide (c53.2.2=0)) ((R35_Same c54.1 (⟨1,0,[[1],[0]],[[1],[2]]⟩:zaa)).bind fun c93=>cond (c93) (cond (decide (c54.2=0)) ((R01_Same c55.1 [1,2,1,2,1]).bind fun c96=>cond (c96) (cond (c55.2) ((zbs c57.1 [[1,1],[0,0,1],[0,1,1]]).bind fun c99=>cond (c99) (cond (decide (c57.2=0)) ((zbs c58.1.Next [[1],[2],[2]]).bind fun c102=>cond (c102) ((zbs c58.1.Out [[1],[2],[7]]).bind fun c104=>cond (c104) (some (decide (c58.2=0))) (some false)) (some false)) (some false)) (some false)) (some false)) (some false)) (some false)) (some false)) (some false)) (some false)) (some false)) (some false)) (some false)) (some false)) (some false):Option (Bool)).bind (fun (y83:Bool)=>some y83)
def zkb.s2 (l_:List (List Int)) (w_:List Int) (low84:Nat) (high85:Nat):Option ((Nat×Nat)⊕Nat) :=
 cond (decide ((↑low84:Int)<(↑high85:Int))) (chk (inR ((↑low84:Int)+(↑high85:Int))) (chk (inR (((↑low84:Int)+(↑high85:Int)) / 2)∧(0:Int)≤((↑low84:Int)+(↑high85:Int))∧(1:Int)≤2) (idxn l_ ((low84+high85) / 2) fun e97=>(zdw e97 w_).bind fun c98=>cond (decide (c98<0)) (chk (inR ((((↑low84:Int)+(↑high85:Int)) / 2)+1)) (some (.inl ((((low84+high85) / 2)+1),high85)))) (some (.inl (low84,((low84+high85) / 2))))))) (some (.inr low84))
def zkb (l_:List (List Int)) (w_:List Int):Option (Int) :=
 (iter (fun (s:Nat×Nat)=>zkb.s2 l_ w_ s.1 s.2) fuel (0,(List.length l_)):Option (Nat)).bind (fun (low77:Nat)=>some (↑low77:Int))
def R02_with.s2 (c51:Int) (y93:List (List Int)) (i94:Int):Option ((List (List Int)×Int)⊕List (List Int)) :=
 cond (decide (c51<i94)) (chk (inR (i94-1)) (idx y93 (i94-1) fun e103=>idx y93 i94 fun e104=>chk (inR (i94-1)) (some (.inl ((List.set y93 i94.toNat e103),(i94-1)))))) (some (.inr y93))
def R02_with (l_:List (List Int)) (w_:List Int):Option (List (List Int)) :=
 (zkb l_ w_).bind fun c51=>(cond (decide (c51<(↑(List.length l_):Int))) (idx l_ c51 fun e59=>(R01_Same e59 w_).bind fun c60=>some c60) (some false):Option (Bool)).bind (fun (y57:Bool)=>cond (y57) (some l_) (chk (capOk (List.length l_+1) 24) (chk (inR ((↑(List.length (l_++[[]])):Int)-1)) ((iter (fun (s:List (List Int)×Int)=>R02_with.s2 c51 s.1 s.2) fuel ((l_++[[]]),((↑(List.length (l_++[[]])):Int)-1)):Option (List (List Int))).bind (fun (y87:List (List Int))=>chk (capOk (List.length ([]:List Unit)+List.length w_) 8) (idx y87 c51 fun e111=>some (List.set y87 c51.toNat ([]++w_))))))))
def zd3.s13 (l_:List (List Int)) (i255:Nat) (y336:List (List Int)) (k337:Nat):Option ((List (List Int)×Nat)⊕List (List Int)) :=
 idxn l_ i255 fun e345=>cond (decide ((↑k337:Int)≤(↑(List.length e345):Int))) (idxn l_ i255 fun e347=>chk ((0:Int)≤(↑k337:Int)∧(↑k337:Int)≤(↑(List.length e347):Int)) ((R02_with y336 (List.take k337 e347)).bind fun c349=>chk (inR ((↑k337:Int)+1)) (some (.inl (c349,(k337+1)))))) (some (.inr y336))
def zd3.s14 (l_:List (List Int)) (y254:List (List Int)) (i255:Nat):Option ((List (List Int)×Nat)⊕List (List Int)) :=
 cond (decide ((↑i255:Int)<(↑(List.length l_):Int))) ((iter (fun (s:List (List Int)×Nat)=>zd3.s13 l_ i255 s.1 s.2) fuel (y254,0):Option (List (List Int))).bind (fun (y330:List (List Int))=>some (.inl (y330,(i255+1))))) (some (.inr y254))
def zd3 (l_:List (List Int)):Option (List (List Int)) :=
 (iter (fun (s:List (List Int)×Nat)=>zd3.s14 l_ s.1 s.2) fuel ([],0):Option (List (List Int))).bind (fun (y204:List (List Int))=>some y204)
def R35_find.s2 (l_:List (List Int)) (w_:List Int) (i107:Nat):Option (Nat⊕Nat) :=
 (cond (decide ((↑i107:Int)<(↑(List.length l_):Int))) (idxn l_ i107 fun e129=>(R01_Same e129 w_).bind fun c130=>some (!c130)) (some false):Option (Bool)).bind (fun (y127:Bool)=>cond (y127) (chk (inR ((↑i107:Int)+1)) (some (.inl (i107+1)))) (some (.inr i107)))
def R35_find (l_:List (List Int)) (w_:List Int):Option (Int) :=
 (iter (fun (s:Nat)=>R35_find.s2 l_ w_ s) fuel 0:Option (Nat)).bind (fun (i94:Nat)=>some (↑i94:Int))
def zdo.s18 (inputs_:Int) (y293:List Int) (y294:List Int) (a295:Nat):Option ((List Int×List Int×Nat)⊕(List Int×List Int)) :=
 cond (decide ((↑a295:Int)<inputs_)) (chk (capOk (List.length y293+1) 8) (chk (capOk (List.length y294+1) 8) (chk (inR ((↑a295:Int)+1)) (some (.inl ((y293++[(-1:Int)]),(y294++[(-1:Int)]),(a295+1))))))) (some (.inr (y293,y294)))
def zdo.k19 (y222:List (List Int)) (y223:List (List Int)) (s224:Nat) (y290:List Int) (y291:List Int):Option ((List (List Int)×List (List Int)×Nat)⊕(List (List Int)×List (List Int))) :=
 chk (capOk (List.length y222+List.length [y290]) 24) (chk (capOk (List.length y223+List.length [y291]) 24) (chk (inR ((↑s224:Int)+1)) (some (.inl ((y222++[y290]),(y223++[y291]),(s224+1))))))
def zdo.s20 (inputs_:Int) (states_:Int) (y222:List (List Int)) (y223:List (List Int)) (s224:Nat):Option ((List (List Int)×List (List Int)×Nat)⊕(List (List Int)×List (List Int))) :=
 cond (decide ((↑s224:Int)<states_)) ((iter (fun (s:List Int×List Int×Nat)=>zdo.s18 inputs_ s.1 s.2.1 s.2.2) fuel ([],[],0):Option (List Int×List Int)).bind (fun (s:List Int×List Int)=>zdo.k19 y222 y223 s224 s.1 s.2)) (some (.inr (y222,y223)))
def zdo.k21 (inputs_:Int) (y184:List (List Int)) (y185:List (List Int)):Option (zaa) :=
 some (⟨inputs_,0,y184,y185⟩:zaa)
def zdo (inputs_:Int) (states_:Int):Option (zaa) :=
 (iter (fun (s:List (List Int)×List (List Int)×Nat)=>zdo.s20 inputs_ states_ s.1 s.2.1 s.2.2) fuel ([],[],0):Option (List (List Int)×List (List Int))).bind (fun (s:List (List Int)×List (List Int))=>zdo.k21 inputs_ s.1 s.2)
def R35_Tree.s2 (o_:zal) (y69:List (List Int)) (i70:Nat):Option ((List (List Int)×Nat)⊕List (List Int)) :=
 cond (decide ((↑i70:Int)<(↑(List.length o_.Traces):Int))) (idxn o_.Traces i70 fun e76=>chk (capOk (List.length y69+1) 24) (some (.inl ((y69++[e76.In]),(i70+1))))) (some (.inr y69))
def R35_Tree.s20 (c80:List (List Int)) (e588:zae) (y649:List (List Int)) (y650:List (List Int)) (k651:Nat):Option ((List (List Int)×List (List Int)×Nat)⊕(List (List Int)×List (List Int))) :=
 cond (decide ((↑k651:Int)<(↑(List.length e588.In):Int))) (chk ((0:Int)≤(↑k651:Int)∧(↑k651:Int)≤(↑(List.length e588.In):Int)) ((R35_find c80 (List.take k651 e588.In)).bind fun c667=>idx y649 c667 fun e668=>idxn e588.In k651 fun e669=>chk ((0:Int)≤((↑k651:Int)+1)∧((↑k651:Int)+1)≤(↑(List.length e588.In):Int)) ((R35_find c80 (List.take (k651+1) e588.In)).bind fun c671=>idx e668 e669 fun e672=>idx y650 c667 fun e673=>idxn e588.In k651 fun e674=>idxn e588.Out k651 fun e675=>idx e673 e674 fun e676=>some (.inl ((List.set y649 (Int.toNat c667) (List.set e668 (Int.toNat e669) c671)),(List.set y650 (Int.toNat c667) (List.set e673 (Int.toNat e674) e675)),(k651+1)))))) (some (.inr (y649,y650)))
def R35_Tree.k21 (i487:Nat) (y635:List (List Int)) (y636:List (List Int)):Option ((List (List Int)×List (List Int)×Nat)⊕(List (List Int)×List (List Int))) :=
 some (.inl (y635,y636,(i487+1)))
def R35_Tree.s22 (o_:zal) (c80:List (List Int)) (y485:List (List Int)) (y486:List (List Int)) (i487:Nat):Option ((List (List Int)×List (List Int)×Nat)⊕(List (List Int)×List (List Int))) :=
 cond (decide ((↑i487:Int)<(↑(List.length o_.Traces):Int))) (idxn o_.Traces i487 fun e588=>(iter (fun (s:List (List Int)×List (List Int)×Nat)=>R35_Tree.s20 c80 e588 s.1 s.2.1 s.2.2) fuel (y485,y486,0):Option (List (List Int)×List (List Int))).bind (fun (s:List (List Int)×List (List Int))=>R35_Tree.k21 i487 s.1 s.2)) (some (.inr (y485,y486)))
def R35_Tree.k23 (c82:zaa) (y385:List (List Int)) (y386:List (List Int)):Option (zaa×Int) :=
 some ((⟨c82.Inputs,c82.Start,y385,y386⟩:zaa),0)
def R35_Tree (o_:zal):Option (zaa×Int) :=
 (iter (fun (s:List (List Int)×Nat)=>R35_Tree.s2 o_ s.1 s.2) fuel ([[]],0):Option (List (List Int))).bind (fun (y65:List (List Int))=>(zd3 y65).bind fun c80=>cond (decide (4096<(↑(List.length c80):Int))) (some ((⟨0,0,[],[]⟩:zaa),11)) ((zdo o_.Inputs (↑(List.length c80):Int)).bind fun c82=>(iter (fun (s:List (List Int)×List (List Int)×Nat)=>R35_Tree.s22 o_ c80 s.1 s.2.1 s.2.2) fuel (c82.Next,c82.Out,0):Option (List (List Int)×List (List Int))).bind (fun (s:List (List Int)×List (List Int))=>R35_Tree.k23 c82 s.1 s.2)))
def zc0.s2 (l_:List Int) (n_:Int) (i94:Nat):Option (Nat⊕Nat) :=
 (cond (decide ((↑i94:Int)<(↑(List.length l_):Int))) (idxn l_ i94 fun e112=>some (decide (e112≠n_))) (some false):Option (Bool)).bind (fun (y110:Bool)=>cond (y110) (chk (inR ((↑i94:Int)+1)) (some (.inl (i94+1)))) (some (.inr i94)))
def zc0 (l_:List Int) (n_:Int):Option (Int) :=
 (iter (fun (s:Nat)=>zc0.s2 l_ n_ s) fuel 0:Option (Nat)).bind (fun (i84:Nat)=>some (↑i84:Int))
def R35_Blue.s13 (p_:zaa) (red_:List Bool) (b285:Nat) (is377:Bool) (r378:Nat):Option ((Bool×Nat)⊕Bool) :=
 cond (decide ((↑r378:Int)<(↑(List.length red_):Int))) (cond (is377) (some (.inl (true,(r378+1)))) (idxn red_ r378 fun e388=>cond (e388) (idxn p_.Next r378 fun e390=>(zc0 e390 (↑b285:Int)).bind fun c391=>some (.inl (decide (c391<p_.Inputs),(r378+1)))) (some (.inl (false,(r378+1)))))) (some (.inr is377))
def R35_Blue.s14 (p_:zaa) (red_:List Bool) (y284:List Int) (b285:Nat):Option ((List Int×Nat)⊕List Int) :=
 cond (decide ((↑b285:Int)<(↑(List.length red_):Int))) ((iter (fun (s:Bool×Nat)=>R35_Blue.s13 p_ red_ b285 s.1 s.2) fuel (false,0):Option (Bool)).bind (fun (is371:Bool)=>(cond (is371) (idxn red_ b285 fun e402=>some (!e402)) (some false):Option (Bool)).bind (fun (y400:Bool)=>cond (y400) (chk (capOk (List.length y284+1) 8) (some (.inl ((y284++[(↑b285:Int)]),(b285+1))))) (some (.inl (y284,(b285+1))))))) (some (.inr y284))
def R35_Blue (p_:zaa) (red_:List Bool):Option (List Int) :=
 (iter (fun (s:List Int×Nat)=>R35_Blue.s14 p_ red_ s.1 s.2) fuel ([],0):Option (List Int)).bind (fun (y230:List Int)=>some y230)
def zek.s2 (p_:zaa) (class_:List Int) (c_:Int) (a_:Int) (q111:Nat):Option (Nat⊕(Unit⊕Int)) :=
 cond (decide ((↑q111:Int)<(↑(List.length class_):Int))) ((idxn class_ q111 fun e135=>cond (decide (e135=c_)) (idxn p_.Next q111 fun e137=>idx e137 a_ fun e138=>some (decide (e138≠(-1:Int)))) (some false):Option (Bool)).bind (fun (y134:Bool)=>cond (y134) (some (.inr (.inr (↑q111:Int)))) (some (.inl (q111+1))))) (some (.inr (.inl ())))
def zek (p_:zaa) (class_:List Int) (c_:Int) (a_:Int):Option (Int) :=
 (iter (fun (s:Nat)=>zek.s2 p_ class_ c_ a_ s) fuel 0:Option (Unit⊕Int)).bind (Sum.elim (fun (_:Unit)=>some (-1:Int)) some)
def zbj.k53 (a2332:Nat) (y2432:List Int) (y2433:List Int) (y2434:List Int):Option ((List Int×List Int×List Int×Nat)⊕(List Int×List Int×List Int)) :=
 chk (inR ((↑a2332:Int)+1)) (some (.inl (y2432,y2433,y2434,(a2332+1))))
def zbj.s54 (p_:zaa) (class_:List Int) (i1648:Nat) (y2329:List Int) (y2330:List Int) (y2331:List Int) (a2332:Nat):Option ((List Int×List Int×List Int×Nat)⊕(List Int×List Int×List Int)) :=
 cond (decide ((↑a2332:Int)<p_.Inputs)) ((idxn y2329 i1648 fun e2435=>(zek p_ class_ e2435 (↑a2332:Int)).bind fun c2436=>cond (decide (c2436=(-1:Int))) (chk (capOk (List.length y2330+1) 8) (chk (capOk (List.length y2331+1) 8) (some (y2329,(y2330++[(-1:Int)]),(y2331++[(-1:Int)]))))) (idx p_.Next c2436 fun e2440=>idxn e2440 a2332 fun e2441=>idx class_ e2441 fun e2442=>((zc0 y2329 e2442).bind fun c2449=>cond (decide (c2449=(↑(List.length y2329):Int))) (chk (capOk (List.length y2329+1) 8) (some (y2329++[e2442]))) (some y2329):Option (List Int)).bind (fun (y2448:List Int)=>(zc0 y2448 e2442).bind fun c2458=>chk (capOk (List.length y2330+1) 8) (idx p_.Out c2436 fun e2460=>idxn e2460 a2332 fun e2461=>chk (capOk (List.length y2331+1) 8) (some (y2448,(y2330++[c2458]),(y2331++[e2461])))))):Option (List Int×List Int×List Int)).bind (fun (s:List Int×List Int×List Int)=>zbj.k53 a2332 s.1 s.2.1 s.2.2)) (some (.inr (y2329,y2330,y2331)))
def zbj.k55 (y1646:List (List Int)) (y1647:List (List Int)) (i1648:Nat) (y2271:List Int) (y2272:List Int) (y2273:List Int):Option ((List Int×List (List Int)×List (List Int)×Nat)⊕(List Int×List (List Int)×List (List Int))) :=
 chk (capOk (List.length y1646+1) 24) (chk (capOk (List.length y1647+1) 24) (some (.inl (y2271,(y1646++[y2272]),(y1647++[y2273]),(i1648+1)))))
def zbj.s56 (p_:zaa) (class_:List Int) (y1645:List Int) (y1646:List (List Int)) (y1647:List (List Int)) (i1648:Nat):Option ((List Int×List (List Int)×List (List Int)×Nat)⊕(List Int×List (List Int)×List (List Int))) :=
 cond (decide ((↑i1648:Int)<(↑(List.length y1645):Int))) ((iter (fun (s:List Int×List Int×List Int×Nat)=>zbj.s54 p_ class_ i1648 s.1 s.2.1 s.2.2.1 s.2.2.2) fuel (y1645,[],[],0):Option (List Int×List Int×List Int)).bind (fun (s:List Int×List Int×List Int)=>zbj.k55 y1646 y1647 i1648 s.1 s.2.1 s.2.2)) (some (.inr (y1645,y1646,y1647)))
def zbj.k57 (p_:zaa) (y1269:List Int) (y1270:List (List Int)) (y1271:List (List Int)):Option (zaa×List Int) :=
 some ((⟨p_.Inputs,0,y1270,y1271⟩:zaa),y1269)
def zbj (p_:zaa) (class_:List Int):Option (zaa×List Int) :=
 idx class_ p_.Start fun e51=>(iter (fun (s:List Int×List (List Int)×List (List Int)×Nat)=>zbj.s56 p_ class_ s.1 s.2.1 s.2.2.1 s.2.2.2) fuel ([e51],[],[],0):Option (List Int×List (List Int)×List (List Int))).bind (fun (s:List Int×List (List Int)×List (List Int))=>zbj.k57 p_ s.1 s.2.1 s.2.2)
def R35_Reds.s2 (red_:List Bool) (class_:List Int) (l_:List Int) (y85:List Bool) (q86:Nat):Option ((List Bool×Nat)⊕List Bool) :=
 cond (decide ((↑q86:Int)<(↑(List.length red_):Int))) (idxn red_ q86 fun e95=>cond (e95) (idxn class_ q86 fun e97=>(zc0 l_ e97).bind fun c98=>idx y85 c98 fun e99=>some (.inl ((List.set y85 c98.toNat true),(q86+1)))) (some (.inl (y85,(q86+1))))) (some (.inr y85))
def R35_Reds (red_:List Bool) (class_:List Int) (l_:List Int):Option (List Bool) :=
 chk ((0:Int)≤(↑(List.length l_):Int)∧(↑(List.length l_):Int)≤(↑(List.length l_):Int)∧capOk (Int.toNat (↑(List.length l_):Int)) 1) ((iter (fun (s:List Bool×Nat)=>R35_Reds.s2 red_ class_ l_ s.1 s.2) fuel ((List.replicate (List.length l_) false),0):Option (List Bool)).bind (fun (y78:List Bool)=>some y78))
def R35_join.s2 (e51:Int) (e52:Int) (e53:Int) (e54:Int) (y77:List Int) (q78:Nat):Option ((List Int×Nat)⊕List Int) :=
 cond (decide ((↑q78:Int)<(↑(List.length y77):Int))) (idxn y77 q78 fun e85=>cond (decide (e85=(max e53 e54))) (idxn y77 q78 fun e87=>some (.inl ((List.set y77 q78 (min e51 e52)),(q78+1)))) (some (.inl (y77,(q78+1))))) (some (.inr y77))
def R35_join (class_:List Int) (s_:Int) (t_:Int):Option (List Int) :=
 idx class_ s_ fun e51=>idx class_ t_ fun e52=>idx class_ s_ fun e53=>idx class_ t_ fun e54=>(iter (fun (s:List Int×Nat)=>R35_join.s2 e51 e52 e53 e54 s.1 s.2) fuel (class_,0):Option (List Int)).bind (fun (y72:List Int)=>some y72)
def zbv.s2 (p_:zaa) (y66:List Int) (q67:Nat):Option ((List Int×Nat)⊕List Int) :=
 cond (decide ((↑q67:Int)<(↑(List.length p_.Next):Int))) (idxn y66 q67 fun e72=>some (.inl ((List.set y66 q67 (↑q67:Int)),(q67+1)))) (some (.inr y66))
def zbv.s196 (p_:zaa) (y13231:List Int) (q13232:Nat):Option ((List Int×Nat)⊕List Int) :=
 cond (decide ((↑q13232:Int)<(↑(List.length p_.Next):Int))) (idxn y13231 q13232 fun e13237=>some (.inl ((List.set y13231 q13232 (-1:Int)),(q13232+1)))) (some (.inr y13231))
def zbv.s198 (p_:zaa) (y12837:List Int) (more12838:Bool) (a12839:Nat) (y13470:List Int) (q13471:Nat):Option ((List Int×Nat)⊕((List Int×Bool)⊕((List Int×Bool×Nat)⊕((List Int×Bool)⊕((List Int×Bool)⊕(List Int⊕(List Int×Bool))))))) :=
 cond (decide ((↑q13471:Int)<(↑(List.length p_.Next):Int))) ((idxn p_.Next q13471 fun e13556=>idxn e13556 a12839 fun e13557=>cond (decide (e13557=(-1:Int))) (some (.inl y13470)) (idxn y12837 q13471 fun e13559=>idx y13470 e13559 fun e13560=>cond (decide (e13560=(-1:Int))) (idxn y12837 q13471 fun e13562=>idx y13470 e13562 fun e13563=>some (.inl (List.set y13470 e13562.toNat (↑q13471:Int)))) (idx p_.Out e13560 fun e13564=>idxn e13564 a12839 fun e13565=>idxn p_.Out q13471 fun e13566=>idxn e13566 a12839 fun e13567=>cond (decide (e13565≠e13567)) (some (.inr (.inr (.inr (.inr (.inr (.inr (.inr ([],false))))))))) (idx p_.Next e13560 fun e13569=>idxn e13569 a12839 fun e13570=>idx y12837 e13570 fun e13571=>idxn p_.Next q13471 fun e13572=>idxn e13572 a12839 fun e13573=>idx y12837 e13573 fun e13574=>cond (decide (e13571≠e13574)) (idx p_.Next e13560 fun e13576=>idxn e13576 a12839 fun e13577=>idxn p_.Next q13471 fun e13578=>idxn e13578 a12839 fun e13579=>(R35_join y12837 e13577 e13579).bind fun c13580=>some (.inr (.inr (.inl (c13580,true))))) (some (.inl y13470))))):Option (List Int⊕((List Int×Nat)⊕((List Int×Bool)⊕((List Int×Bool×Nat)⊕((List Int×Bool)⊕((List Int×Bool)⊕(List Int⊕(List Int×Bool))))))))).bind (Sum.elim (fun (y13555:List Int)=>some (.inl (y13555,(q13471+1)))) some)) (some (.inr (.inl (y12837,more12838))))
def zbv.k199 (a12839:Nat) (y13413:List Int) (more13414:Bool):Option ((List Int×Bool×Nat)⊕((List Int×Bool)⊕((List Int×Bool)⊕(List Int⊕(List Int×Bool))))) :=
 chk (inR ((↑a12839:Int)+1)) (some (.inl (y13413,more13414,(a12839+1))))
def zbv.s200 (p_:zaa) (y12837:List Int) (more12838:Bool) (a12839:Nat):Option ((List Int×Bool×Nat)⊕((List Int×Bool)⊕((List Int×Bool)⊕(List Int⊕(List Int×Bool))))) :=
 cond (decide ((↑a12839:Int)<p_.Inputs)) (chk ((0:Int)≤(↑(List.length p_.Next):Int)∧(↑(List.length p_.Next):Int)≤(↑(List.length p_.Next):Int)∧capOk (Int.toNat (↑(List.length p_.Next):Int)) 8) ((iter (fun (s:List Int×Nat)=>zbv.s196 p_ s.1 s.2) fuel ((List.replicate (List.length p_.Next) (0:Int)),0):Option (List Int)).bind (fun (y13228:List Int)=>(iter (fun (s:List Int×Nat)=>zbv.s198 p_ y12837 more12838 a12839 s.1 s.2) fuel (y13228,0):Option ((List Int×Bool)⊕((List Int×Bool×Nat)⊕((List Int×Bool)⊕((List Int×Bool)⊕(List Int⊕(List Int×Bool))))))).bind (Sum.elim (fun (s:List Int×Bool)=>zbv.k199 a12839 s.1 s.2) some)))) (some (.inr (.inl (y12837,more12838))))
def zbv.k201 (y12463:List Int) (more12464:Bool):Option ((List Int×Bool)⊕(List Int⊕(List Int×Bool))) :=
 some (.inl (y12463,more12464))
def zbv.s202 (p_:zaa) (y9084:List Int) (more9085:Bool):Option ((List Int×Bool)⊕(List Int⊕(List Int×Bool))) :=
 cond (more9085) ((iter (fun (s:List Int×Bool×Nat)=>zbv.s200 p_ s.1 s.2.1 s.2.2) fuel (y9084,false,0):Option ((List Int×Bool)⊕((List Int×Bool)⊕(List Int⊕(List Int×Bool))))).bind (Sum.elim (fun (s:List Int×Bool)=>zbv.k201 s.1 s.2) some)) (some (.inr (.inl y9084)))
def zbv (p_:zaa) (s_:Int) (t_:Int):Option (List Int×Bool) :=
 chk ((0:Int)≤(↑(List.length p_.Next):Int)∧(↑(List.length p_.Next):Int)≤(↑(List.length p_.Next):Int)∧capOk (Int.toNat (↑(List.length p_.Next):Int)) 8) ((iter (fun (s:List Int×Nat)=>zbv.s2 p_ s.1 s.2) fuel ((List.replicate (List.length p_.Next) (0:Int)),0):Option (List Int)).bind (fun (y63:List Int)=>(R35_join y63 s_ t_).bind fun c75=>(iter (fun (s:List Int×Bool)=>zbv.s202 p_ s.1 s.2) fuel (c75,true):Option (List Int⊕(List Int×Bool))).bind (Sum.elim (fun (y6833:List Int)=>some (y6833,true)) some)))
def zda.k53 (r1522:Nat) (y1578:Int) (y1579:Int) (y1580:List (List Int)) (y1581:List (List Int)) (y1582:List Bool) (done1583:Bool):Option ((Int×Int×List (List Int)×List (List Int)×List Bool×Bool×Nat)⊕(Int×Int×List (List Int)×List (List Int)×List Bool×Bool)) :=
 chk (inR ((↑r1522:Int)+1)) (some (.inl (y1578,y1579,y1580,y1581,y1582,done1583,(r1522+1))))
def zda.s54 (y1097:List Int) (y1516:Int) (y1517:Int) (y1518:List (List Int)) (y1519:List (List Int)) (y1520:List Bool) (done1521:Bool) (r1522:Nat):Option ((Int×Int×List (List Int)×List (List Int)×List Bool×Bool×Nat)⊕(Int×Int×List (List Int)×List (List Int)×List Bool×Bool)) :=
 (cond (decide ((↑r1522:Int)<(↑(List.length y1520):Int))) (some (!done1521)) (some false):Option (Bool)).bind (fun (y1563:Bool)=>cond (y1563) ((idxn y1520 r1522 fun e1584=>cond ((!e1584)) (some (y1516,y1517,y1518,y1519,y1520,done1521)) (idxn y1097 0 fun e1586=>(zbv (⟨y1516,y1517,y1518,y1519⟩:zaa) (↑r1522:Int) e1586).bind fun c1587=>cond (c1587.2) ((zbj (⟨y1516,y1517,y1518,y1519⟩:zaa) c1587.1).bind fun c1589=>(R35_Reds y1520 c1587.1 c1589.2).bind fun c1590=>some (c1589.1.Inputs,c1589.1.Start,c1589.1.Next,c1589.1.Out,c1590,true)) (some (y1516,y1517,y1518,y1519,y1520,done1521))):Option (Int×Int×List (List Int)×List (List Int)×List Bool×Bool)).bind (fun (s:Int×Int×List (List Int)×List (List Int)×List Bool×Bool)=>zda.k53 r1522 s.1 s.2.1 s.2.2.1 s.2.2.2.1 s.2.2.2.2.1 s.2.2.2.2.2)) (some (.inr (y1516,y1517,y1518,y1519,y1520,done1521))))
def zda.k55 (y1097:List Int) (y1475:Int) (y1476:Int) (y1477:List (List Int)) (y1478:List (List Int)) (y1479:List Bool) (done1480:Bool):Option ((Int×Int×List (List Int)×List (List Int)×List Bool×List Int)⊕(Int×Int×List (List Int)×List (List Int))) :=
 cond ((!done1480)) (idxn y1097 0 fun e1605=>idx y1479 e1605 fun e1606=>(R35_Blue (⟨y1475,y1476,y1477,y1478⟩:zaa) (List.set y1479 e1605.toNat true)).bind fun c1607=>some (.inl (y1475,y1476,y1477,y1478,(List.set y1479 e1605.toNat true),c1607))) ((R35_Blue (⟨y1475,y1476,y1477,y1478⟩:zaa) y1479).bind fun c1608=>some (.inl (y1475,y1476,y1477,y1478,y1479,c1608)))
def zda.s56 (y1092:Int) (y1093:Int) (y1094:List (List Int)) (y1095:List (List Int)) (y1096:List Bool) (y1097:List Int):Option ((Int×Int×List (List Int)×List (List Int)×List Bool×List Int)⊕(Int×Int×List (List Int)×List (List Int))) :=
 cond (decide (0<(↑(List.length y1097):Int))) ((iter (fun (s:Int×Int×List (List Int)×List (List Int)×List Bool×Bool×Nat)=>zda.s54 y1097 s.1 s.2.1 s.2.2.1 s.2.2.2.1 s.2.2.2.2.1 s.2.2.2.2.2.1 s.2.2.2.2.2.2) fuel (y1092,y1093,y1094,y1095,y1096,false,0):Option (Int×Int×List (List Int)×List (List Int)×List Bool×Bool)).bind (fun (s:Int×Int×List (List Int)×List (List Int)×List Bool×Bool)=>zda.k55 y1097 s.1 s.2.1 s.2.2.1 s.2.2.2.1 s.2.2.2.2.1 s.2.2.2.2.2)) (some (.inr (y1092,y1093,y1094,y1095)))
def zda.k57 (y833:Int) (y834:Int) (y835:List (List Int)) (y836:List (List Int)):Option (zaa×Int) :=
 some ((⟨y833,y834,y835,y836⟩:zaa),0)
def zda (o_:zal):Option (zaa×Int) :=
 (R35_Tree o_).bind fun c51=>cond (decide (c51.2≠0)) (some ((⟨0,0,[],[]⟩:zaa),c51.2)) (chk ((0:Int)≤(↑(List.length c51.1.Next):Int)∧(↑(List.length c51.1.Next):Int)≤(↑(List.length c51.1.Next):Int)∧capOk (Int.toNat (↑(List.length c51.1.Next):Int)) 1) (idxn (List.replicate (List.length c51.1.Next) false) 0 fun e54=>(R35_Blue c51.1 (List.set (List.replicate (List.length c51.1.Next) false) 0 true)).bind fun c55=>(iter (fun (s:Int×Int×List (List Int)×List (List Int)×List Bool×List Int)=>zda.s56 s.1 s.2.1 s.2.2.1 s.2.2.2.1 s.2.2.2.2.1 s.2.2.2.2.2) fuel (c51.1.Inputs,c51.1.Start,c51.1.Next,c51.1.Out,(List.set (List.replicate (List.length c51.1.Next) false) 0 true),c55):Option (Int×Int×List (List Int)×List (List Int))).bind (fun (s:Int×Int×List (List Int)×List (List Int))=>zda.k57 s.1 s.2.1 s.2.2.1 s.2.2.2)))
def zba.s2 (o_:zal) (c62:zaa×Int) (c63:zaa×Int) (c90:zaa×Bool×Int) (j280:Nat):Option (Nat⊕(Unit⊕Bool)) :=
 cond (decide ((↑j280:Int)<(↑(List.length o_.Traces):Int))) (idxn o_.Traces j280 fun e324=>(zb3 c62.1 e324.In).bind fun c325=>idxn o_.Traces j280 fun e326=>(zb3 c63.1 e326.In).bind fun c327=>idxn o_.Traces j280 fun e328=>(zb3 c90.1 e328.In).bind fun c329=>(cond ((!c325.2)) (some true) (idxn o_.Traces j280 fun e346=>(R01_Same c325.1 e346.Out).bind fun c347=>cond ((!c347)) (some true) (cond ((!c327.2)) (some true) (idxn o_.Traces j280 fun e350=>(R01_Same c327.1 e350.Out).bind fun c351=>cond ((!c351)) (some true) (cond (c90.2.1) (cond ((!c329.2)) (some true) (idxn o_.Traces j280 fun e355=>(R01_Same c329.1 e355.Out).bind fun c356=>some (!c356))) (some false))))):Option (Bool)).bind (fun (y344:Bool)=>cond (y344) (some (.inr (.inr false))) (some (.inl (j280+1))))) (some (.inr (.inl ())))
def zba (o_:zal) (s_:Int) (t_:Int):Option (Bool) :=
 ((zcu o_).bind fun c57=>cond (c57) (some true) ((zcv o_).bind fun c59=>some (decide (c59≠0))):Option (Bool)).bind (fun (y56:Bool)=>cond (y56) ((ze9).bind fun c61=>some c61) ((zao o_).bind fun c62=>(zbc o_).bind fun c63=>(cond (decide (c62.2≠0)) (some true) (cond (decide (c63.2≠0)) (some true) ((za9 c62.1).bind fun c76=>cond (decide (c76≠0)) (some true) ((za9 c63.1).bind fun c78=>cond (decide (c78≠0)) (some true) (cond (decide ((↑(List.length c62.1.Next):Int)<(↑(List.length c63.1.Next):Int))) (some true) (some (decide ((↑(List.length c62.1.Next):Int)=0))))))):Option (Bool)).bind (fun (y73:Bool)=>cond (y73) (some false) (chk (inR s_) (chk (inR (s_%(↑(List.length c62.1.Next):Int))∧(0:Int)≤s_∧(1:Int)≤(↑(List.length c62.1.Next):Int)) (chk (inR t_) (chk (inR (t_%(↑(List.length c62.1.Next):Int))∧(0:Int)≤t_∧(1:Int)≤(↑(List.length c62.1.Next):Int)) ((zds c62.1 (s_%(↑(List.length c62.1.Next):Int)) (t_%(↑(List.length c62.1.Next):Int))).bind fun c90=>(cond (decide (c90.2.2≠0)) (some true) (cond (c90.2.1) (cond (decide ((s_%(↑(List.length c62.1.Next):Int))≠(t_%(↑(List.length c62.1.Next):Int)))) (some (decide ((↑(List.length c62.1.Next):Int)≤(↑(List.length c90.1.Next):Int)))) (some false)) (some false)):Option (Bool)).bind (fun (y96:Bool)=>cond (y96) (some false) ((iter (fun (s:Nat)=>zba.s2 o_ c62 c63 c90 s) fuel 0:Option (Unit⊕Bool)).bind (Sum.elim (fun (_:Unit)=>(ze9).bind fun c370=>some c370) some)))))))))))
end Go.Proofs.YteigfkncoiiaiaaGreatDoor.Sym

/-
 Laws of rounds: what a loop comes to, in plain words. No program in sight.
-/
namespace Go.Proofs.YteigfkncoiiaiaaGreatDoor.Sym
section
variable {S R A B α β:Type}
theorem za3 {step:S→Option (S⊕R)} (I:S→Prop) (m:S→Nat) (Q:R→Prop) (h:∀ s,I s→(∃ s',step s=some (.inl s')∧I s'∧m s'<m s)∨∃ r,step s=some (.inr r)∧Q r) :
  ∀ (n:Nat) (s:S),I s→m s<n→∃ r,iter step n s=some r∧Q r
 | 0,_,_,hm=>absurd hm (Nat.not_lt_zero _)
 | n+1,s,hi,hm=>by
  unfold iter
  rcases h s hi with ⟨s',e,hi',hm'⟩ | ⟨r,e,hq⟩
  ·rw [e]
   exact za3 I m Q h n s' hi' (by omega)
  ·rw [e]
   exact ⟨r,rfl,hq⟩
theorem iter_eq {step:S→Option (S⊕R)} {r:R} (I:S→Prop) (m:S→Nat) (h:∀ s,I s→(∃ s',step s=some (.inl s')∧I s'∧m s'<m s)∨step s=some (.inr r)) {n:Nat} {s:S} (hi:I s) (hm:m s<n):iter step n s=some r:=by
 obtain ⟨r',e,rfl⟩:=za3 I m (fun r'=>r'=r) (fun s hs=>(h s hs).imp id fun e=>⟨r,e,rfl⟩) n s hi hm
 exact e
def walk (g:A→Nat→α→Option (A⊕R)) (fin:A→Option R):A→Nat→List α→Option R
 | a,_,[]=>fin a
 | a,i,x::l=>(g a i x).bind (Sum.elim (fun a'=>walk g fin a' (i+1) l) some)
theorem idxn_at {l:List α} {i:Nat} {x:α} {k:α→Option β} (h:l[i]?=some x):idxn l i k=k x:=by unfold idxn;rw [h]
theorem idx_at {l:List α} {n:Int} {i:Nat} {x:α} {k:α→Option β} (hn:n=(i:Int)) (h:l[i]?=some x):idx l n k=k x:=by
 subst hn
 unfold idx
 rw [if_pos (by omega),Int.toNat_natCast,h]
theorem chk_pos {c:Prop} [Decidable c] {k:Option α} (h:c):chk c k=k:=by unfold chk;rw [if_pos h]
theorem obind {a:α} {f:α→Option β}:(some a).bind f=f a:=(Option.bind_some a f).trans (Eq.trans rfl rfl)
theorem fuel_big:100000000000000<fuel:=by unfold fuel;omega
theorem dec_lt {l:List α} {i:Nat} {x:α} (h:l[i]?=some x):decide ((↑i:Int)<(↑l.length:Int))=true:=by
 have:=(List.getElem?_eq_some_iff.1 h).1
 simpa using this
theorem dec_end (l:List α):decide ((↑l.length:Int)<(↑l.length:Int))=false:=by simp
def scan (g:Nat→α→Option R):Nat→List α→Option R
 | _,[]=>none
 | i,x::l=>match g i x with | some r=>some r | none=>scan g (i+1) l
theorem zfc {g:Nat→α→Option R}:∀ {l:List α} {j:Nat},scan g j l=none↔∀ i x,l[i]?=some x→g (j+i) x=none
 | [],j=>by simp [scan]
 | y::l,j=>by
  constructor
  ·intro h i x hx
   unfold scan at h
   cases e:g j y with
   | some r=>rw [e] at h;cases h
   | none =>
    rw [e] at h
    match i,hx with
    | 0,hx =>
     simp at hx
     subst hx
     exact e
    | i+1,hx =>
     have:=(zfc (g:=g) (l:=l) (j:=j+1)).1 h i x (by simpa using hx)
     rwa [show j+1+i=j+(i+1) by omega] at this
  ·intro h
   unfold scan
   have h0:=h 0 y rfl
   rw [Nat.add_zero] at h0
   rw [h0]
   exact (zfc (g:=g) (l:=l) (j:=j+1)).2 fun i x hx=>by
    have:=h (i+1) x (by simpa using hx)
    rwa [show j+(i+1)=j+1+i by omega] at this
theorem zdj {step:Nat→Option (Nat⊕(Unit⊕R))} {l:List α} (g:Nat→α→Option R) (h1:∀ i x,l[i]?=some x→step i=some (match g i x with | some r=>.inr (.inr r) | none=>.inl (i+1))) (h2:step l.length=some (.inr (.inl ()))) (hl:l.length≤100000000000000) :
  iter step fuel 0=some (match scan g 0 l with | some r=>.inr r | none=>.inl ()):=by
 have key:∀ (n i:Nat),i≤l.length→l.length-i<n→iter step n i=some (match scan g i (l.drop i) with | some r=>.inr r | none=>.inl ()):=by
  intro n
  induction n with
  | zero=>intro i _ h;omega
  | succ n ih =>
   intro i hi hn
   rcases Nat.lt_or_ge i l.length with h | h
   ·rw [List.drop_eq_getElem_cons h]
    unfold iter scan
    rw [h1 i _ (List.getElem?_eq_getElem h)]
    cases g i l[i] with
    | some r=>rfl
    | none=>exact ih (i+1) h (by omega)
   ·have e:i=l.length:=by omega
    subst e
    rw [List.drop_length]
    unfold iter scan
    rw [h2]
 exact key fuel 0 (Nat.zero_le _) (by have:=fuel_big;omega)
end
end Go.Proofs.YteigfkncoiiaiaaGreatDoor.Sym

/-
 The comparisons of words are what they say; they may be handed to a sort.
-/
namespace Go.Proofs.YteigfkncoiiaiaaGreatDoor.Sym
open Go.RowKit
set_option maxRecDepth 100000
theorem zew (x y:Int):cmp_Compare_int x y=some (cmpI x y):=by
 unfold cmp_Compare_int cmp_isNaN_int cmpI
 by_cases h1:x<y
 ·simp [h1]
 ·by_cases h2:y<x<;>simp [h1,h2]
theorem zfq (s t:List Int) (hs:s.length≤100000000000000):zas s t=some (lexI s t):=by
 have key:=za3 (step:=fun k=>zas.s2 s t k) (fun k=>k≤s.length∧k≤t.length∧lexI s t=lexI (s.drop k) (t.drop k)) (fun k=>s.length-k)
  (fun r=>Sum.elim (fun (_:Unit)=>cond (decide ((↑(List.length s):Int)<(↑(List.length t):Int))) (some (-1:Int)) (some 0)) some r=some (lexI s t)) (fun k ⟨h1,h2,h3⟩=>by
   unfold zas.s2
   rcases Nat.lt_or_ge k s.length with h | h
   ·have hx:=List.getElem?_eq_getElem h
    rw [dec_lt hx,cond_true,idxn_at hx]
    by_cases h4:t.length≤k
    ·right
     refine ⟨.inr 1,by simp [h4],?_⟩
     rw [h3,lexI_long h h4]
     rfl
    ·have hy:=List.getElem?_eq_getElem (show k<t.length by omega)
     have hst:=lexI_step hx hy
     have d4:decide ((↑(List.length t):Int)≤(↑k:Int))=false:=by simp;omega
     rw [d4,cond_false,idxn_at hy,zew]
     by_cases h5:cmpI s[k] t[k]=0
     ·left
      rw [if_pos h5] at hst
      exact ⟨k+1,by simp [h5],⟨by omega,by omega,by rw [h3,hst]⟩,by omega⟩
     ·right
      rw [if_neg h5] at hst
      exact ⟨.inr (cmpI s[k] t[k]),by simp [h5],by rw [h3,hst];rfl⟩
   ·right
    have e:k=s.length:=by omega
    subst e
    rw [dec_end,cond_false]
    refine ⟨.inl (),rfl,?_⟩
    rw [h3,lexI_end (Nat.le_refl _)]
    by_cases h4:s.length<t.length<;>simp [h4]) fuel 0 ⟨Nat.zero_le _,Nat.zero_le _,rfl⟩ (by have:=fuel_big;simp only [Nat.sub_zero];omega)
 obtain ⟨r,e,hq⟩:=key
 unfold zas
 rw [e]
 exact hq
theorem cmp_Or_two (x y:Int):zb8 [x,y]=some (if x≠0 then x else y):=by
 unfold zb8
 have e:fuel=(fuel-3)+1+1+1:=by unfold fuel;omega
 rw [e]
 by_cases h1:x=0
 ·by_cases h2:y=0
  ·simp [iter,zb8.s2,idxn,h1,h2]
  ·simp [iter,zb8.s2,idxn,h1,h2]
 ·simp [iter,zb8.s2,idxn,h1]
theorem zhf (s t:List Int) (hs:s.length≤100000000000000):word_Lex s t=some (lexI s t):=by
 unfold word_Lex
 rw [zfq s t hs]
 rfl
theorem zf7 (s t:List Int) (hs:s.length≤100000000000000):zcg s t=some (cmpW s t):=by
 unfold zcg
 rw [zfq s t hs,zew]
 show (zb8 [cmpI s.length t.length,lexI s t]).bind some=_
 rw [cmp_Or_two]
 show some _=some _
 congr 1
 unfold cmpI cmpW
 by_cases h1:s.length<t.length
 ·simp [h1]
 ·by_cases h2:t.length<s.length
  ·simp [h1,h2]
  ·simp [h1,h2]
theorem cmpE_word_Lex:CmpE Tryz.prog 99 (fun x=>nL cI x) (fun x y=>word_Lex x y) :=
 ⟨fun args w=>zcp rfl rfl rfl args w,cmpG_lex fun x y r hx h=>by rw [zhf x y (by omega)] at h;injection h with h;exact h.symm⟩
theorem zfl:CmpE Tryz.prog 96 (fun x=>nL cI x) (fun x y=>zcg x y) :=
 ⟨fun args w=>zcp rfl rfl rfl args w,cmpG_compare fun x y r hx h=>by rw [zf7 x y (by omega)] at h;injection h with h;exact h.symm⟩
theorem zhd:CmpE Tryz.prog 110 (fun x=>.agg (zaj x)) (fun x y=>zbx x y) :=
 ⟨fun args w=>zcp rfl rfl rfl args w,cmpG_fits1 (T:=zae) (i:=fun x=>x.In) (o:=fun x=>x.Out) (f:=fun x y=>zbx x y) (fun _=>rfl) fun x y r hx h=>by
  simp only [zbx] at h
  rw [zhf _ _ (by omega)] at h
  injection h with h
  exact h.symm⟩
end Go.Proofs.YteigfkncoiiaiaaGreatDoor.Sym

/-
 What the basic functions on words come to: plain laws.
-/
namespace Go.Proofs.YteigfkncoiiaiaaGreatDoor.Sym
set_option maxRecDepth 100000
section
variable {α β R:Type}
theorem get_at {l:List α} {i:Nat} (h:i<l.length):l[i]?=some l[i]:=List.getElem?_eq_getElem h
end
def SmW (x:List Int):Prop:=x.length≤2000000
def SmL (l:List (List Int)):Prop:=l.length≤2000000∧∀ x∈l,SmW x
theorem R01_Size_eq (n:Int):R01_Size n=some (decide (1≤n∧n≤1024)):=by
 unfold R01_Size
 by_cases h1:1≤n<;>by_cases h2:n≤1024<;>simp [h1,h2]
theorem zix (n:Int):zc9 n=some (decide (1≤n∧n≤1024)):=by
 unfold zc9
 by_cases h1:1≤n<;>by_cases h2:n≤1024<;>simp [h1,h2]
theorem scan_all {α R:Type} {p:α→Bool} {r:R}:∀ (l:List α) (j:Nat),scan (fun _ x=>if p x=true then none else some r) j l=if l.all p=true then none else some r
 | [],_=>rfl
 | x::l,j=>by
  unfold scan
  by_cases h:p x=true
  ·simp only [h,if_true,List.all_cons,Bool.true_and]
   exact scan_all l (j+1)
  ·simp [h]
theorem ziz (w:List Int) (n:Int) (hl:SmW w):zcl w n=some (checkI w n):=by
 unfold zcl checkI
 rw [R01_Size_eq]
 by_cases h1:1≤n∧n≤1024
 ·rw [if_pos h1]
  simp only [Option.bind_some,h1,and_self,decide_true,Bool.not_true,cond_false]
  by_cases h2:1024<w.length
  ·rw [if_pos h2,show decide ((1024:Int)<(↑(List.length w):Int))=true from decide_eq_true (by omega),cond_true]
  ·rw [if_neg h2,show decide ((1024:Int)<(↑(List.length w):Int))=false from decide_eq_false (by omega),cond_false]
   have key:=zdj (step:=fun s=>zcl.s2 w n s) (l:=w) (fun _ x=>if decide (0≤x∧x<n)=true then none else some (1:Int)) (fun i x hx=>by
    simp only [zcl.s2]
    rw [dec_lt hx,cond_true,idxn_at hx,idxn_at hx]
    by_cases a1:x<0
    ·simp [a1,show ¬ (0≤x) by omega]
    ·by_cases a2:n≤x
     ·simp [a1,a2,show ¬ (x<n) by omega]
     ·simp [a1,a2,show 0≤x by omega,show x<n by omega]) (by
    simp only [zcl.s2]
    rw [dec_end]
    rfl) (by unfold SmW at hl;omega)
   rw [key,scan_all (p:=fun x=>decide (0≤x∧x<n))]
   by_cases h:(w.all fun x=>decide (0≤x∧x<n))=true
   ·rw [if_pos h,if_pos h];rfl
   ·rw [if_neg h,if_neg h];rfl
 ·rw [if_neg h1]
  simp [h1]
theorem zib (w:List Int) (n:Int) (hl:SmW w):zee w n=some (checkI w n):=by
 unfold zee checkI zbq zan
 rw [zix]
 by_cases h1:1≤n∧n≤1024
 ·rw [if_pos h1]
  simp only [Option.bind_some,h1,and_self,decide_true,Bool.not_true,cond_false]
  by_cases h2:1024<w.length
  ·rw [if_pos h2,show decide ((1024:Int)<(↑(List.length w):Int))=true from decide_eq_true (by omega),cond_true]
  ·rw [if_neg h2,show decide ((1024:Int)<(↑(List.length w):Int))=false from decide_eq_false (by omega),cond_false]
   have key:=zdj (step:=fun s=>zan.s2 w (fun u0=>zdh u0 n) s) (l:=w) (fun i x=>if decide (0≤x∧x<n)=true then none else some (i:Int)) (fun i x hx=>by
    simp only [zan.s2,zdh]
    rw [dec_lt hx,cond_true,idxn_at hx]
    by_cases a1:x<0
    ·simp [a1,show ¬ (0≤x) by omega]
    ·by_cases a2:n≤x
     ·simp [a1,a2,show ¬ (x<n) by omega]
     ·simp [a1,a2,show 0≤x by omega,show x<n by omega]) (by
    simp only [zan.s2]
    rw [dec_end]
    rfl) (by unfold SmW at hl;omega)
   rw [key]
   cases e:scan (fun i x=>if decide (0≤x∧x<n)=true then none else some (i:Int)) 0 w with
   | none =>
    have h3:=zfc.1 e
    have h:(w.all fun x=>decide (0≤x∧x<n))=true:=List.all_eq_true.2 fun x hx=>by
     obtain ⟨i,hi,rfl⟩:=List.mem_iff_getElem.1 hx
     have:=h3 i _ (get_at hi)
     split at this
     ·assumption
     ·cases this
    rw [if_pos h]
    simp
   | some r =>
    have h:¬ (w.all fun x=>decide (0≤x∧x<n))=true:=fun h=>by
     have:scan (fun i x=>if decide (0≤x∧x<n)=true then none else some (i:Int)) 0 w=none:=zfc.2 fun i x hx=>if_pos (List.all_eq_true.1 h x (List.mem_of_getElem? hx))
     rw [this] at e
     cases e
    have hr:0≤r:=by
     have key:∀ (l:List Int) (j:Nat),scan (fun i x=>if decide (0≤x∧x<n)=true then none else some (i:Int)) j l=some r→0≤r:=by
      intro l
      induction l with
      | nil=>intro j h;cases h
      | cons x l ih =>
       intro j h
       unfold scan at h
       split at h
       ·rename_i r' h3
        injection h with h
        subst h
        split at h3
        ·cases h3
        ·injection h3 with h3
         omega
       ·exact ih _ h
     exact key w 0 e
    rw [if_neg h]
    simp [hr]
 ·rw [if_neg h1]
  simp [h1]
theorem zeb (a b:List Int) (ha:SmW a):zb9 a b=some (common a b:Int):=by
 unfold zb9
 rw [iter_eq (r:=common a b) (fun k=>k≤a.length∧common a b=common (a.drop k) (b.drop k)+k) (fun k=>a.length-k) (fun k ⟨h1,h2⟩=>?_) ⟨Nat.zero_le _,by simp⟩ (by have:=fuel_big;unfold SmW at ha;omega)]
 ·rfl
 ·simp only [zb9.s2]
  rcases Nat.lt_or_ge k a.length with h | h
  ·have hx:=get_at h
   rcases Nat.lt_or_ge k b.length with h' | h'
   ·have hy:=get_at h'
    rw [dec_lt hx,dec_lt hy,cond_true,cond_true,idxn_at hx,idxn_at hy]
    rw [List.drop_eq_getElem_cons h,List.drop_eq_getElem_cons h'] at h2
    by_cases e:a[k]=b[k]
    ·left
     unfold SmW at ha
     refine ⟨k+1,?_,⟨h,?_⟩,by omega⟩
     ·rw [chk_pos (by unfold inR;omega)]
      simp [e]
     ·rw [h2,e]
      simp [common]
      omega
    ·right
     simp only [common,e,if_false,Nat.zero_add] at h2
     simp [e,h2]
   ·right
    rw [dec_lt hx,cond_true,show decide ((↑k:Int)<(↑(List.length b):Int))=false by simp;omega]
    rw [zis (Or.inr h'),Nat.zero_add] at h2
    simp [h2]
  ·right
   rw [show decide ((↑k:Int)<(↑(List.length a):Int))=false by simp;omega]
   rw [zis (Or.inl h),Nat.zero_add] at h2
   simp [h2]
theorem R01_Same_eq (a b:List Int) (ha:SmW a):R01_Same a b=some (decide (a=b)):=by
 unfold R01_Same
 rw [zeb a b ha]
 have h:=same_iff a b
 by_cases h1:a.length=b.length
 ·rw [show decide ((↑(List.length a):Int)=(↑(List.length b):Int))=true from decide_eq_true (by omega),cond_true]
  by_cases h2:common a b=a.length
  ·have:a=b:=h.1 ⟨h1,h2⟩
   subst this
   simp [zhk]
  ·have:a≠b:=fun e=>h2 (h.2 e).2
   simp only [Option.bind_some,this,decide_false]
   rw [decide_eq_false (by omega)]
 ·have:a≠b:=fun e=>h1 (by rw [e])
  rw [show decide ((↑(List.length a):Int)=(↑(List.length b):Int))=false from decide_eq_false (by omega),cond_false]
  simp [this]
theorem R01_Lex_eq (a b:List Int) (ha:SmW a):R01_Lex a b=some (lexI a b):=by
 unfold R01_Lex
 rw [zeb a b ha]
 have hle:=zfa a b
 have hlc:=zkh a b
 rw [hlc]
 simp only [Option.bind_some]
 by_cases h1:common a b=a.length
 ·rw [show decide ((↑(common a b):Int)=↑a.length)=true from decide_eq_true (by omega),cond_true,cond_true]
  by_cases h2:common a b=b.length
  ·rw [show decide ((↑(common a b):Int)=↑b.length)=true from decide_eq_true (by omega),if_pos ⟨h1,h2⟩]
   rfl
  ·rw [show decide ((↑(common a b):Int)=↑b.length)=false from decide_eq_false (by omega),if_neg (fun h=>h2 h.2),if_pos (Or.inl h1)]
   rfl
 ·rw [show decide ((↑(common a b):Int)=↑a.length)=false from decide_eq_false (by omega),cond_false,cond_false,if_neg (fun h=>h1 h.1)]
  by_cases h2:common a b=b.length
  ·rw [show decide ((↑(common a b):Int)<(↑(List.length b):Int))=false from decide_eq_false (by omega),if_neg (fun h=>by omega)]
   rfl
  ·have hx:=get_at (l:=a) (i:=common a b) (by omega)
   have hy:=get_at (l:=b) (i:=common a b) (by omega)
   rw [show decide ((↑(common a b):Int)<(↑(List.length b):Int))=true from decide_eq_true (by omega),cond_true,idx_at rfl hx,idx_at rfl hy]
   rw [List.getD_eq_getElem?_getD,List.getD_eq_getElem?_getD,hx,hy]
   by_cases h3:a[common a b]'(by omega)<b[common a b]'(by omega)
   ·rw [if_pos (Or.inr ⟨by omega,h3⟩)]
    simp [h3]
   ·rw [if_neg (fun h=>by
     rcases h with h | ⟨_,h⟩
     ·omega
     ·exact h3 h)]
    simp [h3]
theorem zk0 (a b:List Int) (ha:SmW a):zdw a b=some (cmpW a b):=by
 unfold zdw cmpW
 rw [R01_Lex_eq a b ha]
 by_cases h1:a.length<b.length
 ·rw [show decide ((↑(List.length a):Int)<(↑(List.length b):Int))=true from decide_eq_true (by omega),if_pos h1]
  rfl
 ·rw [show decide ((↑(List.length a):Int)<(↑(List.length b):Int))=false from decide_eq_false (by omega),if_neg h1,cond_false]
  by_cases h2:b.length<a.length
  ·rw [show decide ((↑(List.length b):Int)<(↑(List.length a):Int))=true from decide_eq_true (by omega),if_pos h2]
   rfl
  ·rw [show decide ((↑(List.length b):Int)<(↑(List.length a):Int))=false from decide_eq_false (by omega),if_neg h2]
   rfl
end Go.Proofs.YteigfkncoiiaiaaGreatDoor.Sym

/-
 Tables: the first one, and what makes a table valid: the program's answer and the document's are one plain number.
-/
namespace Go.Proofs.YteigfkncoiiaiaaGreatDoor.Sym
set_option maxRecDepth 100000
section
variable {κ ν:Type} [BEq κ]
theorem zhc {k:κ} {v:ν} (hb:∀ a b:κ,(a==b)=true↔a=b):∀ m:List (κ×ν),mget k (mset k v m)=some v
 | []=>by
  unfold mset mget
  rw [(hb k k).2 rfl]
 | p::m=>by
  unfold mset
  cases h:k==p.1 with
  | true =>
   show mget k ((k,v)::m)=_
   unfold mget
   rw [(hb k k).2 rfl]
  | false =>
   show mget k (p::mset k v m)=_
   unfold mget
   rw [h]
   exact zhc hb m
theorem zgt {k k':κ} {v:ν} (hb:∀ a b:κ,(a==b)=true↔a=b) (hne:¬ k'=k):∀ m:List (κ×ν),mget k' (mset k v m)=mget k' m
 | []=>by
  have e:(k'==k)=false:=by
   cases e:k'==k with
   | true=>exact absurd ((hb _ _).1 e) hne
   | false=>rfl
  unfold mset mget
  simp only [e]
  rfl
 | p::m=>by
  unfold mset
  cases h:k==p.1 with
  | true =>
   have e1:k=p.1:=(hb _ _).1 h
   show mget k' ((k,v)::m)=mget k' (p::m)
   have e:(k'==k)=false:=by
    cases e:k'==k with
    | true=>exact absurd ((hb _ _).1 e) hne
    | false=>rfl
   unfold mget
   rw [← e1]
   simp only [e]
  | false =>
   show mget k' (p::mset k v m)=mget k' (p::m)
   unfold mget
   rw [zgt hb hne m]
end
def SmT (t:zkq):Prop:=inR t.Inputs∧SmL t.Prefixes∧SmL t.Suffixes∧∀ x∈t.Prefixes,∀ a∈x,inR a
end Go.Proofs.YteigfkncoiiaiaaGreatDoor.Sym

/-
 The examples of the chapter, reckoned.
-/
namespace Go.Proofs.YteigfkncoiiaiaaGreatDoor.Sym
set_option maxRecDepth 100000
end Go.Proofs.YteigfkncoiiaiaaGreatDoor.Sym

/-
 Tables: the program's own checks, the first table, and the law of both.
-/
namespace Go.Proofs.YteigfkncoiiaiaaGreatDoor.Sym
set_option maxRecDepth 100000
end Go.Proofs.YteigfkncoiiaiaaGreatDoor.Sym

/-
 Sorted lists of words, duplicates struck: plain laws.
-/
namespace Go.Proofs.YteigfkncoiiaiaaGreatDoor
structure TotalCmp (cf:List Int→List Int→Int):Prop where
 range:∀ a b,cf a b=-1∨cf a b=0∨cf a b=1
 zero:∀ a b,cf a b=0↔a=b
 swap:∀ a b,cf b a=- cf a b
 trans:∀ a b c,cf a b=-1→cf b c=-1→cf a c=-1
end Go.Proofs.YteigfkncoiiaiaaGreatDoor

/-
 Prefixes, suffixes and maximal words: plain laws.
-/
namespace Go.Proofs.YteigfkncoiiaiaaGreatDoor
def prefixes (x:List Int):List (List Int):=(List.range (x.length+1)).map x.take
def suffixes (x:List Int):List (List Int):=(List.range (x.length+1)).map x.drop
def preL (l:List (List Int)):List (List Int):=l.flatMap prefixes
theorem zgq (x:List Int):(prefixes x).length=x.length+1:=by simp [prefixes]
end Go.Proofs.YteigfkncoiiaiaaGreatDoor

/-
 What the functions on lists of words come to: plain laws.
-/
namespace Go.Proofs.YteigfkncoiiaiaaGreatDoor.Sym
set_option maxRecDepth 100000
end Go.Proofs.YteigfkncoiiaiaaGreatDoor.Sym

/-
 Tables that grow: the program's Prefix and Suffix are the document's. Plain laws.
-/
namespace Go.Proofs.YteigfkncoiiaiaaGreatDoor.Sym
set_option maxRecDepth 100000
end Go.Proofs.YteigfkncoiiaiaaGreatDoor.Sym

/-
 Observations: what makes them valid, and their answers. Plain laws.
-/
namespace Go.Proofs.YteigfkncoiiaiaaGreatDoor.Sym
set_option maxRecDepth 100000
def SmO (o:zal):Prop:=o.Traces.length≤1100000∧∀ t∈o.Traces,t.In.length≤1100000∧t.Out.length≤2000000
theorem zjc (w p:List Int) (hw:SmW w):zc3 w p=some (decide (p <+: w)):=by
 unfold zc3
 rw [zeb w p hw,obind]
 congr 1
 exact decide_eq_decide.2 (by rw [← zgz w p];omega)
theorem ze5 (a b:List Int) (ha:SmW a):zbz a b=some (common a b:Int):=by
 have ha':a.length≤2000000:=ha
 have hle:=zfa a b
 unfold zbz
 have key:=za3 (step:=fun k=>zbz.s2 a b k) (fun k=>k≤a.length∧k≤b.length∧common a b=common (a.drop k) (b.drop k)+k) (fun k=>a.length-k) (fun r=>Sum.elim (fun (_:Unit)=>some (min (↑(List.length a):Int) (↑(List.length b):Int))) some r=some (common a b:Int)) (fun k ⟨h1,h2,h3⟩=>by
  simp only [zbz.s2]
  by_cases h4:k<a.length∧k<b.length
  ·have hx:=get_at h4.1
   have hy:=get_at h4.2
   rw [decide_eq_true (show (↑k:Int)<min (↑(List.length a):Int) (↑(List.length b):Int) by omega),cond_true,idxn_at hx,idxn_at hy]
   rw [List.drop_eq_getElem_cons h4.1,List.drop_eq_getElem_cons h4.2] at h3
   by_cases e:a[k]=b[k]
   ·left
    refine ⟨k+1,by simp [e],⟨h4.1,h4.2,?_⟩,by omega⟩
    rw [h3,e]
    simp [common]
    omega
   ·right
    simp only [common,e,if_false,Nat.zero_add] at h3
    exact ⟨.inr (k:Int),by simp [e],by rw [h3];rfl⟩
  ·right
   rw [decide_eq_false (by omega),cond_false]
   refine ⟨.inl (),rfl,?_⟩
   rw [zis (by omega),Nat.zero_add] at h3
   simp only [Sum.elim_inl]
   congr 1
   omega) fuel 0 ⟨Nat.zero_le _,Nat.zero_le _,by simp⟩ (by have:=fuel_big;omega)
 obtain ⟨r,e,hq⟩:=key
 rw [e]
 exact hq
theorem zff (w p:List Int) (hw:SmW w):zcm w p=some (decide (p <+: w)):=by
 unfold zcm
 rw [ze5 w p hw,obind]
 congr 1
 exact decide_eq_decide.2 (by rw [← zgz w p];omega)
def PropT (n:Int) (t:zae):Prop:=checkI t.In n=0∧t.Out.length=t.In.length∧∀ y∈t.Out,0≤y∧y≤1048576
theorem zky (t:zae) (n:Int) (h1:SmW t.In) (h2:SmW t.Out):∃ e,zci t n=some e∧(e=0→PropT n t):=by
 unfold zci
 rw [ziz _ _ h1,obind]
 by_cases g1:checkI t.In n=0
 ·rw [decide_eq_false (by simpa using g1),cond_false]
  by_cases g2:t.Out.length=t.In.length
  ·rw [decide_eq_false (by omega),cond_false]
   have key:=zdj (step:=fun s=>zci.s2 t s) (l:=t.Out) (fun _ y=>if decide (0≤y∧y≤1048576)=true then none else some (2:Int)) (fun i y hy=>by
    simp only [zci.s2]
    rw [dec_lt hy,cond_true,idxn_at hy,idxn_at hy]
    by_cases a1:y<0
    ·rw [decide_eq_true a1,cond_true,obind,cond_true,decide_eq_false (show ¬ (0≤y∧y≤1048576) by omega)];rfl
    ·by_cases a2:1048576<y
     ·rw [decide_eq_false a1,cond_false,decide_eq_true a2,obind,cond_true,decide_eq_false (show ¬ (0≤y∧y≤1048576) by omega)];rfl
     ·rw [decide_eq_false a1,cond_false,decide_eq_false a2,obind,cond_false,decide_eq_true (show (0≤y∧y≤1048576) by omega)];rfl) (by
    simp only [zci.s2]
    rw [dec_end]
    rfl) (by unfold SmW at h2;omega)
   rw [key,scan_all (p:=fun y=>decide (0≤y∧y≤1048576))]
   by_cases h:(t.Out.all fun y=>decide (0≤y∧y≤1048576))=true
   ·rw [if_pos h]
    exact ⟨0,rfl,fun _=>⟨g1,g2,fun y hy=>of_decide_eq_true (List.all_eq_true.1 h y hy)⟩⟩
   ·rw [if_neg h]
    exact ⟨2,rfl,fun e=>by cases e⟩
  ·rw [decide_eq_true (by omega),cond_true]
   exact ⟨1,rfl,fun e=>by cases e⟩
 ·rw [decide_eq_true g1,cond_true]
  exact ⟨_,rfl,fun e=>absurd e g1⟩
def Agree (a b:zae):Prop:=a.Out.take (common a.In b.In)=b.Out.take (common a.In b.In)
theorem zkz (a b:zae) {n:Int} (ha:PropT n a) (hb:PropT n b) (h1:SmW a.In):∃ d,zck a b=some d∧(¬ 0≤d→Agree a b):=by
 have h1':a.In.length≤2000000:=h1
 have hc:=zfa a.In b.In
 have la:=ha.2.1
 have lb:=hb.2.1
 unfold zck
 rw [zeb _ _ h1,obind]
 have key:=za3 (step:=fun k=>zck.s2 a b (↑(common a.In b.In):Int) k) (fun k=>k≤common a.In b.In∧a.Out.take k=b.Out.take k) (fun k=>common a.In b.In-k) (fun r=>match r with | .inl ()=>Agree a b | .inr d=>0≤d) (fun k ⟨g1,g2⟩=>by
  simp only [zck.s2]
  by_cases g3:k<common a.In b.In
  ·have hx:=get_at (l:=a.Out) (i:=k) (by omega)
   have hy:=get_at (l:=b.Out) (i:=k) (by omega)
   rw [decide_eq_true (by omega),cond_true,idxn_at hx,idxn_at hy]
   by_cases e:a.Out[k]'(by omega)=b.Out[k]'(by omega)
   ·left
    refine ⟨k+1,by rw [decide_eq_false (by simpa using e),cond_false,chk_pos (by unfold inR;omega)],⟨g3,?_⟩,by omega⟩
    rw [zfe hx,zfe hy,g2,e]
   ·right
    exact ⟨.inr (k:Int),by rw [decide_eq_true e,cond_true],by simp⟩
  ·right
   have e:k=common a.In b.In:=by omega
   subst e
   exact ⟨.inl (),by rw [decide_eq_false (by omega),cond_false],g2⟩) fuel 0 ⟨Nat.zero_le _,by simp⟩ (by have:=fuel_big;omega)
 obtain ⟨r,e,hq⟩:=key
 rw [e]
 cases r with
 | inl u=>exact ⟨-1,rfl,fun _=>hq⟩
 | inr d=>exact ⟨d,rfl,fun h=>absurd hq h⟩
structure ObsOk (o:zal):Prop where
 inp:1≤o.Inputs∧o.Inputs≤64
 num:o.Traces.length≤10000
 prop:∀ t∈o.Traces,PropT o.Inputs t∧t.In≠[]
 asc:∀ (i j:Nat) a b,i<j→o.Traces[i]?=some a→o.Traces[j]?=some b→cmpW a.In b.In=-1
 apart:∀ (i j:Nat) a b,i<j→o.Traces[i]?=some a→o.Traces[j]?=some b→¬ a.In <+: b.In∧Agree a b
theorem R16_apart_tot (o:zal) (ho:SmO o) (hp:∀ t∈o.Traces,PropT o.Inputs t):∃ e,zbk o=some e∧(e=0→∀ (i j:Nat) a b,i<j→o.Traces[i]?=some a→o.Traces[j]?=some b→¬ a.In <+: b.In∧Agree a b):=by
 obtain ⟨hl,hs⟩:=ho
 unfold zbk
 have inner:∀ (i:Nat) (a:zae),o.Traces[i]?=some a→∃ p c,iter (fun (s:Bool×Bool×Nat)=>zbk.s30 o i s.1 s.2.1 s.2.2) fuel (false,false,i+1)=some (p,c)∧(p=false→c=false→∀ j b,i<j→o.Traces[j]?=some b→¬ a.In <+: b.In∧Agree a b):=by
  intro i a ha
  have hi:=(List.getElem?_eq_some_iff.1 ha).1
  have ham:=List.mem_of_getElem? ha
  have key:=za3 (step:=fun (s:Bool×Bool×Nat)=>zbk.s30 o i s.1 s.2.1 s.2.2) (fun s=>i<s.2.2∧s.2.2≤o.Traces.length∧(s.1=false→s.2.1=false→∀ j b,i<j→j<s.2.2→o.Traces[j]?=some b→¬ a.In <+: b.In∧Agree a b)) (fun s=>o.Traces.length-s.2.2) (fun r=>r.1=false→r.2=false→∀ j b,i<j→o.Traces[j]?=some b→¬ a.In <+: b.In∧Agree a b) (fun s ⟨g1,g2,g3⟩=>by
   obtain ⟨p,c,k⟩:=s
   simp only at g1 g2 g3
   simp only [zbk.s30]
   by_cases g4:k<o.Traces.length
   ·left
    have hx:=get_at g4
    have hxm:=List.getElem_mem g4
    have sx:SmW o.Traces[k].In:=by have:=(hs _ hxm).1;unfold SmW;omega
    have sa:SmW a.In:=by have:=(hs _ ham).1;unfold SmW;omega
    obtain ⟨d,hd,hd2⟩:=zkz a o.Traces[k] (hp a ham) (hp _ hxm) sa
    have hc1:(cond p (some true) (idxn o.Traces k fun e743=>idxn o.Traces i fun e744=>(zc3 e743.In e744.In).bind fun c745=>some c745):Option Bool)=some (p||decide (a.In <+: o.Traces[k].In)):=by
     cases p with
     | true=>rfl
     | false =>
      rw [cond_false,idxn_at hx,idxn_at ha,zjc _ _ sx,obind]
      rfl
    rw [dec_lt hx,cond_true,hc1,obind]
    cases c with
    | true =>
     refine ⟨(p||decide (a.In <+: o.Traces[k].In),true,k+1),rfl,⟨by simp only;omega,by simp only;omega,fun _ h=>by cases h⟩,by simp only;omega⟩
    | false =>
     rw [cond_false,idxn_at ha,idxn_at hx,hd,obind]
     refine ⟨(p||decide (a.In <+: o.Traces[k].In),decide (0≤d),k+1),rfl,⟨by simp only;omega,by simp only;omega,fun h1 h2 j b hj1 hj2 hb=>?_⟩,by simp only;omega⟩
     simp only [Bool.or_eq_false_iff] at h1
     rcases Nat.lt_or_ge j k with h | h
     ·exact g3 h1.1 rfl j b hj1 h hb
     ·simp only at hj2
      have e:j=k:=by omega
      subst e
      rw [hx] at hb
      injection hb with hb
      subst hb
      exact ⟨of_decide_eq_false h1.2,hd2 (of_decide_eq_false h2)⟩
   ·right
    have e:k=o.Traces.length:=by omega
    refine ⟨(p,c),by rw [decide_eq_false (by omega),cond_false],fun h1 h2 j b hj hb=>g3 h1 h2 j b hj ?_ hb⟩
    have:=(List.getElem?_eq_some_iff.1 hb).1
    omega) fuel (false,false,i+1) ⟨by simp only;omega,by simp only;omega,fun _ _ j b h1 h2=>by simp only at h2;omega⟩ (by have:=fuel_big;simp only;omega)
  obtain ⟨⟨p,c⟩,e,hq⟩:=key
  exact ⟨p,c,e,hq⟩
 have key:=za3 (step:=fun i=>zbk.s32 o i) (fun i=>i≤o.Traces.length∧∀ i' j a b,i'<i→i'<j→o.Traces[i']?=some a→o.Traces[j]?=some b→¬ a.In <+: b.In∧Agree a b) (fun i=>o.Traces.length-i) (fun r=>match r with | .inl ()=>∀ (i j:Nat) a b,i<j→o.Traces[i]?=some a→o.Traces[j]?=some b→¬ a.In <+: b.In∧Agree a b | .inr e=>e≠0) (fun i ⟨g1,g2⟩=>by
  simp only [zbk.s32]
  by_cases g3:i<o.Traces.length
  ·have hx:=get_at g3
   obtain ⟨p,c,e,hq⟩:=inner i _ hx
   rw [dec_lt hx,cond_true,e,obind]
   simp only [zbk.k31]
   cases p with
   | true=>exact .inr ⟨.inr 7,rfl,(show (7:Int)≠0 by decide)⟩
   | false =>
    cases c with
    | true=>exact .inr ⟨.inr 13,rfl,(show (13:Int)≠0 by decide)⟩
    | false =>
     left
     refine ⟨i+1,rfl,⟨g3,fun i' j a b h1 h2 ha hb=>?_⟩,by omega⟩
     rcases Nat.lt_or_ge i' i with h | h
     ·exact g2 i' j a b h h2 ha hb
     ·have e:i'=i:=by omega
      subst e
      rw [hx] at ha
      injection ha with ha
      subst ha
      exact hq rfl rfl j b h2 hb
  ·right
   refine ⟨.inl (),by rw [decide_eq_false (by omega),cond_false],fun i' j a b h ha hb=>g2 i' j a b ?_ h ha hb⟩
   have:=(List.getElem?_eq_some_iff.1 ha).1
   omega) fuel 0 ⟨Nat.zero_le _,fun i' j a b h=>by omega⟩ (by have:=fuel_big;omega)
 obtain ⟨r,e,hq⟩:=key
 rw [e]
 cases r with
 | inl u=>exact ⟨0,rfl,fun _=>hq⟩
 | inr e'=>exact ⟨e',rfl,fun h=>absurd h hq⟩
theorem R16_Valid_tot (o:zal) (ho:SmO o):∃ e,zcv o=some e∧(e=0→ObsOk o):=by
 obtain ⟨hl,hs⟩:=ho
 unfold zcv
 by_cases h1:o.Inputs<1
 ·rw [decide_eq_true h1,cond_true,obind,cond_true]
  exact ⟨2,rfl,fun e=>by cases e⟩
 by_cases h2:64<o.Inputs
 ·rw [decide_eq_false h1,cond_false,decide_eq_true h2,obind,cond_true]
  exact ⟨2,rfl,fun e=>by cases e⟩
 rw [decide_eq_false h1,cond_false,decide_eq_false h2,obind,cond_false]
 by_cases h3:10000<o.Traces.length
 ·rw [decide_eq_true (by omega),cond_true]
  exact ⟨11,rfl,fun e=>by cases e⟩
 rw [decide_eq_false (by omega),cond_false]
 have key:=za3 (step:=fun i=>zcv.s2 o i) (fun i=>i≤o.Traces.length∧(∀ j t,j<i→o.Traces[j]?=some t→PropT o.Inputs t∧t.In≠[])∧∀ j a b,j+1<i→o.Traces[j]?=some a→o.Traces[j+1]?=some b→cmpW a.In b.In=-1) (fun i=>o.Traces.length-i)
  (fun r=>match r with | .inl ()=>(∀ t∈o.Traces,PropT o.Inputs t∧t.In≠[])∧∀ (j:Nat) a b,o.Traces[j]?=some a→o.Traces[j+1]?=some b→cmpW a.In b.In=-1 | .inr e=>e≠0) (fun i ⟨g1,g2,g3⟩=>by
  simp only [zcv.s2]
  by_cases g4:i<o.Traces.length
  ·have hx:=get_at g4
   have hxm:=List.getElem_mem g4
   have sx:SmW o.Traces[i].In:=by have:=(hs _ hxm).1;unfold SmW;omega
   obtain ⟨e,he,he2⟩:=zky o.Traces[i] o.Inputs sx (hs _ hxm).2
   rw [dec_lt hx,cond_true,idxn_at hx,ziz _ _ sx,obind]
   by_cases g5:checkI o.Traces[i].In o.Inputs=0
   ·rw [decide_eq_false (by simpa using g5),cond_false]
    by_cases g6:o.Traces[i].In.length=0
    ·rw [decide_eq_true (by omega),cond_true]
     exact .inr ⟨.inr 19,rfl,(show (19:Int)≠0 by decide)⟩
    ·rw [decide_eq_false (by omega),cond_false,he,obind]
     by_cases g7:e=0
     ·rw [decide_eq_false (by simpa using g7),cond_false]
      have hP:=he2 g7
      have fin:∀ b:Bool,(b=false→0<i→∀ a,o.Traces[i-1]?=some a→cmpW a.In o.Traces[i].In=-1)→(∃ s',(some b).bind (fun (y160:Bool)=>cond y160 (some (.inr (.inr 10))) (some (.inl (i+1))))=some (.inl s':Nat⊕(Unit⊕Int))∧(s'≤o.Traces.length∧(∀ j t,j<s'→o.Traces[j]?=some t→PropT o.Inputs t∧t.In≠[])∧∀ j a b,j+1<s'→o.Traces[j]?=some a→o.Traces[j+1]?=some b→cmpW a.In b.In=-1)∧o.Traces.length-s'<o.Traces.length-i)∨∃ r,(some b).bind (fun (y160:Bool)=>cond y160 (some (.inr (.inr 10))) (some (.inl (i+1))))=some (.inr r:Nat⊕(Unit⊕Int))∧(match r with | .inl ()=>(∀ t∈o.Traces,PropT o.Inputs t∧t.In≠[])∧∀ (j:Nat) a b,o.Traces[j]?=some a→o.Traces[j+1]?=some b→cmpW a.In b.In=-1 | .inr e=>e≠0):=by
       intro b hb
       cases b with
       | true=>exact .inr ⟨.inr 10,rfl,(show (10:Int)≠0 by decide)⟩
       | false =>
        left
        refine ⟨i+1,rfl,⟨g4,fun j t hj ht=>?_,fun j a b hj ha hb'=>?_⟩,by omega⟩
        ·rcases Nat.lt_or_ge j i with h | h
         ·exact g2 j t h ht
         ·have ej:j=i:=by omega
          subst ej
          rw [hx] at ht
          injection ht with ht
          subst ht
          exact ⟨hP,fun e=>g6 (by rw [e];rfl)⟩
        ·rcases Nat.lt_or_ge (j+1) i with h | h
         ·exact g3 j a b h ha hb'
         ·have ej:j+1=i:=by omega
          subst ej
          rw [hx] at hb'
          injection hb' with hb'
          subst hb'
          exact hb rfl (by omega) a (by simpa using ha)
      by_cases g8:0<i
      ·have hpv:=get_at (l:=o.Traces) (i:=i-1) (by omega)
       have sp:SmW (o.Traces[i-1]'(by omega)).In:=by have:=(hs _ (List.getElem_mem (show i-1<o.Traces.length by omega))).1;unfold SmW;omega
       rw [decide_eq_true (by omega),cond_true,idx_at (i:=i-1) (by omega) hpv,zk0 _ _ sp,obind]
       refine fin _ fun hb _ a ha=>?_
       rw [hpv] at ha
       injection ha with ha
       subst ha
       have h5:=of_decide_eq_false hb
       have:=zll (o.Traces[i-1]'(by omega)).In o.Traces[i].In
       omega
      ·rw [decide_eq_false (by omega),cond_false]
       exact fin false fun _ h=>absurd h g8
     ·rw [decide_eq_true g7,cond_true]
      exact .inr ⟨.inr e,rfl,g7⟩
   ·rw [decide_eq_true g5,cond_true]
    exact .inr ⟨.inr _,rfl,g5⟩
  ·right
   refine ⟨.inl (),by rw [decide_eq_false (by omega),cond_false],fun t ht=>?_,fun j a b ha hb=>g3 j a b ?_ ha hb⟩
   ·obtain ⟨j,hj,rfl⟩:=List.mem_iff_getElem.1 ht
    exact g2 j _ (by omega) (get_at hj)
   ·have:=(List.getElem?_eq_some_iff.1 hb).1
    omega) fuel 0 ⟨Nat.zero_le _,fun j t h=>by omega,fun j a b h=>by omega⟩ (by have:=fuel_big;omega)
 obtain ⟨r,e,hq⟩:=key
 rw [e,obind]
 cases r with
 | inr e'=>exact ⟨e',rfl,fun h=>absurd h hq⟩
 | inl u =>
  obtain ⟨hp,hone⟩:=hq
  obtain ⟨e',he,he2⟩:=R16_apart_tot o ⟨hl,hs⟩ fun t ht=>(hp t ht).1
  simp only [Sum.elim_inl]
  rw [he,obind]
  refine ⟨e',rfl,fun h=>⟨by omega,by omega,hp,?_,he2 h⟩⟩
  have key:∀ (d i:Nat) a b,o.Traces[i]?=some a→o.Traces[i+d+1]?=some b→cmpW a.In b.In=-1:=by
   intro d
   induction d with
   | zero=>exact fun i a b=>hone i a b
   | succ d ih =>
    intro i a b ha hb
    have hj:=(List.getElem?_eq_some_iff.1 hb).1
    have hm:=get_at (l:=o.Traces) (i:=i+d+1) (by omega)
    exact zik _ _ _ (ih i a _ ha hm) (hone _ _ _ hm (by rw [show i+d+1+1=i+(d+1)+1 by omega];exact hb))
  intro i j a b hij ha hb
  exact key (j-i-1) i a b ha (by rw [show i+(j-i-1)+1=j by omega];exact hb)
end Go.Proofs.YteigfkncoiiaiaaGreatDoor.Sym

/-
 What the bound of the laws gives: the sizes of observations.
-/
namespace Go.Proofs.YteigfkncoiiaiaaGreatDoor.Sym
theorem sum_mem {α:Type} {f:α→Nat}:∀ {l:List α} {x:α},x∈l→f x≤(l.map f).sum
 | y::l,x,h=>by
  rw [List.map_cons,List.sum_cons]
  rcases List.mem_cons.1 h with rfl | h
  ·omega
  ·have:=sum_mem (f:=f) h
   omega
theorem sum_len {α:Type} {f:α→Nat} (hf:∀ x,1≤f x):∀ l:List α,l.length≤(l.map f).sum
 | []=>by simp
 | y::l=>by
  have:=sum_len hf l
  have:=hf y
  rw [List.map_cons,List.sum_cons,List.length_cons]
  omega
theorem sz_word {x:List Int}:x.length+1=szL sz1 x:=by
 unfold szL sz1
 induction x with
 | nil=>rfl
 | cons y l ih=>simp at ih ⊢;omega
theorem trace_pos (t:zae):1≤zcc t:=by unfold zcc;omega
theorem smo_of {o:zal} (s:zgy o≤1048576):SmO o:=by
 unfold zgy at s
 have s1:szL zcc o.Traces≤1048576:=by omega
 refine ⟨?_,fun t ht=>?_⟩
 ·have:=sum_len (f:=zcc) trace_pos o.Traces
  unfold szL at s1
  omega
 ·have h1:=sum_mem (f:=zcc) ht
  have h2:=sz_word (x:=t.In)
  have h3:=sz_word (x:=t.Out)
  have h4:(o.Traces.map zcc).sum+1≤1048576:=s1
  have h5:zcc t=(szL sz1 t.In+(szL sz1 t.Out+0))+1:=rfl
  omega
end Go.Proofs.YteigfkncoiiaiaaGreatDoor.Sym

/-
 Partial machines: checks, runs, completions. Plain laws.
-/
namespace Go.Proofs.YteigfkncoiiaiaaGreatDoor.Sym
set_option maxRecDepth 100000
def cellE (n:Nat) (t o:Int):Int:=if t < -1∨(↑n:Int)≤t∨o < -1∨1048576<o then 2 else if (t=-1)≠(o=-1) then 1 else 0
def cellP (n:Nat) (y:List Int) (a:Nat) (t:Int):Option Int:=if cellE n t ((y[a]?).getD 0)≠0 then some (cellE n t ((y[a]?).getD 0)) else none
def rowG (p:zaa) (s:Nat) (x:List Int):Option Int:=if (↑x.length:Int)≠p.Inputs∨(↑((p.Out[s]?).getD []).length:Int)≠p.Inputs then some 1 else scan (cellP p.Next.length ((p.Out[s]?).getD [])) 0 x
def validP (p:zaa):Int:=if p.Inputs<1∨64<p.Inputs then 2 else if p.Next.length=0 then 19 else if 4096<p.Next.length then 11 else if p.Start<0∨(↑p.Next.length:Int)≤p.Start then 2 else if p.Out.length≠p.Next.length then 1 else match scan (rowG p) 0 p.Next with | some e=>e | none=>0
theorem cell_cond (n:Nat) (t o:Int) {β:Type} (k2 k1 k0:Option β):((cond (decide (t<(-1:Int))) (some true) (cond (decide ((↑n:Int)≤t)) (some true) (cond (decide (o<(-1:Int))) (some true) (some (decide (1048576<o))))):Option Bool).bind fun (y:Bool)=>cond y k2 (cond ((!((decide (t=(-1:Int)))==(decide (o=(-1:Int)))))) k1 k0))=if cellE n t o=2 then k2 else if cellE n t o=1 then k1 else k0:=by
 have two:(t < -1∨(↑n:Int)≤t∨o < -1∨1048576<o)→(if cellE n t o=2 then k2 else if cellE n t o=1 then k1 else k0)=k2:=fun h=>by
  have e:cellE n t o=2:=if_pos h
  rw [e]
  rfl
 by_cases h1:t < -1
 ·rw [decide_eq_true h1,cond_true,obind,cond_true,two (.inl h1)]
 rw [decide_eq_false h1,cond_false]
 by_cases h2:(↑n:Int)≤t
 ·rw [decide_eq_true h2,cond_true,obind,cond_true,two (.inr (.inl h2))]
 rw [decide_eq_false h2,cond_false]
 by_cases h3:o < -1
 ·rw [decide_eq_true h3,cond_true,obind,cond_true,two (.inr (.inr (.inl h3)))]
 rw [decide_eq_false h3,cond_false,obind]
 by_cases h4:1048576<o
 ·rw [decide_eq_true h4,cond_true,two (.inr (.inr (.inr h4)))]
 rw [decide_eq_false h4,cond_false]
 have e0:cellE n t o=if (t=-1)≠(o=-1) then 1 else 0:=if_neg (by omega)
 rw [e0]
 by_cases h5:t=-1<;>by_cases h6:o=-1<;>simp [h5,h6]
theorem cellE_cases (n:Nat) (t o:Int):cellE n t o=0∨cellE n t o=1∨cellE n t o=2:=by
 unfold cellE
 split
 ·exact .inr (.inr rfl)
 ·split
  ·exact .inr (.inl rfl)
  ·exact .inl rfl
theorem scan_wrap {α R S:Type} {g:Nat→α→Option R} (f:R→S):∀ (l:List α) (j:Nat),scan (fun i x=>(g i x).map f) j l=(scan g j l).map f
 | [],_=>rfl
 | x::l,j=>by
  unfold scan
  cases h:g j x with
  | some r=>rfl
  | none=>exact scan_wrap f l (j+1)
theorem zdb {p:zaa} (hl:p.Next.length≤10000000):za9 p=some (validP p):=by
 unfold za9 validP
 have hsp:(cond (decide (p.Start<0)) (some true) (some (decide ((↑(List.length p.Next):Int)≤p.Start))):Option Bool)=some (decide (p.Start<0∨(↑p.Next.length:Int)≤p.Start)):=by
  by_cases h:p.Start<0
  ·rw [decide_eq_true h,cond_true,decide_eq_true (.inl h)]
  ·rw [decide_eq_false h,cond_false];simp [h]
 by_cases h0:p.Inputs<1
 ·rw [decide_eq_true h0,cond_true,obind,cond_true,if_pos (.inl h0)]
 rw [decide_eq_false h0,cond_false,obind]
 by_cases h1:64<p.Inputs
 ·rw [decide_eq_true h1,cond_true,if_pos (.inr h1)]
 rw [decide_eq_false h1,cond_false,if_neg (by omega)]
 by_cases h2:p.Next.length=0
 ·rw [decide_eq_true (by omega),cond_true,if_pos h2]
 rw [decide_eq_false (by omega),cond_false,if_neg h2]
 by_cases h3:4096<p.Next.length
 ·rw [decide_eq_true (by omega),cond_true,if_pos h3]
 rw [decide_eq_false (by omega),cond_false,if_neg h3,hsp,obind]
 by_cases h4:p.Start<0∨(↑p.Next.length:Int)≤p.Start
 ·rw [decide_eq_true h4,cond_true,if_pos h4]
 rw [decide_eq_false h4,cond_false,if_neg h4]
 by_cases h5:p.Out.length≠p.Next.length
 ·rw [decide_eq_true (by omega),cond_true,if_pos h5]
 rw [decide_eq_false (by omega),cond_false,if_neg h5,zdj (l:=p.Next) (rowG p) (fun s x hx=>by
  have hs:=(List.getElem?_eq_some_iff.1 hx).1
  have hy:=get_at (l:=p.Out) (i:=s) (by omega)
  simp only [za9.s14,rowG]
  rw [dec_lt hx,cond_true,idxn_at hx,hy,Option.getD_some]
  by_cases k1:(↑x.length:Int)≠p.Inputs
  ·rw [decide_eq_true k1,cond_true,obind,cond_true,if_pos (.inl k1)]
  rw [decide_eq_false k1,cond_false,idxn_at hy,obind]
  by_cases k2:(↑p.Out[s].length:Int)≠p.Inputs
  ·rw [decide_eq_true k2,cond_true,if_pos (.inr k2)]
  rw [decide_eq_false k2,cond_false,if_neg (fun h=>h.elim k1 k2),idxn_at hx,zdj (l:=x) (fun a t=>(cellP p.Next.length p.Out[s] a t).map fun e=>(Sum.inr (Sum.inr e):Nat⊕(Unit⊕Int))) (fun a t ht=>by
   have ha:=(List.getElem?_eq_some_iff.1 ht).1
   have hz:=get_at (l:=p.Out[s]) (i:=a) (by omega)
   simp only [za9.s13,cellP]
   rw [dec_lt ht,cond_true,idxn_at ht,idxn_at hy,idxn_at hz,hz,Option.getD_some,cell_cond]
   rcases cellE_cases p.Next.length t p.Out[s][a] with e | e | e<;>rw [e]<;>rfl) (by simp only [za9.s13];rw [dec_end,cond_false]) (by omega),obind,scan_wrap]
  cases scan (cellP p.Next.length p.Out[s]) 0 x<;>rfl) (by simp only [za9.s14];rw [dec_end,cond_false]) (by omega),obind]
 cases scan (rowG p) 0 p.Next<;>rfl
structure PartOk (p:zaa):Prop where
 i1:1≤p.Inputs
 i2:p.Inputs≤64
 n1:0<p.Next.length
 n2:p.Next.length≤4096
 st:0≤p.Start∧p.Start<(↑p.Next.length:Int)
 ol:p.Out.length=p.Next.length
 row:∀ s,s<p.Next.length→∃ x y,p.Next[s]?=some x∧p.Out[s]?=some y∧(↑x.length:Int)=p.Inputs∧(↑y.length:Int)=p.Inputs∧∀ (a:Nat) (t o:Int),x[a]?=some t→y[a]?=some o→-1≤t∧t<(↑p.Next.length:Int)∧-1≤o∧o≤1048576∧(t=-1↔o=-1)
structure Wrt (f:Nat→Int) (init:List Int) (a:Nat) (y:List Int):Prop where
 len:y.length=init.length
 at_:∀ b,b<init.length→y[b]?=if b<a then some (f b) else init[b]?
theorem Wrt.zero (f:Nat→Int) (init:List Int):Wrt f init 0 init:=⟨rfl,fun b _=>by rw [if_neg (by omega)]⟩
theorem Wrt.step {f:Nat→Int} {init:List Int} {a:Nat} {y:List Int} (h:Wrt f init a y) (ha:a<init.length) {v:Int} (hv:v=f a):Wrt f init (a+1) (y.set a v):=by
 refine ⟨by rw [List.length_set];exact h.len,fun b hb=>?_⟩
 have hl:=h.len
 by_cases e:b=a
 ·subst e
  rw [if_pos (by omega),List.getElem?_set_self (by omega),hv]
 ·rw [List.getElem?_set_ne (by omega),h.at_ b hb]
  by_cases g:b<a
  ·rw [if_pos g,if_pos (by omega)]
  ·rw [if_neg g,if_neg (by omega)]
theorem Wrt.skip {f:Nat→Int} {init:List Int} {a:Nat} {y:List Int} (h:Wrt f init a y) (ha:a<init.length) (hv:init[a]?=some (f a)):Wrt f init (a+1) y:=by
 refine ⟨h.len,fun b hb=>?_⟩
 rw [h.at_ b hb]
 by_cases e:b=a
 ·subst e
  rw [if_neg (by omega),if_pos (by omega),hv]
 ·by_cases g:b<a
  ·rw [if_pos g,if_pos (by omega)]
  ·rw [if_neg g,if_neg (by omega)]
theorem Wrt.done {f:Nat→Int} {init y:List Int} {a:Nat} (h:Wrt f init a y) (ha:init.length≤a):y=(List.range init.length).map f:=by
 refine List.ext_getElem? fun b=>?_
 by_cases g:b<init.length
 ·rw [h.at_ b g,if_pos (by omega),List.getElem?_map,List.getElem?_range g]
  rfl
 ·rw [List.getElem?_eq_none (by have:=h.len;omega),List.getElem?_eq_none (by simp;omega)]
theorem Wrt.cur {f:Nat→Int} {init:List Int} {a:Nat} {y:List Int} (h:Wrt f init a y) (ha:a<init.length):y[a]?=init[a]?:=by rw [h.at_ a ha,if_neg (by omega)]
end Go.Proofs.YteigfkncoiiaiaaGreatDoor.Sym

/-
 The fold of two states: the least congruence that joins them, and what the reference's classes are. Plain laws.
-/
namespace Go.Proofs.YteigfkncoiiaiaaGreatDoor.Sym
set_option maxRecDepth 100000
def pnx (p:zaa) (s a:Nat):Int:=(((p.Next[s]?).getD [])[a]?).getD (-1)
def pot (p:zaa) (s a:Nat):Int:=(((p.Out[s]?).getD [])[a]?).getD (-1)
theorem PartOk.at {p:zaa} (H:PartOk p) {s a:Nat} (hs:s<p.Next.length) (ha:a<p.Inputs.toNat):-1≤pnx p s a∧pnx p s a<(↑p.Next.length:Int)∧-1≤pot p s a∧pot p s a≤1048576∧(pnx p s a=-1↔pot p s a=-1)∧∃ x y,p.Next[s]?=some x∧p.Out[s]?=some y∧x[a]?=some (pnx p s a)∧y[a]?=some (pot p s a)∧(↑x.length:Int)=p.Inputs∧(↑y.length:Int)=p.Inputs:=by
 obtain ⟨x,y,h1,h2,h3,h4,h5⟩:=H.row s hs
 have hx:=get_at (l:=x) (i:=a) (by omega)
 have hy:=get_at (l:=y) (i:=a) (by omega)
 have e1:pnx p s a=x[a]:=by unfold pnx;rw [h1,Option.getD_some,hx,Option.getD_some]
 have e2:pot p s a=y[a]:=by unfold pot;rw [h2,Option.getD_some,hy,Option.getD_some]
 obtain ⟨k1,k2,k3,k4,k5⟩:=h5 a _ _ hx hy
 rw [e1,e2]
 exact ⟨k1,k2,k3,k4,k5,x,y,h1,h2,hx,hy,h3,h4⟩
theorem pnx_rng {p:zaa} (H:PartOk p) {q a u:Nat} (h:pnx p q a=(↑u:Int)):q<p.Next.length∧a<p.Inputs.toNat∧u<p.Next.length:=by
 have hq:q<p.Next.length:=Classical.byContradiction fun g=>by
  unfold pnx at h
  rw [show p.Next[q]?=none from List.getElem?_eq_none (by omega)] at h
  have h:(-1:Int)=↑u:=h
  omega
 have ha:a<p.Inputs.toNat:=Classical.byContradiction fun g=>by
  obtain ⟨x,y,h1,h2,h3,h4,h5⟩:=H.row q hq
  unfold pnx at h
  rw [h1,Option.getD_some,show x[a]?=none from List.getElem?_eq_none (by omega)] at h
  have h:(-1:Int)=↑u:=h
  omega
 have:=(H.at hq ha).2.1
 exact ⟨hq,ha,by omega⟩
inductive Cong (p:zaa) (s t:Nat):Nat→Nat→Prop
 | base:Cong p s t s t
 | refl (q:Nat):Cong p s t q q
 | symm {q r:Nat} (h:Cong p s t q r):Cong p s t r q
 | trans {q r u:Nat} (h:Cong p s t q r) (k:Cong p s t r u):Cong p s t q u
 | step {q r:Nat} (a u v:Nat) (h:Cong p s t q r) (hu:pnx p q a=(↑u:Int)) (hv:pnx p r a=(↑v:Int)):Cong p s t u v
def Confl (p:zaa) (s t:Nat):Prop:=∃ q r a,Cong p s t q r∧pnx p q a≠-1∧pnx p r a≠-1∧pot p q a≠pot p r a
noncomputable def clsOf (p:zaa) (s t q:Nat):Nat:=by
 classical
 exact ((List.range (q+1)).find? fun r=>decide (Cong p s t q r)).getD q
section
variable {p:zaa} {s t:Nat}
theorem ziw (q:Nat):clsOf p s t q≤q∧Cong p s t q (clsOf p s t q)∧∀ r,r<clsOf p s t q→¬ Cong p s t q r:=by
 classical
 unfold clsOf
 cases h:(List.range (q+1)).find? fun r=>decide (Cong p s t q r) with
 | none=>exact absurd (decide_eq_true (Cong.refl q)) (List.find?_eq_none.1 h q (List.mem_range.2 (by omega)))
 | some r =>
  obtain ⟨h1,h2,h3⟩:=List.find?_range_eq_some.1 h
  rw [Option.getD_some]
  have h2:=List.mem_range.1 h2
  refine ⟨by omega,of_decide_eq_true h1,fun u hu hc=>?_⟩
  have:=h3 u hu
  simp [hc] at this
theorem clsOf_eq {q c:Nat} (h:Cong p s t q c) (h2:∀ r,Cong p s t q r→c≤r):clsOf p s t q=c:=by
 obtain ⟨g1,g2,g3⟩:=ziw (p:=p) (s:=s) (t:=t) q
 have h3:=h2 _ g2
 rcases Nat.lt_or_ge c (clsOf p s t q) with k | k
 ·exact absurd h (g3 c k)
 ·omega
theorem zlf {q r:Nat}:Cong p s t q r↔clsOf p s t q=clsOf p s t r:=by
 obtain ⟨a1,a2,a3⟩:=ziw (p:=p) (s:=s) (t:=t) q
 obtain ⟨b1,b2,b3⟩:=ziw (p:=p) (s:=s) (t:=t) r
 constructor
 ·intro h
  refine clsOf_eq (h.trans b2) fun u hu=>Nat.le_of_not_lt fun k=>b3 u k (h.symm.trans hu)
 ·intro h
  rw [h] at a2
  exact a2.trans b2.symm
theorem cong_into (H:PartOk p) (hs:s<p.Next.length) (ht:t<p.Next.length) {cl:Nat→Nat} (h0:cl s=cl t) (hc:∀ q r a u v:Nat,q<p.Next.length→r<p.Next.length→cl q=cl r→pnx p q a=(↑u:Int)→pnx p r a=(↑v:Int)→cl u=cl v) {q r:Nat} (h:Cong p s t q r):q=r∨(q<p.Next.length∧r<p.Next.length∧cl q=cl r):=by
 induction h with
 | base=>exact .inr ⟨hs,ht,h0⟩
 | refl q=>exact .inl rfl
 | symm _ ih =>
  rcases ih with e | ⟨a,b,c⟩
  ·exact .inl e.symm
  ·exact .inr ⟨b,a,c.symm⟩
 | trans _ _ ih1 ih2 =>
  rcases ih1 with rfl | ⟨a,b,c⟩
  ·exact ih2
  ·rcases ih2 with rfl | ⟨a',b',c'⟩
   ·exact .inr ⟨a,b,c⟩
   ·exact .inr ⟨a,b',c.trans c'⟩
 | step a u v _ hu hv ih =>
  obtain ⟨q1,_,q3⟩:=pnx_rng H hu
  obtain ⟨r1,_,r3⟩:=pnx_rng H hv
  rcases ih with rfl | ⟨_,_,c⟩
  ·rw [hu] at hv
   exact .inl (by omega)
  ·exact .inr ⟨q3,r3,hc _ _ a u v q1 r1 c hu hv⟩
structure ClsL (p:zaa) (s t:Nat) (C:List Int) (cl:Nat→Nat):Prop where
 len:C.length=p.Next.length
 at_:∀ q,q<p.Next.length→C[q]?=some (↑(cl q):Int)
 le:∀ q,q<p.Next.length→cl q≤q
 idem:∀ q,q<p.Next.length→cl (cl q)=cl q
 sound:∀ q,q<p.Next.length→Cong p s t q (cl q)
def repsN (n:Nat) (cl:Nat→Nat):Nat:=(List.range n).countP fun q=>decide (cl q=q)
def joinF (cl:Nat→Nat) (u v q:Nat):Nat:=if cl q=max (cl u) (cl v) then min (cl u) (cl v) else cl q
theorem joinF_same (cl:Nat→Nat) (u v:Nat):joinF cl u v u=joinF cl u v v:=by
 unfold joinF
 rcases Nat.le_total (cl u) (cl v) with h | h
 ·rw [Nat.max_eq_right h,Nat.min_eq_left h,if_pos rfl]
  split<;>omega
 ·rw [Nat.max_eq_left h,Nat.min_eq_right h,if_pos rfl]
  split<;>omega
theorem zlg {cl:Nat→Nat} {u v q r:Nat} (h:cl q=cl r):joinF cl u v q=joinF cl u v r:=by unfold joinF;rw [h]
theorem countP_lt {n:Nat} {f g:Nat→Bool} (h:∀ q,q<n→g q=true→f q=true) {x:Nat} (hx:x<n) (h1:f x=true) (h2:g x=false):(List.range n).countP g<(List.range n).countP f:=by
 induction n with
 | zero=>omega
 | succ n ih =>
  rw [List.range_succ,List.countP_append,List.countP_append,List.countP_singleton,List.countP_singleton]
  by_cases e:x=n
  ·subst e
   have hle:(List.range x).countP g≤(List.range x).countP f:=List.countP_mono_left fun q hq hg=>h q (by have:=List.mem_range.1 hq;omega) hg
   rw [h1,h2]
   simp
   omega
  ·have:=ih (fun q hq=>h q (by omega)) (by omega)
   have h3:(if g n=true then 1 else 0)≤(if f n=true then 1 else 0:Nat):=by
    by_cases k:g n=true
    ·rw [if_pos k,if_pos (h n (by omega) k)]
     omega
    ·rw [if_neg k]
     omega
   omega
theorem ClsL.join {C:List Int} {cl:Nat→Nat} (K:ClsL p s t C cl) {u v:Nat} (hu:u<p.Next.length) (hv:v<p.Next.length) (hc:Cong p s t u v) (hn:p.Next.length≤10000000):∃ C',R35_join C (↑u:Int) (↑v:Int)=some C'∧ClsL p s t C' (joinF cl u v)∧(cl u≠cl v→repsN p.Next.length (joinF cl u v)<repsN p.Next.length cl):=by
 have hlen:=K.len
 have key:=za3 (step:=fun (q:List Int×Nat)=>R35_join.s2 (↑(cl u):Int) (↑(cl v):Int) (↑(cl u):Int) (↑(cl v):Int) q.1 q.2) (fun q=>q.2≤C.length∧Wrt (fun b=>(↑(joinF cl u v b):Int)) C q.2 q.1) (fun q=>C.length-q.2) (fun r=>r=(List.range C.length).map fun b=>(↑(joinF cl u v b):Int)) (fun ⟨y,i⟩ ⟨g1,g2⟩=>by
  simp only at g1 g2
  simp only [R35_join.s2]
  have hyl:=g2.len
  by_cases h:i<C.length
  ·left
   have hy:y[i]?=some (↑(cl i):Int):=(g2.cur h).trans (K.at_ i (by omega))
   rw [decide_eq_true (by omega),cond_true,idxn_at hy]
   by_cases e:cl i=max (cl u) (cl v)
   ·refine ⟨(y.set i (min (↑(cl u):Int) (↑(cl v):Int)),i+1),by rw [decide_eq_true (by omega),cond_true,idxn_at hy],⟨h,g2.step h ?_⟩,by simp only;omega⟩
    unfold joinF
    rw [if_pos e]
    omega
   ·refine ⟨(y,i+1),by rw [decide_eq_false (by omega),cond_false],⟨h,g2.skip h ?_⟩,by simp only;omega⟩
    unfold joinF
    rw [if_neg e]
    exact K.at_ i (by omega)
  ·right
   exact ⟨_,by rw [decide_eq_false (by omega),cond_false],g2.done (by omega)⟩) fuel (C,0) ⟨Nat.zero_le _,Wrt.zero _ _⟩ (by have:=fuel_big;simp only;omega)
 obtain ⟨r,e,rfl⟩:=key
 have hlo:min (cl u) (cl v)<p.Next.length:=by have:=K.le u hu;omega
 have hcl:∀ q,q<p.Next.length→cl q<p.Next.length:=fun q hq=>by have:=K.le q hq;omega
 have hcc:Cong p s t (cl u) (cl v):=(K.sound u hu).symm.trans (hc.trans (K.sound v hv))
 have hmm:Cong p s t (max (cl u) (cl v)) (min (cl u) (cl v)):=by
  rcases Nat.le_total (cl u) (cl v) with h | h
  ·rw [Nat.max_eq_right h,Nat.min_eq_left h];exact hcc.symm
  ·rw [Nat.max_eq_left h,Nat.min_eq_right h];exact hcc
 have hmi:cl (min (cl u) (cl v))=min (cl u) (cl v):=by
  rcases Nat.le_total (cl u) (cl v) with h | h
  ·rw [Nat.min_eq_left h];exact K.idem u hu
  ·rw [Nat.min_eq_right h];exact K.idem v hv
 have hma:cl (max (cl u) (cl v))=max (cl u) (cl v):=by
  rcases Nat.le_total (cl u) (cl v) with h | h
  ·rw [Nat.max_eq_right h];exact K.idem v hv
  ·rw [Nat.max_eq_left h];exact K.idem u hu
 have hlmin:joinF cl u v (min (cl u) (cl v))=min (cl u) (cl v):=by
  unfold joinF
  rw [hmi]
  split<;>omega
 refine ⟨(List.range C.length).map fun b=>(↑(joinF cl u v b):Int),?_,⟨by simp [hlen],fun q hq=>?_,fun q hq=>?_,fun q hq=>?_,fun q hq=>?_⟩,fun hne=>?_⟩
 ·unfold R35_join
  rw [idx_at (i:=u) rfl (K.at_ u hu),idx_at (i:=v) rfl (K.at_ v hv),idx_at (i:=u) rfl (K.at_ u hu),idx_at (i:=v) rfl (K.at_ v hv),e,obind]
 ·rw [List.getElem?_map,List.getElem?_range (by omega)]
  rfl
 ·have:=K.le q hq
  unfold joinF
  split<;>omega
 ·have h1:joinF cl u v q=min (cl u) (cl v)∨(joinF cl u v q=cl q∧cl q≠max (cl u) (cl v)):=by
   unfold joinF
   split
   ·exact .inl rfl
   ·rename_i g;exact .inr ⟨rfl,g⟩
  rcases h1 with h1 | ⟨h1,h2⟩
  ·rw [h1,hlmin]
  ·rw [h1]
   unfold joinF
   rw [K.idem q hq,if_neg h2]
 ·unfold joinF
  split
  ·rename_i g
   have:=K.sound q hq
   rw [g] at this
   exact this.trans hmm
  ·exact K.sound q hq
 ·have hlt:min (cl u) (cl v)<max (cl u) (cl v):=by omega
  have hmx:max (cl u) (cl v)<p.Next.length:=by have:=hcl u hu;have:=hcl v hv;omega
  refine countP_lt (fun q hq h=>?_) hmx (decide_eq_true hma) (decide_eq_false ?_)
  ·have h:=of_decide_eq_true h
   refine decide_eq_true ?_
   unfold joinF at h
   split at h
   ·rename_i g
    rw [← h,hmi]
   ·exact h
  ·unfold joinF
   rw [hma,if_pos rfl]
   omega
structure FstOk (p:zaa) (cl:Nat→Nat) (a q:Nat) (F:List Int):Prop where
 len:F.length=p.Next.length
 none_:∀ c,c<p.Next.length→F[c]?=some (-1)→∀ r,r<q→cl r=c→pnx p r a=-1
 some_:∀ c,c<p.Next.length→F[c]?≠some (-1)→∃ f:Nat,F[c]?=some (↑f:Int)∧f<q∧cl f=c∧pnx p f a≠-1∧∀ r,r<q→cl r=c→pnx p r a≠-1→pot p f a=pot p r a∧cl (pnx p f a).toNat=cl (pnx p r a).toNat
def SymOk (p:zaa) (cl:Nat→Nat) (a:Nat):Prop:=∀ q r,q<p.Next.length→r<p.Next.length→cl q=cl r→pnx p q a≠-1→pnx p r a≠-1→pot p q a=pot p r a∧cl (pnx p q a).toNat=cl (pnx p r a).toNat
end
end Go.Proofs.YteigfkncoiiaiaaGreatDoor.Sym

/-
 The reference's classes are those of the least congruence. Plain laws.
-/
namespace Go.Proofs.YteigfkncoiiaiaaGreatDoor.Sym
set_option maxRecDepth 100000
section
variable {p:zaa} {s t:Nat}
theorem repsN_le (n:Nat) (cl:Nat→Nat):repsN n cl≤n:=by
 have:=List.countP_le_length (p:=fun q=>decide (cl q=q)) (l:=List.range n)
 rw [List.length_range] at this
 exact this
theorem cls_done (H:PartOk p) (hs:s<p.Next.length) (ht:t<p.Next.length) {C:List Int} {cl:Nat→Nat} (K:ClsL p s t C cl) (h0:cl s=cl t) (hS:∀ a,a<p.Inputs.toNat→SymOk p cl a):(∀ q,q<p.Next.length→cl q=clsOf p s t q)∧¬ Confl p s t:=by
 have hinto:∀ {q r:Nat},Cong p s t q r→q=r∨(q<p.Next.length∧r<p.Next.length∧cl q=cl r):=fun h=>cong_into H hs ht h0 (fun q r a u v hq hr e hu hv=>by
  obtain ⟨_,ha,_⟩:=pnx_rng H hu
  have:=(hS a ha q r hq hr e (by rw [hu];omega) (by rw [hv];omega)).2
  rw [hu,hv] at this
  simpa using this) h
 refine ⟨fun q hq=>(clsOf_eq (K.sound q hq) fun r hr=>?_).symm,fun ⟨q,r,a,hc,h1,h2,h3⟩=>?_⟩
 ·rcases hinto hr with rfl | ⟨_,hr2,e⟩
  ·exact K.le q hq
  ·rw [e];exact K.le r hr2
 ·have rng:∀ q,pnx p q a≠-1→q<p.Next.length∧a<p.Inputs.toNat:=fun q h=>by
   have hq:q<p.Next.length:=Classical.byContradiction fun g=>h (by unfold pnx;rw [show p.Next[q]?=none from List.getElem?_eq_none (by omega)];rfl)
   refine ⟨hq,Classical.byContradiction fun g=>h ?_⟩
   obtain ⟨x,y,e1,e2,e3,e4,e5⟩:=H.row q hq
   unfold pnx
   rw [e1,Option.getD_some,show x[a]?=none from List.getElem?_eq_none (by omega)]
   rfl
  obtain ⟨hq,ha⟩:=rng q h1
  obtain ⟨hr,_⟩:=rng r h2
  rcases hinto hc with rfl | ⟨_,_,e⟩
  ·exact h3 rfl
  ·exact h3 (hS a ha q r hq hr e h1 h2).1
end
end Go.Proofs.YteigfkncoiiaiaaGreatDoor.Sym

/-
 The fold of two states by a work list reaches the least congruence. Plain laws.
-/
namespace Go.Proofs.YteigfkncoiiaiaaGreatDoor.Sym
set_option maxRecDepth 100000
def gx (N:List (List Int)) (q a:Nat):Int:=(((N[q]?).getD [])[a]?).getD (-1)
structure Grid (n I:Nat) (N:List (List Int)):Prop where
 len:N.length=n
 row:∀ q,q<n→∃ x,N[q]?=some x∧x.length=I
theorem Grid.at {n I:Nat} {N:List (List Int)} (G:Grid n I N) {q a:Nat} (hq:q<n) (ha:a<I):∃ x,N[q]?=some x∧x[a]?=some (gx N q a)∧x.length=I:=by
 obtain ⟨x,h1,h2⟩:=G.row q hq
 refine ⟨x,h1,?_,h2⟩
 have hx:=get_at (l:=x) (i:=a) (by omega)
 unfold gx
 rw [h1,Option.getD_some,hx,Option.getD_some]
theorem Grid.put {n I:Nat} {N:List (List Int)} (G:Grid n I N) {c a:Nat} {x:List Int} (hc:c<n) (ha:a<I) (hx:N[c]?=some x) (v:Int):Grid n I (N.set c (x.set a v))∧∀ q b,q<n→b<I→gx (N.set c (x.set a v)) q b=if q=c∧b=a then v else gx N q b:=by
 obtain ⟨x',h1,h2⟩:=G.row c hc
 rw [hx] at h1
 injection h1 with h1
 subst h1
 have hlen:=G.len
 constructor
 ·refine ⟨by rw [List.length_set];exact G.len,fun q hq=>?_⟩
  by_cases e:q=c
  ·subst e
   exact ⟨_,List.getElem?_set_self (by omega),by rw [List.length_set];exact h2⟩
  ·rw [List.getElem?_set_ne (by omega)]
   exact G.row q hq
 ·intro q b hq hb
  by_cases e:q=c
  ·subst e
   unfold gx
   rw [List.getElem?_set_self (by omega),Option.getD_some]
   by_cases e2:b=a
   ·subst e2
    rw [List.getElem?_set_self (by omega),Option.getD_some,if_pos ⟨rfl,rfl⟩]
   ·rw [List.getElem?_set_ne (by omega),if_neg (fun h=>e2 h.2),hx,Option.getD_some]
  ·unfold gx
   rw [List.getElem?_set_ne (by omega),if_neg (fun h=>e h.1)]
theorem PartOk.gn {p:zaa} (H:PartOk p):Grid p.Next.length p.Inputs.toNat p.Next:=⟨rfl,fun q hq=>by
 obtain ⟨x,y,h1,h2,h3,h4,h5⟩:=H.row q hq
 exact ⟨x,h1,by omega⟩⟩
theorem PartOk.go {p:zaa} (H:PartOk p):Grid p.Next.length p.Inputs.toNat p.Out:=⟨H.ol,fun q hq=>by
 obtain ⟨x,y,h1,h2,h3,h4,h5⟩:=H.row q hq
 exact ⟨y,h2,by omega⟩⟩
structure UpOk (n:Nat) (cl:Nat→Nat) (M:List (Int×Int)):Prop where
 u0:∀ q,q<n→cl q=q→mget (↑q:Int) M=none
 u1:∀ q,q<n→cl q≠q→∃ u:Nat,u<q∧mget (↑q:Int) M=some (↑u:Int)∧cl u=cl q
theorem of_eq {n:Nat} {cl:Nat→Nat} {M:List (Int×Int)} (U:UpOk n cl M) (hn:n≤10000000) {u:Nat} (hu:u<n):zau ⟨M⟩ (↑u:Int)=some ((↑(cl u):Int),M):=by
 unfold zau
 have key:=za3 (step:=fun (s:Int)=>zau.s1 ⟨M⟩ s) (fun s=>∃ v:Nat,s=(↑v:Int)∧v≤u∧cl v=cl u) (fun s=>s.toNat) (fun r=>r=((↑(cl u):Int),M)) (fun s ⟨v,e,h1,h2⟩=>by
  subst e
  simp only [zau.s1]
  by_cases g:cl v=v
  ·right
   rw [U.u0 v (by omega) g]
   exact ⟨_,rfl,by rw [← h2,g]⟩
  ·left
   obtain ⟨w,w1,w2,w3⟩:=U.u1 v (by omega) g
   rw [w2]
   exact ⟨_,rfl,⟨w,rfl,by omega,w3.trans h2⟩,by rw [Option.getD_some];omega⟩) fuel (↑u) ⟨u,rfl,Nat.le_refl _,rfl⟩ (by have:=fuel_big;omega)
 obtain ⟨r,e,rfl⟩:=key
 exact e
section
variable {p:zaa} {s t:Nat}
theorem ClsL.mm {C:List Int} {cl:Nat→Nat} (K:ClsL p s t C cl) {u v:Nat} (hu:u<p.Next.length) (hv:v<p.Next.length):cl (min (cl u) (cl v))=min (cl u) (cl v)∧cl (max (cl u) (cl v))=max (cl u) (cl v):=by
 rcases Nat.le_total (cl u) (cl v) with h | h
 ·rw [Nat.min_eq_left h,Nat.max_eq_right h];exact ⟨K.idem u hu,K.idem v hv⟩
 ·rw [Nat.min_eq_right h,Nat.max_eq_left h];exact ⟨K.idem v hv,K.idem u hu⟩
theorem joinF_min {C:List Int} {cl:Nat→Nat} (K:ClsL p s t C cl) {u v:Nat} (hu:u<p.Next.length) (hv:v<p.Next.length):joinF cl u v (min (cl u) (cl v))=min (cl u) (cl v):=by
 unfold joinF
 rw [(K.mm hu hv).1]
 split<;>omega
theorem UpOk.join {C:List Int} {cl:Nat→Nat} {M:List (Int×Int)} (K:ClsL p s t C cl) (U:UpOk p.Next.length cl M) {u v:Nat} (hu:u<p.Next.length) (hv:v<p.Next.length) (hne:cl u≠cl v):UpOk p.Next.length (joinF cl u v) (mset (↑(max (cl u) (cl v)):Int) (↑(min (cl u) (cl v)):Int) M):=by
 obtain ⟨m1,m2⟩:=K.mm hu hv
 have hb:∀ a b:Int,(a==b)=true↔a=b:=fun a b=>beq_iff_eq
 have hcmax:joinF cl u v (max (cl u) (cl v))=min (cl u) (cl v):=by unfold joinF;rw [m2,if_pos rfl]
 refine ⟨fun q hq h=>?_,fun q hq h=>?_⟩
 ·by_cases e:q=max (cl u) (cl v)
  ·rw [e,hcmax] at h
   omega
  ·rw [zgt hb (by omega)]
   refine U.u0 q hq ?_
   unfold joinF at h
   split at h
   ·rw [← h,m1]
   ·exact h
 ·by_cases e:q=max (cl u) (cl v)
  ·subst e
   exact ⟨min (cl u) (cl v),by omega,zhc hb _,by rw [hcmax,joinF_min K hu hv]⟩
  ·rw [zgt hb (by omega)]
   have h0:cl q≠q:=fun g=>h (by
    unfold joinF
    rw [g,if_neg e])
   obtain ⟨w,w1,w2,w3⟩:=U.u1 q hq h0
   exact ⟨w,w1,w2,zlg w3⟩
end
structure InI (n I:Nat) (N O:List (List Int)) (W0:List T_A2) (c1 c2:Nat) (N1 O1:List (List Int)) (W1:List T_A2) (a:Nat):Prop where
 gn:Grid n I N1
 go:Grid n I O1
 nx:∀ q b,q<n→b<I→gx N1 q b=if q=c1∧b<a∧gx N c1 b=-1 then gx N c2 b else gx N q b
 ot:∀ q b,q<n→b<I→gx O1 q b=if q=c1∧b<a∧gx N c1 b=-1 then gx O c2 b else gx O q b
 wk:∀ w,w∈W1→w∈W0∨∃ b,b<a∧gx N c1 b≠-1∧gx N c2 b≠-1∧w=⟨gx N c1 b,gx N c2 b⟩
 w0:∀ w,w∈W0→w∈W1
 w1:∀ b,b<a→gx N c1 b≠-1→gx N c2 b≠-1→gx O c1 b=gx O c2 b∧(⟨gx N c1 b,gx N c2 b⟩:T_A2)∈W1
 few:W1.length≤W0.length+a
def InQ (n I:Nat) (N O:List (List Int)) (W0:List T_A2) (c1 c2:Nat) (r:(List (List Int)×List (List Int)×List T_A2)⊕((List (List Int)×List (List Int)×(List (Int×Int))×List T_A2)⊕((List (List Int)×List (List Int)×(List (Int×Int))×List T_A2)⊕((List (List Int)×List (List Int)×(List (Int×Int)))⊕(zaa×List Int×Bool))))):Prop :=
 (r=.inr (.inr (.inr (.inr (⟨0,0,[],[]⟩,[],false))))∧∃ b,b<I∧gx N c1 b≠-1∧gx N c2 b≠-1∧gx O c1 b≠gx O c2 b)∨∃ N1 O1 W1,r=.inl (N1,O1,W1)∧InI n I N O W0 c1 c2 N1 O1 W1 I
theorem loop_in {n I:Nat} {N O:List (List Int)} {W0:List T_A2} {c1 c2:Nat} {x y:Int×List (Int×Int)} (hmin:min x.1 y.1=(↑c1:Int)) (hmax:max x.1 y.1=(↑c2:Int)) (hc1:c1<n) (hc2:c2<n) (hne:c2≠c1) {e:List Int} (he:e.length=I) (hI:I≤64) (GN:Grid n I N) (GO:Grid n I O)
  (h1:∀ b,b<I→gx N c1 b=-1→gx O c1 b=-1) (h2:∀ b,b<I→gx N c2 b=-1→gx O c2 b=-1) (hW:W0.length≤1000000) :
  ∃ r,iter (fun (s:List (List Int)×List (List Int)×List T_A2×Nat)=>zac.s43 x y e s.1 s.2.1 s.2.2.1 s.2.2.2) fuel (N,O,W0,0)=some r∧InQ n I N O W0 c1 c2 r:=by
 refine za3 (step:=fun (s:List (List Int)×List (List Int)×List T_A2×Nat)=>zac.s43 x y e s.1 s.2.1 s.2.2.1 s.2.2.2) (fun s=>s.2.2.2≤I∧InI n I N O W0 c1 c2 s.1 s.2.1 s.2.2.1 s.2.2.2) (fun s=>I-s.2.2.2) (InQ n I N O W0 c1 c2) (fun ⟨N1,O1,W1,a⟩ ⟨g1,g2⟩=>?_) fuel (N,O,W0,0) ⟨Nat.zero_le _,⟨GN,GO,fun q b _ _=>?_,fun q b _ _=>?_,fun w hw=>.inl hw,fun w hw=>hw,fun b hb=>?_,Nat.le_refl _⟩⟩ (by have:=fuel_big;simp only;omega)
 ·simp only at g1 g2
  unfold InQ
  simp only [zac.s43,hmin,hmax,Int.toNat_natCast]
  by_cases ha:a<I
  ·obtain ⟨x2,hx2,hxa2,hl2⟩:=g2.gn.at hc2 ha
   obtain ⟨x1,hx1,hxa1,hl1⟩:=g2.gn.at hc1 ha
   obtain ⟨y2,hy2,hya2,hm2⟩:=g2.go.at hc2 ha
   obtain ⟨y1,hy1,hya1,hm1⟩:=g2.go.at hc1 ha
   have e2:gx N1 c2 a=gx N c2 a:=by rw [g2.nx c2 a hc2 ha,if_neg (fun h=>hne h.1)]
   have e1:gx N1 c1 a=gx N c1 a:=by rw [g2.nx c1 a hc1 ha,if_neg (fun h=>Nat.lt_irrefl _ h.2.1)]
   have o2:gx O1 c2 a=gx O c2 a:=by rw [g2.ot c2 a hc2 ha,if_neg (fun h=>hne h.1)]
   have o1:gx O1 c1 a=gx O c1 a:=by rw [g2.ot c1 a hc1 ha,if_neg (fun h=>Nat.lt_irrefl _ h.2.1)]
   rw [e1] at hxa1
   rw [e2] at hxa2
   rw [o1] at hya1
   rw [o2] at hya2
   have hf:=g2.few
   have hsame:∀ {q b:Nat} {A B D:Int},(q=c1→b=a→gx N c1 a=-1→A=B)→(if q=c1∧b<a∧gx N c1 b=-1 then A else B)=if q=c1∧b<a+1∧gx N c1 b=-1 then A else B:=fun {q b A B D} h=>by
    by_cases k:q=c1∧b<a∧gx N c1 b=-1
    ·rw [if_pos k,if_pos ⟨k.1,by omega,k.2.2⟩]
    ·rw [if_neg k]
     by_cases k2:q=c1∧b<a+1∧gx N c1 b=-1
     ·have:b=a:=Nat.le_antisymm (by omega) (Nat.le_of_not_lt fun k3=>k ⟨k2.1,k3,k2.2.2⟩)
      subst this
      rw [if_pos k2,h k2.1 rfl k2.2.2]
     ·rw [if_neg k2]
   rw [decide_eq_true (by omega),cond_true,idxn_at hx2,idxn_at hxa2]
   by_cases k2:gx N c2 a=-1
   ·left
    refine ⟨(N1,O1,W1,a+1),by rw [decide_eq_true k2,cond_true,chk_pos (by unfold inR;omega)],⟨ha,g2.gn,g2.go,fun q b hq hb=>?_,fun q b hq hb=>?_,fun w hw=>?_,g2.w0,fun b hb hb1 hb2=>?_,by simp only;omega⟩,by simp only;omega⟩
    ·simp only
     rw [g2.nx q b hq hb]
     exact hsame (D:=0) fun e3 e4 e5=>by rw [e3,e4,k2,e5]
    ·simp only
     rw [g2.ot q b hq hb]
     exact hsame (D:=0) fun e3 e4 e5=>by rw [e3,e4,h1 a ha e5,h2 a ha k2]
    ·rcases g2.wk w hw with h | ⟨b,b1,b2⟩
     ·exact .inl h
     ·exact .inr ⟨b,by simp only;omega,b2⟩
    ·exact g2.w1 b (Nat.lt_of_le_of_ne (by simp only at hb;omega) fun e3=>hb2 (by rw [e3];exact k2)) hb1 hb2
   ·rw [decide_eq_false k2,cond_false,idx_at (i:=c1) rfl hx1,idxn_at hxa1]
    by_cases k1:gx N c1 a=-1
    ·left
     obtain ⟨p1,p2⟩:=g2.gn.put hc1 ha hx1 (gx N c2 a)
     obtain ⟨r1,r2⟩:=g2.go.put hc1 ha hy1 (gx O c2 a)
     refine ⟨(N1.set c1 (x1.set a (gx N c2 a)),O1.set c1 (y1.set a (gx O c2 a)),W1,a+1),by rw [decide_eq_true k1,cond_true,idx_at (i:=c1) rfl hx1,idx_at (i:=c1) rfl hy1,idx_at (i:=c2) rfl hy2,idxn_at hya2,idxn_at hxa1,idxn_at hya1,chk_pos (by unfold inR;omega)],⟨ha,p1,r1,fun q b hq hb=>?_,fun q b hq hb=>?_,fun w hw=>?_,g2.w0,fun b hb hb1 hb2=>?_,by simp only;omega⟩,by simp only;omega⟩
     ·simp only
      rw [p2 q b hq hb]
      by_cases k:q=c1∧b=a
      ·rw [if_pos k,if_pos ⟨k.1,by omega,by rw [k.2];exact k1⟩,k.2]
      ·rw [if_neg k,g2.nx q b hq hb]
       exact hsame (D:=0) fun e3 e4=>absurd ⟨e3,e4⟩ k
     ·simp only
      rw [r2 q b hq hb]
      by_cases k:q=c1∧b=a
      ·rw [if_pos k,if_pos ⟨k.1,by omega,by rw [k.2];exact k1⟩,k.2]
      ·rw [if_neg k,g2.ot q b hq hb]
       exact hsame (D:=0) fun e3 e4=>absurd ⟨e3,e4⟩ k
     ·rcases g2.wk w hw with h | ⟨b,b1,b2⟩
      ·exact .inl h
      ·exact .inr ⟨b,by simp only;omega,b2⟩
     ·exact g2.w1 b (Nat.lt_of_le_of_ne (by simp only at hb;omega) fun e3=>hb1 (by rw [e3];exact k1)) hb1 hb2
    ·rw [decide_eq_false k1,cond_false,idx_at (i:=c1) rfl hy1,idxn_at hya1,idx_at (i:=c2) rfl hy2,idxn_at hya2]
     by_cases k3:gx O c1 a≠gx O c2 a
     ·right
      exact ⟨_,by rw [decide_eq_true k3,cond_true],.inl ⟨rfl,a,ha,k1,k2,k3⟩⟩
     ·left
      have k3:=Classical.not_not.1 k3
      refine ⟨(N1,O1,W1++[⟨gx N c1 a,gx N c2 a⟩],a+1),by rw [decide_eq_false (fun h=>h k3),cond_false,idx_at (i:=c1) rfl hx1,idxn_at hxa1,chk_pos (by unfold capOk;omega),chk_pos (by unfold inR;omega)],⟨ha,g2.gn,g2.go,fun q b hq hb=>?_,fun q b hq hb=>?_,fun w hw=>?_,fun w hw=>List.mem_append_left _ (g2.w0 w hw),fun b hb hb1 hb2=>?_,by simp only [List.length_append,List.length_singleton];omega⟩,by simp only;omega⟩
      ·simp only
       rw [g2.nx q b hq hb]
       exact hsame (D:=0) fun _ _ e5=>absurd e5 k1
      ·simp only
       rw [g2.ot q b hq hb]
       exact hsame (D:=0) fun _ _ e5=>absurd e5 k1
      ·rcases List.mem_append.1 hw with hw | hw
       ·rcases g2.wk w hw with h | ⟨b,b1,b2⟩
        ·exact .inl h
        ·exact .inr ⟨b,by simp only;omega,b2⟩
       ·exact .inr ⟨a,by simp only;omega,k1,k2,List.mem_singleton.1 hw⟩
      ·by_cases e3:b=a
       ·rw [e3]
        exact ⟨k3,List.mem_append_right _ (List.mem_singleton.2 rfl)⟩
       ·obtain ⟨q1,q2⟩:=g2.w1 b (by simp only at hb;omega) hb1 hb2
        exact ⟨q1,List.mem_append_left _ q2⟩
  ·right
   have e3:a=I:=by omega
   rw [e3] at g2
   exact ⟨_,by rw [decide_eq_false (by omega),cond_false],.inr ⟨N1,O1,W1,rfl,g2⟩⟩
 ·rw [if_neg (fun h=>Nat.not_lt_zero _ h.2.1)]
 ·rw [if_neg (fun h=>Nat.not_lt_zero _ h.2.1)]
 ·exact absurd hb (Nat.not_lt_zero _)
end Go.Proofs.YteigfkncoiiaiaaGreatDoor.Sym

/-
 The fold's work list, to its end. Plain laws.
-/
namespace Go.Proofs.YteigfkncoiiaiaaGreatDoor.Sym
set_option maxRecDepth 100000
def Lab (n:Nat) (cl:Nat→Nat) (W:List T_A2) (f:Nat→Nat):Prop:=(∀ q r,q<n→r<n→cl q=cl r→f q=f r)∧∀ u v:Nat,(⟨(↑u:Int),(↑v:Int)⟩:T_A2)∈W→f u=f v
structure FoldI (p:zaa) (s t:Nat) (cl:Nat→Nat) (N O:List (List Int)) (M:List (Int×Int)) (W:List T_A2):Prop where
 gn:Grid p.Next.length p.Inputs.toNat N
 go:Grid p.Next.length p.Inputs.toNat O
 cls:∃ C,ClsL p s t C cl
 up:UpOk p.Next.length cl M
 wk:∀ w,w∈W→∃ u v:Nat,w=⟨(↑u:Int),(↑v:Int)⟩∧u<p.Next.length∧v<p.Next.length∧Cong p s t u v
 st:∀ f,Lab p.Next.length cl W f→f s=f t
 row:∀ c a,c<p.Next.length→a<p.Inputs.toNat→cl c=c→(gx N c a=-1→gx O c a=-1∧∀ r,r<p.Next.length→cl r=c→pnx p r a=-1)∧(gx N c a≠-1→∃ u:Nat,gx N c a=(↑u:Int)∧u<p.Next.length∧(∃ r,r<p.Next.length∧cl r=c∧pnx p r a=(↑u:Int)∧pot p r a=gx O c a)∧∀ r,r<p.Next.length→cl r=c→pnx p r a≠-1→pot p r a=gx O c a∧∀ f,Lab p.Next.length cl W f→f u=f (pnx p r a).toNat)
 few:65*repsN p.Next.length cl+W.length≤65*p.Next.length+1
 rng:∀ q a,q<p.Next.length→a<p.Inputs.toNat→gx N q a=-1∨∃ u:Nat,gx N q a=(↑u:Int)∧u<p.Next.length
section
variable {p:zaa} {s t:Nat}
theorem FoldI.join {cl:Nat→Nat} {N O:List (List Int)} {M:List (Int×Int)} {W:List T_A2} {u v:Nat} (H:PartOk p) (F:FoldI p s t cl N O M (⟨(↑u:Int),(↑v:Int)⟩::W)) (hu:u<p.Next.length) (hv:v<p.Next.length) (huv:Cong p s t u v) (hne:cl u≠cl v) {N1 O1:List (List Int)} {W1:List T_A2} (J:InI p.Next.length p.Inputs.toNat N O W (min (cl u) (cl v)) (max (cl u) (cl v)) N1 O1 W1 p.Inputs.toNat) :
  FoldI p s t (joinF cl u v) N1 O1 (mset (↑(max (cl u) (cl v)):Int) (↑(min (cl u) (cl v)):Int) M) W1∧65*repsN p.Next.length (joinF cl u v)+W1.length<65*repsN p.Next.length cl+(W.length+1):=by
 obtain ⟨C,K⟩:=F.cls
 have hn:=H.n2
 have hi:=H.i2
 obtain ⟨C',_,K',hreps⟩:=K.join hu hv huv (by omega)
 have hreps:=hreps hne
 obtain ⟨m1,m2⟩:=K.mm hu hv
 have hup:=F.up.join K hu hv hne
 have hcu:=K.le u hu
 have hcv:=K.le v hv
 have hcc:Cong p s t (min (cl u) (cl v)) (max (cl u) (cl v)):=by
  have h0:Cong p s t (cl u) (cl v):=(K.sound u hu).symm.trans (huv.trans (K.sound v hv))
  rcases Nat.le_total (cl u) (cl v) with h | h
  ·rw [Nat.max_eq_right h,Nat.min_eq_left h];exact h0
  ·rw [Nat.max_eq_left h,Nat.min_eq_right h];exact h0.symm
 have hj:∀ r,joinF cl u v r=if cl r=max (cl u) (cl v) then min (cl u) (cl v) else cl r:=fun r=>rfl
 have hsame:=joinF_same cl u v
 have hlt:min (cl u) (cl v)<max (cl u) (cl v):=by omega
 have hl1:min (cl u) (cl v)<p.Next.length:=by omega
 have hl2:max (cl u) (cl v)<p.Next.length:=by omega
 generalize hc1:min (cl u) (cl v)=c1 at *
 generalize hc2:max (cl u) (cl v)=c2 at *
 have hj1:∀ r,cl r=c1→joinF cl u v r=c1:=fun r h=>by rw [hj,h,if_neg (by omega)]
 have hj2:∀ r,cl r=c2→joinF cl u v r=c1:=fun r h=>by rw [hj,h,if_pos rfl]
 have hj3:∀ r c,cl r=c→c≠c2→joinF cl u v r=c:=fun r c h h2=>by rw [hj,h,if_neg h2]
 have hsub:∀ f,Lab p.Next.length (joinF cl u v) W1 f→Lab p.Next.length cl (⟨(↑u:Int),(↑v:Int)⟩::W) f:=fun f ⟨f1,f2⟩=>⟨fun q r hq hr e=>f1 q r hq hr (zlg e),fun u' v' h=>by
  rcases List.mem_cons.1 h with h | h
  ·injection h with h3 h4
   have e1:u'=u:=by omega
   have e2:v'=v:=by omega
   rw [e1,e2]
   exact f1 _ _ hu hv hsame
  ·exact f2 u' v' (J.w0 _ h)⟩
 have hfew:=F.few
 have hJ:=J.few
 rw [List.length_cons] at hfew
 have hrng:∀ q a,q<p.Next.length→a<p.Inputs.toNat→gx N1 q a=-1∨∃ u:Nat,gx N1 q a=(↑u:Int)∧u<p.Next.length:=fun q a hq ha=>by
  rw [J.nx q a hq ha]
  split
  ·exact F.rng _ _ hl2 ha
  ·exact F.rng _ _ hq ha
 refine ⟨⟨J.gn,J.go,⟨C',K'⟩,hup,fun w hw=>?_,fun f hf=>F.st f (hsub f hf),fun c a hc ha hcl=>?_,by omega,hrng⟩,by omega⟩
 ·rcases J.wk w hw with h | ⟨b,b1,b2,b3,b4⟩
  ·exact F.wk w (List.mem_cons_of_mem _ h)
  ·obtain ⟨u1,a1,a2,⟨r1,d1,d2,d3,_⟩,_⟩:=(F.row c1 b hl1 b1 m1).2 b2
   obtain ⟨u2,e1,e2,⟨r2,g1,g2,g3,_⟩,_⟩:=(F.row c2 b hl2 b1 m2).2 b3
   refine ⟨u1,u2,by rw [b4,a1,e1],a2,e2,.step b u1 u2 ?_ d3 g3⟩
   have k1:=K.sound r1 d1
   have k2:=K.sound r2 g1
   rw [d2] at k1
   rw [g2] at k2
   exact k1.trans (hcc.trans k2.symm)
 ·have hcc2:cl c=c∧c≠c2:=by
   rw [hj] at hcl
   split at hcl
   ·rename_i g
    rw [← hcl,m1] at g
    omega
   ·rename_i g
    exact ⟨hcl,fun e=>g (by rw [e];exact m2)⟩
  have hclass:∀ r,joinF cl u v r=c→cl r=c∨(c=c1∧cl r=c2):=fun r h=>by
   rw [hj] at h
   split at h
   ·rename_i g
    exact .inr ⟨h.symm,g⟩
   ·exact .inl h
  by_cases e:c=c1
  ·have hN:=J.nx c a hc ha
   have hO:=J.ot c a hc ha
   rw [e] at hN hO hclass
   rw [e]
   have row1:=F.row c1 a hl1 ha m1
   have row2:=F.row c2 a hl2 ha m2
   by_cases k1:gx N c1 a=-1
   ·rw [if_pos ⟨rfl,ha,k1⟩] at hN hO
    rw [hN,hO]
    refine ⟨fun k2=>⟨(row2.1 k2).1,fun r hr hrc=>?_⟩,fun k2=>?_⟩
    ·rcases hclass r hrc with h | ⟨_,h⟩
     ·exact (row1.1 k1).2 r hr h
     ·exact (row2.1 k2).2 r hr h
    ·obtain ⟨u2,a1,a2,⟨r2,b1,b2,b3,b4⟩,a4⟩:=row2.2 k2
     refine ⟨u2,a1,a2,⟨r2,b1,hj2 _ b2,b3,b4⟩,fun r hr hrc hp=>?_⟩
     rcases hclass r hrc with h | ⟨_,h⟩
     ·exact absurd ((row1.1 k1).2 r hr h) hp
     ·obtain ⟨d1,d2⟩:=a4 r hr h hp
      exact ⟨d1,fun f hf=>d2 f (hsub f hf)⟩
   ·rw [if_neg (fun h=>k1 h.2.2)] at hN hO
    rw [hN,hO]
    refine ⟨fun k=>absurd k k1,fun _=>?_⟩
    obtain ⟨u1,a1,a2,⟨r1,b1,b2,b3,b4⟩,a4⟩:=row1.2 k1
    refine ⟨u1,a1,a2,⟨r1,b1,hj1 _ b2,b3,b4⟩,fun r hr hrc hp=>?_⟩
    rcases hclass r hrc with h | ⟨_,h⟩
    ·obtain ⟨d1,d2⟩:=a4 r hr h hp
     exact ⟨d1,fun f hf=>d2 f (hsub f hf)⟩
    ·have k2:gx N c2 a≠-1:=fun k=>hp ((row2.1 k).2 r hr h)
     obtain ⟨u2,e1,e2,_,e4⟩:=row2.2 k2
     obtain ⟨d1,d2⟩:=e4 r hr h hp
     obtain ⟨j1,j2⟩:=J.w1 a ha k1 k2
     rw [a1,e1] at j2
     exact ⟨by rw [j1];exact d1,fun f hf=>(hf.2 u1 u2 j2).trans (d2 f (hsub f hf))⟩
  ·have hN:=J.nx c a hc ha
   have hO:=J.ot c a hc ha
   rw [if_neg (fun h=>e h.1)] at hN hO
   rw [hN,hO]
   have row1:=F.row c a hc ha hcc2.1
   have hcl2:∀ r,joinF cl u v r=c→cl r=c:=fun r h=>(hclass r h).elim id fun h=>absurd h.1 e
   refine ⟨fun k=>⟨(row1.1 k).1,fun r hr hrc=>(row1.1 k).2 r hr (hcl2 r hrc)⟩,fun k=>?_⟩
   obtain ⟨u1,a1,a2,⟨r1,b1,b2,b3,b4⟩,a4⟩:=row1.2 k
   refine ⟨u1,a1,a2,⟨r1,b1,hj3 _ _ b2 hcc2.2,b3,b4⟩,fun r hr hrc hp=>?_⟩
   obtain ⟨d1,d2⟩:=a4 r hr (hcl2 r hrc) hp
   exact ⟨d1,fun f hf=>d2 f (hsub f hf)⟩
theorem fold_step (H:PartOk p) {cl:Nat→Nat} {N O:List (List Int)} {M:List (Int×Int)} {W:List T_A2} (F:FoldI p s t cl N O M W) :
  (W=[]∧zac.s46 N O M W=some (.inr (.inl (N,O,M))))∨(zac.s46 N O M W=some (.inr (.inr (⟨0,0,[],[]⟩,[],false)))∧Confl p s t)∨∃ N' O' M' W' cl',zac.s46 N O M W=some (.inl (N',O',M',W'))∧FoldI p s t cl' N' O' M' W'∧65*repsN p.Next.length cl'+W'.length<65*repsN p.Next.length cl+W.length:=by
 have hn:=H.n2
 have hi:=H.i2
 cases W with
 | nil=>exact .inl ⟨rfl,by unfold zac.s46;rw [decide_eq_false (by simp),cond_false]⟩
 | cons w W =>
  right
  obtain ⟨u,v,rfl,hu,hv,huv⟩:=F.wk w List.mem_cons_self
  obtain ⟨C,K⟩:=F.cls
  have hfew:=F.few
  rw [List.length_cons] at hfew
  have hcu:=K.le u hu
  have hcv:=K.le v hv
  have e0:=of_eq F.up (by omega) hu
  have e1:=of_eq F.up (by omega) hv
  by_cases g:cl u=cl v
  ·right
   refine ⟨N,O,M,W,cl,?_,⟨F.gn,F.go,F.cls,F.up,fun w hw=>F.wk w (List.mem_cons_of_mem _ hw),fun f hf=>F.st f ?_,fun c a hc ha hcl=>?_,by omega,F.rng⟩,by rw [List.length_cons];omega⟩
   ·unfold zac.s46
    rw [decide_eq_true (by rw [List.length_cons];omega),cond_true,idxn_at (x:=⟨(↑u:Int),(↑v:Int)⟩) rfl,e0,obind,idxn_at (x:=⟨(↑u:Int),(↑v:Int)⟩) rfl,e1,obind,chk_pos (by simp),decide_eq_true (by simp [g]),cond_true,obind,Sum.elim_inl]
    rfl
   ·refine ⟨hf.1,fun u' v' h=>?_⟩
    rcases List.mem_cons.1 h with h | h
    ·injection h with h3 h4
     have q1:u'=u:=by omega
     have q2:v'=v:=by omega
     rw [q1,q2]
     exact hf.1 u v hu hv g
    ·exact hf.2 u' v' h
   ·have hlab:∀ f,Lab p.Next.length cl W f→Lab p.Next.length cl (⟨(↑u:Int),(↑v:Int)⟩::W) f:=fun f hf=>⟨hf.1,fun u' v' h=>by
     rcases List.mem_cons.1 h with h | h
     ·injection h with h3 h4
      have q1:u'=u:=by omega
      have q2:v'=v:=by omega
      rw [q1,q2]
      exact hf.1 u v hu hv g
     ·exact hf.2 u' v' h⟩
    obtain ⟨r1,r2⟩:=F.row c a hc ha hcl
    refine ⟨r1,fun k=>?_⟩
    obtain ⟨x,a1,a2,a3,a4⟩:=r2 k
    exact ⟨x,a1,a2,a3,fun r hr hrc hp=>⟨(a4 r hr hrc hp).1,fun f hf=>(a4 r hr hrc hp).2 f (hlab f hf)⟩⟩
  ·have hl1:min (cl u) (cl v)<p.Next.length:=by omega
   have hl2:max (cl u) (cl v)<p.Next.length:=by omega
   obtain ⟨m1,m2⟩:=K.mm hu hv
   obtain ⟨x2,hx2,hxl⟩:=F.gn.row _ hl2
   obtain ⟨r,e,hr⟩:=loop_in (W0:=W) (c1:=min (cl u) (cl v)) (c2:=max (cl u) (cl v)) (x:=((↑(cl u):Int),M)) (y:=((↑(cl v):Int),M)) (show min (↑(cl u):Int) (↑(cl v):Int)=_ by omega) (show max (↑(cl u):Int) (↑(cl v):Int)=_ by omega) hl1 hl2 (by omega) hxl (by omega) F.gn F.go (fun b hb h=>((F.row _ b hl1 hb m1).1 h).1) (fun b hb h=>((F.row _ b hl2 hb m2).1 h).1) (by omega)
   have es:zac.s46 N O M (⟨(↑u:Int),(↑v:Int)⟩::W)=((Sum.elim (fun (s:List (List Int)×List (List Int)×List T_A2)=>zac.k44 (mset (↑(max (cl u) (cl v)):Int) (↑(min (cl u) (cl v)):Int) M) s.1 s.2.1 s.2.2) some r)).bind (Sum.elim (fun (s:List (List Int)×List (List Int)×(List (Int×Int))×List T_A2)=>zac.k45 s.1 s.2.1 s.2.2.1 s.2.2.2) some):=by
    unfold zac.s46
    have ej:zb7 ⟨M⟩ (min (↑(cl u):Int) (↑(cl v):Int)) (max (↑(cl u):Int) (↑(cl v):Int))=some (mset (↑(max (cl u) (cl v)):Int) (↑(min (cl u) (cl v)):Int) M):=by
     unfold zb7
     rw [show max (↑(cl u):Int) (↑(cl v):Int)=(↑(max (cl u) (cl v)):Int) by omega,show min (↑(cl u):Int) (↑(cl v):Int)=(↑(min (cl u) (cl v)):Int) by omega]
    rw [decide_eq_true (by rw [List.length_cons];omega),cond_true,idxn_at (x:=⟨(↑u:Int),(↑v:Int)⟩) rfl,e0,obind,idxn_at (x:=⟨(↑u:Int),(↑v:Int)⟩) rfl,e1,obind,chk_pos (by simp),decide_eq_false (by simp only;omega),cond_false,ej,obind,idx_at (i:=max (cl u) (cl v)) (by simp only;omega) hx2,List.drop_succ_cons,List.drop_zero,e,obind]
   rw [es]
   rcases hr with ⟨hr,b,b1,b2,b3,b4⟩ | ⟨N1,O1,W1,hr,J⟩
   ·left
    refine ⟨by rw [hr,Sum.elim_inr,obind,Sum.elim_inr],?_⟩
    obtain ⟨u1,_,_,⟨r1,d1,d2,d3,d4⟩,_⟩:=(F.row _ b hl1 b1 m1).2 b2
    obtain ⟨u2,_,_,⟨r2,g1,g2,g3,g4⟩,_⟩:=(F.row _ b hl2 b1 m2).2 b3
    have k1:=K.sound r1 d1
    have k2:=K.sound r2 g1
    rw [d2] at k1
    rw [g2] at k2
    have h0:Cong p s t (cl u) (cl v):=(K.sound u hu).symm.trans (huv.trans (K.sound v hv))
    have hcc:Cong p s t (min (cl u) (cl v)) (max (cl u) (cl v)):=by
     rcases Nat.le_total (cl u) (cl v) with h | h
     ·rw [Nat.max_eq_right h,Nat.min_eq_left h];exact h0
     ·rw [Nat.max_eq_left h,Nat.min_eq_right h];exact h0.symm
    exact ⟨r1,r2,b,k1.trans (hcc.trans k2.symm),by rw [d3];omega,by rw [g3];omega,by rw [d4,g4];exact b4⟩
   ·right
    obtain ⟨F',hd⟩:=F.join H hu hv huv g J
    exact ⟨N1,O1,_,W1,_,by rw [hr,Sum.elim_inl];unfold zac.k44;rw [obind,Sum.elim_inl];rfl,F',by rw [List.length_cons];exact hd⟩
def repsM (n:Nat) (M:List (Int×Int)):Nat:=(List.range n).countP fun (q:Nat)=>(mget (↑q:Int) M).isNone
theorem loop_fold (H:PartOk p) (hs:s<p.Next.length) (ht:t<p.Next.length) :
  ∃ r,iter (fun (q:List (List Int)×List (List Int)×(List (Int×Int))×List T_A2)=>zac.s46 q.1 q.2.1 q.2.2.1 q.2.2.2) fuel (p.Next,p.Out,[],[⟨(↑s:Int),(↑t:Int)⟩])=some r ∧
   ((r=.inr (⟨0,0,[],[]⟩,[],false)∧Confl p s t)∨∃ N O M cl,r=.inl (N,O,M)∧FoldI p s t cl N O M []):=by
 have hn:=H.n2
 have hi:=H.i2
 have K0:ClsL p s t ((List.range p.Next.length).map fun (b:Nat)=>(↑b:Int)) (fun b=>b):=⟨by simp,fun q hq=>by rw [List.getElem?_map,List.getElem?_range hq];rfl,fun q _=>Nat.le_refl q,fun _ _=>rfl,fun q _=>.refl q⟩
 have F0:FoldI p s t (fun b=>b) p.Next p.Out [] [⟨(↑s:Int),(↑t:Int)⟩]:=by
  refine ⟨H.gn,H.go,⟨_,K0⟩,⟨fun q _ _=>rfl,fun q _ h=>absurd rfl h⟩,fun w hw=>⟨s,t,List.mem_singleton.1 hw,hs,ht,.base⟩,fun f hf=>hf.2 s t (List.mem_singleton.2 rfl),fun c a hc ha _=>?_,?_,fun q a hq ha=>?_⟩
  ·obtain ⟨n1,n2,n3,n4,n5,_⟩:=H.at hc ha
   have h1:gx p.Next c a=pnx p c a:=rfl
   have h2:gx p.Out c a=pot p c a:=rfl
   rw [h1,h2]
   refine ⟨fun h=>⟨n5.1 h,fun r _ e=>by rw [e];exact h⟩,fun h=>⟨(pnx p c a).toNat,by omega,by omega,⟨c,hc,rfl,by omega,rfl⟩,fun r _ e _=>?_⟩⟩
   rw [e]
   exact ⟨rfl,fun f _=>rfl⟩
  ·have:=repsN_le p.Next.length fun b=>b
   simp only [List.length_singleton]
   omega
  ·obtain ⟨n1,n2,_⟩:=H.at hq ha
   have h1:gx p.Next q a=pnx p q a:=rfl
   rw [h1]
   by_cases k:pnx p q a=-1
   ·exact .inl k
   ·exact .inr ⟨(pnx p q a).toNat,by omega,by omega⟩
 have hm:∀ (cl:Nat→Nat) (M:List (Int×Int)),UpOk p.Next.length cl M→repsM p.Next.length M=repsN p.Next.length cl:=fun cl M U=>by
  unfold repsM repsN
  refine List.countP_congr fun q hq=>?_
  have hq:=List.mem_range.1 hq
  by_cases h:cl q=q
  ·rw [U.u0 q hq h,decide_eq_true h]
   simp
  ·obtain ⟨w,_,w2,_⟩:=U.u1 q hq h
   rw [w2,decide_eq_false h]
   simp
 refine za3 (step:=fun (q:List (List Int)×List (List Int)×(List (Int×Int))×List T_A2)=>zac.s46 q.1 q.2.1 q.2.2.1 q.2.2.2) (fun q=>∃ cl,FoldI p s t cl q.1 q.2.1 q.2.2.1 q.2.2.2) (fun q=>65*repsM p.Next.length q.2.2.1+q.2.2.2.length) (fun r=>(r=.inr (⟨0,0,[],[]⟩,[],false)∧Confl p s t)∨∃ N O M cl,r=.inl (N,O,M)∧FoldI p s t cl N O M []) (fun ⟨N,O,M,W⟩ ⟨cl,F⟩=>?_) fuel _ ⟨_,F0⟩ ?_
 ·simp only at F
  simp only
  rcases fold_step H F with ⟨e1,e2⟩ | ⟨e1,e2⟩ | ⟨N',O',M',W',cl',e1,F',e2⟩
  ·rw [e1] at F
   exact .inr ⟨_,e2,.inr ⟨N,O,M,cl,rfl,F⟩⟩
  ·exact .inr ⟨_,e1,.inl ⟨rfl,e2⟩⟩
  ·exact .inl ⟨(N',O',M',W'),e1,⟨cl',F'⟩,by simp only;rw [hm _ _ F.up,hm _ _ F'.up];exact e2⟩
 ·have h1:=hm _ _ F0.up
  have h2:=repsN_le p.Next.length fun b=>b
  have:=fuel_big
  simp only [List.length_singleton]
  omega
theorem FoldI.done (H:PartOk p) (hs:s<p.Next.length) (ht:t<p.Next.length) {cl:Nat→Nat} {N O:List (List Int)} {M:List (Int×Int)} (F:FoldI p s t cl N O M []):(∀ q,q<p.Next.length→cl q=clsOf p s t q)∧¬ Confl p s t:=by
 obtain ⟨C,K⟩:=F.cls
 have hlab:Lab p.Next.length cl [] cl:=⟨fun _ _ _ _ h=>h,fun _ _ h=>by cases h⟩
 refine cls_done H hs ht K (F.st cl hlab) fun a ha q r hq hr e h1 h2=>?_
 have hc:cl q<p.Next.length:=by have:=K.le q hq;omega
 obtain ⟨r1,r2⟩:=F.row (cl q) a hc ha (K.idem q hq)
 by_cases k:gx N (cl q) a=-1
 ·exact absurd ((r1 k).2 q hq rfl) h1
 ·obtain ⟨u,a1,a2,a3,a4⟩:=r2 k
  obtain ⟨b1,b2⟩:=a4 q hq rfl h1
  obtain ⟨c1,c2⟩:=a4 r hr e.symm h2
  exact ⟨b1.trans c1.symm,(b2 cl hlab).symm.trans (c2 cl hlab)⟩
end
end Go.Proofs.YteigfkncoiiaiaaGreatDoor.Sym

/-
 A machine numbered anew, in breadth from its start. Plain laws.
-/
namespace Go.Proofs.YteigfkncoiiaiaaGreatDoor.Sym
set_option maxRecDepth 100000
theorem zfk {α:Type} [DecidableEq α]:∀ {a b:List α},a.Nodup→(∀ x∈a,x∈b)→a.length≤b.length
 | [],_,_,_=>Nat.zero_le _
 | x::a,b,hn,h=>by
  obtain ⟨h1,h2⟩:=List.nodup_cons.1 hn
  have:=zfk (a:=a) (b:=b.erase x) h2 fun y hy=>(List.mem_erase_of_ne (fun e=>h1 (by rw [← e];exact hy))).2 (h y (List.mem_cons_of_mem _ hy))
  rw [List.length_erase_of_mem (h x List.mem_cons_self)] at this
  have hp:0<b.length:=List.length_pos_of_mem (h x List.mem_cons_self)
  rw [List.length_cons]
  omega
def addT (L:List Nat) (t:Int):List Nat:=if t=-1∨t.toNat∈L then L else L++[t.toNat]
def bfsL (R:Nat→List Int):Nat→Nat→List Nat→List Nat
 | 0,_,L=>L
 | f+1,i,L=>match L[i]? with
  | none=>L
  | some c=>bfsL R f (i+1) ((R c).foldl addT L)
structure NumL (n:Nat) (L:List Nat) (nums:List Int):Prop where
 len:nums.length=n
 at_:∀ c,c<n→nums[c]?=some (if c∈L then (↑(L.idxOf c):Int) else -1)
 nd:L.Nodup
 lt:∀ c,c∈L→c<n
theorem NumL.le {n:Nat} {L:List Nat} {nums:List Int} (A:NumL n L nums):L.length≤n:=by
 have:=zfk (b:=List.range n) A.nd fun x hx=>List.mem_range.2 (A.lt x hx)
 rwa [List.length_range] at this
theorem NumL.push {n:Nat} {L:List Nat} {nums:List Int} (A:NumL n L nums) {c:Nat} (hc:c<n) (h:c∉L):NumL n (L++[c]) (nums.set c (↑L.length:Int)):=by
 have hl:=A.len
 refine ⟨by rw [List.length_set];exact A.len,fun d hd=>?_,?_,fun d hd=>?_⟩
 ·by_cases e:d=c
  ·subst e
   rw [List.getElem?_set_self (by omega),if_pos (List.mem_append_right _ (List.mem_singleton.2 rfl)),List.idxOf_append,if_neg h]
   simp
  ·rw [List.getElem?_set_ne (by omega),A.at_ d hd]
   by_cases k:d∈L
   ·rw [if_pos k,if_pos (List.mem_append_left _ k),List.idxOf_append,if_pos k]
   ·rw [if_neg k,if_neg (fun g=>(List.mem_append.1 g).elim k fun g=>e (List.mem_singleton.1 g))]
 ·refine List.nodup_append.2 ⟨A.nd,by simp,fun a ha b hb=>?_⟩
  rw [List.mem_singleton.1 hb]
  exact fun g=>h (by rw [← g];exact ha)
 ·rcases List.mem_append.1 hd with k | k
  ·exact A.lt d k
  ·rw [List.mem_singleton.1 k];exact hc
def cast_ (L:List Nat):List Int:=L.map fun (c:Nat)=>(↑c:Int)
theorem loop_s18 {n:Nat} {e:List Int} (he:∀ (k:Nat) (t:Int),e[k]?=some t→t=-1∨∃ u:Nat,t=(↑u:Int)∧u<n) (hl:e.length≤1000000) {L:List Nat} {nums:List Int} (A:NumL n L nums) (hn:n≤1000000) :
  ∃ nums',iter (fun (s:List Int×List Int×Nat)=>zag.s18 e s.1 s.2.1 s.2.2) fuel (nums,cast_ L,0)=some (nums',cast_ (e.foldl addT L))∧NumL n (e.foldl addT L) nums':=by
 have key:=za3 (step:=fun (s:List Int×List Int×Nat)=>zag.s18 e s.1 s.2.1 s.2.2) (fun s=>s.2.2≤e.length∧∃ L',s.2.1=cast_ L'∧NumL n L' s.1∧(e.drop s.2.2).foldl addT L'=e.foldl addT L) (fun s=>e.length-s.2.2) (fun r=>∃ nums',r=(nums',cast_ (e.foldl addT L))∧NumL n (e.foldl addT L) nums') (fun ⟨y,z,k⟩ ⟨g1,L',g2,g3,g4⟩=>by
  simp only at g1 g2 g3 g4
  subst g2
  simp only [zag.s18]
  by_cases h:k<e.length
  ·left
   have hx:=get_at h
   have hd:(e.drop k).foldl addT L'=(e.drop (k+1)).foldl addT (addT L' e[k]):=by rw [List.drop_eq_getElem_cons h,List.foldl_cons]
   rw [hd] at g4
   rw [dec_lt hx,cond_true,idxn_at hx]
   by_cases t0:e[k]=-1
   ·exact ⟨(y,cast_ L',k+1),by rw [decide_eq_false (fun g=>g t0),cond_false,obind,cond_false],⟨h,L',rfl,g3,by rw [← g4];unfold addT;rw [if_pos (.inl t0)]⟩,by simp only;omega⟩
   ·obtain ⟨u,hu,hun⟩:=(he k _ hx).resolve_left t0
    have hy:=g3.at_ u hun
    rw [decide_eq_true t0,cond_true,idx_at (i:=u) hu hy,obind]
    by_cases k1:u∈L'
    ·rw [if_pos k1,decide_eq_false (by omega),cond_false]
     exact ⟨(y,cast_ L',k+1),rfl,⟨h,L',rfl,g3,by rw [← g4];unfold addT;rw [if_pos (.inr (by rw [hu];exact k1))]⟩,by simp only;omega⟩
    ·have hle:=g3.le
     have hcl:(cast_ L').length=L'.length:=by unfold cast_;rw [List.length_map]
     rw [if_neg k1,decide_eq_true rfl,cond_true,idx_at (i:=u) hu hy,chk_pos (by unfold capOk;omega)]
     refine ⟨(y.set u (↑L'.length:Int),cast_ (L'++[u]),k+1),?_,⟨h,L'++[u],rfl,g3.push hun k1,?_⟩,by simp only;omega⟩
     ·rw [hu,hcl]
      unfold cast_
      rw [List.map_append,Int.toNat_natCast]
      rfl
     ·rw [← g4]
      unfold addT
      rw [if_neg (fun g=>g.elim t0 fun g=>k1 (by rw [hu] at g;exact g)),hu,Int.toNat_natCast]
  ·right
   have e1:k=e.length:=by omega
   subst e1
   rw [List.drop_length] at g4
   refine ⟨_,by rw [dec_end,cond_false],y,?_,?_⟩
   ·rw [← g4];rfl
   ·rw [← g4];exact g3) fuel (nums,cast_ L,0) ⟨Nat.zero_le _,L,rfl,A,rfl⟩ (by have:=fuel_big;simp only;omega)
 obtain ⟨r,e1,nums',rfl,h⟩:=key
 exact ⟨nums',e1,h⟩
structure RenOk (p:zaa):Prop where
 i1:0≤p.Inputs
 i2:p.Inputs≤64
 n2:p.Next.length≤1000000
 st:∃ c:Nat,p.Start=(↑c:Int)∧c<p.Next.length
 gn:Grid p.Next.length p.Inputs.toNat p.Next
 go:Grid p.Next.length p.Inputs.toNat p.Out
 rng:∀ q a,q<p.Next.length→a<p.Inputs.toNat→gx p.Next q a=-1∨∃ u:Nat,gx p.Next q a=(↑u:Int)∧u<p.Next.length
def ordP (p:zaa):List Nat:=bfsL (fun c=>(p.Next[c]?).getD []) (p.Next.length+1) 0 [p.Start.toNat]
theorem zes {x:Nat} (hx:x≤1000000):zbr (↑x:Int)=some (List.replicate x (-1)):=by
 unfold zbr
 rw [chk_pos ⟨by omega,Int.le_refl _,by unfold capOk;omega⟩,Int.toNat_natCast]
 have key:=za3 (step:=fun (q:List Int×Nat)=>zbr.s2 (↑x:Int) q.1 q.2) (fun q=>q.2≤x∧Wrt (fun _=>(-1:Int)) (List.replicate x 0) q.2 q.1) (fun q=>x-q.2) (fun r=>r=List.replicate x (-1)) (fun ⟨y,i⟩ ⟨g1,g2⟩=>by
  simp only at g1 g2
  simp only [zbr.s2,Int.toNat_natCast,List.length_replicate]
  have hyl:=g2.len
  rw [List.length_replicate] at hyl
  by_cases h:i<x
  ·left
   exact ⟨(y.set i (-1),i+1),by rw [decide_eq_true (by omega),cond_true,idxn_at (get_at (l:=y) (i:=i) (by omega)),chk_pos (by unfold inR;omega)],⟨h,g2.step (by rw [List.length_replicate];exact h) rfl⟩,by simp only;omega⟩
  ·right
   refine ⟨_,by rw [decide_eq_false (by omega),cond_false],?_⟩
   rw [g2.done (by rw [List.length_replicate];omega),List.length_replicate]
   exact List.ext_getElem? fun b=>by
    by_cases g:b<x
    ·rw [List.getElem?_map,List.getElem?_range g,List.getElem?_replicate,if_pos g];rfl
    ·rw [List.getElem?_eq_none (by simp;omega),List.getElem?_eq_none (by simp;omega)]) fuel (List.replicate x 0,0) ⟨Nat.zero_le _,Wrt.zero _ _⟩ (by have:=fuel_big;simp only;omega)
 obtain ⟨r,e,rfl⟩:=key
 rw [e,obind]
theorem loop_s20 {p:zaa} (R:RenOk p):∃ nums,iter (fun (s:List Int×List Int×Nat)=>zag.s20 p s.1 s.2.1 s.2.2) fuel ((List.replicate p.Next.length (-1)).set p.Start.toNat 0,[p.Start],0)=some (nums,cast_ (ordP p))∧NumL p.Next.length (ordP p) nums:=by
 obtain ⟨c,hc,hcl⟩:=R.st
 have hn:=R.n2
 have A0:NumL p.Next.length [c] ((List.replicate p.Next.length (-1)).set c 0):=by
  have B:NumL p.Next.length [] (List.replicate p.Next.length (-1)):=⟨List.length_replicate,fun d hd=>by rw [List.getElem?_replicate,if_pos hd,if_neg List.not_mem_nil],List.nodup_nil,fun d hd=>by cases hd⟩
  exact B.push hcl List.not_mem_nil
 have key:=za3 (step:=fun (s:List Int×List Int×Nat)=>zag.s20 p s.1 s.2.1 s.2.2) (fun s=>∃ L,s.2.1=cast_ L∧s.2.2≤L.length∧NumL p.Next.length L s.1∧bfsL (fun c=>(p.Next[c]?).getD []) (p.Next.length+1-s.2.2) s.2.2 L=ordP p) (fun s=>p.Next.length+1-s.2.2) (fun r=>∃ nums,r=(nums,cast_ (ordP p))∧NumL p.Next.length (ordP p) nums) (fun ⟨y,z,i⟩ ⟨L,g1,g2,g3,g4⟩=>by
  simp only at g1 g2 g3 g4
  subst g1
  simp only [zag.s20]
  have hle:=g3.le
  have hcast:(cast_ L).length=L.length:=by unfold cast_;rw [List.length_map]
  by_cases h:i<L.length
  ·left
   have hx:=get_at h
   have hq:L[i]<p.Next.length:=g3.lt _ (List.getElem_mem h)
   obtain ⟨x,x1,x2⟩:=R.gn.row _ hq
   obtain ⟨nums',e1,e2⟩:=loop_s18 (e:=x) (fun k t hk=>by
    have hk2:=(List.getElem?_eq_some_iff.1 hk).1
    have:=R.rng L[i] k hq (by omega)
    unfold gx at this
    rw [x1,Option.getD_some,hk,Option.getD_some] at this
    exact this) (by have:=R.i2;omega) g3 hn
   have hL2:=e2.le
   have hgrow:i+1≤(x.foldl addT L).length:=by
    have:∀ (x:List Int) (L:List Nat),L.length≤(x.foldl addT L).length:=by
     intro x
     induction x with
     | nil=>exact fun L=>Nat.le_refl _
     | cons t x ih =>
      intro L
      rw [List.foldl_cons]
      refine Nat.le_trans ?_ (ih _)
      unfold addT
      split
      ·exact Nat.le_refl _
      ·rw [List.length_append];omega
    have:=this x L
    omega
   refine ⟨(nums',cast_ (x.foldl addT L),i+1),?_,⟨_,rfl,hgrow,e2,?_⟩,by simp only;omega⟩
   ·rw [decide_eq_true (by omega),cond_true,idxn_at (x:=(↑L[i]:Int)) (by unfold cast_;rw [List.getElem?_map,hx];rfl),idx_at (i:=L[i]) rfl x1,e1,obind]
    rfl
   ·rw [← g4,show p.Next.length+1-i=(p.Next.length+1-(i+1))+1 by omega]
    simp only [bfsL,hx,x1,Option.getD_some]
  ·right
   have e1:ordP p=L:=by
    rw [← g4]
    cases hk:p.Next.length+1-i with
    | zero=>rfl
    | succ k =>
     simp only [bfsL]
     rw [show L[i]?=none from List.getElem?_eq_none (by omega)]
   exact ⟨_,by rw [decide_eq_false (by omega),cond_false],y,by rw [e1],by rw [e1];exact g3⟩) fuel ((List.replicate p.Next.length (-1)).set p.Start.toNat 0,[p.Start],0) ⟨[c],by rw [hc];rfl,Nat.zero_le _,by rw [hc];exact A0,by unfold ordP;rw [hc,Int.toNat_natCast];rfl⟩ (by have:=fuel_big;simp only;omega)
 obtain ⟨r,e1,nums,rfl,h⟩:=key
 exact ⟨nums,e1,h⟩
end Go.Proofs.YteigfkncoiiaiaaGreatDoor.Sym

/-
 A machine numbered anew: its rows. Plain laws.
-/
namespace Go.Proofs.YteigfkncoiiaiaaGreatDoor.Sym
set_option maxRecDepth 100000
def numT (F:List Nat) (t:Int):Int:=if t≠-1∧t.toNat∈F then (↑(F.idxOf t.toNat):Int) else -1
def rowNQ (p:zaa) (F:List Nat) (c:Nat):List Int:=(List.range p.Inputs.toNat).map fun a=>numT F (gx p.Next c a)
def rowOQ (p:zaa) (c:Nat):List Int:=(List.range p.Inputs.toNat).map fun a=>if gx p.Next c a=-1 then (-1:Int) else gx p.Out c a
theorem loop_s38 {p:zaa} (R:RenOk p) {F:List Nat} {nums:List Int} (A:NumL p.Next.length F nums) {c:Nat} (hc:c<p.Next.length) {x:List Int} (hx:p.Next[c]?=some x) :
  iter (fun (s:List Int×List Int×Nat)=>zag.s38 p nums (↑c:Int) x s.1 s.2.1 s.2.2) fuel (List.replicate p.Inputs.toNat (-1),List.replicate p.Inputs.toNat (-1),0)=some (rowNQ p F c,rowOQ p c):=by
 have hi:=R.i2
 obtain ⟨x',hx',hxl⟩:=R.gn.row c hc
 rw [hx] at hx'
 injection hx' with hx'
 subst hx'
 have key:=za3 (step:=fun (s:List Int×List Int×Nat)=>zag.s38 p nums (↑c:Int) x s.1 s.2.1 s.2.2) (fun s=>s.2.2≤p.Inputs.toNat∧Wrt (fun a=>numT F (gx p.Next c a)) (List.replicate p.Inputs.toNat (-1)) s.2.2 s.1∧Wrt (fun a=>if gx p.Next c a=-1 then (-1:Int) else gx p.Out c a) (List.replicate p.Inputs.toNat (-1)) s.2.2 s.2.1) (fun s=>p.Inputs.toNat-s.2.2) (fun r=>r=(rowNQ p F c,rowOQ p c)) (fun ⟨y,z,k⟩ ⟨g1,g2,g3⟩=>by
  simp only at g1 g2 g3
  simp only [zag.s38]
  have hl2:=g2.len
  have hl3:=g3.len
  rw [List.length_replicate] at hl2 hl3
  by_cases h:k<p.Inputs.toNat
  ·left
   obtain ⟨x1,q1,q2,q3⟩:=R.gn.at hc h
   obtain ⟨o1,r1,r2,r3⟩:=R.go.at hc h
   rw [hx] at q1
   injection q1 with q1
   subst q1
   rw [decide_eq_true (by omega),cond_true,idxn_at q2]
   by_cases t0:gx p.Next c k=-1
   ·refine ⟨(y,z,k+1),by rw [decide_eq_false (fun g=>g t0),cond_false],⟨h,g2.skip (by rw [List.length_replicate];exact h) ?_,g3.skip (by rw [List.length_replicate];exact h) ?_⟩,by simp only;omega⟩
    ·rw [List.getElem?_replicate,if_pos h]
     unfold numT
     rw [if_neg (fun g=>g.1 t0)]
    ·rw [List.getElem?_replicate,if_pos h,if_pos t0]
   ·obtain ⟨u,hu,hun⟩:=(R.rng c k hc h).resolve_left t0
    have hy:=A.at_ u hun
    refine ⟨(y.set k (numT F (gx p.Next c k)),z.set k (gx p.Out c k),k+1),?_,⟨h,g2.step (by rw [List.length_replicate];exact h) rfl,g3.step (by rw [List.length_replicate];exact h) (by rw [if_neg t0])⟩,by simp only;omega⟩
    rw [decide_eq_true t0,cond_true,idx_at (i:=u) hu hy,idx_at (i:=c) rfl r1,idxn_at r2,idxn_at (get_at (l:=y) (i:=k) (by omega)),idxn_at (get_at (l:=z) (i:=k) (by omega))]
    have:numT F (gx p.Next c k)=if u∈F then (↑(F.idxOf u):Int) else -1:=by
     unfold numT
     rw [hu,Int.toNat_natCast]
     by_cases k1:u∈F
     ·rw [if_pos ⟨by omega,k1⟩,if_pos k1]
     ·rw [if_neg (fun g=>k1 g.2),if_neg k1]
    rw [this]
  ·right
   have e1:k=p.Inputs.toNat:=by omega
   subst e1
   refine ⟨_,by rw [decide_eq_false (by omega),cond_false],?_⟩
   rw [g2.done (by rw [List.length_replicate];exact Nat.le_refl _),g3.done (by rw [List.length_replicate];exact Nat.le_refl _),List.length_replicate]
   rfl) fuel (List.replicate p.Inputs.toNat (-1),List.replicate p.Inputs.toNat (-1),0) ⟨Nat.zero_le _,Wrt.zero _ _,Wrt.zero _ _⟩ (by have:=fuel_big;simp only;omega)
 obtain ⟨r,e1,rfl⟩:=key
 exact e1
def renP (p:zaa):zaa:=⟨p.Inputs,0,(ordP p).map (rowNQ p (ordP p)),(ordP p).map (rowOQ p)⟩
theorem zbo {p:zaa} (R:RenOk p):∃ nums,zag p=some (renP p,nums)∧NumL p.Next.length (ordP p) nums:=by
 obtain ⟨nums,e1,A⟩:=loop_s20 R
 obtain ⟨c,hc,hcl⟩:=R.st
 have hn:=R.n2
 have hi:=R.i2
 have hi1:=R.i1
 have hle:=A.le
 refine ⟨nums,?_,A⟩
 have hmr:zbr p.Inputs=some (List.replicate p.Inputs.toNat (-1)):=by
  have:=zes (x:=p.Inputs.toNat) (by omega)
  rwa [Int.toNat_of_nonneg hi1] at this
 have hcast:(cast_ (ordP p)).length=(ordP p).length:=by unfold cast_;rw [List.length_map]
 have key:=za3 (step:=fun (s:List (List Int)×List (List Int)×Nat)=>zag.s40 p nums (cast_ (ordP p)) s.1 s.2.1 s.2.2) (fun s=>s.2.2≤(ordP p).length∧s.1=((ordP p).take s.2.2).map (rowNQ p (ordP p))∧s.2.1=((ordP p).take s.2.2).map (rowOQ p)) (fun s=>(ordP p).length-s.2.2) (fun r=>r=((ordP p).map (rowNQ p (ordP p)),(ordP p).map (rowOQ p))) (fun ⟨y,z,k⟩ ⟨g1,g2,g3⟩=>by
  simp only at g1 g2 g3
  subst g2
  subst g3
  simp only [zag.s40]
  by_cases h:k<(ordP p).length
  ·left
   have hx:=get_at h
   have hq:(ordP p)[k]<p.Next.length:=A.lt _ (List.getElem_mem h)
   obtain ⟨x,x1,x2⟩:=R.gn.row _ hq
   have hl1:(((ordP p).take k).map (rowNQ p (ordP p))).length=k:=by rw [List.length_map,List.length_take];omega
   have hl2:(((ordP p).take k).map (rowOQ p)).length=k:=by rw [List.length_map,List.length_take];omega
   refine ⟨(((ordP p).take (k+1)).map (rowNQ p (ordP p)),((ordP p).take (k+1)).map (rowOQ p),k+1),?_,⟨h,rfl,rfl⟩,by simp only;omega⟩
   rw [decide_eq_true (by omega),cond_true,idxn_at (x:=(↑(ordP p)[k]:Int)) (by unfold cast_;rw [List.getElem?_map,hx];rfl),hmr,obind,obind,idx_at (i:=(ordP p)[k]) rfl x1,loop_s38 R A hq x1,obind]
   unfold zag.k39
   simp only
   rw [chk_pos (by unfold capOk;omega),chk_pos (by unfold capOk;omega),List.take_succ_eq_append_getElem h,List.map_append,List.map_append]
   rfl
  ·right
   have e1:k=(ordP p).length:=by omega
   subst e1
   exact ⟨_,by rw [decide_eq_false (by omega),cond_false],by rw [List.take_length]⟩) fuel ([],[],0) ⟨Nat.zero_le _,rfl,rfl⟩ (by have:=fuel_big;simp only;omega)
 obtain ⟨r,e2,rfl⟩:=key
 unfold zag
 rw [zes hn,obind,idx_at (i:=c) hc (x:=(-1:Int)) (by rw [List.getElem?_replicate,if_pos hcl]),e1,obind]
 unfold zag.k42
 simp only
 rw [e2,obind]
 rfl
end Go.Proofs.YteigfkncoiiaiaaGreatDoor.Sym

/-
 The reference's folded machine. Plain laws.
-/
namespace Go.Proofs.YteigfkncoiiaiaaGreatDoor.Sym
set_option maxRecDepth 100000
theorem place_eq {L:List Nat} {d:Nat} (hl:L.length≤10000000):zc0 (cast_ L) (↑d:Int)=some (↑(L.idxOf d):Int):=by
 have hcast:(cast_ L).length=L.length:=by unfold cast_;rw [List.length_map]
 have key:=za3 (step:=fun (i:Nat)=>zc0.s2 (cast_ L) (↑d:Int) i) (fun i=>i≤L.length∧d∉L.take i) (fun i=>L.length-i) (fun r=>r=L.idxOf d) (fun i ⟨g1,g2⟩=>by
  simp only [zc0.s2]
  by_cases h:i<L.length
  ·have hx:=get_at h
   rw [decide_eq_true (by omega),cond_true,idxn_at (x:=(↑L[i]:Int)) (by unfold cast_;rw [List.getElem?_map,hx];rfl),obind]
   by_cases e:L[i]=d
   ·right
    refine ⟨i,by rw [decide_eq_false (by omega),cond_false],?_⟩
    have hL:L=L.take i++L[i]::L.drop (i+1):=by rw [← List.drop_eq_getElem_cons h,List.take_append_drop]
    rw [hL,List.idxOf_append,if_neg g2,e,List.idxOf_cons_self,Nat.zero_add,List.length_take]
    omega
   ·left
    refine ⟨i+1,by rw [decide_eq_true (by omega),cond_true,chk_pos (by unfold inR;omega)],⟨h,fun hm=>?_⟩,by omega⟩
    rw [List.take_succ_eq_append_getElem h] at hm
    rcases List.mem_append.1 hm with k | k
    ·exact g2 k
    ·exact e (List.mem_singleton.1 k).symm
  ·right
   have e1:i=L.length:=by omega
   subst e1
   rw [List.take_length] at g2
   exact ⟨L.length,by rw [decide_eq_false (by omega),cond_false,obind,cond_false],(List.idxOf_eq_length g2).symm⟩) fuel 0 ⟨Nat.zero_le _,by simp⟩ (by have:=fuel_big;omega)
 obtain ⟨r,e1,rfl⟩:=key
 unfold zc0
 rw [e1,obind]
section
variable {p:zaa}
theorem known_eq (H:PartOk p) {cl:Nat→Nat} {c a:Nat} (ha:a<p.Inputs.toNat):∃ k,zek p ((List.range p.Next.length).map fun q=>(↑(cl q):Int)) (↑c:Int) (↑a:Int)=some k∧((k=-1∧∀ r,r<p.Next.length→cl r=c→pnx p r a=-1)∨∃ q:Nat,k=(↑q:Int)∧q<p.Next.length∧cl q=c∧pnx p q a≠-1):=by
 have hn:=H.n2
 have key:=za3 (step:=fun (q:Nat)=>zek.s2 p ((List.range p.Next.length).map fun q=>(↑(cl q):Int)) (↑c:Int) (↑a:Int) q) (fun q=>q≤p.Next.length∧∀ r,r<q→cl r=c→pnx p r a=-1) (fun q=>p.Next.length-q) (fun r=>(r=.inl ()∧∀ r,r<p.Next.length→cl r=c→pnx p r a=-1)∨∃ q:Nat,r=.inr (↑q:Int)∧q<p.Next.length∧cl q=c∧pnx p q a≠-1) (fun q ⟨g1,g2⟩=>by
  simp only [zek.s2,List.length_map,List.length_range]
  by_cases h:q<p.Next.length
  ·obtain ⟨_,_,_,_,_,x,y,hx,hy,hxa,hya,_,_⟩:=H.at h ha
   rw [decide_eq_true (by omega),cond_true,idxn_at (x:=(↑(cl q):Int)) (by rw [List.getElem?_map,List.getElem?_range h];rfl)]
   by_cases e:cl q=c
   ·rw [decide_eq_true (by omega),cond_true,idxn_at hx,idx_at (i:=a) rfl hxa,obind]
    by_cases k:pnx p q a=-1
    ·left
     refine ⟨q+1,by rw [decide_eq_false (fun g=>g k),cond_false],⟨h,fun r hr hrc=>?_⟩,by omega⟩
     by_cases e2:r=q
     ·rw [e2];exact k
     ·exact g2 r (by omega) hrc
    ·right
     exact ⟨_,by rw [decide_eq_true k,cond_true],.inr ⟨q,rfl,h,e,k⟩⟩
   ·left
    refine ⟨q+1,by rw [decide_eq_false (by omega),cond_false,obind,cond_false],⟨h,fun r hr hrc=>?_⟩,by omega⟩
    by_cases e2:r=q
    ·rw [e2] at hrc;exact absurd hrc e
    ·exact g2 r (by omega) hrc
  ·right
   have e1:q=p.Next.length:=by omega
   subst e1
   exact ⟨_,by rw [decide_eq_false (by omega),cond_false],.inl ⟨rfl,g2⟩⟩) fuel 0 ⟨Nat.zero_le _,fun r hr=>absurd hr (Nat.not_lt_zero _)⟩ (by have:=fuel_big;omega)
 obtain ⟨r,e1,hr⟩:=key
 unfold zek
 rw [e1,obind]
 rcases hr with ⟨rfl,h⟩ | ⟨q,rfl,h⟩
 ·exact ⟨-1,by rw [Sum.elim_inl],.inl ⟨rfl,h⟩⟩
 ·exact ⟨_,by rw [Sum.elim_inr],.inr ⟨q,rfl,h⟩⟩
structure QuoOk (p Q:zaa) (cl:Nat→Nat):Prop where
 ren:RenOk Q
 len:Q.Next.length=p.Next.length
 inp:Q.Inputs=p.Inputs
 st:Q.Start=(↑(cl p.Start.toNat):Int)
 idem:∀ q,q<p.Next.length→cl (cl q)=cl q
 lt:∀ q,q<p.Next.length→cl q<p.Next.length
 row:∀ c a,c<p.Next.length→a<p.Inputs.toNat→cl c=c→(gx Q.Next c a=-1→∀ r,r<p.Next.length→cl r=c→pnx p r a=-1)∧(gx Q.Next c a≠-1→(∃ r,r<p.Next.length∧cl r=c∧pnx p r a≠-1)∧∀ r,r<p.Next.length→cl r=c→pnx p r a≠-1→gx Q.Next c a=(↑(cl (pnx p r a).toNat):Int)∧pot p r a=gx Q.Out c a)
structure OrdI (n:Nat) (cl:Nat→Nat) (L:List Nat):Prop where
 nd:L.Nodup
 lt:∀ c,c∈L→c<n∧cl c=c
theorem OrdI.le {n:Nat} {cl:Nat→Nat} {L:List Nat} (A:OrdI n cl L):L.length≤n:=by
 have:=zfk (b:=List.range n) A.nd fun x hx=>List.mem_range.2 (A.lt x hx).1
 rwa [List.length_range] at this
theorem OrdI.push {n:Nat} {cl:Nat→Nat} {L:List Nat} (A:OrdI n cl L) {c:Nat} (hc:c<n) (h2:cl c=c) (h:c∉L):OrdI n cl (L++[c]):=by
 refine ⟨List.nodup_append.2 ⟨A.nd,by simp,fun a ha b hb=>?_⟩,fun d hd=>?_⟩
 ·rw [List.mem_singleton.1 hb]
  exact fun g=>h (by rw [← g];exact ha)
 ·rcases List.mem_append.1 hd with k | k
  ·exact A.lt d k
  ·rw [List.mem_singleton.1 k];exact ⟨hc,h2⟩
theorem numT_grow {L L':List Nat} (h:L <+: L') {t:Int} (ht:t=-1∨t.toNat∈L):numT L' t=numT L t:=by
 obtain ⟨K,rfl⟩:=h
 unfold numT
 by_cases t0:t=-1
 ·rw [if_neg (fun g=>g.1 t0),if_neg (fun g=>g.1 t0)]
 ·have h:=ht.resolve_left t0
  rw [if_pos ⟨t0,List.mem_append_left _ h⟩,if_pos ⟨t0,h⟩,List.idxOf_append,if_pos h]
theorem loop_s54 (H:PartOk p) {Q:zaa} {cl:Nat→Nat} (K:QuoOk p Q cl) {L:List Nat} (A:OrdI p.Next.length cl L) {i c:Nat} (hi:L[i]?=some c) {x:List Int} (hx:Q.Next[c]?=some x) :
  ∃ L',iter (fun (s:List Int×List Int×List Int×Nat)=>zbj.s54 p ((List.range p.Next.length).map fun q=>(↑(cl q):Int)) i s.1 s.2.1 s.2.2.1 s.2.2.2) fuel (cast_ L,[],[],0)=some (cast_ L',rowNQ Q L' c,rowOQ Q c)∧L'=x.foldl addT L∧L <+: L'∧OrdI p.Next.length cl L'∧∀ b,b<p.Inputs.toNat→gx Q.Next c b=-1∨(gx Q.Next c b).toNat∈L':=by
 have hn:=H.n2
 have hi2:=H.i2
 obtain ⟨hc,hcc⟩:=A.lt c (List.mem_of_getElem? hi)
 have hxl:x.length=p.Inputs.toNat:=by
  obtain ⟨x',q1,q2⟩:=K.ren.gn.row c (by rw [K.len];exact hc)
  rw [hx] at q1
  injection q1 with q1
  rw [q1,q2,K.inp]
 have hgx:∀ b,b<p.Inputs.toNat→x[b]?=some (gx Q.Next c b):=fun b hb=>by
  obtain ⟨x',q1,q2,_⟩:=K.ren.gn.at (q:=c) (a:=b) (by rw [K.len];exact hc) (by rw [K.inp];exact hb)
  rw [hx] at q1
  injection q1 with q1
  rw [q1,q2]
 have key:=za3 (step:=fun (s:List Int×List Int×List Int×Nat)=>zbj.s54 p ((List.range p.Next.length).map fun q=>(↑(cl q):Int)) i s.1 s.2.1 s.2.2.1 s.2.2.2) (fun s=>s.2.2.2≤p.Inputs.toNat∧∃ La,s.1=cast_ La∧La=(x.take s.2.2.2).foldl addT L∧L <+: La∧OrdI p.Next.length cl La∧(∀ b,b<s.2.2.2→gx Q.Next c b=-1∨(gx Q.Next c b).toNat∈La)∧s.2.1=(List.range s.2.2.2).map (fun b=>numT La (gx Q.Next c b))∧s.2.2.1=(List.range s.2.2.2).map (fun a=>if gx Q.Next c a=-1 then (-1:Int) else gx Q.Out c a)) (fun s=>p.Inputs.toNat-s.2.2.2) (fun r=>∃ L',r=(cast_ L',rowNQ Q L' c,rowOQ Q c)∧L'=x.foldl addT L∧L <+: L'∧OrdI p.Next.length cl L'∧∀ b,b<p.Inputs.toNat→gx Q.Next c b=-1∨(gx Q.Next c b).toNat∈L') (fun ⟨l,y,z,a⟩ ⟨g1,La,g2,g3,g4,g5,g6,g7,g8⟩=>by
  simp only at g1 g2 g3 g6 g7 g8
  subst g2
  subst g7
  subst g8
  simp only [zbj.s54]
  have hle:=g5.le
  have hcast:∀ L:List Nat,(cast_ L).length=L.length:=fun L=>by unfold cast_;rw [List.length_map]
  by_cases ha:a<p.Inputs.toNat
  ·left
   have hxa:=hgx a ha
   have hLi:(cast_ La)[i]?=some (↑c:Int):=by
    obtain ⟨T,rfl⟩:=g4
    unfold cast_
    rw [List.getElem?_map,List.getElem?_append_left (List.getElem?_eq_some_iff.1 hi).1,hi]
    rfl
   have hf:(x.take (a+1)).foldl addT L=addT La (gx Q.Next c a):=by
    have h1:a<x.length:=by omega
    have h2:=get_at h1
    rw [hxa] at h2
    injection h2 with h2
    rw [List.take_succ_eq_append_getElem h1,List.foldl_append,← g3,← h2]
    rfl
   have hk53:∀ (l x y:List Int),zbj.k53 a l x y=some (.inl (l,x,y,a+1)):=fun l x y=>by
    unfold zbj.k53
    rw [chk_pos (by unfold inR;omega)]
   obtain ⟨k,e1,hk⟩:=known_eq H (cl:=cl) (c:=c) ha
   obtain ⟨row1,row2⟩:=K.row c a hc ha hcc
   rw [decide_eq_true (by clear hk row2;omega),cond_true,idxn_at hLi,e1,obind]
   by_cases t0:gx Q.Next c a=-1
   ·have hk1:k=-1:=by
     rcases hk with h | ⟨q,_,q2,q3,q4⟩
     ·exact h.1
     ·exact absurd (row1 t0 q q2 q3) q4
    clear hk row2
    have hLa:addT La (gx Q.Next c a)=La:=by unfold addT;rw [if_pos (.inl t0)]
    refine ⟨(cast_ La,(List.range (a+1)).map (fun b=>numT La (gx Q.Next c b)),(List.range (a+1)).map (fun a=>if gx Q.Next c a=-1 then (-1:Int) else gx Q.Out c a),a+1),?_,⟨ha,La,rfl,by rw [hf,hLa],g4,g5,fun b hb=>?_,rfl,rfl⟩,by simp only;omega⟩
    ·rw [decide_eq_true hk1,cond_true,chk_pos (by unfold capOk;rw [List.length_map,List.length_range];omega),chk_pos (by unfold capOk;rw [List.length_map,List.length_range];omega),obind,hk53,List.range_succ,List.map_append,List.map_append,List.map_singleton,List.map_singleton,if_pos t0,show numT La (gx Q.Next c a)=-1 by unfold numT;rw [if_neg (fun g=>g.1 t0)]]
    ·by_cases e:b=a
     ·rw [e];exact .inl t0
     ·exact g6 b (by simp only at hb;omega)
   ·obtain ⟨⟨r0,r1,r2,r3⟩,row3⟩:=row2 t0
    obtain ⟨q,q1,q2,q3,q4⟩:∃ q:Nat,k=(↑q:Int)∧q<p.Next.length∧cl q=c∧pnx p q a≠-1:=by
     rcases hk with h | h
     ·exact absurd (h.2 r0 r1 r2) r3
     ·exact h
    clear hk row2
    obtain ⟨m1,m2⟩:=row3 q q2 q3 q4
    obtain ⟨w1,w2,w3,w4,w5,xr,yr,hxr,hyr,hxra,hyra,_,_⟩:=H.at q2 ha
    obtain ⟨u,hu⟩:∃ u:Nat,pnx p q a=(↑u:Int):=⟨(pnx p q a).toNat,by omega⟩
    have hul:u<p.Next.length:=by omega
    rw [hu,Int.toNat_natCast] at m1
    have hcu:=K.lt u hul
    have hidem:=K.idem u hul
    -- the order behind this symbol
    have hadd:addT La (gx Q.Next c a)=if cl u∈La then La else La++[cl u]:=by
     unfold addT
     rw [m1,Int.toNat_natCast]
     by_cases h:cl u∈La
     ·rw [if_pos (.inr h),if_pos h]
     ·rw [if_neg (fun g=>g.elim (by omega) h),if_neg h]
    have hb:((zc0 (cast_ La) (↑(cl u):Int)).bind fun c2449=>cond (decide (c2449=(↑(List.length (cast_ La)):Int))) (chk (capOk (List.length (cast_ La)+1) 8) (some (cast_ La++[(↑(cl u):Int)]))) (some (cast_ La)):Option (List Int))=some (cast_ (addT La (gx Q.Next c a))):=by
     rw [place_eq (by omega),obind,hcast,hadd]
     by_cases h:cl u∈La
     ·have:=List.idxOf_lt_length_of_mem h
      rw [if_pos h,decide_eq_false (by omega),cond_false]
     ·have:=List.idxOf_eq_length h
      rw [if_neg h,decide_eq_true (by omega),cond_true,chk_pos (by unfold capOk;omega)]
      unfold cast_
      rw [List.map_append]
      rfl
    have hpre:La <+: addT La (gx Q.Next c a):=by
     rw [hadd]
     split
     ·exact List.prefix_refl _
     ·exact List.prefix_append _ _
    have hmem:cl u∈addT La (gx Q.Next c a):=by
     rw [hadd]
     split
     ·assumption
     ·exact List.mem_append_right _ (List.mem_singleton.2 rfl)
    have hord:OrdI p.Next.length cl (addT La (gx Q.Next c a)):=by
     rw [hadd]
     split
     ·exact g5
     ·rename_i h;exact g5.push hcu hidem h
    have hle2:=hord.le
    refine ⟨(cast_ (addT La (gx Q.Next c a)),(List.range (a+1)).map (fun b=>numT (addT La (gx Q.Next c a)) (gx Q.Next c b)),(List.range (a+1)).map (fun a=>if gx Q.Next c a=-1 then (-1:Int) else gx Q.Out c a),a+1),?_,⟨ha,_,rfl,hf.symm,g4.trans hpre,hord,fun b hb2=>?_,rfl,rfl⟩,by simp only;omega⟩
    ·rw [decide_eq_false (by omega),cond_false,idx_at (i:=q) q1 hxr,idxn_at hxra,hu,idx_at (i:=u) rfl (x:=(↑(cl u):Int)) (by rw [List.getElem?_map,List.getElem?_range hul];rfl),hb,obind,place_eq (by omega),obind,chk_pos (by unfold capOk;rw [List.length_map,List.length_range];omega),idx_at (i:=q) q1 hyr,idxn_at hyra,chk_pos (by unfold capOk;rw [List.length_map,List.length_range];omega),obind,hk53,List.range_succ,List.map_append,List.map_append,List.map_singleton,List.map_singleton,if_neg t0,m2]
     have hold:(List.range a).map (fun b=>numT La (gx Q.Next c b))=(List.range a).map (fun b=>numT (addT La (gx Q.Next c a)) (gx Q.Next c b)):=List.map_congr_left fun b hb2=>(numT_grow hpre (g6 b (List.mem_range.1 hb2))).symm
     have hnew:numT (addT La (gx Q.Next c a)) (gx Q.Next c a)=(↑((addT La (gx Q.Next c a)).idxOf (cl u)):Int):=by
      generalize hG:addT La (gx Q.Next c a)=G at hmem ⊢
      unfold numT
      rw [m1,Int.toNat_natCast,if_pos ⟨by omega,hmem⟩]
     rw [hold,hnew]
    ·by_cases e:b=a
     ·rw [e];right;rw [m1,Int.toNat_natCast,← m1];exact hmem
     ·rcases g6 b (by simp only at hb2;omega) with h | h
      ·exact .inl h
      ·exact .inr (hpre.subset h)
  ·right
   have e1:a=p.Inputs.toNat:=by omega
   subst e1
   rw [← hxl,List.take_length] at g3
   refine ⟨_,by rw [decide_eq_false (by have:=H.i1;omega),cond_false],La,?_,g3,g4,g5,g6⟩
   unfold rowNQ rowOQ
   rw [K.inp]) fuel (cast_ L,[],[],0) ⟨Nat.zero_le _,L,rfl,rfl,List.prefix_refl _,A,fun b hb=>absurd hb (Nat.not_lt_zero _),rfl,rfl⟩ (by have:=fuel_big;simp only;omega)
 obtain ⟨r,e1,L',rfl,h⟩:=key
 exact ⟨L',e1,h⟩
end
end Go.Proofs.YteigfkncoiiaiaaGreatDoor.Sym

/-
 The reference's folded machine is the quotient, numbered anew. Plain laws.
-/
namespace Go.Proofs.YteigfkncoiiaiaaGreatDoor.Sym
set_option maxRecDepth 100000
section
variable {p:zaa}
theorem foldl_len (x:List Int):∀ L:List Nat,L.length≤(x.foldl addT L).length:=by
 induction x with
 | nil=>exact fun L=>Nat.le_refl _
 | cons t x ih =>
  intro L
  rw [List.foldl_cons]
  refine Nat.le_trans ?_ (ih _)
  unfold addT
  split
  ·exact Nat.le_refl _
  ·rw [List.length_append];omega
theorem R35_Folded_eq (H:PartOk p) {Q:zaa} {cl:Nat→Nat} (K:QuoOk p Q cl):zbj p ((List.range p.Next.length).map fun q=>(↑(cl q):Int))=some (renP Q,cast_ (ordP Q))∧OrdI p.Next.length cl (ordP Q):=by
 have hn:=H.n2
 have hst:=H.st
 have hs:p.Start.toNat<p.Next.length:=by omega
 have hcast:∀ L:List Nat,(cast_ L).length=L.length:=fun L=>by unfold cast_;rw [List.length_map]
 have A0:OrdI p.Next.length cl [cl p.Start.toNat]:=⟨by simp,fun c hc=>by
  rw [List.mem_singleton.1 hc]
  exact ⟨K.lt _ hs,K.idem _ hs⟩⟩
 have key:=za3 (step:=fun (s:List Int×List (List Int)×List (List Int)×Nat)=>zbj.s56 p ((List.range p.Next.length).map fun q=>(↑(cl q):Int)) s.1 s.2.1 s.2.2.1 s.2.2.2) (fun s=>∃ L,s.1=cast_ L∧s.2.2.2≤L.length∧OrdI p.Next.length cl L∧bfsL (fun c=>(Q.Next[c]?).getD []) (Q.Next.length+1-s.2.2.2) s.2.2.2 L=ordP Q∧s.2.1=(L.take s.2.2.2).map (rowNQ Q L)∧s.2.2.1=(L.take s.2.2.2).map (rowOQ Q)∧∀ c,c∈L.take s.2.2.2→∀ b,b<p.Inputs.toNat→gx Q.Next c b=-1∨(gx Q.Next c b).toNat∈L) (fun s=>p.Next.length+1-s.2.2.2) (fun r=>r=(cast_ (ordP Q),(ordP Q).map (rowNQ Q (ordP Q)),(ordP Q).map (rowOQ Q))∧OrdI p.Next.length cl (ordP Q)) (fun ⟨l,y,z,i⟩ ⟨L,g1,g2,g3,g4,g5,g6,g7⟩=>by
  simp only at g1 g2 g4 g5 g6 g7
  subst g1
  subst g5
  subst g6
  simp only [zbj.s56]
  have hle:=g3.le
  by_cases h:i<L.length
  ·left
   have hx:=get_at h
   obtain ⟨hc,hcc⟩:=g3.lt L[i] (List.getElem_mem h)
   obtain ⟨x,x1,x2⟩:=K.ren.gn.row L[i] (by rw [K.len];exact hc)
   obtain ⟨L',e1,e2,e3,e4,e5⟩:=loop_s54 H K g3 hx x1
   have hgr:i+1≤L'.length:=by
    have:=foldl_len x L
    rw [← e2] at this
    omega
   have htk:L'.take (i+1)=L.take i++[L[i]]:=by
    obtain ⟨T,rfl⟩:=e3
    rw [List.take_append_of_le_length (by omega),List.take_succ_eq_append_getElem h]
   refine ⟨(cast_ L',(L'.take (i+1)).map (rowNQ Q L'),(L'.take (i+1)).map (rowOQ Q),i+1),?_,⟨L',rfl,hgr,e4,?_,rfl,rfl,fun c hc2 b hb=>?_⟩,by simp only;omega⟩
   ·rw [decide_eq_true (by rw [hcast];omega),cond_true,e1,obind]
    unfold zbj.k55
    simp only
    have hold:(L.take i).map (rowNQ Q L)=(L.take i).map (rowNQ Q L'):=List.map_congr_left fun c hc2=>by
     unfold rowNQ
     refine List.map_congr_left fun b hb=>(numT_grow e3 (g7 c hc2 b ?_)).symm
     have:=List.mem_range.1 hb
     rwa [K.inp] at this
    rw [chk_pos (by unfold capOk;rw [List.length_map,List.length_take];omega),chk_pos (by unfold capOk;rw [List.length_map,List.length_take];omega),htk,List.map_append,List.map_append,hold]
    rfl
   ·rw [← g4,show Q.Next.length+1-i=(Q.Next.length+1-(i+1))+1 by rw [K.len];omega]
    simp only [bfsL,hx,x1,Option.getD_some]
    rw [e2]
   ·rw [htk] at hc2
    rcases List.mem_append.1 hc2 with k | k
    ·exact (g7 c k b hb).elim .inl fun k=>.inr (e3.subset k)
    ·rw [List.mem_singleton.1 k];exact e5 b hb
  ·right
   have e1:i=L.length:=by omega
   have e2:ordP Q=L:=by
    rw [← g4]
    cases hk:Q.Next.length+1-i with
    | zero=>rfl
    | succ k =>
     simp only [bfsL]
     rw [show L[i]?=none from List.getElem?_eq_none (by omega)]
   subst e1
   refine ⟨_,by rw [decide_eq_false (by rw [hcast];omega),cond_false],?_⟩
   rw [e2,List.take_length]
   exact ⟨rfl,g3⟩) fuel (cast_ [cl p.Start.toNat],[],[],0) ⟨_,rfl,Nat.zero_le _,A0,by unfold ordP;rw [K.st,Int.toNat_natCast];rfl,rfl,rfl,fun c hc=>by simp at hc⟩ (by have:=fuel_big;simp only;omega)
 obtain ⟨r,e1,rfl,hO⟩:=key
 refine ⟨?_,hO⟩
 unfold zbj
 rw [idx_at (i:=p.Start.toNat) (by omega) (x:=(↑(cl p.Start.toNat):Int)) (by rw [List.getElem?_map,List.getElem?_range hs];rfl)]
 have:[(↑(cl p.Start.toNat):Int)]=cast_ [cl p.Start.toNat]:=rfl
 rw [this,e1,obind]
 unfold zbj.k57 renP
 rw [K.inp]
end
end Go.Proofs.YteigfkncoiiaiaaGreatDoor.Sym

/-
 The fold as a whole: the program's and the reference's are one. Plain laws.
-/
namespace Go.Proofs.YteigfkncoiiaiaaGreatDoor.Sym
set_option maxRecDepth 100000
section
variable {p:zaa} {s t:Nat}
def clT (cl:Nat→Nat) (v:Int):Int:=if v=-1 then -1 else (↑(cl v.toNat):Int)
theorem loop_s64 {n I:Nat} {cl:Nat→Nat} {M:List (Int×Int)} (U:UpOk n cl M) (hn:n≤10000000) (hI:I≤64) {G:List (List Int)} (GG:Grid n I G) (rng:∀ q a,q<n→a<I→gx G q a=-1∨∃ u:Nat,gx G q a=(↑u:Int)∧u<n) {q:Nat} (hq:q<n) {e:List Int} (he:e.length=I) :
  ∃ G',iter (fun (s:List (List Int)×(List (Int×Int))×Nat)=>zac.s64 q e s.1 s.2.1 s.2.2) fuel (G,M,0)=some (G',M)∧Grid n I G'∧∀ r b,r<n→b<I→gx G' r b=if r=q then clT cl (gx G r b) else gx G r b:=by
 have key:=za3 (step:=fun (s:List (List Int)×(List (Int×Int))×Nat)=>zac.s64 q e s.1 s.2.1 s.2.2) (fun s=>s.2.2≤I∧s.2.1=M∧Grid n I s.1∧∀ r b,r<n→b<I→gx s.1 r b=if r=q∧b<s.2.2 then clT cl (gx G r b) else gx G r b) (fun s=>I-s.2.2) (fun r=>∃ G',r=(G',M)∧Grid n I G'∧∀ r b,r<n→b<I→gx G' r b=if r=q then clT cl (gx G r b) else gx G r b) (fun ⟨y,m,k⟩ ⟨g1,g2,g3,g4⟩=>by
  simp only at g1 g2 g3 g4
  subst g2
  simp only [zac.s64]
  by_cases h:k<I
  ·left
   obtain ⟨x,x1,x2,x3⟩:=g3.at hq h
   have hcell:gx y q k=gx G q k:=by rw [g4 q k hq h,if_neg (fun g=>Nat.lt_irrefl _ g.2)]
   rw [hcell] at x2
   rw [decide_eq_true (by omega),cond_true,idxn_at x1,idxn_at x2]
   by_cases t0:gx G q k=-1
   ·refine ⟨(y,m,k+1),by rw [decide_eq_false (fun g=>g t0),cond_false,chk_pos (by unfold inR;omega)],⟨h,rfl,g3,fun r b hr hb=>?_⟩,by simp only;omega⟩
    simp only
    rw [g4 r b hr hb]
    by_cases k1:r=q∧b<k
    ·rw [if_pos k1,if_pos ⟨k1.1,by omega⟩]
    ·rw [if_neg k1]
     by_cases k2:r=q∧b<k+1
     ·have e2:b=k:=Nat.le_antisymm (by omega) (Nat.le_of_not_lt fun g=>k1 ⟨k2.1,g⟩)
      rw [if_pos k2,k2.1,e2,t0]
      rfl
     ·rw [if_neg k2]
   ·obtain ⟨u,hu,hul⟩:=(rng q k hq h).resolve_left t0
    obtain ⟨p1,p2⟩:=g3.put hq h x1 (↑(cl u):Int)
    refine ⟨(y.set q (x.set k (↑(cl u):Int)),m,k+1),?_,⟨h,rfl,p1,fun r b hr hb=>?_⟩,by simp only;omega⟩
    ·rw [decide_eq_true t0,cond_true,idxn_at x1,hu,of_eq U hn hul,obind,idxn_at x2,chk_pos (by unfold inR;omega)]
    ·simp only
     rw [p2 r b hr hb]
     by_cases k1:r=q∧b=k
     ·rw [if_pos k1,if_pos ⟨k1.1,by omega⟩,k1.1,k1.2]
      unfold clT
      rw [if_neg t0,hu,Int.toNat_natCast]
     ·rw [if_neg k1,g4 r b hr hb]
      by_cases k2:r=q∧b<k
      ·rw [if_pos k2,if_pos ⟨k2.1,by omega⟩]
      ·rw [if_neg k2,if_neg (fun g=>k2 ⟨g.1,Nat.lt_of_le_of_ne (by omega) fun e3=>k1 ⟨g.1,e3⟩⟩)]
  ·right
   have e1:k=I:=by omega
   subst e1
   refine ⟨_,by rw [decide_eq_false (by omega),cond_false],y,rfl,g3,fun r b hr hb=>?_⟩
   rw [g4 r b hr hb]
   by_cases k1:r=q
   ·rw [if_pos ⟨k1,hb⟩,if_pos k1]
   ·rw [if_neg (fun g=>k1 g.1),if_neg k1]) fuel (G,M,0) ⟨Nat.zero_le _,rfl,GG,fun r b _ _=>by rw [if_neg (fun g=>Nat.not_lt_zero _ g.2)]⟩ (by have:=fuel_big;simp only;omega)
 obtain ⟨r,e1,G',rfl,h⟩:=key
 exact ⟨G',e1,h⟩
theorem loop_s66 {n I:Nat} {cl:Nat→Nat} {M:List (Int×Int)} (U:UpOk n cl M) (hn:n≤10000000) (hI:I≤64) {N:List (List Int)} (GN:Grid n I N) (rng:∀ q a,q<n→a<I→gx N q a=-1∨∃ u:Nat,gx N q a=(↑u:Int)∧u<n) :
  ∃ N',iter (fun (s:List (List Int)×(List (Int×Int))×Nat)=>zac.s66 N s.1 s.2.1 s.2.2) fuel (N,M,0)=some (N',M)∧Grid n I N'∧∀ r b,r<n→b<I→gx N' r b=clT cl (gx N r b):=by
 have hl:=GN.len
 have key:=za3 (step:=fun (s:List (List Int)×(List (Int×Int))×Nat)=>zac.s66 N s.1 s.2.1 s.2.2) (fun s=>s.2.2≤n∧s.2.1=M∧Grid n I s.1∧∀ r b,r<n→b<I→gx s.1 r b=if r<s.2.2 then clT cl (gx N r b) else gx N r b) (fun s=>n-s.2.2) (fun r=>∃ N',r=(N',M)∧Grid n I N'∧∀ r b,r<n→b<I→gx N' r b=clT cl (gx N r b)) (fun ⟨y,m,q⟩ ⟨g1,g2,g3,g4⟩=>by
  simp only at g1 g2 g3 g4
  subst g2
  simp only [zac.s66]
  by_cases h:q<n
  ·left
   obtain ⟨x,x1,x2⟩:=g3.row q h
   obtain ⟨y',e1,e2,e3⟩:=loop_s64 (e:=x) U hn hI g3 (fun r a hr ha=>by
    rw [g4 r a hr ha]
    split
    ·unfold clT
     rcases rng r a hr ha with k | ⟨u,k1,k2⟩
     ·rw [if_pos k];exact .inl rfl
     ·refine .inr ⟨cl u,by rw [if_neg (by omega),k1,Int.toNat_natCast],?_⟩
      by_cases k3:cl u=u
      ·omega
      ·have hcl:∀ v:Nat,v<n→cl v≤v:=fun v=>by
        induction v using Nat.strongRecOn with
        | _ v ih =>
         intro hv
         by_cases k4:cl v=v
         ·omega
         ·obtain ⟨w,w1,_,w3⟩:=U.u1 v hv k4
          have:=ih w w1 (by omega)
          omega
       have:=hcl u k2
       omega
    ·exact rng r a hr ha) h x2
   refine ⟨(y',m,q+1),?_,⟨h,rfl,e2,fun r b hr hb=>?_⟩,by simp only;omega⟩
   ·rw [decide_eq_true (by omega),cond_true,idxn_at x1,e1,obind]
    rfl
   ·simp only
    rw [e3 r b hr hb,g4 r b hr hb]
    by_cases k1:r=q
    ·rw [if_pos k1,if_neg (by omega),if_pos (by omega)]
    ·rw [if_neg k1]
     by_cases k2:r<q
     ·rw [if_pos k2,if_pos (by omega)]
     ·rw [if_neg k2,if_neg (by omega)]
  ·right
   have e1:q=n:=by omega
   subst e1
   refine ⟨_,by rw [decide_eq_false (by omega),cond_false],y,rfl,g3,fun r b hr hb=>?_⟩
   rw [g4 r b hr hb,if_pos hr]) fuel (N,M,0) ⟨Nat.zero_le _,rfl,GN,fun r b _ _=>by rw [if_neg (Nat.not_lt_zero _)]⟩ (by have:=fuel_big;simp only;omega)
 obtain ⟨r,e1,N',rfl,h⟩:=key
 exact ⟨N',e1,h⟩
theorem loop_s68 {n:Nat} {cl:Nat→Nat} {M:List (Int×Int)} (U:UpOk n cl M) (hn:n≤1000000) (hcl:∀ q,q<n→cl q<n) {F:List Nat} {nums:List Int} (A:NumL n F nums) (P:zaa) :
  iter (fun (s:(List (Int×Int))×List Int×Nat)=>zac.s68 (P,nums) s.1 s.2.1 s.2.2) fuel (M,List.replicate n 0,0)=some ((List.range n).map fun q=>numT F (↑(cl q):Int)):=by
 have hl:=A.len
 have key:=za3 (step:=fun (s:(List (Int×Int))×List Int×Nat)=>zac.s68 (P,nums) s.1 s.2.1 s.2.2) (fun s=>s.2.2≤n∧s.1=M∧Wrt (fun q=>numT F (↑(cl q):Int)) (List.replicate n 0) s.2.2 s.2.1) (fun s=>n-s.2.2) (fun r=>r=(List.range n).map fun q=>numT F (↑(cl q):Int)) (fun ⟨m,y,q⟩ ⟨g1,g2,g3⟩=>by
  simp only at g1 g2 g3
  subst g2
  simp only [zac.s68,List.length_replicate]
  have hyl:=g3.len
  rw [List.length_replicate] at hyl
  by_cases h:q<n
  ·left
   have hc:=hcl q h
   refine ⟨(m,y.set q (numT F (↑(cl q):Int)),q+1),?_,⟨h,rfl,g3.step (by rw [List.length_replicate];exact h) rfl⟩,by simp only;omega⟩
   rw [decide_eq_true (by omega),cond_true,of_eq U (by omega) h,obind,idx_at (i:=cl q) rfl (A.at_ _ hc),idxn_at (get_at (l:=y) (i:=q) (by omega)),chk_pos (by unfold inR;omega)]
   unfold numT
   rw [Int.toNat_natCast]
   by_cases k1:cl q∈F
   ·rw [if_pos k1,if_pos ⟨by omega,k1⟩]
   ·rw [if_neg k1,if_neg (fun g=>k1 g.2)]
  ·right
   have e1:q=n:=by omega
   subst e1
   refine ⟨_,by rw [decide_eq_false (by omega),cond_false],?_⟩
   rw [g3.done (by rw [List.length_replicate];exact Nat.le_refl _),List.length_replicate]) fuel (M,List.replicate n 0,0) ⟨Nat.zero_le _,rfl,Wrt.zero _ _⟩ (by have:=fuel_big;simp only;omega)
 obtain ⟨r,e1,rfl⟩:=key
 exact e1
theorem FoldI.quo (H:PartOk p) {cl:Nat→Nat} {N O:List (List Int)} {M:List (Int×Int)} (F:FoldI p s t cl N O M []) {N':List (List Int)} (GN:Grid p.Next.length p.Inputs.toNat N') (hN:∀ r b,r<p.Next.length→b<p.Inputs.toNat→gx N' r b=clT cl (gx N r b)):QuoOk p ⟨p.Inputs,(↑(cl p.Start.toNat):Int),N',O⟩ cl:=by
 have hn:=H.n2
 have hst:=H.st
 obtain ⟨C,K⟩:=F.cls
 have hlt:∀ q,q<p.Next.length→cl q<p.Next.length:=fun q hq=>by have:=K.le q hq;omega
 have hl:=GN.len
 have hs:p.Start.toNat<p.Next.length:=by omega
 have hlab:Lab p.Next.length cl [] cl:=⟨fun _ _ _ _ h=>h,fun _ _ h=>by cases h⟩
 refine ⟨⟨by have:=H.i1;simp only;omega,H.i2,by simp only;omega,⟨cl p.Start.toNat,rfl,by simp only;rw [hl];exact hlt _ hs⟩,by simp only;rw [hl];exact GN,by simp only;rw [hl];exact F.go,fun q a hq ha=>?_⟩,hl,rfl,rfl,K.idem,hlt,fun c a hc ha hcc=>?_⟩
 ·simp only at hq ha ⊢
  rw [hl] at hq ⊢
  rw [hN q a hq ha]
  unfold clT
  rcases F.rng q a hq ha with k | ⟨u,k1,k2⟩
  ·rw [if_pos k];exact .inl rfl
  ·exact .inr ⟨cl u,by rw [if_neg (by omega),k1,Int.toNat_natCast],hlt u k2⟩
 ·simp only
  rw [hN c a hc ha]
  obtain ⟨r1,r2⟩:=F.row c a hc ha hcc
  unfold clT
  by_cases k:gx N c a=-1
  ·rw [if_pos k]
   exact ⟨fun _=>(r1 k).2,fun h=>absurd rfl h⟩
  ·rw [if_neg k]
   obtain ⟨u,a1,a2,⟨r,b1,b2,b3,b4⟩,a4⟩:=r2 k
   refine ⟨fun h=>by omega,fun _=>⟨⟨r,b1,b2,by omega⟩,fun r hr hrc hp=>?_⟩⟩
   obtain ⟨d1,d2⟩:=a4 r hr hrc hp
   exact ⟨by rw [a1,Int.toNat_natCast,d2 cl hlab],d1⟩
theorem loop_copy (H:PartOk p):iter (fun (s:List (List Int)×List (List Int)×Nat)=>zac.s2 p s.1 s.2.1 s.2.2) fuel ([],[],0)=some (p.Next,p.Out):=by
 have hn:=H.n2
 have hi:=H.i2
 have ho:=H.ol
 have key:=za3 (step:=fun (s:List (List Int)×List (List Int)×Nat)=>zac.s2 p s.1 s.2.1 s.2.2) (fun s=>s.2.2≤p.Next.length∧s.1=p.Next.take s.2.2∧s.2.1=p.Out.take s.2.2) (fun s=>p.Next.length-s.2.2) (fun r=>r=(p.Next,p.Out)) (fun ⟨y,z,k⟩ ⟨g1,g2,g3⟩=>by
  simp only at g1 g2 g3
  subst g2
  subst g3
  simp only [zac.s2,List.length_nil,List.nil_append,List.length_take,List.length_singleton,Nat.zero_add]
  by_cases h:k<p.Next.length
  ·left
   obtain ⟨x,y,h1,h2,h3,h4,_⟩:=H.row k h
   refine ⟨(p.Next.take (k+1),p.Out.take (k+1),k+1),?_,⟨h,rfl,rfl⟩,by simp only;omega⟩
   rw [decide_eq_true (by omega),cond_true,idxn_at h1,chk_pos (by unfold capOk;omega),chk_pos (by unfold capOk;omega),idxn_at h2,chk_pos (by unfold capOk;omega),chk_pos (by unfold capOk;omega)]
   have q1:p.Next.take (k+1)=p.Next.take k++[x]:=by rw [List.take_succ,h1];rfl
   have q2:p.Out.take (k+1)=p.Out.take k++[y]:=by rw [List.take_succ,h2];rfl
   rw [q1,q2]
  ·right
   have e1:k=p.Next.length:=by omega
   subst e1
   exact ⟨_,by rw [decide_eq_false (by omega),cond_false],by rw [List.take_length,← ho,List.take_length]⟩) fuel ([],[],0) ⟨Nat.zero_le _,rfl,rfl⟩ (by have:=fuel_big;simp only;omega)
 obtain ⟨r,e1,rfl⟩:=key
 exact e1
theorem zdp (H:PartOk p) (hs:s<p.Next.length) (ht:t<p.Next.length):(Confl p s t∧zac p (↑s:Int) (↑t:Int)=some (⟨0,0,[],[]⟩,[],false))∨(¬ Confl p s t∧∃ Q cl,QuoOk p Q cl∧(∀ q,q<p.Next.length→cl q=clsOf p s t q)∧zac p (↑s:Int) (↑t:Int)=some (renP Q,(List.range p.Next.length).map fun q=>numT (ordP Q) (↑(cl q):Int),true)):=by
 have hn:=H.n2
 have hst:=H.st
 have hps:p.Start.toNat<p.Next.length:=by omega
 obtain ⟨r,e1,hr⟩:=loop_fold H hs ht
 unfold zac
 rw [loop_copy H,obind]
 unfold zac.k71
 simp only
 rw [e1,obind]
 rcases hr with ⟨rfl,hc⟩ | ⟨N,O,M,cl,rfl,F⟩
 ·exact .inl ⟨hc,by rw [Sum.elim_inr]⟩
 ·obtain ⟨d1,d2⟩:=F.done H hs ht
  obtain ⟨N',e2,GN,hN⟩:=loop_s66 F.up (by omega) (by have:=H.i2;omega) F.gn F.rng
  have K:=F.quo H GN hN
  obtain ⟨nums,e3,A⟩:=zbo K.ren
  refine .inr ⟨d2,_,cl,K,d1,?_⟩
  rw [Sum.elim_inl]
  unfold zac.k70
  simp only
  rw [e2,obind]
  unfold zac.k69
  simp only
  have hAl:=A.len
  simp only at A hAl
  rw [GN.len] at A hAl
  rw [show p.Start=(↑p.Start.toNat:Int) by omega,of_eq F.up (by omega) hps,obind,Int.toNat_natCast,e3,obind]
  dsimp only
  rw [chk_pos ⟨by omega,Int.le_refl _,by unfold capOk;omega⟩,hAl,loop_s68 F.up (by omega) K.lt A,obind]
end
end Go.Proofs.YteigfkncoiiaiaaGreatDoor.Sym

/-
 Answers and rows: the program's finder answers as the document's observations do. Plain laws.
-/
namespace Go.Proofs.YteigfkncoiiaiaaGreatDoor.Sym
set_option maxRecDepth 100000
end Go.Proofs.YteigfkncoiiaiaaGreatDoor.Sym

/-
 Rows, missing queries and maximal words: the program's are the document's. Plain laws.
-/
namespace Go.Proofs.YteigfkncoiiaiaaGreatDoor.Sym
set_option maxRecDepth 100000
end Go.Proofs.YteigfkncoiiaiaaGreatDoor.Sym

/-
 The missing queries of a table: the program's are the document's. Plain laws, and the law of TableNeeds.
-/
namespace Go.Proofs.YteigfkncoiiaiaaGreatDoor.Sym
set_option maxRecDepth 100000
structure TabOk (t:zkq):Prop where
 sm:SmT t
 n:t.Inputs≤4
 p:t.Prefixes.length≤80
 s:t.Suffixes.length≤12
 pw:∀ x∈t.Prefixes,x.length≤80
 sw:∀ x∈t.Suffixes,x.length≤30
end Go.Proofs.YteigfkncoiiaiaaGreatDoor.Sym

/-
 The examples of the chapter on merging states, reckoned.
-/
namespace Go.Proofs.YteigfkncoiiaiaaGreatDoor.Sym
set_option maxRecDepth 100000
theorem zi3:ze9=some true:=by decide +kernel
end Go.Proofs.YteigfkncoiiaiaaGreatDoor.Sym

/-
 The law of MergeParts. Plain laws.
-/
namespace Go.Proofs.YteigfkncoiiaiaaGreatDoor.Sym
set_option maxRecDepth 100000
end Go.Proofs.YteigfkncoiiaiaaGreatDoor.Sym

/-
 Observations that grow: the program's Add is the document's, and keeps valid observations valid. Plain laws.
-/
namespace Go.Proofs.YteigfkncoiiaiaaGreatDoor.Sym
set_option maxRecDepth 100000
theorem scan_idx {α:Type} {p:α→Bool}:∀ (l:List α) (j:Nat),scan (fun i x=>if p x=true then some (↑i:Int) else none) j l=if l.any p=true then some (↑(j+l.findIdx p):Int) else none
 | [],_=>rfl
 | x::l,j=>by
  unfold scan
  by_cases h:p x=true
  ·simp [h,List.findIdx_cons]
  ·have hf:p x=false:=by simpa using h
   rw [if_neg h]
   simp only
   rw [scan_idx l (j+1)]
   simp only [List.any_cons,hf,Bool.false_or,List.findIdx_cons,cond_false]
   split
   ·congr 2
    omega
   ·rfl
theorem tindex_eq {l:List zae} {f:zae→Option Bool} {p:zae→Bool} (hl:l.length≤100000000000000) (hf:∀ x∈l,f x=some (p x)) :
  zai l f=some (if l.any p=true then (↑(l.findIdx p):Int) else -1):=by
 unfold zai
 have key:=zdj (step:=fun s=>zai.s2 l f s) (l:=l) (fun i x=>if p x=true then some (↑i:Int) else none) (fun i x hx=>by
  simp only [zai.s2]
  rw [dec_lt hx,cond_true,idxn_at hx,hf x (List.mem_of_getElem? hx),obind]
  cases p x<;>rfl) (by
  simp only [zai.s2]
  rw [dec_end]
  rfl) hl
 rw [key,scan_idx,obind]
 by_cases h:l.any p=true
 ·rw [if_pos h,if_pos h,Nat.zero_add]
  rfl
 ·rw [if_neg h,if_neg h]
  rfl
theorem cindex_eq {l:List Int} {f:Int→Option Bool} {p:Int→Bool} (hl:l.length≤100000000000000) (hf:∀ x∈l,f x=some (p x)) :
  zbm l f=some (l.any p):=by
 unfold zbm zar
 have key:=zdj (step:=fun s=>zar.s2 l f s) (l:=l) (fun i x=>if p x=true then some (↑i:Int) else none) (fun i x hx=>by
  simp only [zar.s2]
  rw [dec_lt hx,cond_true,idxn_at hx,hf x (List.mem_of_getElem? hx),obind]
  cases p x<;>rfl) (by
  simp only [zar.s2]
  rw [dec_end]
  rfl) hl
 rw [key,scan_idx]
 by_cases h:l.any p=true
 ·rw [if_pos h,h]
  simp
 ·have h':l.any p=false:=by simpa using h
  rw [if_neg h,h']
  rfl
def propI (t:zae) (n:Int):Int :=
 if checkI t.In n≠0 then checkI t.In n else if t.Out.length≠t.In.length then 1 else if (t.Out.all fun y=>decide (0≤y∧y≤1048576))=true then 0 else 2
theorem propI_zero {t:zae} {n:Int}:propI t n=0↔PropT n t:=by
 unfold propI PropT
 by_cases h1:checkI t.In n=0
 ·rw [if_neg (by simpa using h1)]
  by_cases h2:t.Out.length=t.In.length
  ·rw [if_neg (by simpa using h2)]
   by_cases h3:(t.Out.all fun y=>decide (0≤y∧y≤1048576))=true
   ·rw [if_pos h3]
    exact ⟨fun _=>⟨h1,h2,fun y hy=>of_decide_eq_true (List.all_eq_true.1 h3 y hy)⟩,fun _=>rfl⟩
   ·rw [if_neg h3]
    exact ⟨fun h=>(by cases h),fun h=>absurd (List.all_eq_true.2 fun y hy=>decide_eq_true (h.2.2 y hy)) h3⟩
  ·rw [if_pos h2]
   exact ⟨fun h=>(by cases h),fun h=>absurd h.2.1 h2⟩
 ·rw [if_pos h1]
  exact ⟨fun h=>absurd h h1,fun h=>absurd h.1 h1⟩
theorem ziu (t:zae) (n:Int) (h1:SmW t.In) (h2:SmW t.Out):zc8 t n=some (propI t n):=by
 unfold zc8 propI
 rw [zib _ _ h1,obind]
 by_cases g1:checkI t.In n=0
 ·rw [decide_eq_false (by simpa using g1),cond_false,if_neg (by simpa using g1)]
  by_cases g2:t.Out.length=t.In.length
  ·rw [decide_eq_false (by omega),cond_false,if_neg (by simpa using g2)]
   rw [cindex_eq (p:=fun y=>!decide (0≤y∧y≤1048576)) (by unfold SmW at h2;omega) fun y _=>by
    unfold zct
    by_cases a1:y<0
    ·rw [decide_eq_true a1,cond_true,obind,decide_eq_false (show ¬ (0≤y∧y≤1048576) by omega)];rfl
    ·by_cases a2:1048576<y
     ·rw [decide_eq_false a1,cond_false,decide_eq_true a2,obind,decide_eq_false (show ¬ (0≤y∧y≤1048576) by omega)];rfl
     ·rw [decide_eq_false a1,cond_false,decide_eq_false a2,obind,decide_eq_true (show (0≤y∧y≤1048576) by omega)];rfl,obind]
   by_cases h:(t.Out.all fun y=>decide (0≤y∧y≤1048576))=true
   ·have h':(t.Out.any fun y=>!decide (0≤y∧y≤1048576))=false:=by
     rw [List.any_eq_false]
     intro y hy
     have:=List.all_eq_true.1 h y hy
     simp only [this,Bool.not_true]
     exact Bool.false_ne_true
    rw [h',cond_false,if_pos h]
   ·have h':(t.Out.any fun y=>!decide (0≤y∧y≤1048576))=true:=by
     refine Classical.byContradiction fun hn=>h (List.all_eq_true.2 fun y hy=>?_)
     refine Classical.byContradiction fun hm=>hn (List.any_eq_true.2 ⟨y,hy,?_⟩)
     have:decide (0≤y∧y≤1048576)=false:=by simpa only [Bool.not_eq_true] using hm
     rw [this]
     rfl
    rw [h',cond_true,if_neg h]
  ·rw [decide_eq_true (by omega),cond_true,if_pos g2]
 ·rw [decide_eq_true g1,cond_true,if_pos g1]
theorem zkf:∀ a b:List Int,common a b=common b a
 | [],[]=>rfl
 | [],_::_=>rfl
 | _::_,[]=>rfl
 | x::a,y::b=>by
  unfold common
  by_cases h:x=y
  ·rw [if_pos h,if_pos h.symm,zkf a b]
  ·rw [if_neg h,if_neg fun e=>h e.symm]
theorem Agree.symm {a b:zae} (h:Agree a b):Agree b a:=by
 unfold Agree at h ⊢
 rw [zkf]
 exact h.symm
theorem common_eq_iff {x y:List Int} (h:x.length=y.length):common x y=y.length↔x=y:=by
 rw [zgz]
 exact ⟨fun hp=>(hp.eq_of_length h.symm).symm,fun e=>e ▸ List.prefix_refl _⟩
theorem zet (a b:zae) {n:Int} (ha:PropT n a) (hb:PropT n b) (h1:SmW a.In):∃ d,zcx a b=some d∧(0≤d↔¬ Agree a b):=by
 have h1':a.In.length≤2000000:=h1
 have hc:=zfa a.In b.In
 have la:=ha.2.1
 have lb:=hb.2.1
 unfold zcx
 rw [ze5 _ _ h1,obind]
 have hm:min (min (↑(common a.In b.In):Int) (↑(List.length a.Out):Int)) (↑(List.length b.Out):Int)=↑(common a.In b.In):=by omega
 rw [hm,chk_pos (by omega),chk_pos (by omega),Int.toNat_natCast,ze5 _ _ (by unfold SmW;rw [List.length_take];omega),obind]
 have l1:(a.Out.take (common a.In b.In)).length=common a.In b.In:=by rw [List.length_take];omega
 have l2:(b.Out.take (common a.In b.In)).length=common a.In b.In:=by rw [List.length_take];omega
 have hle:=zfa (a.Out.take (common a.In b.In)) (b.Out.take (common a.In b.In))
 have hiff:=common_eq_iff (x:=a.Out.take (common a.In b.In)) (y:=b.Out.take (common a.In b.In)) (by omega)
 by_cases h:common (a.Out.take (common a.In b.In)) (b.Out.take (common a.In b.In))<common a.In b.In
 ·rw [decide_eq_true (by omega),cond_true]
  exact ⟨_,rfl,fun _ hA=>by have:=hiff.2 hA;omega,fun _=>by omega⟩
 ·rw [decide_eq_false (by omega),cond_false]
  exact ⟨-1,rfl,fun h=>absurd h (by decide),fun hA=>absurd (hiff.1 (by omega)) hA⟩
def clashO (l:List zae) (t:zae):Prop:=∃ u∈l,¬ Agree u t
instance (a b:zae):Decidable (Agree a b):=by unfold Agree;infer_instance
instance (l:List zae) (t:zae):Decidable (clashO l t):=by unfold clashO;infer_instance
theorem ObsOk.pw {o:zal} (hv:ObsOk o):o.Traces.Pairwise (fun a b=>cmpW a.In b.In=-1)∧o.Traces.Pairwise (fun a b=>¬ a.In <+: b.In∧Agree a b) :=
 ⟨List.pairwise_iff_getElem.2 fun i j hi hj hij=>hv.asc i j _ _ hij (get_at hi) (get_at hj),List.pairwise_iff_getElem.2 fun i j hi hj hij=>hv.apart i j _ _ hij (get_at hi) (get_at hj)⟩
end Go.Proofs.YteigfkncoiiaiaaGreatDoor.Sym

/-
 The program's check of observations passes what the document's check passes. Plain laws.
-/
namespace Go.Proofs.YteigfkncoiiaiaaGreatDoor.Sym
set_option maxRecDepth 100000
theorem zde {w:List Int} {n:Int} (h:checkI w n=0):w.length≤1024∧∀ a∈w,0≤a∧a<n:=by
 unfold checkI at h
 split at h
 ·split at h
  ·cases h
  ·split at h
   ·rename_i g1 g2 g3
    exact ⟨by omega,fun a ha=>by simpa using List.all_eq_true.1 g3 a ha⟩
   ·cases h
 ·cases h
theorem scan_nil {α R:Type}:∀ (l:List α) (j:Nat),scan (fun _ _=>(none:Option R)) j l=none
 | [],_=>rfl
 | _::l,j=>by
  unfold scan
  exact scan_nil l (j+1)
theorem fits_tot {l:List zae} (hl:l.length≤1000000) (hw:∀ t∈l,t.In.length≤1000000) {n:Int} (hp:∀ t∈l,PropT n t) (hd:∀ a∈l,∀ b∈l,a.In=b.In→a=b):∃ b,zb1 l=some b:=by
 have hf:∀ a∈l,∀ b∈l,zbx a b=some (lexI a.In b.In):=fun a ha b _=>by
  unfold zbx
  rw [zhf _ _ (by have:=hw a ha;omega),obind]
 have ht:totB (fun u0 u1=>zbx u0 u1) l=true:=by
  refine List.all_eq_true.2 fun a ha=>List.all_eq_true.2 fun b hb=>?_
  simp only
  rw [hf a ha b hb,hf b hb a ha]
  simp only [Bool.and_eq_true]
  have hz:=zkm a.In b.In
  have hs:=zjx a.In b.In
  refine ⟨⟨⟨?_,?_⟩,?_⟩,List.all_eq_true.2 fun c hc=>?_⟩
  ·rw [beq_iff_eq]
   by_cases h:a=b
   ·have:lexI a.In b.In=0:=hz.2 (by rw [h])
    rw [decide_eq_true this,decide_eq_true h]
   ·have h2:¬ lexI a.In b.In=0:=fun e=>h (hd a ha b hb (hz.1 e))
    rw [decide_eq_false h2,decide_eq_false h]
  ·rw [beq_iff_eq]
   by_cases h:lexI a.In b.In<0
   ·rw [decide_eq_true h,decide_eq_true (by omega)]
   ·rw [decide_eq_false h,decide_eq_false (by omega)]
  ·have:=ze8 a.In b.In
   exact decide_eq_true (by omega)
  ·rw [hf b hb c hc,hf a ha c hc]
   have r1:=ze8 a.In b.In
   have r2:=ze8 b.In c.In
   by_cases h1:lexI a.In b.In<0
   ·by_cases h2:lexI b.In c.In<0
    ·have:=zie a.In b.In c.In (by omega) (by omega)
     simp [h1,h2,this]
    ·simp [h1,h2]
   ·simp [h1]
 have hperm:=zdd (fun u0 u1=>zbx u0 u1) l
 generalize hS:isortF (fun u0 u1=>zbx u0 u1) l=S at hperm
 have hsl:S.length=l.length:=hperm.length_eq
 unfold zb1 zd7 libClone zdc libSort
 rw [chk_pos (by unfold capOk;omega),obind,chk_pos (by omega),ht,cond_true,hS,obind]
 have key:=za3 (step:=fun (s:Nat)=>zb1.s2 S s) (fun i=>1≤i) (fun i=>S.length+1-i) (fun _=>True) (fun i g1=>by
  simp only [zb1.s2]
  by_cases h:i<S.length
  ·have hx:=get_at h
   have hy:=get_at (l:=S) (i:=i-1) (by omega)
   have mx:S[i]∈l:=hperm.mem_iff.1 (List.getElem_mem h)
   have my:S[i-1]∈l:=hperm.mem_iff.1 (List.getElem_mem _)
   obtain ⟨d,hd1,_⟩:=zet S[i-1] S[i] (hp _ my) (hp _ mx) (by have:=hw _ my;unfold SmW;omega)
   rw [dec_lt hx,cond_true,idxn_at hx,idx_at (i:=i-1) (by omega) hy,zff _ _ (by have:=hw _ mx;unfold SmW;omega),obind]
   by_cases q:S[i-1].In <+: S[i].In
   ·rw [decide_eq_true q,cond_true,obind,cond_true]
    exact .inr ⟨_,rfl,trivial⟩
   ·rw [decide_eq_false q,cond_false,idx_at (i:=i-1) (by omega) hy,idxn_at hx,hd1,obind,obind]
    by_cases z:0≤d
    ·rw [decide_eq_true z,cond_true]
     exact .inr ⟨_,rfl,trivial⟩
    ·rw [decide_eq_false z,cond_false]
     exact .inl ⟨_,rfl,by omega,by omega⟩
  ·rw [decide_eq_false (by omega),cond_false]
   exact .inr ⟨_,rfl,trivial⟩) fuel 1 (Nat.le_refl _) (by have:=fuel_big;omega)
 obtain ⟨r,e,-⟩:=key
 rw [e,obind]
 cases r with
 | inl u=>exact ⟨true,rfl⟩
 | inr b=>exact ⟨b,rfl⟩
theorem ObsOk.dist {o:zal} (hv:ObsOk o):∀ a∈o.Traces,∀ b∈o.Traces,a.In=b.In→a=b:=fun a ha b hb e=>by
 obtain ⟨i,hi,rfl⟩:=List.getElem_of_mem ha
 obtain ⟨j,hj,rfl⟩:=List.getElem_of_mem hb
 rcases Nat.lt_trichotomy i j with h | h | h
 ·exact absurd (e ▸ List.prefix_refl _) (hv.apart i j _ _ h (get_at hi) (get_at hj)).1
 ·subst h;rfl
 ·exact absurd (e ▸ List.prefix_refl _) (hv.apart j i _ _ h (get_at hj) (get_at hi)).1
theorem zh6 {l:List zae} {f:zae→Option Bool} (hl:l.length≤100000000000000) (hf:∀ x∈l,f x=some false):zat l f=some false:=by
 unfold zat
 have h:¬ l.any (fun _=>false)=true:=fun h=>by
  obtain ⟨x,_,hx⟩:=List.any_eq_true.1 h
  cases hx
 rw [tindex_eq (p:=fun _=>false) hl hf,if_neg h,obind]
 rfl
theorem zjd {o:zal} (ho:SmO o) (hv:ObsOk o):za4 o=some 0:=by
 obtain ⟨i1,i2⟩:=hv.inp
 have hn:=hv.num
 have hs:=ho.2
 unfold za4
 rw [decide_eq_false (by omega),cond_false,decide_eq_false (by omega),obind,cond_false,decide_eq_false (by omega),cond_false]
 have key:=zdj (step:=fun s=>za4.s2 o s) (l:=o.Traces) (R:=Int) (fun _ _=>none) (fun i x hx=>by
  obtain ⟨hi,hx'⟩:=List.getElem?_eq_some_iff.1 hx
  have mx:x∈o.Traces:=List.mem_of_getElem? hx
  obtain ⟨p1,p2⟩:=hv.prop x mx
  have sx:SmW x.In:=by have:=(hs x mx).1;unfold SmW;omega
  have hpi:propI x o.Inputs=0:=propI_zero.2 p1
  have hne:x.In.length≠0:=fun e=>p2 (List.eq_nil_of_length_eq_zero e)
  simp only [za4.s2]
  rw [dec_lt hx,cond_true,idxn_at hx,zib _ _ sx,obind,p1.1,decide_eq_false (by decide),cond_false,decide_eq_false (by omega),cond_false,ziu _ _ sx (hs x mx).2,obind,hpi,decide_eq_false (by decide),cond_false]
  by_cases h0:0<i
  ·have hy:=get_at (l:=o.Traces) (i:=i-1) (by omega)
   have hc:=hv.asc (i-1) i _ _ (by omega) hy hx
   have my:=List.mem_of_getElem? hy
   unfold zd8
   rw [decide_eq_true (by omega),cond_true,idx_at (i:=i-1) (by omega) hy,zf7 _ _ (by have:=(hs _ my).1;omega),obind,obind,hc,decide_eq_false (by decide),obind,cond_false]
  ·rw [decide_eq_false (by omega),cond_false,obind,cond_false]) (by
  simp only [za4.s2]
  rw [dec_end,cond_false]) (by omega)
 rw [key,scan_nil,obind]
 simp only [Sum.elim_inl]
 obtain ⟨b,hb⟩:=fits_tot (l:=o.Traces) (by omega) (fun t ht=>by have:=(zde (hv.prop t ht).1.1).1;omega) (fun t ht=>(hv.prop t ht).1) hv.dist
 rw [hb,obind]
 cases b with
 | true=>rfl
 | false =>
  rw [cond_false]
  have key2:=zdj (step:=fun s=>za4.s4 o s) (l:=o.Traces) (R:=Int) (fun _ _=>none) (fun i x hx=>by
   obtain ⟨hi,hx'⟩:=List.getElem?_eq_some_iff.1 hx
   have mx:x∈o.Traces:=List.mem_of_getElem? hx
   have hl:(o.Traces.drop (i+1)).length≤100000000000000:=by rw [List.length_drop];omega
   have hap:∀ u∈o.Traces.drop (i+1),u∈o.Traces∧¬ x.In <+: u.In∧Agree x u:=fun u hu=>by
    refine ⟨List.mem_of_mem_drop hu,?_⟩
    obtain ⟨k,hk,e⟩:=List.getElem_of_mem hu
    rw [List.getElem_drop] at e
    rw [List.length_drop] at hk
    exact hv.apart i (i+1+k) x u (by omega) hx (by rw [get_at (by omega),e])
   simp only [za4.s4]
   rw [dec_lt hx,cond_true,idxn_at hx,chk_pos (by omega),zh6 hl (fun u hu=>by
    unfold zc2
    rw [zff _ _ (by have:=(hs u (hap u hu).1).1;unfold SmW;omega),obind,decide_eq_false (hap u hu).2.1]),obind,cond_false,zh6 hl (fun u hu=>by
    unfold zc1
    obtain ⟨d,d1,d2⟩:=zet x u (hv.prop x mx).1 (hv.prop u (hap u hu).1).1 (by have:=(hs x mx).1;unfold SmW;omega)
    rw [d1,obind,decide_eq_false (fun h=>d2.1 h (hap u hu).2.2)]),obind,cond_false]) (by
   simp only [za4.s4]
   rw [dec_end,cond_false]) (by omega)
  rw [key2,scan_nil,obind]
  rfl
end Go.Proofs.YteigfkncoiiaiaaGreatDoor.Sym

/-
 What is numbered anew is a partial machine again. Plain laws.
-/
namespace Go.Proofs.YteigfkncoiiaiaaGreatDoor.Sym
set_option maxRecDepth 100000
theorem addT_pre (L:List Nat) (t:Int):L <+: addT L t:=by
 unfold addT
 split
 ·exact List.prefix_refl _
 ·exact List.prefix_append _ _
theorem zf6:∀ (x:List Int) (L:List Nat),L <+: x.foldl addT L
 | [],L=>List.prefix_refl _
 | t::x,L=>by
  rw [List.foldl_cons]
  exact (addT_pre L t).trans (zf6 x _)
theorem foldl_mem:∀ (x:List Int) (L:List Nat) (t:Int),t∈x→t=-1∨t.toNat∈x.foldl addT L
 | u::x,L,t,h=>by
  rw [List.foldl_cons]
  rcases List.mem_cons.1 h with rfl | h
  ·by_cases t0:t=-1
   ·exact .inl t0
   ·refine .inr ((zf6 x _).subset ?_)
    unfold addT
    split
    ·rename_i g
     exact g.resolve_left t0
    ·exact List.mem_append_right _ (List.mem_singleton.2 rfl)
  ·exact foldl_mem x _ t h
theorem bfs_pre (R:Nat→List Int):∀ (f i:Nat) (L:List Nat),L <+: bfsL R f i L
 | 0,_,L=>List.prefix_refl _
 | f+1,i,L=>by
  unfold bfsL
  cases L[i]? with
  | none=>exact List.prefix_refl _
  | some c=>exact (zf6 (R c) L).trans (bfs_pre R f (i+1) _)
theorem zlt (R:Nat→List Int):∀ (f i:Nat) (L:List Nat),(∀ c,c∈L.take i→∀ t,t∈R c→t=-1∨t.toNat∈L)→(bfsL R f i L).length≤f+i→∀ c,c∈bfsL R f i L→∀ t,t∈R c→t=-1∨t.toNat∈bfsL R f i L
 | 0,i,L,h,hl=>by
  unfold bfsL at hl ⊢
  rw [List.take_of_length_le (by omega)] at h
  exact h
 | f+1,i,L,h,hl=>by
  unfold bfsL at hl ⊢
  cases e:L[i]? with
  | none =>
   have:L.length≤i:=List.getElem?_eq_none_iff.1 e
   rw [List.take_of_length_le this] at h
   exact h
  | some c =>
   rw [e] at hl
   refine zlt R f (i+1) _ (fun d hd t ht=>?_) (by simp only at hl;omega)
   obtain ⟨hi,hc⟩:=List.getElem?_eq_some_iff.1 e
   have hp:=zf6 (R c) L
   have htk:((R c).foldl addT L).take (i+1)=L.take i++[c]:=by
    obtain ⟨T,hT⟩:=hp
    rw [← hT,List.take_append_of_le_length (by omega),List.take_succ_eq_append_getElem hi,hc]
   rw [htk] at hd
   rcases List.mem_append.1 hd with k | k
   ·exact (h d k t ht).elim .inl fun k=>.inr (hp.subset k)
   ·rw [List.mem_singleton.1 k] at ht
    exact foldl_mem _ _ _ ht
theorem zdx {Q:zaa} (R:RenOk Q) {c a:Nat} (hc:c∈ordP Q) (ha:a<Q.Inputs.toNat):gx Q.Next c a=-1∨(gx Q.Next c a).toNat∈ordP Q:=by
 obtain ⟨nums,_,A⟩:=zbo R
 have hle:=A.le
 obtain ⟨x,x1,x2,x3⟩:=R.gn.at (A.lt c hc) ha
 refine zlt (fun c=>(Q.Next[c]?).getD []) (Q.Next.length+1) 0 [Q.Start.toNat] (fun d hd=>by simp at hd) (by have:(bfsL (fun c=>(Q.Next[c]?).getD []) (Q.Next.length+1) 0 [Q.Start.toNat]).length≤Q.Next.length:=hle;omega) c hc _ ?_
 rw [x1,Option.getD_some]
 exact List.mem_of_getElem? x2
theorem renP_ok {Q:zaa} (R:RenOk Q) (hi:1≤Q.Inputs) (hn:Q.Next.length≤4096) (ho:∀ c a,c∈ordP Q→a<Q.Inputs.toNat→gx Q.Next c a≠-1→0≤gx Q.Out c a∧gx Q.Out c a≤1048576):PartOk (renP Q):=by
 obtain ⟨nums,_,A⟩:=zbo R
 have hle:=A.le
 have hpos:0<(ordP Q).length:=by
  have:=(bfs_pre (fun c=>(Q.Next[c]?).getD []) (Q.Next.length+1) 0 [Q.Start.toNat]).length_le
  exact this
 unfold renP
 refine ⟨hi,R.i2,by simp only [List.length_map];exact hpos,by simp only [List.length_map];omega,by simp only [List.length_map];omega,by simp only [List.length_map],fun s hs=>?_⟩
 simp only [List.length_map] at hs ⊢
 have hx:=get_at hs
 have hc:(ordP Q)[s]∈ordP Q:=List.getElem_mem hs
 refine ⟨rowNQ Q (ordP Q) (ordP Q)[s],rowOQ Q (ordP Q)[s],by rw [List.getElem?_map,hx];rfl,by rw [List.getElem?_map,hx];rfl,?_,?_,fun a t o h1 h2=>?_⟩
 ·unfold rowNQ
  rw [List.length_map,List.length_range]
  omega
 ·unfold rowOQ
  rw [List.length_map,List.length_range]
  omega
 ·unfold rowNQ at h1
  unfold rowOQ at h2
  rw [List.getElem?_map] at h1 h2
  by_cases ha:a<Q.Inputs.toNat
  ·rw [List.getElem?_range ha] at h1 h2
   have h1:numT (ordP Q) (gx Q.Next (ordP Q)[s] a)=t:=by injection h1
   have h2:(if gx Q.Next (ordP Q)[s] a=-1 then (-1:Int) else gx Q.Out (ordP Q)[s] a)=o:=by injection h2
   rw [← h1,← h2]
   unfold numT
   by_cases t0:gx Q.Next (ordP Q)[s] a=-1
   ·rw [if_neg (fun g=>g.1 t0),if_pos t0]
    omega
   ·have hm:=(zdx R hc ha).resolve_left t0
    have hlt:=List.idxOf_lt_length_of_mem hm
    obtain ⟨o1,o2⟩:=ho _ a hc ha t0
    rw [if_pos ⟨t0,hm⟩,if_neg t0]
    omega
  ·rw [List.getElem?_eq_none (by rw [List.length_range];omega)] at h1
   cases h1
theorem QuoOk.part {p Q:zaa} {cl:Nat→Nat} (H:PartOk p) (K:QuoOk p Q cl):PartOk (renP Q)∧(renP Q).Next.length≤p.Next.length:=by
 have hO:=(R35_Folded_eq H K).2
 refine ⟨renP_ok K.ren (by rw [K.inp];exact H.i1) (by rw [K.len];exact H.n2) fun c a hc ha h=>?_,?_⟩
 ·obtain ⟨c1,c2⟩:=hO.lt c hc
  rw [K.inp] at ha
  obtain ⟨⟨r,r1,r2,r3⟩,h3⟩:=(K.row c a c1 ha c2).2 h
  obtain ⟨_,h4⟩:=h3 r r1 r2 r3
  obtain ⟨n1,n2,n3,n4,n5,_⟩:=H.at r1 ha
  rw [← h4]
  exact ⟨by omega,n4⟩
 ·unfold renP
  simp only [List.length_map]
  exact hO.le
end Go.Proofs.YteigfkncoiiaiaaGreatDoor.Sym

/-
 The next state to be looked at: the program's and the reference's. Plain laws.
-/
namespace Go.Proofs.YteigfkncoiiaiaaGreatDoor.Sym
set_option maxRecDepth 100000
section
variable {p:zaa}
def CandOf (p:zaa) (red:List Bool) (r a b:Nat):Prop:=red[r]?=some true∧pnx p r a=(↑b:Int)∧red[b]?=some false
def BestI (p:zaa) (red:List Bool) (r k B:Nat):Prop:=B≤p.Next.length∧(B<p.Next.length→∃ r a,CandOf p red r a B)∧∀ r' a b,(r'<r∨(r'=r∧a<k))→CandOf p red r' a b→B≤b
theorem loop_s25 (H:PartOk p) {red:List Bool} (hr:red.length=p.Next.length) {r:Nat} (hrl:r<p.Next.length) (hred:red[r]?=some true) {x:List Int} (hx:p.Next[r]?=some x) {B:Nat} (hB:BestI p red r 0 B):∃ B':Nat,iter (fun (s:Int×Nat)=>zbn.s25 red x s.1 s.2) fuel ((↑B:Int),0)=some (↑B':Int)∧BestI p red (r+1) 0 B':=by
 have hi:=H.i2
 have hxl:x.length=p.Inputs.toNat:=by
  obtain ⟨x',q1,q2⟩:=H.gn.row r hrl
  rw [hx] at q1
  injection q1 with q1
  rw [q1,q2]
 have key:=za3 (step:=fun (s:Int×Nat)=>zbn.s25 red x s.1 s.2) (fun s=>s.2≤x.length∧∃ B:Nat,s.1=(↑B:Int)∧BestI p red r s.2 B) (fun s=>x.length-s.2) (fun q=>∃ B':Nat,q=(↑B':Int)∧BestI p red (r+1) 0 B') (fun ⟨b,k⟩ ⟨g1,B,g2,g3⟩=>by
  simp only at g1 g2 g3
  subst g2
  obtain ⟨c1,c2,c3⟩:=g3
  simp only [zbn.s25]
  by_cases h:k<x.length
  ·left
   obtain ⟨n1,n2,n3,n4,n5,x',_,hx',_,hxa,_⟩:=H.at hrl (a:=k) (by omega)
   rw [hx] at hx'
   injection hx' with hx'
   subst hx'
   rw [decide_eq_true (by omega),cond_true,idxn_at hxa]
   by_cases t0:pnx p r k=-1
   ·refine ⟨((↑B:Int),k+1),by rw [decide_eq_false (fun g=>g t0),cond_false,obind,cond_false],⟨h,B,rfl,c1,c2,fun r' a b' q1 q2=>?_⟩,by simp only;omega⟩
    by_cases e:r'=r∧a=k
    ·have:=q2.2.1
     rw [e.1,e.2,t0] at this
     omega
    ·exact c3 r' a b' (by simp only at q1;omega) q2
   ·obtain ⟨u,hu⟩:∃ u:Nat,pnx p r k=(↑u:Int):=⟨(pnx p r k).toNat,by omega⟩
    have hul:u<red.length:=by omega
    have hru:=get_at hul
    rw [decide_eq_true t0,cond_true,idx_at (i:=u) hu hru,obind]
    cases hb:red[u] with
    | true =>
     refine ⟨((↑B:Int),k+1),by rw [Bool.not_true,cond_false],⟨h,B,rfl,c1,c2,fun r' a b' q1 q2=>?_⟩,by simp only;omega⟩
     by_cases e:r'=r∧a=k
     ·obtain ⟨_,m1,m2⟩:=q2
      rw [e.1,e.2,hu] at m1
      have e2:b'=u:=by omega
      rw [e2,hru,hb] at m2
      cases m2
     ·exact c3 r' a b' (by simp only at q1;omega) q2
    | false =>
     refine ⟨((↑(min B u):Int),k+1),?_,⟨h,min B u,rfl,by omega,fun _=>?_,fun r' a b' q1 q2=>?_⟩,by simp only;omega⟩
     ·rw [Bool.not_false,cond_true,hu,show min (↑B:Int) (↑u:Int)=(↑(min B u):Int) by omega]
     ·rcases Nat.le_total B u with q | q
      ·rw [Nat.min_eq_left q];exact c2 (by omega)
      ·rw [Nat.min_eq_right q];exact ⟨r,k,hred,hu,by rw [hru,hb]⟩
     ·by_cases e:r'=r∧a=k
      ·have m1:=q2.2.1
       rw [e.1,e.2,hu] at m1
       omega
      ·have:=c3 r' a b' (by simp only at q1;omega) q2
       omega
  ·right
   have e1:k=x.length:=by omega
   subst e1
   refine ⟨_,by rw [decide_eq_false (by omega),cond_false],B,rfl,c1,c2,fun r' a b' q1 q2=>?_⟩
   by_cases e:r'=r
   ·have:=(pnx_rng H q2.2.1).2.1
    exact c3 r' a b' (.inr ⟨e,by omega⟩) q2
   ·exact c3 r' a b' (.inl (by omega)) q2) fuel ((↑B:Int),0) ⟨Nat.zero_le _,B,rfl,hB⟩ (by have:=fuel_big;simp only;omega)
 obtain ⟨q,e,B',rfl,h⟩:=key
 exact ⟨B',e,h⟩
theorem merge_blue_eq (H:PartOk p) {red:List Bool} (hr:red.length=p.Next.length):∃ B:Nat,zbn p red=some ((↑B:Int),decide (B<p.Next.length))∧B≤p.Next.length∧(B<p.Next.length→∃ r a,CandOf p red r a B)∧∀ r a b,CandOf p red r a b→B≤b:=by
 have hn:=H.n2
 have key:=za3 (step:=fun (s:Int×Nat)=>zbn.s26 p red s.1 s.2) (fun s=>s.2≤p.Next.length∧∃ B:Nat,s.1=(↑B:Int)∧BestI p red s.2 0 B) (fun s=>p.Next.length-s.2) (fun q=>∃ B':Nat,q=(↑B':Int)∧BestI p red p.Next.length 0 B') (fun ⟨b,r⟩ ⟨g1,B,g2,g3⟩=>by
  simp only at g1 g2 g3
  subst g2
  simp only [zbn.s26]
  by_cases h:r<p.Next.length
  ·left
   have hx:=get_at (l:=red) (i:=r) (by omega)
   rw [decide_eq_true (by omega),cond_true,idxn_at hx]
   cases hb:red[r] with
   | false =>
    refine ⟨((↑B:Int),r+1),by rw [Bool.not_false,cond_true,obind],⟨h,B,rfl,g3.1,g3.2.1,fun r' a b' q1 q2=>?_⟩,by simp only;omega⟩
    by_cases e:r'=r
    ·have:=q2.1
     rw [e,hx,hb] at this
     cases this
    ·exact g3.2.2 r' a b' (.inl (by simp only at q1;omega)) q2
   | true =>
    obtain ⟨x,x1,x2⟩:=H.gn.row r h
    obtain ⟨B',e1,e2⟩:=loop_s25 H hr h (by rw [hx,hb]) x1 g3
    exact ⟨((↑B':Int),r+1),by rw [Bool.not_true,cond_false,idxn_at x1,e1,obind,obind],⟨h,B',rfl,e2⟩,by simp only;omega⟩
  ·right
   have e1:r=p.Next.length:=by omega
   subst e1
   exact ⟨_,by rw [decide_eq_false (by omega),cond_false],B,rfl,g3⟩) fuel ((↑red.length:Int),0) ⟨Nat.zero_le _,p.Next.length,by rw [hr],Nat.le_refl _,fun h=>absurd h (Nat.lt_irrefl _),fun r' a b' q1 q2=>by omega⟩ (by have:=fuel_big;simp only;omega)
 obtain ⟨q,e,B,rfl,c1,c2,c3⟩:=key
 refine ⟨B,?_,c1,c2,fun r a b q=>c3 r a b (.inl ?_) q⟩
 ·unfold zbn
  rw [e,obind,hr,show decide ((↑B:Int)<(↑p.Next.length:Int))=decide (B<p.Next.length) from by rw [Bool.eq_iff_iff,decide_eq_true_iff,decide_eq_true_iff];omega]
 ·exact (pnx_rng H q.2.1).1
end
end Go.Proofs.YteigfkncoiiaiaaGreatDoor.Sym

/-
 The reference's states to be looked at. Plain laws.
-/
namespace Go.Proofs.YteigfkncoiiaiaaGreatDoor.Sym
set_option maxRecDepth 100000
section
variable {p:zaa}
end
end Go.Proofs.YteigfkncoiiaiaaGreatDoor.Sym

/-
 States that the start reaches, through folds and new numberings. Plain laws.
-/
namespace Go.Proofs.YteigfkncoiiaiaaGreatDoor.Sym
set_option maxRecDepth 100000
inductive RS (p:zaa):Nat→Prop
 | st:RS p p.Start.toNat
 | step {q:Nat} (a u:Nat) (h:RS p q) (hu:pnx p q a=(↑u:Int)):RS p u
def Conn (p:zaa):Prop:=∀ q,q<p.Next.length→RS p q
theorem ziq (Q:zaa):Q.Start.toNat∈ordP Q:=(bfs_pre (fun c=>(Q.Next[c]?).getD []) (Q.Next.length+1) 0 [Q.Start.toNat]).subset (List.mem_singleton.2 rfl)
theorem QuoOk.mem {p Q:zaa} {cl:Nat→Nat} (H:PartOk p) (K:QuoOk p Q cl) {q:Nat} (h:RS p q):cl q∈ordP Q:=by
 induction h with
 | st =>
  have:=ziq Q
  rwa [K.st,Int.toNat_natCast] at this
 | step a u h hu ih =>
  obtain ⟨h1,h2,h3⟩:=pnx_rng H hu
  rename_i q
  have hc:=K.lt q h1
  have hcc:=K.idem q h1
  have hne:pnx p q a≠-1:=by omega
  obtain ⟨r1,r2⟩:=K.row (cl q) a hc h2 hcc
  by_cases k:gx Q.Next (cl q) a=-1
  ·exact absurd (r1 k q h1 rfl) hne
  ·obtain ⟨e,_⟩:=(r2 k).2 q h1 rfl hne
   rw [hu,Int.toNat_natCast] at e
   have:=(zdx K.ren ih (a:=a) (by rw [K.inp];exact h2)).resolve_left k
   rwa [e,Int.toNat_natCast] at this
theorem zkp (P:Nat→Prop):∀ (x:List Int) (L:List Nat),(∀ c,c∈L→P c)→(∀ t,t∈x→t≠-1→P t.toNat)→∀ c,c∈x.foldl addT L→P c
 | [],L,h,_,c,hc=>h c hc
 | t::x,L,h,hx,c,hc=>by
  rw [List.foldl_cons] at hc
  refine zkp P x _ (fun d hd=>?_) (fun u hu=>hx u (List.mem_cons_of_mem _ hu)) c hc
  unfold addT at hd
  split at hd
  ·exact h d hd
  ·rename_i g
   rcases List.mem_append.1 hd with k | k
   ·exact h d k
   ·rw [List.mem_singleton.1 k]
    exact hx t List.mem_cons_self fun e=>g (.inl e)
theorem zj1 (R:Nat→List Int) (P:Nat→Prop) (hR:∀ c,P c→∀ t,t∈R c→t≠-1→P t.toNat):∀ (f i:Nat) (L:List Nat),(∀ c,c∈L→P c)→∀ c,c∈bfsL R f i L→P c
 | 0,_,L,h,c,hc=>h c hc
 | f+1,i,L,h,c,hc=>by
  unfold bfsL at hc
  cases e:L[i]? with
  | none =>
   rw [e] at hc
   exact h c hc
  | some d =>
   rw [e] at hc
   exact zj1 R P hR f (i+1) _ (zkp P _ _ h (hR d (h d (List.mem_of_getElem? e)))) c hc
theorem renP_conn {Q:zaa} (R:RenOk Q):Conn (renP Q):=by
 obtain ⟨nums,_,A⟩:=zbo R
 have hpn:∀ c a,c∈ordP Q→a<Q.Inputs.toNat→gx Q.Next c a≠-1→pnx (renP Q) ((ordP Q).idxOf c) a=(↑((ordP Q).idxOf (gx Q.Next c a).toNat):Int):=fun c a hc ha h=>by
  have hm:=(zdx R hc ha).resolve_left h
  have hlt:=List.idxOf_lt_length_of_mem hc
  unfold pnx renP
  rw [List.getElem?_map,get_at hlt,Option.map_some,Option.getD_some,List.getElem_idxOf hlt]
  unfold rowNQ
  rw [List.getElem?_map,List.getElem?_range ha,Option.map_some,Option.getD_some]
  unfold numT
  rw [if_pos ⟨h,hm⟩]
 have h0:(ordP Q).idxOf Q.Start.toNat=0:=by
  obtain ⟨T,hT⟩:=bfs_pre (fun c=>(Q.Next[c]?).getD []) (Q.Next.length+1) 0 [Q.Start.toNat]
  unfold ordP
  rw [← hT]
  simp
 have key:∀ c,c∈ordP Q→c∈ordP Q∧RS (renP Q) ((ordP Q).idxOf c):=by
  refine zj1 (fun c=>(Q.Next[c]?).getD []) (fun c=>c∈ordP Q∧RS (renP Q) ((ordP Q).idxOf c)) (fun c hc t ht t0=>?_) (Q.Next.length+1) 0 [Q.Start.toNat] fun c hc=>?_
  ·obtain ⟨h1,h2⟩:=hc
   obtain ⟨x,x1,x2⟩:=R.gn.row c (A.lt c h1)
   simp only [x1,Option.getD_some] at ht
   obtain ⟨a,ha,hta⟩:=List.mem_iff_getElem.1 ht
   have hg:gx Q.Next c a=t:=by
    unfold gx
    rw [x1,Option.getD_some,get_at ha,Option.getD_some,hta]
   have hne:gx Q.Next c a≠-1:=by rw [hg];exact t0
   have hm:=(zdx R h1 (a:=a) (by omega)).resolve_left hne
   have hp:=hpn c a h1 (by omega) hne
   rw [hg] at hm hp
   exact ⟨hm,.step a _ h2 hp⟩
  ·rw [List.mem_singleton.1 hc]
   refine ⟨ziq Q,?_⟩
   rw [h0]
   exact .st
 intro s hs
 have hs:s<(ordP Q).length:=by
  unfold renP at hs
  simpa using hs
 have h1:=(key (ordP Q)[s] (List.getElem_mem hs)).2
 rwa [A.nd.idxOf_getElem s hs] at h1
end Go.Proofs.YteigfkncoiiaiaaGreatDoor.Sym

/-
 One fold of the search, with its red states: the program's and the reference's. Plain laws.
-/
namespace Go.Proofs.YteigfkncoiiaiaaGreatDoor.Sym
set_option maxRecDepth 100000
section
variable {p:zaa}
end
end Go.Proofs.YteigfkncoiiaiaaGreatDoor.Sym

/-
 One round of the search: the program's and the reference's. Plain laws.
-/
namespace Go.Proofs.YteigfkncoiiaiaaGreatDoor.Sym
set_option maxRecDepth 100000
theorem least_or (P:Nat→Prop):∀ k:Nat,(∀ r,r<k→¬ P r)∨∃ r0,r0<k∧P r0∧∀ r,r<r0→¬ P r
 | 0=>.inl fun r h=>absurd h (Nat.not_lt_zero _)
 | k+1=>by
  rcases least_or P k with h | ⟨r0,h1,h2⟩
  ·by_cases g:P k
   ·exact .inr ⟨k,Nat.lt_succ_self _,g,h⟩
   ·exact .inl fun r hr=>by
     by_cases e:r=k
     ·rw [e];exact g
     ·exact h r (by omega)
  ·exact .inr ⟨r0,by omega,h2⟩
section
variable {p:zaa}
end
end Go.Proofs.YteigfkncoiiaiaaGreatDoor.Sym

/-
 The search, to its end: the program's and the reference's. Plain laws.
-/
namespace Go.Proofs.YteigfkncoiiaiaaGreatDoor.Sym
set_option maxRecDepth 100000
def whites (red:List Bool):Nat:=red.countP fun b=>!b
theorem whites_set {red:List Bool}:∀ {b:Nat},red[b]?=some false→whites (red.set b true)<whites red:=by
 induction red with
 | nil=>intro b h;cases h
 | cons x red ih =>
  intro b h
  cases b with
  | zero =>
   have h:x=false:=by injection h
   subst h
   unfold whites
   simp
  | succ b =>
   have h:=ih (b:=b) h
   unfold whites at h ⊢
   rw [List.set_cons_succ,List.countP_cons,List.countP_cons]
   omega
structure LrnI (p:zaa) (red:List Bool):Prop where
 ok:PartOk p
 con:Conn p
 len:red.length=p.Next.length
end Go.Proofs.YteigfkncoiiaiaaGreatDoor.Sym

/-
 A search in breadth finds the words of a tree in their order. Plain laws.
-/
namespace Go.Proofs.YteigfkncoiiaiaaGreatDoor.Sym
set_option maxRecDepth 100000
def kids (R:Nat→List Int) (c t:Nat):Prop:=(↑t:Int)∈R c
section
variable {R:Nat→List Int} {lt:Nat→Nat→Prop} {st:Nat}
theorem zk7 {c:Nat} (hrow:∀ (i j:Nat) (u v:Nat),i<j→(R c)[i]?=some (↑u:Int)→(R c)[j]?=some (↑v:Int)→lt u v) (hrng:∀ t,t∈R c→t=-1∨0≤t) {L:List Nat} (hL:L.Pairwise lt) (hk:∀ w t,w∈L→kids R c t→lt w t) :
  ∀ k,k≤(R c).length→(((R c).take k).foldl addT L).Pairwise lt∧∀ w,w∈((R c).take k).foldl addT L→w∈L∨∃ i,i<k∧(R c)[i]?=some (↑w:Int)
 | 0,_=>by
  rw [List.take_zero]
  exact ⟨hL,fun w h=>.inl h⟩
 | k+1,hk1=>by
  obtain ⟨h1,h2⟩:=zk7 hrow hrng hL hk k (by omega)
  have hx:=get_at (l:=R c) (i:=k) (by omega)
  rw [List.take_succ_eq_append_getElem (by omega),List.foldl_append]
  generalize ((R c).take k).foldl addT L=A at h1 h2
  show (addT A (R c)[k]).Pairwise lt∧∀ w,w∈addT A (R c)[k]→_
  have hkeep:∀ w,w∈A→w∈L∨∃ i,i<k+1∧(R c)[i]?=some (↑w:Int):=fun w h=>(h2 w h).elim .inl fun ⟨i,q1,q2⟩=>.inr ⟨i,by omega,q2⟩
  unfold addT
  split
  ·exact ⟨h1,hkeep⟩
  ·rename_i g
   have hne:(R c)[k]≠-1:=fun e=>g (.inl e)
   have hge:0≤(R c)[k]:=(hrng _ (List.getElem_mem _)).resolve_left hne
   have hto:(↑(R c)[k].toNat:Int)=(R c)[k]:=by omega
   refine ⟨List.pairwise_append.2 ⟨h1,by simp,fun u hu v hv=>?_⟩,fun w hw=>?_⟩
   ·rw [List.mem_singleton.1 hv]
    rcases h2 u hu with q | ⟨i,q1,q2⟩
    ·exact hk u _ q (by unfold kids;rw [hto];exact List.getElem_mem _)
    ·exact hrow i k u _ q1 q2 (by rw [hto];exact hx)
   ·rcases List.mem_append.1 hw with q | q
    ·exact hkeep w q
    ·refine .inr ⟨k,Nat.lt_succ_self _,?_⟩
     rw [List.mem_singleton.1 q,hto]
     exact hx
theorem zle (hrow:∀ (c i j u v:Nat),i<j→(R c)[i]?=some (↑u:Int)→(R c)[j]?=some (↑v:Int)→lt u v) (hrng:∀ c t,t∈R c→t=-1∨0≤t) (hst:∀ c t,kids R c t→lt st t) (hch:∀ u v c d,lt u v→kids R u c→kids R v d→lt c d) :
  ∀ (f i:Nat) (L:List Nat),L.Pairwise lt→(∀ w,w∈L→w=st∨∃ j u,j<i∧L[j]?=some u∧kids R u w)→(bfsL R f i L).Pairwise lt
 | 0,_,L,h1,_=>h1
 | f+1,i,L,h1,h2=>by
  unfold bfsL
  cases e:L[i]? with
  | none=>exact h1
  | some c =>
   obtain ⟨hi,hc⟩:=List.getElem?_eq_some_iff.1 e
   obtain ⟨q1,q2⟩:=zk7 (c:=c) (fun i j u v=>hrow c i j u v) (hrng c) h1 (fun w t hw ht=>by
    rcases h2 w hw with h | ⟨j,u,j1,j2,j3⟩
    ·rw [h];exact hst c t ht
    ·obtain ⟨hj,hu⟩:=List.getElem?_eq_some_iff.1 j2
     have:=(List.pairwise_iff_getElem.1 h1) j i hj hi j1
     rw [hu,hc] at this
     exact hch u c w t this j3 ht) (R c).length (Nat.le_refl _)
   rw [List.take_length] at q1 q2
   refine zle hrow hrng hst hch f (i+1) _ q1 fun w hw=>?_
   have hget:∀ (j u:Nat),L[j]?=some u→((R c).foldl addT L)[j]?=some u:=fun j u h=>by
    have h3:=zf6 (R c) L
    generalize (R c).foldl addT L=A at h3
    obtain ⟨T,rfl⟩:=h3
    rw [List.getElem?_append_left (List.getElem?_eq_some_iff.1 h).1]
    exact h
   rcases q2 w hw with h | ⟨k,_,hk⟩
   ·rcases h2 w h with g | ⟨j,u,j1,j2,j3⟩
    ·exact .inl g
    ·exact .inr ⟨j,u,by omega,hget j u j2,j3⟩
   ·exact .inr ⟨i,c,Nat.lt_succ_self _,hget i c e,List.mem_of_getElem? hk⟩
end
end Go.Proofs.YteigfkncoiiaiaaGreatDoor.Sym

/-
 The machine of a tree of words. Plain laws.
-/
namespace Go.Proofs.YteigfkncoiiaiaaGreatDoor.Sym
set_option maxRecDepth 100000
theorem zgk {W:List (List Int)} (hn:W.Nodup) {i:Nat} {w:List Int} (h:W[i]?=some w):W.idxOf w=i:=by
 obtain ⟨hi,e⟩:=List.getElem?_eq_some_iff.1 h
 have hm:w∈W:=List.mem_of_getElem? h
 have hlt:=List.idxOf_lt_length_of_mem hm
 refine (List.getElem_inj (h₀:=hlt) (h₁:=hi) hn).1 ?_
 rw [List.getElem_idxOf hlt,e]
theorem at_idx {W:List (List Int)} {w:List Int} (h:w∈W):W[W.idxOf w]?=some w:=by
 have hlt:=List.idxOf_lt_length_of_mem h
 rw [get_at hlt,List.getElem_idxOf hlt]
structure TreeM (W:List (List Int)) (I:Nat) (D:List Int→Prop) (ov:List Int→Int) (N O:List (List Int)):Prop where
 gn:Grid W.length I N
 go:Grid W.length I O
 yes:∀ q (a:Nat) w,W[q]?=some w→a<I→D (w++[(↑a:Int)])→gx N q a=(↑(W.idxOf (w++[(↑a:Int)])):Int)∧gx O q a=ov (w++[(↑a:Int)])
 no:∀ q (a:Nat) w,W[q]?=some w→a<I→¬ D (w++[(↑a:Int)])→gx N q a=-1∧gx O q a=-1
theorem TreeM.congr {W:List (List Int)} {I:Nat} {D D':List Int→Prop} {ov:List Int→Int} {N O:List (List Int)} (T:TreeM W I D ov N O) (h:∀ w∈W,∀ a:Nat,a<I→(D (w++[(↑a:Int)])↔D' (w++[(↑a:Int)]))):TreeM W I D' ov N O :=
 ⟨T.gn,T.go,fun q a w hw ha hd=>T.yes q a w hw ha ((h w (List.mem_of_getElem? hw) a ha).2 hd),fun q a w hw ha hd=>T.no q a w hw ha fun g=>hd ((h w (List.mem_of_getElem? hw) a ha).1 g)⟩
theorem TreeM.put {W:List (List Int)} {I:Nat} {D:List Int→Prop} {ov:List Int→Int} {N O:List (List Int)} (T:TreeM W I D ov N O) (hnd:W.Nodup) {q a:Nat} {w x y:List Int} (hw:W[q]?=some w) (ha:a<I) (hx:N[q]?=some x) (hy:O[q]?=some y) :
  TreeM W I (fun v=>D v∨v=w++[(↑a:Int)]) ov (N.set q (x.set a (↑(W.idxOf (w++[(↑a:Int)])):Int))) (O.set q (y.set a (ov (w++[(↑a:Int)])))):=by
 have hq:q<W.length:=(List.getElem?_eq_some_iff.1 hw).1
 obtain ⟨g1,g2⟩:=T.gn.put hq ha hx (↑(W.idxOf (w++[(↑a:Int)])):Int)
 obtain ⟨k1,k2⟩:=T.go.put hq ha hy (ov (w++[(↑a:Int)]))
 have hinj:∀ (q' b:Nat) (w':List Int),W[q']?=some w'→w'++[(↑b:Int)]=w++[(↑a:Int)]→q'=q∧b=a:=fun q' b w' hw' e=>by
  obtain ⟨e1,e2⟩:=List.append_inj' e rfl
  subst e1
  have h1:=zgk hnd hw'
  have h2:=zgk hnd hw
  refine ⟨by omega,?_⟩
  injection e2 with e2 _
  omega
 refine ⟨g1,k1,fun q' b w' hw' hb hd=>?_,fun q' b w' hw' hb hd=>?_⟩
 ·have hq':q'<W.length:=(List.getElem?_eq_some_iff.1 hw').1
  rw [g2 q' b hq' hb,k2 q' b hq' hb]
  by_cases e:w'++[(↑b:Int)]=w++[(↑a:Int)]
  ·obtain ⟨e1,e2⟩:=hinj q' b w' hw' e
   rw [if_pos ⟨e1,e2⟩,if_pos ⟨e1,e2⟩,e]
   exact ⟨rfl,rfl⟩
  ·have hne:¬ (q'=q∧b=a):=fun ⟨e1,e2⟩=>e (by
    subst e1;subst e2
    rw [hw] at hw'
    injection hw' with hw'
    rw [hw'])
   rw [if_neg hne,if_neg hne]
   exact T.yes q' b w' hw' hb (hd.resolve_right e)
 ·have hq':q'<W.length:=(List.getElem?_eq_some_iff.1 hw').1
  rw [g2 q' b hq' hb,k2 q' b hq' hb]
  have hne:¬ (q'=q∧b=a):=fun ⟨e1,e2⟩=>hd (.inr (by
   subst e1;subst e2
   rw [hw] at hw'
   injection hw' with hw'
   rw [hw']))
  rw [if_neg hne,if_neg hne]
  exact T.no q' b w' hw' hb fun h=>hd (.inl h)
theorem ze0 {N:List (List Int)} {r:List Int} {q:Nat} (h:q<N.length) (a:Nat):gx (N++[r]) q a=gx N q a:=by
 unfold gx
 rw [List.getElem?_append_left h]
theorem zge {N:List (List Int)} {I:Nat} (a:Nat):gx (N++[List.replicate I (-1)]) N.length a=-1:=by
 unfold gx
 rw [List.getElem?_append_right (Nat.le_refl _),Nat.sub_self]
 simp only [List.getElem?_cons_zero,Option.getD_some,List.getElem?_replicate]
 split<;>rfl
theorem Grid.snoc {n I:Nat} {N:List (List Int)} (G:Grid n I N):Grid (n+1) I (N++[List.replicate I (-1)]):=by
 have hl:=G.len
 refine ⟨by rw [List.length_append,hl];rfl,fun q hq=>?_⟩
 by_cases h:q<n
 ·rw [List.getElem?_append_left (by omega)]
  exact G.row q h
 ·have e:q=N.length:=by omega
  rw [e,List.getElem?_append_right (Nat.le_refl _),Nat.sub_self]
  exact ⟨_,rfl,List.length_replicate⟩
theorem TreeM.grow {W:List (List Int)} {I:Nat} {D:List Int→Prop} {ov:List Int→Int} {N O:List (List Int)} (T:TreeM W I D ov N O) {v:List Int} (hD:∀ u,D u→u∈W) (hv:∀ a:Nat,¬ D (v++[(↑a:Int)])) :
  TreeM (W++[v]) I D ov (N++[List.replicate I (-1)]) (O++[List.replicate I (-1)]):=by
 have l1:=T.gn.len
 have l2:=T.go.len
 have hlen:(W++[v]).length=W.length+1:=by rw [List.length_append];rfl
 refine ⟨hlen ▸ T.gn.snoc,hlen ▸ T.go.snoc,fun q a w hw ha hd=>?_,fun q a w hw ha hd=>?_⟩
 ·have hq:q<W.length:=by
   rcases Nat.lt_or_ge q W.length with h | h
   ·exact h
   ·rw [List.getElem?_append_right h] at hw
    have:v=w:=by
     obtain ⟨h1,h2⟩:=List.getElem?_eq_some_iff.1 hw
     simp only [List.length_singleton] at h1
     have e:q-W.length=0:=by omega
     simpa [e] using h2
    subst this
    exact absurd hd (hv a)
  rw [List.getElem?_append_left hq] at hw
  rw [ze0 (by omega),ze0 (by omega),List.idxOf_append,if_pos (hD _ hd)]
  exact T.yes q a w hw ha hd
 ·rcases Nat.lt_or_ge q W.length with h | h
  ·rw [List.getElem?_append_left h] at hw
   rw [ze0 (by omega),ze0 (by omega)]
   exact T.no q a w hw ha hd
  ·obtain ⟨h1,h2⟩:=List.getElem?_eq_some_iff.1 hw
   have e:q=W.length:=by omega
   constructor
   ·rw [e,← l1]
    exact zge a
   ·rw [e,← l2]
    exact zge a
theorem TreeM.start {I:Nat} {ov:List Int→Int}:TreeM [[]] I (fun v=>v∈[([]:List Int)]) ov [List.replicate I (-1)] [List.replicate I (-1)]:=by
 have g:Grid 1 I [List.replicate I (-1:Int)]:=⟨rfl,fun q hq=>by
  have e:q=0:=by omega
  subst e
  exact ⟨_,rfl,List.length_replicate⟩⟩
 refine ⟨g,g,fun q a w hw ha hd=>?_,fun q a w hw ha hd=>?_⟩
 ·rw [List.mem_singleton] at hd
  exact absurd hd (by simp)
 ·have h1:=(List.getElem?_eq_some_iff.1 hw).1
  have e:q=0:=by simp only [List.length_singleton] at h1;omega
  subst e
  have:=zge (N:=[]) (I:=I) a
  exact ⟨this,this⟩
structure Stem (W:List (List Int)):Prop where
 nd:W.Nodup
 hd:W[0]?=some []
 pc:∀ w x,w++[x]∈W→w∈W
theorem Stem.grow {W:List (List Int)} (H:Stem W) {w:List Int} {x:Int} (hw:w∈W) (h:w++[x]∉W):Stem (W++[w++[x]]):=by
 refine ⟨List.nodup_append.2 ⟨H.nd,by simp,fun u hu v hv e=>?_⟩,?_,fun u y hu=>?_⟩
 ·rw [List.mem_singleton.1 hv] at e
  exact h (e ▸ hu)
 ·have:=(List.getElem?_eq_some_iff.1 H.hd).1
  rw [List.getElem?_append_left this]
  exact H.hd
 ·rcases List.mem_append.1 hu with g | g
  ·exact List.mem_append_left _ (H.pc u y g)
  ·obtain ⟨e,_⟩:=List.append_inj' (List.mem_singleton.1 g) rfl
   exact List.mem_append_left _ (e ▸ hw)
end Go.Proofs.YteigfkncoiiaiaaGreatDoor.Sym

/-
 The program's prefix tree before its states are numbered anew. Plain laws.
-/
namespace Go.Proofs.YteigfkncoiiaiaaGreatDoor.Sym
set_option maxRecDepth 100000
theorem common_ge:∀ (u a b:List Int),u <+: a→u <+: b→u.length≤common a b
 | [],_,_,_,_=>Nat.zero_le _
 | x::u,[],_,h,_=>by simp at h
 | x::u,_::_,[],_,h=>by simp at h
 | x::u,y::a,z::b,h1,h2=>by
  rw [List.cons_prefix_cons] at h1 h2
  obtain ⟨rfl,h1⟩:=h1
  obtain ⟨rfl,h2⟩:=h2
  have:=common_ge u a b h1 h2
  simp only [common,if_pos,List.length_cons]
  omega
def ovT (l:List zae) (w:List Int):Int:=((l.find? fun t=>decide (w <+: t.In)).map fun t=>(t.Out[w.length-1]?).getD 0).getD 0
theorem agree_at {a b:zae} (h:Agree a b) {u:List Int} (h1:u <+: a.In) (h2:u <+: b.In) {k:Nat} (hk:k<u.length):a.Out[k]?=b.Out[k]?:=by
 have hc:=common_ge u a.In b.In h1 h2
 unfold Agree at h
 have:=congrArg (fun l=>l[k]?) h
 simp only [List.getElem?_take_of_lt (show k<common a.In b.In by omega)] at this
 exact this
theorem ovT_eq {o:zal} (hv:ObsOk o) {t:zae} (ht:t∈o.Traces) {k:Nat} (hk:k<t.In.length):t.Out[k]?=some (ovT o.Traces (t.In.take (k+1))):=by
 have hlen:(t.In.take (k+1)).length=k+1:=by rw [List.length_take];omega
 have hl:=(hv.prop t ht).1.2.1
 unfold ovT
 cases e:o.Traces.find? fun u=>decide (t.In.take (k+1) <+: u.In) with
 | none=>exact absurd (List.take_prefix _ _) (by simpa using List.find?_eq_none.1 e t ht)
 | some u =>
  have hu:u∈o.Traces:=List.mem_of_find?_eq_some e
  have hp:t.In.take (k+1) <+: u.In:=by simpa using List.find?_some e
  have hA:Agree t u:=by
   by_cases g:t=u
   ·rw [g]
    rfl
   ·obtain ⟨i,hi,rfl⟩:=List.getElem_of_mem ht
    obtain ⟨j,hj,rfl⟩:=List.getElem_of_mem hu
    rcases Nat.lt_trichotomy i j with h | h | h
    ·exact (hv.apart i j _ _ h (get_at hi) (get_at hj)).2
    ·subst h
     exact absurd rfl g
    ·exact (hv.apart j i _ _ h (get_at hj) (get_at hi)).2.symm
  have:=agree_at hA (List.take_prefix _ _) hp (k:=k) (by omega)
  rw [Option.map_some,Option.getD_some,hlen,Nat.add_sub_cancel,← this,get_at (by omega),Option.getD_some]
def allP (o:zal):List (List Int):=preL ([]::o.Traces.map fun t=>t.In)
theorem zev {x w:List Int}:w∈prefixes x↔w <+: x:=by
 unfold prefixes
 rw [List.mem_map]
 constructor
 ·rintro ⟨k,_,rfl⟩
  exact List.take_prefix _ _
 ·intro h
  refine ⟨w.length,List.mem_range.2 (by have:=h.length_le;omega),(List.prefix_iff_eq_take.1 h).symm⟩
theorem mem_allP {o:zal} {w:List Int}:w∈allP o↔w=[]∨∃ t∈o.Traces,w <+: t.In:=by
 unfold allP preL
 rw [List.mem_flatMap]
 constructor
 ·rintro ⟨x,hx,hw⟩
  rcases List.mem_cons.1 hx with rfl | hx
  ·exact .inl (List.prefix_nil.1 (zev.1 hw))
  ·obtain ⟨t,ht,rfl⟩:=List.mem_map.1 hx
   exact .inr ⟨t,ht,zev.1 hw⟩
 ·rintro (rfl | ⟨t,ht,hw⟩)
  ·exact ⟨[],List.mem_cons_self,zev.2 (List.prefix_refl _)⟩
  ·exact ⟨t.In,List.mem_cons_of_mem _ (List.mem_map.2 ⟨t,ht,rfl⟩),zev.2 hw⟩
structure TrI (o:zal) (W:List (List Int)) (N O:List (List Int)):Prop where
 st:Stem W
 tm:TreeM W o.Inputs.toNat (fun v=>v∈W) (ovT o.Traces) N O
 sub:∀ v∈W,v∈allP o
theorem TrI.le {o:zal} {W N O:List (List Int)} (K:TrI o W N O):W.length≤(allP o).length:=zfk K.st.nd K.sub
theorem TrI.take {o:zal} {W N O:List (List Int)} (K:TrI o W N O) {w:List Int} (h:w∈W):∀ n k,k+n=w.length→w.take k∈W
 | 0,k,e=>by rw [List.take_of_length_le (by omega)];exact h
 | n+1,k,e=>by
  have:=K.take h n (k+1) (by omega)
  rw [List.take_succ_eq_append_getElem (by omega)] at this
  exact K.st.pc _ _ this
theorem tree_s54 {o:zal} (hv:ObsOk o) (hP:(allP o).length≤4000) {t:zae} (ht:t∈o.Traces) {W N O:List (List Int)} (K:TrI o W N O) {q k:Nat} (hk:k<t.In.length) (hq:W[q]?=some (t.In.take k)) :
  ∃ (W' N' O':List (List Int)) (q':Nat),zao.s54 o t N O (↑q:Int) k=some (.inl (N',O',(↑q':Int),k+1))∧TrI o W' N' O'∧W'[q']?=some (t.In.take (k+1))∧∀ v∈W,v∈W':=by
 obtain ⟨i1,i2⟩:=hv.inp
 have hle:=K.le
 have hsym:=(zde (hv.prop t ht).1.1).2
 have hIn:=get_at hk
 obtain ⟨c1,c2⟩:=hsym _ (List.getElem_mem hk)
 have hx:=hIn
 generalize t.In[k]=e at c1 c2 hx
 obtain ⟨a,rfl⟩:=Int.eq_ofNat_of_zero_le c1
 have ha:a<o.Inputs.toNat:=by omega
 have hwa:t.In.take (k+1)=t.In.take k++[(↑a:Int)]:=by
  rw [List.take_add_one,hx]
  rfl
 have hql:q<W.length:=(List.getElem?_eq_some_iff.1 hq).1
 have lN:=K.tm.gn.len
 have lO:=K.tm.go.len
 obtain ⟨x,x1,x2,x3⟩:=K.tm.gn.at hql ha
 obtain ⟨y,y1,y2,y3⟩:=K.tm.go.at hql ha
 have hov:=ovT_eq hv ht hk
 have hrow:zbr o.Inputs=some (List.replicate o.Inputs.toNat (-1)):=by
  have:=zes (x:=o.Inputs.toNat) (by omega)
  rwa [Int.toNat_of_nonneg (by omega)] at this
 simp only [zao.s54]
 rw [dec_lt hx,cond_true,idxn_at hx,idx_at rfl x1,idx_at rfl x2]
 by_cases hm:t.In.take k++[(↑a:Int)]∈W
 ·obtain ⟨g1,g2⟩:=K.tm.yes q a _ hq ha hm
  rw [decide_eq_false (by omega),cond_false,obind]
  simp only [Sum.elim_inl,zao.k53]
  rw [idx_at rfl x1,idx_at rfl x2,g1]
  refine ⟨W,N,O,_,rfl,K,?_,fun v h=>h⟩
  rw [hwa]
  exact at_idx hm
 ·obtain ⟨g1,g2⟩:=K.tm.no q a _ hq ha hm
  have hst:=K.st.grow (List.mem_of_getElem? hq) hm
  have hnx:∀ b:Nat,¬ (t.In.take k++[(↑a:Int)])++[(↑b:Int)]∈W:=fun b h=>hm (K.st.pc _ _ h)
  have T1:=K.tm.grow (v:=t.In.take k++[(↑a:Int)]) (fun u h=>h) hnx
  have hq':(W++[t.In.take k++[(↑a:Int)]])[q]?=some (t.In.take k):=by rw [List.getElem?_append_left hql];exact hq
  have T2:=T1.put hst.nd hq' ha (by rw [List.getElem?_append_left (by omega)];exact x1) (by rw [List.getElem?_append_left (by omega)];exact y1)
  have hidx:(W++[t.In.take k++[(↑a:Int)]]).idxOf (t.In.take k++[(↑a:Int)])=N.length:=by
   rw [List.idxOf_append,if_neg hm,lN]
   simp
  rw [hidx,List.set_append_left _ _ (by omega),List.set_append_left _ _ (by omega)] at T2
  rw [hwa] at hov
  rw [decide_eq_true g1,cond_true,decide_eq_false (by omega),cond_false,idx_at rfl x1,idx_at rfl y1,idxn_at hov,idx_at rfl x2,idx_at rfl y2,hrow,obind,chk_pos (by rw [List.length_set];unfold capOk;simp only [List.length_singleton];omega),obind,chk_pos (by rw [List.length_set];unfold capOk;simp only [List.length_singleton];omega),obind]
  simp only [Sum.elim_inl,zao.k53,Int.toNat_natCast]
  rw [idx_at (i:=q) (x:=x.set a (↑N.length:Int)) rfl (by rw [List.getElem?_append_left (by rw [List.length_set];omega),List.getElem?_set_self (by omega)]),idx_at (i:=a) (x:=(↑N.length:Int)) rfl (List.getElem?_set_self (by omega))]
  refine ⟨W++[t.In.take k++[(↑a:Int)]],_,_,N.length,rfl,⟨hst,T2.congr fun w hw b hb=>?_,fun v hv'=>?_⟩,?_,fun v h=>List.mem_append_left _ h⟩
  ·rw [List.mem_append,List.mem_singleton]
  ·rcases List.mem_append.1 hv' with h | h
   ·exact K.sub v h
   ·rw [List.mem_singleton.1 h,← hwa]
    exact mem_allP.2 (.inr ⟨t,ht,List.take_prefix _ _⟩)
  ·rw [lN,hwa,List.getElem?_append_right (Nat.le_refl _),Nat.sub_self]
   rfl
theorem tree_loop54 {o:zal} (hv:ObsOk o) (hP:(allP o).length≤4000) {t:zae} (ht:t∈o.Traces) {W N O:List (List Int)} (K:TrI o W N O) :
  ∃ (W' N' O':List (List Int)),iter (fun (s:List (List Int)×List (List Int)×Int×Nat)=>zao.s54 o t s.1 s.2.1 s.2.2.1 s.2.2.2) fuel (N,O,0,0)=some (.inl (N',O'))∧TrI o W' N' O'∧t.In∈W'∧∀ v∈W,v∈W':=by
 have hl:=(zde (hv.prop t ht).1.1).1
 have key:=za3 (step:=fun (s:List (List Int)×List (List Int)×Int×Nat)=>zao.s54 o t s.1 s.2.1 s.2.2.1 s.2.2.2) (fun s=>∃ (W':List (List Int)) (q:Nat),s.2.2.1=(↑q:Int)∧s.2.2.2≤t.In.length∧W'[q]?=some (t.In.take s.2.2.2)∧TrI o W' s.1 s.2.1∧∀ v∈W,v∈W') (fun s=>t.In.length-s.2.2.2)
  (fun r=>∃ (W' N' O':List (List Int)),r=.inl (N',O')∧TrI o W' N' O'∧t.In∈W'∧∀ v∈W,v∈W') (fun ⟨N,O,s,k⟩ ⟨W1,q,h1,h2,h3,h4,h5⟩=>by
  simp only at h1 h2 h3 h4 h5 ⊢
  subst h1
  by_cases hk:k<t.In.length
  ·obtain ⟨W',N',O',q',e,k1,k2,k3⟩:=tree_s54 hv hP ht h4 hk h3
   exact .inl ⟨_,e,⟨W',q',rfl,hk,k2,k1,fun v hv=>k3 v (h5 v hv)⟩,by simp only;omega⟩
  ·right
   simp only [zao.s54]
   rw [decide_eq_false (by omega),cond_false]
   refine ⟨_,rfl,W1,N,O,rfl,h4,?_,h5⟩
   rw [List.take_of_length_le (by omega)] at h3
   exact List.mem_of_getElem? h3) fuel (N,O,0,0) ⟨W,0,rfl,Nat.zero_le _,by rw [List.take_zero];exact K.st.hd,K,fun v h=>h⟩ (by have:=fuel_big;simp only;omega)
 obtain ⟨r,e,W',N',O',rfl,q⟩:=key
 exact ⟨W',N',O',e,q⟩
theorem tree_loop56 {o:zal} (hv:ObsOk o) (hP:(allP o).length≤4000) :
  ∃ (W N O:List (List Int)),iter (fun (s:List (List Int)×List (List Int)×Nat)=>zao.s56 o s.1 s.2.1 s.2.2) fuel ([List.replicate o.Inputs.toNat (-1)],[List.replicate o.Inputs.toNat (-1)],0)=some (.inl (N,O))∧TrI o W N O∧∀ v,v∈W↔v∈allP o:=by
 have hn:=hv.num
 have K0:TrI o [[]] [List.replicate o.Inputs.toNat (-1)] [List.replicate o.Inputs.toNat (-1)] :=
  ⟨⟨by simp,rfl,fun w x h=>by simp at h⟩,TreeM.start,fun v h=>by
   rw [List.mem_singleton] at h
   exact mem_allP.2 (.inl h)⟩
 have key:=za3 (step:=fun (s:List (List Int)×List (List Int)×Nat)=>zao.s56 o s.1 s.2.1 s.2.2) (fun s=>∃ W,s.2.2≤o.Traces.length∧TrI o W s.1 s.2.1∧∀ j t,j<s.2.2→o.Traces[j]?=some t→t.In∈W) (fun s=>o.Traces.length-s.2.2)
  (fun r=>∃ (W N O:List (List Int)),r=.inl (N,O)∧TrI o W N O∧∀ t∈o.Traces,t.In∈W) (fun ⟨N,O,i⟩ ⟨W,h1,h2,h3⟩=>by
  simp only at h1 h2 h3 ⊢
  simp only [zao.s56]
  by_cases hi:i<o.Traces.length
  ·have hx:=get_at hi
   obtain ⟨W',N',O',e,k1,k2,k3⟩:=tree_loop54 hv hP (List.getElem_mem hi) h2
   rw [dec_lt hx,cond_true,idxn_at hx,e,obind]
   refine .inl ⟨_,rfl,⟨W',hi,k1,fun j t hj ht=>?_⟩,by simp only;omega⟩
   rcases Nat.lt_or_ge j i with h | h
   ·exact k3 _ (h3 j t h ht)
   ·have ej:j=i:=by simp only at hj;omega
    subst ej
    rw [hx] at ht
    injection ht with ht
    subst ht
    exact k2
  ·rw [decide_eq_false (by omega),cond_false]
   refine .inr ⟨_,rfl,W,N,O,rfl,h2,fun t ht=>?_⟩
   obtain ⟨j,hj,e⟩:=List.getElem_of_mem ht
   exact h3 j t (by omega) (by rw [get_at hj,e])) fuel ([List.replicate o.Inputs.toNat (-1)],[List.replicate o.Inputs.toNat (-1)],0) ⟨[[]],Nat.zero_le _,K0,fun j t hj=>absurd hj (Nat.not_lt_zero _)⟩ (by have:=fuel_big;simp only;omega)
 obtain ⟨r,e,W,N,O,rfl,K,hin⟩:=key
 refine ⟨W,N,O,e,K,fun v=>⟨K.sub v,fun h=>?_⟩⟩
 rcases mem_allP.1 h with rfl | ⟨t,ht,hp⟩
 ·exact List.mem_of_getElem? K.st.hd
 ·have:=K.take (hin t ht) (t.In.length-v.length) v.length (by have:=hp.length_le;omega)
  rwa [← List.prefix_iff_eq_take.1 hp] at this
end Go.Proofs.YteigfkncoiiaiaaGreatDoor.Sym
