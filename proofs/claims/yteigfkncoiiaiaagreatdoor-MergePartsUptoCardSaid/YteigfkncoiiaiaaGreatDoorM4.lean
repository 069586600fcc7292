/-
  Parts of the proof, behind each other.
-/
import Derived.Test.YteigfkncoiiaiaaGreatDoorM3
set_option linter.all false
namespace Go.Proofs.YteigfkncoiiaiaaGreatDoor.Sym
open Go.RowKit
set_option maxRecDepth 100000
set_option linter.unusedVariables false
set_option maxHeartbeats 4000000
def merge_Valid.s13 (p_:T_api_Part) (y529:Nat) (e657:List Int) (y726:Nat):Option (Nat⊕(Unit⊕(Nat⊕(Unit⊕Int)))) :=
 cond (decide ((↑y726:Int)<(↑(List.length e657):Int))) (idxn e657 y726 fun e745=>idxn p_.Out y529 fun e746=>idxn e746 y726 fun e747=>(cond (decide (e745<(-1:Int))) (some true) (cond (decide ((↑(List.length p_.Next):Int)≤e745)) (some true) (cond (decide (e747<(-1:Int))) (some true) (some (decide (1048576<e747))))):Option (Bool)).bind (fun (y753:Bool)=>cond (y753) (some (.inr (.inr (.inr (.inr 2))))) (cond ((!((decide (e745=(-1:Int)))==(decide (e747=(-1:Int)))))) (some (.inr (.inr (.inr (.inr 1))))) (some (.inl (y726+1)))))) (some (.inr (.inl ())))
def merge_Valid.s14 (p_:T_api_Part) (y529:Nat):Option (Nat⊕(Unit⊕Int)) :=
 cond (decide ((↑y529:Int)<(↑(List.length p_.Next):Int))) ((idxn p_.Next y529 fun e653=>cond (decide ((↑(List.length e653):Int)≠p_.Inputs)) (some true) (idxn p_.Out y529 fun e655=>some (decide ((↑(List.length e655):Int)≠p_.Inputs))):Option (Bool)).bind (fun (y652:Bool)=>cond (y652) (some (.inr (.inr 1))) (idxn p_.Next y529 fun e657=>(iter (fun (s:Nat)=>merge_Valid.s13 p_ y529 e657 s) fuel 0:Option (Unit⊕(Nat⊕(Unit⊕Int)))).bind (Sum.elim (fun (_:Unit)=>some (.inl (y529+1))) some)))) (some (.inr (.inl ())))
def merge_Valid (p_:T_api_Part):Option (Int) :=
 (cond (decide (p_.Inputs<1)) (some true) (some (decide (64<p_.Inputs))):Option (Bool)).bind (fun (y54:Bool)=>cond (y54) (some 2) (cond (decide ((↑(List.length p_.Next):Int)=0)) (some 19) (cond (decide (4096<(↑(List.length p_.Next):Int))) (some 11) ((cond (decide (p_.Start<0)) (some true) (some (decide ((↑(List.length p_.Next):Int)≤p_.Start))):Option (Bool)).bind (fun (y62:Bool)=>cond (y62) (some 2) (cond (decide ((↑(List.length p_.Out):Int)≠(↑(List.length p_.Next):Int))) (some 1) ((iter (fun (s:Nat)=>merge_Valid.s14 p_ s) fuel 0:Option (Unit⊕Int)).bind (Sum.elim (fun (_:Unit)=>some 0) some))))))))
def merge_Run.s2 (p_:T_api_Part) (w_:List Int) (s141:Int) (y142:List Int) (y143:Nat):Option ((Int×List Int×Nat)⊕(List Int⊕(List Int×Bool))) :=
 cond (decide ((↑y143:Int)<(↑(List.length w_):Int))) (idxn w_ y143 fun e167=>(cond (decide (e167<0)) (some true) (cond (decide (p_.Inputs≤e167)) (some true) (idx p_.Next s141 fun e177=>idx e177 e167 fun e178=>some (decide (e178=(-1:Int))))):Option (Bool)).bind (fun (y174:Bool)=>cond (y174) (some (.inr (.inr ([],false)))) (idx p_.Out s141 fun e182=>idx e182 e167 fun e183=>chk (capOk (List.length y142+1) 8) (idx p_.Next s141 fun e185=>idx e185 e167 fun e186=>some (.inl (e186,(y142++[e183]),(y143+1))))))) (some (.inr (.inl y142)))
def merge_Run (p_:T_api_Part) (w_:List Int):Option (List Int×Bool) :=
 (merge_Valid p_).bind fun c51=>cond (decide (c51≠0)) (some ([],false)) ((iter (fun (s:Int×List Int×Nat)=>merge_Run.s2 p_ w_ s.1 s.2.1 s.2.2) fuel (p_.Start,[],0):Option (List Int⊕(List Int×Bool))).bind (Sum.elim (fun (y121:List Int)=>some (y121,true)) some))
def R35_Valid.s13 (p_:T_api_Part) (s533:Nat) (a731:Nat):Option (Nat⊕(Unit⊕(Nat⊕(Unit⊕Int)))) :=
 cond (decide ((↑a731:Int)<p_.Inputs)) (idxn p_.Next s533 fun e751=>idxn e751 a731 fun e752=>idxn p_.Out s533 fun e753=>idxn e753 a731 fun e754=>(cond (decide (e752<(-1:Int))) (some true) (cond (decide ((↑(List.length p_.Next):Int)≤e752)) (some true) (cond (decide (e754<(-1:Int))) (some true) (some (decide (1048576<e754))))):Option (Bool)).bind (fun (y760:Bool)=>cond (y760) (some (.inr (.inr (.inr (.inr 2))))) (cond ((!((decide (e752=(-1:Int)))==(decide (e754=(-1:Int)))))) (some (.inr (.inr (.inr (.inr 1))))) (chk (inR ((↑a731:Int)+1)) (some (.inl (a731+1))))))) (some (.inr (.inl ())))
def R35_Valid.s14 (p_:T_api_Part) (s533:Nat):Option (Nat⊕(Unit⊕Int)) :=
 cond (decide ((↑s533:Int)<(↑(List.length p_.Next):Int))) ((idxn p_.Next s533 fun e658=>cond (decide ((↑(List.length e658):Int)≠p_.Inputs)) (some true) (idxn p_.Out s533 fun e660=>some (decide ((↑(List.length e660):Int)≠p_.Inputs))):Option (Bool)).bind (fun (y657:Bool)=>cond (y657) (some (.inr (.inr 1))) ((iter (fun (s:Nat)=>R35_Valid.s13 p_ s533 s) fuel 0:Option (Unit⊕(Nat⊕(Unit⊕Int)))).bind (Sum.elim (fun (_:Unit)=>some (.inl (s533+1))) some)))) (some (.inr (.inl ())))
def R35_Valid (p_:T_api_Part):Option (Int) :=
 (cond (decide (p_.Inputs<1)) (some true) (some (decide (64<p_.Inputs))):Option (Bool)).bind (fun (y54:Bool)=>cond (y54) (some 2) (cond (decide ((↑(List.length p_.Next):Int)=0)) (some 19) (cond (decide (4096<(↑(List.length p_.Next):Int))) (some 11) ((cond (decide (p_.Start<0)) (some true) (some (decide ((↑(List.length p_.Next):Int)≤p_.Start))):Option (Bool)).bind (fun (y62:Bool)=>cond (y62) (some 2) (cond (decide ((↑(List.length p_.Out):Int)≠(↑(List.length p_.Next):Int))) (some 1) ((iter (fun (s:Nat)=>R35_Valid.s14 p_ s) fuel 0:Option (Unit⊕Int)).bind (Sum.elim (fun (_:Unit)=>some 0) some))))))))
def R35_Run.s2 (p_:T_api_Part) (w_:List Int) (s169:Int) (y170:List Int) (i171:Nat):Option ((Int×List Int×Nat)⊕(List Int⊕(List Int×Bool))) :=
 cond (decide ((↑i171:Int)<(↑(List.length w_):Int))) ((idxn w_ i171 fun e212=>cond (decide (e212<0)) (some true) (idxn w_ i171 fun e214=>cond (decide (p_.Inputs≤e214)) (some true) (idx p_.Next s169 fun e216=>idxn w_ i171 fun e217=>idx e216 e217 fun e218=>some (decide (e218=(-1:Int))))):Option (Bool)).bind (fun (y211:Bool)=>cond (y211) (some (.inr (.inr ([],false)))) (idx p_.Out s169 fun e222=>idxn w_ i171 fun e223=>idx e222 e223 fun e224=>chk (capOk (List.length y170+1) 8) (idx p_.Next s169 fun e226=>idxn w_ i171 fun e227=>idx e226 e227 fun e228=>some (.inl (e228,(y170++[e224]),(i171+1))))))) (some (.inr (.inl y170)))
def R35_Run (p_:T_api_Part) (w_:List Int):Option (List Int×Bool) :=
 (R35_Valid p_).bind fun c51=>cond (decide (c51≠0)) (some ([],false)) ((iter (fun (s:Int×List Int×Nat)=>R35_Run.s2 p_ w_ s.1 s.2.1 s.2.2) fuel (p_.Start,[],0):Option (List Int⊕(List Int×Bool))).bind (Sum.elim (fun (y142:List Int)=>some (y142,true)) some))
def R01_Common.s2 (a_:List Int) (b_:List Int) (i115:Nat):Option (Nat⊕Nat) :=
 (cond (decide ((↑i115:Int)<(↑(List.length a_):Int))) (cond (decide ((↑i115:Int)<(↑(List.length b_):Int))) (idxn a_ i115 fun e141=>idxn b_ i115 fun e142=>some (decide (e141=e142))) (some false)) (some false):Option (Bool)).bind (fun (y138:Bool)=>cond (y138) (chk (inR ((↑i115:Int)+1)) (some (.inl (i115+1)))) (some (.inr i115)))
def R01_Common (a_:List Int) (b_:List Int):Option (Int) :=
 (iter (fun (s:Nat)=>R01_Common.s2 a_ b_ s) fuel 0:Option (Nat)).bind (fun (i100:Nat)=>some (↑i100:Int))
def R01_Same (a_:List Int) (b_:List Int):Option (Bool) :=
 (cond (decide ((↑(List.length a_):Int)=(↑(List.length b_):Int))) ((R01_Common a_ b_).bind fun c57=>some (decide (c57=(↑(List.length a_):Int)))) (some false):Option (Bool)).bind (fun (y55:Bool)=>some y55)
def R35_Great.s2 (p_:T_api_Part) (s88:Nat):Option (Nat⊕(Unit⊕Bool)) :=
 (cond (decide ((↑s88:Int)<(↑(List.length p_.Next):Int))) (some (decide ((↑s88:Int)<31))) (some false):Option (Bool)).bind (fun (y102:Bool)=>cond (y102) (idxn p_.Next s88 fun e105=>cond (decide (4<(↑(List.length e105):Int))) (some (.inr (.inr true))) (chk (inR ((↑s88:Int)+1)) (some (.inl (s88+1))))) (some (.inr (.inl ()))))
def R35_Great.s4 (p_:T_api_Part) (s145:Nat):Option (Nat⊕(Unit⊕Bool)) :=
 (cond (decide ((↑s145:Int)<(↑(List.length p_.Out):Int))) (some (decide ((↑s145:Int)<41))) (some false):Option (Bool)).bind (fun (y159:Bool)=>cond (y159) (idxn p_.Out s145 fun e162=>cond (decide (4<(↑(List.length e162):Int))) (some (.inr (.inr true))) (chk (inR ((↑s145:Int)+1)) (some (.inl (s145+1))))) (some (.inr (.inl ()))))
def R35_Great (p_:T_api_Part):Option (Bool) :=
 (iter (fun (s:Nat)=>R35_Great.s2 p_ s) fuel 0:Option (Unit⊕Bool)).bind (Sum.elim (fun (_:Unit)=>(iter (fun (s:Nat)=>R35_Great.s4 p_ s) fuel 0:Option (Unit⊕Bool)).bind (Sum.elim (fun (_:Unit)=>(cond (decide (30<(↑(List.length p_.Next):Int))) (some true) (some (decide (40<(↑(List.length p_.Out):Int)))):Option (Bool)).bind (fun (y168:Bool)=>some y168)) some)) some)
def R01_SameWords.s2 (a_:List (List Int)) (b_:List (List Int)) (i77:Nat):Option (Nat⊕(Unit⊕Bool)) :=
 cond (decide ((↑i77:Int)<(↑(List.length a_):Int))) (idxn a_ i77 fun e85=>idxn b_ i77 fun e86=>(R01_Same e85 e86).bind fun c87=>cond ((!c87)) (some (.inr (.inr false))) (some (.inl (i77+1)))) (some (.inr (.inl ())))
def R01_SameWords (a_:List (List Int)) (b_:List (List Int)):Option (Bool) :=
 cond (decide ((↑(List.length a_):Int)≠(↑(List.length b_):Int))) (some false) ((iter (fun (s:Nat)=>R01_SameWords.s2 a_ b_ s) fuel 0:Option (Unit⊕Bool)).bind (Sum.elim (fun (_:Unit)=>some true) some))
def slices_IndexFunc_Sint_int.s2 (s_:List Int) (f_:Int→Option Bool) (y71:Nat):Option (Nat⊕(Unit⊕Int)) :=
 cond (decide ((↑y71:Int)<(↑(List.length s_):Int))) (idxn s_ y71 fun e78=>(f_ e78).bind fun c79=>cond (c79) (some (.inr (.inr (↑y71:Int)))) (some (.inl (y71+1)))) (some (.inr (.inl ())))
def slices_IndexFunc_Sint_int (s_:List Int) (f_:Int→Option Bool):Option (Int) :=
 (iter (fun (s:Nat)=>slices_IndexFunc_Sint_int.s2 s_ f_ s) fuel 0:Option (Unit⊕Int)).bind (Sum.elim (fun (_:Unit)=>some (-1:Int)) some)
def slices_ContainsFunc_Sint_int (s_:List Int) (f_:Int→Option Bool):Option (Bool) :=
 (slices_IndexFunc_Sint_int s_ f_).bind fun c51=>some (decide (0≤c51))
def word_permitted (inputs_:Int):Option (Bool) :=
 (cond (decide (1≤inputs_)) (some (decide (inputs_≤1024))) (some false):Option (Bool)).bind (fun (y54:Bool)=>some y54)
def word_Check_1 (a_:Int) (p1_:Int):Option (Bool) :=
 (cond (decide (a_<0)) (some true) (some (decide (p1_≤a_))):Option (Bool)).bind (fun (y54:Bool)=>some y54)
def slices_IndexFunc_Sint_int_n1.s2 (s_:List Int) (f_:Int→Option Bool) (y71:Nat):Option (Nat⊕(Unit⊕Int)) :=
 cond (decide ((↑y71:Int)<(↑(List.length s_):Int))) (idxn s_ y71 fun e78=>(f_ e78).bind fun c79=>cond (c79) (some (.inr (.inr (↑y71:Int)))) (some (.inl (y71+1)))) (some (.inr (.inl ())))
def slices_IndexFunc_Sint_int_n1 (s_:List Int) (f_:Int→Option Bool):Option (Int) :=
 (iter (fun (s:Nat)=>slices_IndexFunc_Sint_int_n1.s2 s_ f_ s) fuel 0:Option (Unit⊕Int)).bind (Sum.elim (fun (_:Unit)=>some (-1:Int)) some)
def slices_ContainsFunc_Sint_int_n1 (s_:List Int) (f_:Int→Option Bool):Option (Bool) :=
 (slices_IndexFunc_Sint_int_n1 s_ f_).bind fun c51=>some (decide (0≤c51))
def word_Check (w_:List Int) (inputs_:Int):Option (Int) :=
 (word_permitted inputs_).bind fun c51=>cond ((!c51)) (some 2) (cond (decide (1024<(↑(List.length w_):Int))) (some 3) ((slices_ContainsFunc_Sint_int_n1 w_ (fun u0=>word_Check_1 u0 inputs_)).bind fun c54=>cond (c54) (some 1) (some 0)))
def word_Common.s2 (a_:List Int) (b_:List Int) (y72:Nat):Option (Nat⊕(Unit⊕Int)) :=
 cond (decide ((↑y72:Int)<(min (↑(List.length a_):Int) (↑(List.length b_):Int)))) (idxn a_ y72 fun e79=>idxn b_ y72 fun e80=>cond (decide (e79≠e80)) (some (.inr (.inr (↑y72:Int)))) (some (.inl (y72+1)))) (some (.inr (.inl ())))
def word_Common (a_:List Int) (b_:List Int):Option (Int) :=
 (iter (fun (s:Nat)=>word_Common.s2 a_ b_ s) fuel 0:Option (Unit⊕Int)).bind (Sum.elim (fun (_:Unit)=>some (min (↑(List.length a_):Int) (↑(List.length b_):Int))) some)
def word_HasPrefix (w_:List Int) (p_:List Int):Option (Bool) :=
 (word_Common w_ p_).bind fun c51=>some (decide (c51=(↑(List.length p_):Int)))
def observe_differ (a_:T_api_Trace) (b_:T_api_Trace):Option (Int) :=
 (word_Common a_.In b_.In).bind fun c51=>chk ((0:Int)≤(min (min c51 (↑(List.length a_.Out):Int)) (↑(List.length b_.Out):Int))∧(min (min c51 (↑(List.length a_.Out):Int)) (↑(List.length b_.Out):Int))≤(↑(List.length a_.Out):Int)) (chk ((0:Int)≤(min (min c51 (↑(List.length a_.Out):Int)) (↑(List.length b_.Out):Int))∧(min (min c51 (↑(List.length a_.Out):Int)) (↑(List.length b_.Out):Int))≤(↑(List.length b_.Out):Int)) ((word_Common (List.take (Int.toNat (min (min c51 (↑(List.length a_.Out):Int)) (↑(List.length b_.Out):Int))) a_.Out) (List.take (Int.toNat (min (min c51 (↑(List.length a_.Out):Int)) (↑(List.length b_.Out):Int))) b_.Out)).bind fun c54=>cond (decide (c54<(min (min c51 (↑(List.length a_.Out):Int)) (↑(List.length b_.Out):Int)))) (some c54) (some (-1:Int))))
def cmp_isNaN_int (x_:Int):Option (Bool) :=
 some (decide (x_≠x_))
def cmp_Compare_int (x_:Int) (y_:Int):Option (Int) :=
 (cmp_isNaN_int x_).bind fun c51=>(cmp_isNaN_int y_).bind fun c52=>cond (c51) (cond (c52) (some 0) (some (-1:Int))) (cond (c52) (some 1) (cond (decide (x_<y_)) (some (-1:Int)) (cond (decide (y_<x_)) (some 1) (some 0))))
def slices_Compare_Sint_int.s2 (s1_:List Int) (s2_:List Int) (y80:Nat):Option (Nat⊕(Unit⊕Int)) :=
 cond (decide ((↑y80:Int)<(↑(List.length s1_):Int))) (idxn s1_ y80 fun e89=>cond (decide ((↑(List.length s2_):Int)≤(↑y80:Int))) (some (.inr (.inr 1))) (idxn s2_ y80 fun e91=>(cmp_Compare_int e89 e91).bind fun c92=>cond (decide (c92≠0)) (some (.inr (.inr c92))) (some (.inl (y80+1))))) (some (.inr (.inl ())))
def slices_Compare_Sint_int (s1_:List Int) (s2_:List Int):Option (Int) :=
 (iter (fun (s:Nat)=>slices_Compare_Sint_int.s2 s1_ s2_ s) fuel 0:Option (Unit⊕Int)).bind (Sum.elim (fun (_:Unit)=>cond (decide ((↑(List.length s1_):Int)<(↑(List.length s2_):Int))) (some (-1:Int)) (some 0)) some)
def word_Lex (a_:List Int) (b_:List Int):Option (Int) :=
 (slices_Compare_Sint_int a_ b_).bind fun c51=>some c51
def observe_fits_1 (a_:T_api_Trace) (b_:T_api_Trace):Option (Int) :=
 (word_Lex a_.In b_.In).bind fun c51=>some c51
def observe_fits.s2 (c52:List T_api_Trace) (i137:Nat):Option (Nat⊕(Unit⊕Bool)) :=
 cond (decide ((↑i137:Int)<(↑(List.length c52):Int))) ((idxn c52 i137 fun e170=>idx c52 ((↑i137:Int)-1) fun e171=>(word_HasPrefix e170.In e171.In).bind fun c172=>cond (c172) (some true) (idx c52 ((↑i137:Int)-1) fun e174=>idxn c52 i137 fun e175=>(observe_differ e174 e175).bind fun c176=>some (decide (0≤c176))):Option (Bool)).bind (fun (y169:Bool)=>cond (y169) (some (.inr (.inr false))) (some (.inl (i137+1))))) (some (.inr (.inl ())))
def observe_fits (l_:List T_api_Trace):Option (Bool) :=
 (lib_Clone_traces l_).bind fun c51=>(lib_SortFunc_traces c51 (fun u0 u1=>observe_fits_1 u0 u1)).bind fun c52=>(iter (fun (s:Nat)=>observe_fits.s2 c52 s) fuel 1:Option (Unit⊕Bool)).bind (Sum.elim (fun (_:Unit)=>some true) some)
def observe_proper_1 (o_:Int):Option (Bool) :=
 (cond (decide (o_<0)) (some true) (some (decide (1048576<o_))):Option (Bool)).bind (fun (y54:Bool)=>some y54)
def observe_proper (t_:T_api_Trace) (inputs_:Int):Option (Int) :=
 (word_Check t_.In inputs_).bind fun c51=>cond (decide (c51≠0)) (some c51) (cond (decide ((↑(List.length t_.Out):Int)≠(↑(List.length t_.In):Int))) (some 1) ((slices_ContainsFunc_Sint_int t_.Out (fun u0=>observe_proper_1 u0)).bind fun c54=>cond (c54) (some 2) (some 0)))
def cmp_Or_int.s2 (vals_:List Int) (y67:Nat):Option (Nat⊕(Unit⊕Int)) :=
 cond (decide ((↑y67:Int)<(↑(List.length vals_):Int))) (idxn vals_ y67 fun e73=>cond (decide (e73≠0)) (some (.inr (.inr e73))) (some (.inl (y67+1)))) (some (.inr (.inl ())))
def cmp_Or_int (vals_:List Int):Option (Int) :=
 (iter (fun (s:Nat)=>cmp_Or_int.s2 vals_ s) fuel 0:Option (Unit⊕Int)).bind (Sum.elim (fun (_:Unit)=>some 0) some)
def word_Compare (a_:List Int) (b_:List Int):Option (Int) :=
 (cmp_Compare_int (↑(List.length a_):Int) (↑(List.length b_):Int)).bind fun c51=>(slices_Compare_Sint_int a_ b_).bind fun c52=>(cmp_Or_int [c51,c52]).bind fun c53=>some c53
def observe_order (a_:T_api_Trace) (b_:T_api_Trace):Option (Int) :=
 (word_Compare a_.In b_.In).bind fun c51=>some c51
def observe_Valid_1 (u_:T_api_Trace) (p1_:T_api_Trace):Option (Bool) :=
 (word_HasPrefix u_.In p1_.In).bind fun c51=>some c51
def observe_Valid_2 (u_:T_api_Trace) (p1_:T_api_Trace):Option (Bool) :=
 (observe_differ p1_ u_).bind fun c51=>some (decide (0≤c51))
def slices_IndexFunc_Sapi_Trace_api_Trace_n1.s2 (s_:List T_api_Trace) (f_:T_api_Trace→Option Bool) (y71:Nat):Option (Nat⊕(Unit⊕Int)) :=
 cond (decide ((↑y71:Int)<(↑(List.length s_):Int))) (idxn s_ y71 fun e78=>(f_ e78).bind fun c79=>cond (c79) (some (.inr (.inr (↑y71:Int)))) (some (.inl (y71+1)))) (some (.inr (.inl ())))
def slices_IndexFunc_Sapi_Trace_api_Trace_n1 (s_:List T_api_Trace) (f_:T_api_Trace→Option Bool):Option (Int) :=
 (iter (fun (s:Nat)=>slices_IndexFunc_Sapi_Trace_api_Trace_n1.s2 s_ f_ s) fuel 0:Option (Unit⊕Int)).bind (Sum.elim (fun (_:Unit)=>some (-1:Int)) some)
def slices_ContainsFunc_Sapi_Trace_api_Trace_n1 (s_:List T_api_Trace) (f_:T_api_Trace→Option Bool):Option (Bool) :=
 (slices_IndexFunc_Sapi_Trace_api_Trace_n1 s_ f_).bind fun c51=>some (decide (0≤c51))
def observe_Valid.s2 (o_:T_api_Obs) (y134:Nat):Option (Nat⊕(Unit⊕Int)) :=
 cond (decide ((↑y134:Int)<(↑(List.length o_.Traces):Int))) (idxn o_.Traces y134 fun e155=>(word_Check e155.In o_.Inputs).bind fun c156=>cond (decide (c156≠0)) (some (.inr (.inr c156))) (cond (decide ((↑(List.length e155.In):Int)=0)) (some (.inr (.inr 19))) ((observe_proper e155 o_.Inputs).bind fun c159=>cond (decide (c159≠0)) (some (.inr (.inr c159))) ((cond (decide (0<(↑y134:Int))) (idx o_.Traces ((↑y134:Int)-1) fun e168=>(observe_order e168 e155).bind fun c169=>some (decide (0≤c169))) (some false):Option (Bool)).bind (fun (y166:Bool)=>cond (y166) (some (.inr (.inr 10))) (some (.inl (y134+1)))))))) (some (.inr (.inl ())))
def observe_Valid.s4 (o_:T_api_Obs) (y207:Nat):Option (Nat⊕(Unit⊕Int)) :=
 cond (decide ((↑y207:Int)<(↑(List.length o_.Traces):Int))) (idxn o_.Traces y207 fun e217=>chk ((0:Int)≤((↑y207:Int)+1)∧((↑y207:Int)+1)≤(↑(List.length o_.Traces):Int)) ((slices_ContainsFunc_Sapi_Trace_api_Trace_n1 (List.drop (y207+1) o_.Traces) (fun u0=>observe_Valid_1 u0 e217)).bind fun c219=>cond (c219) (some (.inr (.inr 7))) ((slices_ContainsFunc_Sapi_Trace_api_Trace_n1 (List.drop (y207+1) o_.Traces) (fun u0=>observe_Valid_2 u0 e217)).bind fun c221=>cond (c221) (some (.inr (.inr 13))) (some (.inl (y207+1)))))) (some (.inr (.inl ())))
def observe_Valid (o_:T_api_Obs):Option (Int) :=
 (cond (decide (o_.Inputs<1)) (some true) (some (decide (64<o_.Inputs))):Option (Bool)).bind (fun (y54:Bool)=>cond (y54) (some 2) (cond (decide (10000<(↑(List.length o_.Traces):Int))) (some 11) ((iter (fun (s:Nat)=>observe_Valid.s2 o_ s) fuel 0:Option (Unit⊕Int)).bind (Sum.elim (fun (_:Unit)=>(observe_fits o_.Traces).bind fun c173=>cond (c173) (some 0) ((iter (fun (s:Nat)=>observe_Valid.s4 o_ s) fuel 0:Option (Unit⊕Int)).bind (Sum.elim (fun (_:Unit)=>some 0) some))) some))))
def merge_row.s2 (inputs_:Int) (y68:List Int) (y69:Nat):Option ((List Int×Nat)⊕List Int) :=
 cond (decide ((↑y69:Int)<(↑(List.length (List.replicate (Int.toNat inputs_) (0:Int))):Int))) (idxn y68 y69 fun e75=>chk (inR ((↑y69:Int)+1)) (some (.inl ((List.set y68 y69 (-1:Int)),(y69+1))))) (some (.inr y68))
def merge_row (inputs_:Int):Option (List Int) :=
 chk ((0:Int)≤inputs_∧inputs_≤inputs_∧capOk (Int.toNat inputs_) 8) ((iter (fun (s:List Int×Nat)=>merge_row.s2 inputs_ s.1 s.2) fuel ((List.replicate (Int.toNat inputs_) (0:Int)),0):Option (List Int)).bind (fun (y65:List Int)=>some y65))
def merge_renumbered.s18 (e628:List Int) (y699:List Int) (y700:List Int) (y701:Nat):Option ((List Int×List Int×Nat)⊕(List Int×List Int)) :=
 cond (decide ((↑y701:Int)<(↑(List.length e628):Int))) (idxn e628 y701 fun e719=>(cond (decide (e719≠(-1:Int))) (idx y699 e719 fun e726=>some (decide (e726=(-1:Int)))) (some false):Option (Bool)).bind (fun (y724:Bool)=>cond (y724) (idx y699 e719 fun e731=>chk (capOk (List.length y700+1) 8) (some (.inl ((List.set y699 e719.toNat (↑(List.length y700):Int)),(y700++[e719]),(y701+1))))) (some (.inl (y699,y700,(y701+1)))))) (some (.inr (y699,y700)))
def merge_renumbered.k19 (i512:Nat) (y682:List Int) (y683:List Int):Option ((List Int×List Int×Nat)⊕(List Int×List Int)) :=
 some (.inl (y682,y683,(i512+1)))
def merge_renumbered.s20 (p_:T_api_Part) (y510:List Int) (y511:List Int) (i512:Nat):Option ((List Int×List Int×Nat)⊕(List Int×List Int)) :=
 cond (decide ((↑i512:Int)<(↑(List.length y511):Int))) (idxn y511 i512 fun e627=>idx p_.Next e627 fun e628=>(iter (fun (s:List Int×List Int×Nat)=>merge_renumbered.s18 e628 s.1 s.2.1 s.2.2) fuel (y510,y511,0):Option (List Int×List Int)).bind (fun (s:List Int×List Int)=>merge_renumbered.k19 i512 s.1 s.2)) (some (.inr (y510,y511)))
def merge_renumbered.s38 (p_:T_api_Part) (y396:List Int) (e1172:Int) (e1175:List Int) (y1222:List Int) (y1223:List Int) (y1224:Nat):Option ((List Int×List Int×Nat)⊕(List Int×List Int)) :=
 cond (decide ((↑y1224:Int)<(↑(List.length e1175):Int))) (idxn e1175 y1224 fun e1235=>cond (decide (e1235≠(-1:Int))) (idx y396 e1235 fun e1237=>idx p_.Out e1172 fun e1238=>idxn e1238 y1224 fun e1239=>idxn y1222 y1224 fun e1240=>idxn y1223 y1224 fun e1241=>some (.inl ((List.set y1222 y1224 e1237),(List.set y1223 y1224 e1239),(y1224+1)))) (some (.inl (y1222,y1223,(y1224+1))))) (some (.inr (y1222,y1223)))
def merge_renumbered.k39 (y1081:List (List Int)) (y1082:List (List Int)) (y1083:Nat) (y1212:List Int) (y1213:List Int):Option ((List (List Int)×List (List Int)×Nat)⊕(List (List Int)×List (List Int))) :=
 chk (capOk (List.length y1081+1) 24) (chk (capOk (List.length y1082+1) 24) (some (.inl ((y1081++[y1212]),(y1082++[y1213]),(y1083+1)))))
def merge_renumbered.s40 (p_:T_api_Part) (y396:List Int) (y397:List Int) (y1081:List (List Int)) (y1082:List (List Int)) (y1083:Nat):Option ((List (List Int)×List (List Int)×Nat)⊕(List (List Int)×List (List Int))) :=
 cond (decide ((↑y1083:Int)<(↑(List.length y397):Int))) (idxn y397 y1083 fun e1172=>(merge_row p_.Inputs).bind fun c1173=>(merge_row p_.Inputs).bind fun c1174=>idx p_.Next e1172 fun e1175=>(iter (fun (s:List Int×List Int×Nat)=>merge_renumbered.s38 p_ y396 e1172 e1175 s.1 s.2.1 s.2.2) fuel (c1173,c1174,0):Option (List Int×List Int)).bind (fun (s:List Int×List Int)=>merge_renumbered.k39 y1081 y1082 y1083 s.1 s.2)) (some (.inr (y1081,y1082)))
def merge_renumbered.k41 (p_:T_api_Part) (y396:List Int) (y1001:List (List Int)) (y1002:List (List Int)):Option (T_api_Part×List Int) :=
 some ((⟨p_.Inputs,0,y1001,y1002⟩:T_api_Part),y396)
def merge_renumbered.k42 (p_:T_api_Part) (y396:List Int) (y397:List Int):Option (T_api_Part×List Int) :=
 (iter (fun (s:List (List Int)×List (List Int)×Nat)=>merge_renumbered.s40 p_ y396 y397 s.1 s.2.1 s.2.2) fuel ([],[],0):Option (List (List Int)×List (List Int))).bind (fun (s:List (List Int)×List (List Int))=>merge_renumbered.k41 p_ y396 s.1 s.2)
def merge_renumbered (p_:T_api_Part):Option (T_api_Part×List Int) :=
 (merge_row (↑(List.length p_.Next):Int)).bind fun c51=>idx c51 p_.Start fun e52=>(iter (fun (s:List Int×List Int×Nat)=>merge_renumbered.s20 p_ s.1 s.2.1 s.2.2) fuel ((List.set c51 p_.Start.toNat 0),[p_.Start],0):Option (List Int×List Int)).bind (fun (s:List Int×List Int)=>merge_renumbered.k42 p_ s.1 s.2)
def merge_Tree.k53 (s1552:Int) (y1553:Nat) (e1595:Int) (y1611:List (List Int)) (y1612:List (List Int)):Option ((List (List Int)×List (List Int)×Int×Nat)⊕((List (List Int)×List (List Int))⊕((List (List Int)×List (List Int)×Nat)⊕((List (List Int)×List (List Int))⊕(T_api_Part×Int))))) :=
 idx y1611 s1552 fun e1631=>idx e1631 e1595 fun e1632=>some (.inl (y1611,y1612,e1632,(y1553+1)))
def merge_Tree.s54 (o_:T_api_Obs) (e1380:T_api_Trace) (y1550:List (List Int)) (y1551:List (List Int)) (s1552:Int) (y1553:Nat):Option ((List (List Int)×List (List Int)×Int×Nat)⊕((List (List Int)×List (List Int))⊕((List (List Int)×List (List Int)×Nat)⊕((List (List Int)×List (List Int))⊕(T_api_Part×Int))))) :=
 cond (decide ((↑y1553:Int)<(↑(List.length e1380.In):Int))) (idxn e1380.In y1553 fun e1595=>(idx y1550 s1552 fun e1613=>idx e1613 e1595 fun e1614=>cond (decide (e1614=(-1:Int))) (cond (decide ((↑(List.length y1550):Int)=4096)) (some (.inr (.inr (.inr (.inr (.inr ((⟨0,0,[],[]⟩:T_api_Part),11))))))) (idx y1550 s1552 fun e1617=>idx y1551 s1552 fun e1618=>idxn e1380.Out y1553 fun e1619=>idx e1617 e1595 fun e1620=>idx e1618 e1595 fun e1621=>(merge_row o_.Inputs).bind fun c1622=>chk (capOk (List.length (List.set y1550 (Int.toNat s1552) (List.set e1617 (Int.toNat e1595) (↑(List.length y1550):Int)))+List.length [c1622]) 24) ((merge_row o_.Inputs).bind fun c1624=>chk (capOk (List.length (List.set y1551 (Int.toNat s1552) (List.set e1618 (Int.toNat e1595) e1619))+List.length [c1624]) 24) (some (.inl (((List.set y1550 (Int.toNat s1552) (List.set e1617 (Int.toNat e1595) (↑(List.length y1550):Int)))++[c1622]),((List.set y1551 (Int.toNat s1552) (List.set e1618 (Int.toNat e1595) e1619))++[c1624]))))))) (some (.inl (y1550,y1551))):Option ((List (List Int)×List (List Int))⊕((List (List Int)×List (List Int)×Int×Nat)⊕((List (List Int)×List (List Int))⊕((List (List Int)×List (List Int)×Nat)⊕((List (List Int)×List (List Int))⊕(T_api_Part×Int))))))).bind (Sum.elim (fun (s:List (List Int)×List (List Int))=>merge_Tree.k53 s1552 y1553 e1595 s.1 s.2) some)) (some (.inr (.inl (y1550,y1551))))
def merge_Tree.k55 (y1115:Nat) (y1509:List (List Int)) (y1510:List (List Int)):Option ((List (List Int)×List (List Int)×Nat)⊕((List (List Int)×List (List Int))⊕(T_api_Part×Int))) :=
 some (.inl (y1509,y1510,(y1115+1)))
def merge_Tree.s56 (o_:T_api_Obs) (y1113:List (List Int)) (y1114:List (List Int)) (y1115:Nat):Option ((List (List Int)×List (List Int)×Nat)⊕((List (List Int)×List (List Int))⊕(T_api_Part×Int))) :=
 cond (decide ((↑y1115:Int)<(↑(List.length o_.Traces):Int))) (idxn o_.Traces y1115 fun e1380=>(iter (fun (s:List (List Int)×List (List Int)×Int×Nat)=>merge_Tree.s54 o_ e1380 s.1 s.2.1 s.2.2.1 s.2.2.2) fuel (y1113,y1114,0,0):Option ((List (List Int)×List (List Int))⊕((List (List Int)×List (List Int)×Nat)⊕((List (List Int)×List (List Int))⊕(T_api_Part×Int))))).bind (Sum.elim (fun (s:List (List Int)×List (List Int))=>merge_Tree.k55 y1115 s.1 s.2) some)) (some (.inr (.inl (y1113,y1114))))
def merge_Tree.k57 (o_:T_api_Obs) (y849:List (List Int)) (y850:List (List Int)):Option (T_api_Part×Int) :=
 (merge_renumbered (⟨o_.Inputs,0,y849,y850⟩:T_api_Part)).bind fun c1646=>some (c1646.1,0)
def merge_Tree (o_:T_api_Obs):Option (T_api_Part×Int) :=
 (observe_Valid o_).bind fun c51=>cond (decide (c51≠0)) (some ((⟨0,0,[],[]⟩:T_api_Part),c51)) ((merge_row o_.Inputs).bind fun c53=>(merge_row o_.Inputs).bind fun c54=>(iter (fun (s:List (List Int)×List (List Int)×Nat)=>merge_Tree.s56 o_ s.1 s.2.1 s.2.2) fuel ([c53],[c54],0):Option ((List (List Int)×List (List Int))⊕(T_api_Part×Int))).bind (Sum.elim (fun (s:List (List Int)×List (List Int))=>merge_Tree.k57 o_ s.1 s.2) some))
def merge_blocks_int_of.s1 (b_:T_merge_blocks_int_) (x52:Int):Option (Int⊕(Int×(List (Int×Int)))) :=
 cond ((!((mget x52 b_.up).isSome))) (some (.inr (x52,b_.up))) (some (.inl ((mget x52 b_.up).getD 0)))
def merge_blocks_int_of (b_:T_merge_blocks_int_) (x_:Int):Option (Int×(List (Int×Int))) :=
 iter (fun (s:Int)=>merge_blocks_int_of.s1 b_ s) fuel x_
def merge_blocks_int_join (b_:T_merge_blocks_int_) (x_:Int) (y_:Int):Option (List (Int×Int)) :=
 some (mset y_ x_ b_.up)
def merge_folded.s2 (p_:T_api_Part) (y84:List (List Int)) (y85:List (List Int)) (y86:Nat):Option ((List (List Int)×List (List Int)×Nat)⊕(List (List Int)×List (List Int))) :=
 cond (decide ((↑y86:Int)<(↑(List.length p_.Next):Int))) (idxn p_.Next y86 fun e96=>chk (capOk (List.length ([]:List Unit)+List.length e96) 8) (chk (capOk (List.length y84+List.length [([]++e96)]) 24) (idxn p_.Out y86 fun e99=>chk (capOk (List.length ([]:List Unit)+List.length e99) 8) (chk (capOk (List.length y85+List.length [([]++e99)]) 24) (some (.inl ((y84++[([]++e96)]),(y85++[([]++e99)]),(y86+1)))))))) (some (.inr (y84,y85)))
def merge_folded.s43 (c2034:Int×(List (Int×Int))) (c2036:Int×(List (Int×Int))) (e2040:List Int) (y2143:List (List Int)) (y2144:List (List Int)) (y2145:List T_A2) (y2146:Nat):Option ((List (List Int)×List (List Int)×List T_A2×Nat)⊕((List (List Int)×List (List Int)×List T_A2)⊕((List (List Int)×List (List Int)×(List (Int×Int))×List T_A2)⊕((List (List Int)×List (List Int)×(List (Int×Int))×List T_A2)⊕((List (List Int)×List (List Int)×(List (Int×Int)))⊕(T_api_Part×List Int×Bool)))))) :=
 cond (decide ((↑y2146:Int)<(↑(List.length e2040):Int))) (idxn y2143 (Int.toNat (max c2034.1 c2036.1)) fun e2174=>idxn e2174 y2146 fun e2173=>cond (decide (e2173=(-1:Int))) (chk (inR ((↑y2146:Int)+1)) (some (.inl (y2143,y2144,y2145,(y2146+1))))) (idx y2143 (min c2034.1 c2036.1) fun e2177=>idxn e2177 y2146 fun e2178=>cond (decide (e2178=(-1:Int))) (idx y2143 (min c2034.1 c2036.1) fun e2180=>idx y2144 (min c2034.1 c2036.1) fun e2181=>idx y2144 (max c2034.1 c2036.1) fun e2182=>idxn e2182 y2146 fun e2183=>idxn e2180 y2146 fun e2184=>idxn e2181 y2146 fun e2185=>chk (inR ((↑y2146:Int)+1)) (some (.inl ((List.set y2143 (Int.toNat (min c2034.1 c2036.1)) (List.set e2180 y2146 e2173)),(List.set y2144 (Int.toNat (min c2034.1 c2036.1)) (List.set e2181 y2146 e2183)),y2145,(y2146+1))))) (idx y2144 (min c2034.1 c2036.1) fun e2187=>idxn e2187 y2146 fun e2188=>idx y2144 (max c2034.1 c2036.1) fun e2189=>idxn e2189 y2146 fun e2190=>cond (decide (e2188≠e2190)) (some (.inr (.inr (.inr (.inr (.inr ((⟨0,0,[],[]⟩:T_api_Part),[],false))))))) (idx y2143 (min c2034.1 c2036.1) fun e2192=>idxn e2192 y2146 fun e2193=>chk (capOk (List.length y2145+1) 16) (chk (inR ((↑y2146:Int)+1)) (some (.inl (y2143,y2144,(y2145++[(⟨e2193,e2173⟩:T_A2)]),(y2146+1))))))))) (some (.inr (.inl (y2143,y2144,y2145))))
def merge_folded.k44 (c2039:List (Int×Int)) (y2119:List (List Int)) (y2120:List (List Int)) (y2121:List T_A2):Option ((List (List Int)×List (List Int)×(List (Int×Int))×List T_A2)⊕((List (List Int)×List (List Int)×(List (Int×Int))×List T_A2)⊕((List (List Int)×List (List Int)×(List (Int×Int)))⊕(T_api_Part×List Int×Bool)))) :=
 some (.inl (y2119,y2120,c2039,y2121))
def merge_folded.k45 (y2029:List (List Int)) (y2030:List (List Int)) (y2031:List (Int×Int)) (y2032:List T_A2):Option ((List (List Int)×List (List Int)×(List (Int×Int))×List T_A2)⊕((List (List Int)×List (List Int)×(List (Int×Int)))⊕(T_api_Part×List Int×Bool))) :=
 some (.inl (y2029,y2030,y2031,y2032))
def merge_folded.s46 (y1506:List (List Int)) (y1507:List (List Int)) (y1508:List (Int×Int)) (y1509:List T_A2):Option ((List (List Int)×List (List Int)×(List (Int×Int))×List T_A2)⊕((List (List Int)×List (List Int)×(List (Int×Int)))⊕(T_api_Part×List Int×Bool))) :=
 cond (decide (0<(↑(List.length y1509):Int))) ((idxn y1509 0 fun e2033=>(merge_blocks_int_of (⟨y1508⟩:T_merge_blocks_int_) e2033.f0).bind fun c2034=>idxn y1509 0 fun e2035=>(merge_blocks_int_of (⟨c2034.2⟩:T_merge_blocks_int_) e2035.f1).bind fun c2036=>chk (1≤List.length y1509) (cond (decide (c2034.1=c2036.1)) (some (.inl (y1506,y1507,c2036.2,(List.drop 1 y1509)))) ((merge_blocks_int_join (⟨c2036.2⟩:T_merge_blocks_int_) (min c2034.1 c2036.1) (max c2034.1 c2036.1)).bind fun c2039=>idx y1506 (max c2034.1 c2036.1) fun e2040=>(iter (fun (s:List (List Int)×List (List Int)×List T_A2×Nat)=>merge_folded.s43 c2034 c2036 e2040 s.1 s.2.1 s.2.2.1 s.2.2.2) fuel (y1506,y1507,(List.drop 1 y1509),0):Option ((List (List Int)×List (List Int)×List T_A2)⊕((List (List Int)×List (List Int)×(List (Int×Int))×List T_A2)⊕((List (List Int)×List (List Int)×(List (Int×Int))×List T_A2)⊕((List (List Int)×List (List Int)×(List (Int×Int)))⊕(T_api_Part×List Int×Bool)))))).bind (Sum.elim (fun (s:List (List Int)×List (List Int)×List T_A2)=>merge_folded.k44 c2039 s.1 s.2.1 s.2.2) some))):Option ((List (List Int)×List (List Int)×(List (Int×Int))×List T_A2)⊕((List (List Int)×List (List Int)×(List (Int×Int))×List T_A2)⊕((List (List Int)×List (List Int)×(List (Int×Int)))⊕(T_api_Part×List Int×Bool))))).bind (Sum.elim (fun (s:List (List Int)×List (List Int)×(List (Int×Int))×List T_A2)=>merge_folded.k45 s.1 s.2.1 s.2.2.1 s.2.2.2) some)) (some (.inr (.inl (y1506,y1507,y1508))))
def merge_folded.s64 (y2497:Nat) (e2569:List Int) (y2611:List (List Int)) (y2612:List (Int×Int)) (y2613:Nat):Option ((List (List Int)×(List (Int×Int))×Nat)⊕(List (List Int)×(List (Int×Int)))) :=
 cond (decide ((↑y2613:Int)<(↑(List.length e2569):Int))) (idxn y2611 y2497 fun e2626=>idxn e2626 y2613 fun e2625=>cond (decide (e2625≠(-1:Int))) (idxn y2611 y2497 fun e2628=>(merge_blocks_int_of (⟨y2612⟩:T_merge_blocks_int_) e2625).bind fun c2629=>idxn e2628 y2613 fun e2630=>chk (inR ((↑y2613:Int)+1)) (some (.inl ((List.set y2611 y2497 (List.set e2628 y2613 c2629.1)),c2629.2,(y2613+1))))) (chk (inR ((↑y2613:Int)+1)) (some (.inl (y2611,y2612,(y2613+1)))))) (some (.inr (y2611,y2612)))
def merge_folded.k65 (y2497:Nat) (y2602:List (List Int)) (y2603:List (Int×Int)):Option ((List (List Int)×(List (Int×Int))×Nat)⊕(List (List Int)×(List (Int×Int)))) :=
 some (.inl (y2602,y2603,(y2497+1)))
def merge_folded.s66 (y1156:List (List Int)) (y2495:List (List Int)) (y2496:List (Int×Int)) (y2497:Nat):Option ((List (List Int)×(List (Int×Int))×Nat)⊕(List (List Int)×(List (Int×Int)))) :=
 cond (decide ((↑y2497:Int)<(↑(List.length y1156):Int))) (idxn y2495 y2497 fun e2569=>(iter (fun (s:List (List Int)×(List (Int×Int))×Nat)=>merge_folded.s64 y2497 e2569 s.1 s.2.1 s.2.2) fuel (y2495,y2496,0):Option (List (List Int)×(List (Int×Int)))).bind (fun (s:List (List Int)×(List (Int×Int)))=>merge_folded.k65 y2497 s.1 s.2)) (some (.inr (y2495,y2496)))
def merge_folded.s68 (c2642:T_api_Part×List Int) (y2672:List (Int×Int)) (y2673:List Int) (y2674:Nat):Option (((List (Int×Int))×List Int×Nat)⊕List Int) :=
 cond (decide ((↑y2674:Int)<(↑(List.length (List.replicate (List.length c2642.2) (0:Int))):Int))) ((merge_blocks_int_of (⟨y2672⟩:T_merge_blocks_int_) (↑y2674:Int)).bind fun c2682=>idx c2642.2 c2682.1 fun e2683=>idxn y2673 y2674 fun e2684=>chk (inR ((↑y2674:Int)+1)) (some (.inl (c2682.2,(List.set y2673 y2674 e2683),(y2674+1))))) (some (.inr y2673))
def merge_folded.k69 (p_:T_api_Part) (y1157:List (List Int)) (y2424:List (List Int)) (y2425:List (Int×Int)):Option (T_api_Part×List Int×Bool) :=
 (merge_blocks_int_of (⟨y2425⟩:T_merge_blocks_int_) p_.Start).bind fun c2641=>(merge_renumbered (⟨p_.Inputs,c2641.1,y2424,y1157⟩:T_api_Part)).bind fun c2642=>chk ((0:Int)≤(↑(List.length c2642.2):Int)∧(↑(List.length c2642.2):Int)≤(↑(List.length c2642.2):Int)∧capOk (Int.toNat (↑(List.length c2642.2):Int)) 8) ((iter (fun (s:(List (Int×Int))×List Int×Nat)=>merge_folded.s68 c2642 s.1 s.2.1 s.2.2) fuel (c2641.2,(List.replicate (List.length c2642.2) (0:Int)),0):Option (List Int)).bind (fun (y2667:List Int)=>some (c2642.1,y2667,true)))
def merge_folded.k70 (p_:T_api_Part) (y1156:List (List Int)) (y1157:List (List Int)) (y1158:List (Int×Int)):Option (T_api_Part×List Int×Bool) :=
 (iter (fun (s:List (List Int)×(List (Int×Int))×Nat)=>merge_folded.s66 y1156 s.1 s.2.1 s.2.2) fuel (y1156,y1158,0):Option (List (List Int)×(List (Int×Int)))).bind (fun (s:List (List Int)×(List (Int×Int)))=>merge_folded.k69 p_ y1157 s.1 s.2)
def merge_folded.k71 (p_:T_api_Part) (s_:Int) (t_:Int) (y77:List (List Int)) (y78:List (List Int)):Option (T_api_Part×List Int×Bool) :=
 (iter (fun (s:List (List Int)×List (List Int)×(List (Int×Int))×List T_A2)=>merge_folded.s46 s.1 s.2.1 s.2.2.1 s.2.2.2) fuel (y77,y78,([]:List (Int×Int)),[(⟨s_,t_⟩:T_A2)]):Option ((List (List Int)×List (List Int)×(List (Int×Int)))⊕(T_api_Part×List Int×Bool))).bind (Sum.elim (fun (s:List (List Int)×List (List Int)×(List (Int×Int)))=>merge_folded.k70 p_ s.1 s.2.1 s.2.2) some)
def merge_folded (p_:T_api_Part) (s_:Int) (t_:Int):Option (T_api_Part×List Int×Bool) :=
 (iter (fun (s:List (List Int)×List (List Int)×Nat)=>merge_folded.s2 p_ s.1 s.2.1 s.2.2) fuel ([],[],0):Option (List (List Int)×List (List Int))).bind (fun (s:List (List Int)×List (List Int))=>merge_folded.k71 p_ s_ t_ s.1 s.2)
def merge_Fold (p_:T_api_Part) (s_:Int) (t_:Int):Option (T_api_Part×Bool×Int) :=
 (merge_Valid p_).bind fun c51=>cond (decide (c51≠0)) (some ((⟨0,0,[],[]⟩:T_api_Part),false,c51)) ((cond (decide ((min s_ t_)<0)) (some true) (some (decide ((↑(List.length p_.Next):Int)≤(max s_ t_)))):Option (Bool)).bind (fun (y56:Bool)=>cond (y56) (some ((⟨0,0,[],[]⟩:T_api_Part),false,2)) ((merge_folded p_ s_ t_).bind fun c59=>some (c59.1,c59.2.2,0))))
def merge_blue.s25 (red_:List Bool) (e1053:List Int) (best1109:Int) (y1110:Nat):Option ((Int×Nat)⊕Int) :=
 cond (decide ((↑y1110:Int)<(↑(List.length e1053):Int))) (idxn e1053 y1110 fun e1125=>(cond (decide (e1125≠(-1:Int))) (idx red_ e1125 fun e1132=>some (!e1132)) (some false):Option (Bool)).bind (fun (y1130:Bool)=>cond (y1130) (some (.inl ((min best1109 e1125),(y1110+1)))) (some (.inl (best1109,(y1110+1)))))) (some (.inr best1109))
def merge_blue.s26 (p_:T_api_Part) (red_:List Bool) (best777:Int) (y778:Nat):Option ((Int×Nat)⊕Int) :=
 cond (decide ((↑y778:Int)<(↑(List.length red_):Int))) ((idxn red_ y778 fun e1051=>cond ((!e1051)) (some best777) (idxn p_.Next y778 fun e1053=>(iter (fun (s:Int×Nat)=>merge_blue.s25 red_ e1053 s.1 s.2) fuel (best777,0):Option (Int)).bind (fun (best1096:Int)=>some best1096)):Option (Int)).bind (fun (best1050:Int)=>some (.inl (best1050,(y778+1))))) (some (.inr best777))
def merge_blue (p_:T_api_Part) (red_:List Bool):Option (Int×Bool) :=
 (iter (fun (s:Int×Nat)=>merge_blue.s26 p_ red_ s.1 s.2) fuel ((↑(List.length red_):Int),0):Option (Int)).bind (fun (best596:Int)=>some (best596,decide (best596<(↑(List.length red_):Int))))
def merge_merged.s25 (red_:List Bool) (c1476:T_api_Part×List Int×Bool) (y1557:List Bool) (y1558:Nat):Option ((List Bool×Nat)⊕List Bool) :=
 cond (decide ((↑y1558:Int)<(↑(List.length red_):Int))) (idxn red_ y1558 fun e1578=>(cond (e1578) (idxn c1476.2.1 y1558 fun e1585=>some (decide (e1585≠(-1:Int)))) (some false):Option (Bool)).bind (fun (y1583:Bool)=>cond (y1583) (idxn c1476.2.1 y1558 fun e1592=>idx y1557 e1592 fun e1593=>some (.inl ((List.set y1557 e1592.toNat true),(y1558+1)))) (some (.inl (y1557,(y1558+1)))))) (some (.inr y1557))
def merge_merged.s26 (p_:T_api_Part) (red_:List Bool) (b_:Int) (y1083:Nat):Option (Nat⊕(Unit⊕(T_api_Part×List Bool))) :=
 cond (decide ((↑y1083:Int)<(↑(List.length red_):Int))) ((idxn red_ y1083 fun e1474=>cond ((!e1474)) (some (.inl ())) ((merge_folded p_ (↑y1083:Int) b_).bind fun c1476=>cond ((!c1476.2.2)) (some (.inl ())) (chk ((0:Int)≤(↑(List.length c1476.1.Next):Int)∧(↑(List.length c1476.1.Next):Int)≤(↑(List.length c1476.1.Next):Int)∧capOk (Int.toNat (↑(List.length c1476.1.Next):Int)) 1) ((iter (fun (s:List Bool×Nat)=>merge_merged.s25 red_ c1476 s.1 s.2) fuel ((List.replicate (List.length c1476.1.Next) false),0):Option (List Bool)).bind (fun (y1539:List Bool)=>some (.inr (.inr (.inr (c1476.1,y1539)))))))):Option (Unit⊕(Nat⊕(Unit⊕(T_api_Part×List Bool))))).bind (Sum.elim (fun (_:Unit)=>some (.inl (y1083+1))) some)) (some (.inr (.inl ())))
def merge_merged (p_:T_api_Part) (red_:List Bool) (b_:Int):Option (T_api_Part×List Bool) :=
 (iter (fun (s:Nat)=>merge_merged.s26 p_ red_ b_ s) fuel 0:Option (Unit⊕(T_api_Part×List Bool))).bind (Sum.elim (fun (_:Unit)=>chk (capOk (List.length ([]:List Unit)+List.length red_) 1) (idx ([]++red_) b_ fun e1606=>some (p_,(List.set ([]++red_) b_.toNat true)))) some)
def merge_Learn.s1 (y58:Int) (y59:Int) (y60:List (List Int)) (y61:List (List Int)) (red62:List Bool):Option ((Int×Int×List (List Int)×List (List Int)×List Bool)⊕(T_api_Part×Int)) :=
 (merge_blue (⟨y58,y59,y60,y61⟩:T_api_Part) red62).bind fun c67=>cond ((!c67.2)) (some (.inr ((⟨y58,y59,y60,y61⟩:T_api_Part),0))) ((merge_merged (⟨y58,y59,y60,y61⟩:T_api_Part) red62 c67.1).bind fun c69=>some (.inl (c69.1.Inputs,c69.1.Start,c69.1.Next,c69.1.Out,c69.2)))
def merge_Learn (o_:T_api_Obs):Option (T_api_Part×Int) :=
 (merge_Tree o_).bind fun c51=>cond (decide (c51.2≠0)) (some ((⟨0,0,[],[]⟩:T_api_Part),c51.2)) (chk ((0:Int)≤(↑(List.length c51.1.Next):Int)∧(↑(List.length c51.1.Next):Int)≤(↑(List.length c51.1.Next):Int)∧capOk (Int.toNat (↑(List.length c51.1.Next):Int)) 1) (idx (List.replicate (List.length c51.1.Next) false) c51.1.Start fun e54=>iter (fun (s:Int×Int×List (List Int)×List (List Int)×List Bool)=>merge_Learn.s1 s.1 s.2.1 s.2.2.1 s.2.2.2.1 s.2.2.2.2) fuel (c51.1.Inputs,c51.1.Start,c51.1.Next,c51.1.Out,(List.set (List.replicate (List.length c51.1.Next) false) c51.1.Start.toNat true))))
def L35_gate:Option (T_api_Mealy) :=
 some (⟨2,0,[[1,0],[1,0]],[[1,0],[1,2]]⟩:T_api_Mealy)
def slices_Concat_SSint_Sint.s2 (slices_:List (List (List Int))) (size73:Nat) (y74:Nat):Option ((Nat×Nat)⊕Nat) :=
 cond (decide ((↑y74:Int)<(↑(List.length slices_):Int))) (idxn slices_ y74 fun e81=>chk (inR ((↑size73:Int)+(↑(List.length e81):Int))) (cond (decide (((↑size73:Int)+(↑(List.length e81):Int))<0)) (none) (some (.inl ((size73+(List.length e81)),(y74+1)))))) (some (.inr size73))
def slices_Concat_SSint_Sint.s4 (slices_:List (List (List Int))) (y106:List (List Int)) (y107:Nat):Option ((List (List Int)×Nat)⊕List (List Int)) :=
 cond (decide ((↑y107:Int)<(↑(List.length slices_):Int))) (idxn slices_ y107 fun e113=>chk (capOk (List.length y106+List.length e113) 24) (some (.inl ((y106++e113),(y107+1))))) (some (.inr y106))
def slices_Concat_SSint_Sint (slices_:List (List (List Int))):Option (List (List Int)) :=
 (iter (fun (s:Nat×Nat)=>slices_Concat_SSint_Sint.s2 slices_ s.1 s.2) fuel (0,0):Option (Nat)).bind (fun (size68:Nat)=>(lib_Grow_words (↑size68:Int)).bind fun c86=>(iter (fun (s:List (List Int)×Nat)=>slices_Concat_SSint_Sint.s4 slices_ s.1 s.2) fuel (c86,0):Option (List (List Int))).bind (fun (y102:List (List Int))=>some y102))
def wordset_ordered_1 (a_:List Int) (b_:List Int) (p2_:(List Int)→(List Int)→Option Int):Option (Bool) :=
 (p2_ a_ b_).bind fun c51=>some (decide (c51=0))
def slices_CompactFunc_SSint_Sint_n1.s18 (eq_:(List Int)→(List Int)→Option Bool) (k356:Nat) (y481:List (List Int)) (k482:Nat) (y483:Nat):Option ((List (List Int)×Nat×Nat)⊕(List (List Int)×Nat)) :=
 cond (decide ((↑y483:Int)<(↑(List.length y481-k356):Int))) (idxn y481 (k356+y483) fun e495=>chk ((0:Int)≤((↑y483:Int)-1)) (idxn y481 (k356+(Int.toNat ((↑y483:Int)-1))) fun e496=>(eq_ e495 e496).bind fun c498=>cond ((!c498)) (idxn y481 (k356+y483) fun e500=>idxn y481 k482 fun e501=>chk (inR ((↑k482:Int)+1)) (some (.inl ((List.set y481 k482 e500),(k482+1),(y483+1))))) (some (.inl (y481,k482,(y483+1)))))) (some (.inr (y481,k482)))
def slices_CompactFunc_SSint_Sint_n1.k19 (y471:List (List Int)) (k472:Nat):Option (Nat⊕(Unit⊕List (List Int))) :=
 chk ((0:Int)≤(↑k472:Int)∧(↑k472:Int)≤(↑(List.length y471):Int)∧0<List.length y471) (chk (k472≤List.length y471) (chk ((0:Int)≤(↑k472:Int)∧(↑k472:Int)≤(↑(List.length (List.take k472 y471++List.replicate (List.length y471-k472) [])):Int)∧0<List.length (List.take k472 y471++List.replicate (List.length y471-k472) [])) (some (.inr (.inr (List.take k472 (List.take k472 y471++List.replicate (List.length y471-k472) [])))))))
def slices_CompactFunc_SSint_Sint_n1.s20 (s_:List (List Int)) (eq_:(List Int)→(List Int)→Option Bool) (k356:Nat):Option (Nat⊕(Unit⊕List (List Int))) :=
 cond (decide ((↑k356:Int)<(↑(List.length s_):Int))) (idxn s_ k356 fun e434=>idx s_ ((↑k356:Int)-1) fun e435=>(eq_ e434 e435).bind fun c436=>cond (c436) (chk ((0:Int)≤(↑k356:Int)∧(↑k356:Int)≤(↑(List.length s_):Int)∧0<List.length s_) ((iter (fun (s:List (List Int)×Nat×Nat)=>slices_CompactFunc_SSint_Sint_n1.s18 eq_ k356 s.1 s.2.1 s.2.2) fuel (s_,k356,1):Option (List (List Int)×Nat)).bind (fun (s:List (List Int)×Nat)=>slices_CompactFunc_SSint_Sint_n1.k19 s.1 s.2))) (some (.inl (k356+1)))) (some (.inr (.inl ())))
def slices_CompactFunc_SSint_Sint_n1 (s_:List (List Int)) (eq_:(List Int)→(List Int)→Option Bool):Option (List (List Int)) :=
 cond (decide ((↑(List.length s_):Int)<2)) (some s_) ((iter (fun (s:Nat)=>slices_CompactFunc_SSint_Sint_n1.s20 s_ eq_ s) fuel 1:Option (Unit⊕List (List Int))).bind (Sum.elim (fun (_:Unit)=>some s_) some))
def wordset_ordered.s2 (c53:List (List Int)) (y78:List (List Int)) (y79:Nat):Option ((List (List Int)×Nat)⊕List (List Int)) :=
 cond (decide ((↑y79:Int)<(↑(List.length c53):Int))) (idxn y78 y79 fun e87=>(lib_Clone_int e87).bind fun c88=>idxn y78 y79 fun e89=>chk (inR ((↑y79:Int)+1)) (some (.inl ((List.set y78 y79 c88),(y79+1))))) (some (.inr y78))
def wordset_ordered (l_:List (List Int)) (order_:(List Int)→(List Int)→Option Int):Option (List (List Int)) :=
 (lib_Clone_words l_).bind fun c51=>(lib_SortFunc_words c51 order_).bind fun c52=>(slices_CompactFunc_SSint_Sint_n1 c52 (fun u0 u1=>wordset_ordered_1 u0 u1 order_)).bind fun c53=>(iter (fun (s:List (List Int)×Nat)=>wordset_ordered.s2 c53 s.1 s.2) fuel (c53,0):Option (List (List Int))).bind (fun (y73:List (List Int))=>some y73)
def wordset_Sorted (l_:List (List Int)):Option (List (List Int)) :=
 (wordset_ordered l_ (fun u0 u1=>word_Compare u0 u1)).bind fun c51=>some c51
def wordset_Union (lists_:List (List (List Int))):Option (List (List Int)) :=
 (slices_Concat_SSint_Sint lists_).bind fun c51=>(wordset_Sorted c51).bind fun c52=>some c52
def wordset_longest.s2 (l_:List (List Int)) (n65:Int) (y66:Nat):Option ((Int×Nat)⊕Int) :=
 cond (decide ((↑y66:Int)<(↑(List.length l_):Int))) (idxn l_ y66 fun e71=>some (.inl ((max n65 (↑(List.length e71):Int)),(y66+1)))) (some (.inr n65))
def wordset_longest (l_:List (List Int)):Option (Int) :=
 (iter (fun (s:Int×Nat)=>wordset_longest.s2 l_ s.1 s.2) fuel (0,0):Option (Int)).bind (fun (n62:Int)=>some n62)
def slices_Concat_Sint_int.s2 (slices_:List (List Int)) (size73:Nat) (y74:Nat):Option ((Nat×Nat)⊕Nat) :=
 cond (decide ((↑y74:Int)<(↑(List.length slices_):Int))) (idxn slices_ y74 fun e81=>chk (inR ((↑size73:Int)+(↑(List.length e81):Int))) (cond (decide (((↑size73:Int)+(↑(List.length e81):Int))<0)) (none) (some (.inl ((size73+(List.length e81)),(y74+1)))))) (some (.inr size73))
def slices_Concat_Sint_int.s4 (slices_:List (List Int)) (y106:List Int) (y107:Nat):Option ((List Int×Nat)⊕List Int) :=
 cond (decide ((↑y107:Int)<(↑(List.length slices_):Int))) (idxn slices_ y107 fun e113=>chk (capOk (List.length y106+List.length e113) 8) (some (.inl ((y106++e113),(y107+1))))) (some (.inr y106))
def slices_Concat_Sint_int (slices_:List (List Int)):Option (List Int) :=
 (iter (fun (s:Nat×Nat)=>slices_Concat_Sint_int.s2 slices_ s.1 s.2) fuel (0,0):Option (Nat)).bind (fun (size68:Nat)=>(lib_Grow_int (↑size68:Int)).bind fun c86=>(iter (fun (s:List Int×Nat)=>slices_Concat_Sint_int.s4 slices_ s.1 s.2) fuel (c86,0):Option (List Int)).bind (fun (y102:List Int)=>some y102))
def word_Join (parts_:List (List Int)):Option (List Int) :=
 (slices_Concat_Sint_int parts_).bind fun c51=>some c51
def wordset_Product.k53 (y886:Nat) (y916:List (ByteArray×Bool)) (y917:List (List Int)):Option (((List (ByteArray×Bool))×List (List Int)×Nat)⊕(((List (ByteArray×Bool))×List (List Int))⊕(((List (ByteArray×Bool))×List (List Int)×Nat)⊕(List (List Int)⊕(List (List Int)×Int))))) :=
 some (.inl (y916,y917,(y886+1)))
def wordset_Product.s54 (c64:List (List Int)) (e792:List Int) (y884:List (ByteArray×Bool)) (y885:List (List Int)) (y886:Nat):Option (((List (ByteArray×Bool))×List (List Int)×Nat)⊕(((List (ByteArray×Bool))×List (List Int))⊕(((List (ByteArray×Bool))×List (List Int)×Nat)⊕(List (List Int)⊕(List (List Int)×Int))))) :=
 cond (decide ((↑y886:Int)<(↑(List.length c64):Int))) ((idxn c64 y886 fun e918=>(word_Join [e792,e918]).bind fun c919=>(wordset_key c919).bind fun c920=>cond (((mget c920 y884).getD false)) (some (.inl (y884,y885))) (cond (decide ((↑(List.length y885):Int)=10000)) (some (.inr (.inr (.inr (.inr (.inr ([],11))))))) (chk (capOk (List.length y885+1) 24) (some (.inl ((mset c920 true y884),(y885++[c919])))))):Option (((List (ByteArray×Bool))×List (List Int))⊕(((List (ByteArray×Bool))×List (List Int)×Nat)⊕(((List (ByteArray×Bool))×List (List Int))⊕(((List (ByteArray×Bool))×List (List Int)×Nat)⊕(List (List Int)⊕(List (List Int)×Int))))))).bind (Sum.elim (fun (s:(List (ByteArray×Bool))×List (List Int))=>wordset_Product.k53 y886 s.1 s.2) some)) (some (.inr (.inl (y884,y885))))
def wordset_Product.k55 (y645:Nat) (y862:List (ByteArray×Bool)) (y863:List (List Int)):Option (((List (ByteArray×Bool))×List (List Int)×Nat)⊕(List (List Int)⊕(List (List Int)×Int))) :=
 some (.inl (y862,y863,(y645+1)))
def wordset_Product.s56 (c63:List (List Int)) (c64:List (List Int)) (y643:List (ByteArray×Bool)) (y644:List (List Int)) (y645:Nat):Option (((List (ByteArray×Bool))×List (List Int)×Nat)⊕(List (List Int)⊕(List (List Int)×Int))) :=
 cond (decide ((↑y645:Int)<(↑(List.length c63):Int))) (idxn c63 y645 fun e792=>(iter (fun (s:(List (ByteArray×Bool))×List (List Int)×Nat)=>wordset_Product.s54 c64 e792 s.1 s.2.1 s.2.2) fuel (y643,y644,0):Option (((List (ByteArray×Bool))×List (List Int))⊕(((List (ByteArray×Bool))×List (List Int)×Nat)⊕(List (List Int)⊕(List (List Int)×Int))))).bind (Sum.elim (fun (s:(List (ByteArray×Bool))×List (List Int))=>wordset_Product.k55 y645 s.1 s.2) some)) (some (.inr (.inl y644)))
def wordset_Product (a_:List (List Int)) (b_:List (List Int)):Option (List (List Int)×Int) :=
 (cond (decide ((↑(List.length a_):Int)=0)) (some true) (some (decide ((↑(List.length b_):Int)=0))):Option (Bool)).bind (fun (y54:Bool)=>cond (y54) (some ([],0)) ((wordset_longest a_).bind fun c59=>(wordset_longest b_).bind fun c60=>chk (inR (c59+c60)) (cond (decide (1024<(c59+c60))) (some ([],3)) ((wordset_Sorted a_).bind fun c63=>(wordset_Sorted b_).bind fun c64=>cond (decide (10000<(max (↑(List.length c63):Int) (↑(List.length c64):Int)))) (some ([],11)) ((iter (fun (s:(List (ByteArray×Bool))×List (List Int)×Nat)=>wordset_Product.s56 c63 c64 s.1 s.2.1 s.2.2) fuel (([]:List (ByteArray×Bool)),[],0):Option (List (List Int)⊕(List (List Int)×Int))).bind (Sum.elim (fun (y502:List (List Int))=>(lib_SortFunc_words y502 (fun u0 u1=>word_Compare u0 u1)).bind fun c939=>some (c939,0)) some))))))
def wordset_Maximal.s2 (c51:List (List Int)) (y119:List (List Int)) (y120:Nat):Option ((List (List Int)×Nat)⊕List (List Int)) :=
 cond (decide ((↑y120:Int)<(↑(List.length c51):Int))) (idxn c51 y120 fun e139=>(cond (decide (((↑y120:Int)+1)=(↑(List.length c51):Int))) (some true) (idxn c51 (y120+1) fun e147=>(word_HasPrefix e147 e139).bind fun c148=>some (!c148)):Option (Bool)).bind (fun (y145:Bool)=>cond (y145) (chk (capOk (List.length y119+1) 24) (some (.inl ((y119++[e139]),(y120+1))))) (some (.inl (y119,(y120+1)))))) (some (.inr y119))
def wordset_Maximal (l_:List (List Int)):Option (List (List Int)) :=
 (wordset_ordered l_ (fun u0 u1=>word_Lex u0 u1)).bind fun c51=>(iter (fun (s:List (List Int)×Nat)=>wordset_Maximal.s2 c51 s.1 s.2) fuel ([],0):Option (List (List Int))).bind (fun (y104:List (List Int))=>(wordset_Sorted y104).bind fun c157=>some c157)
def mealy_Valid.s13 (m_:T_api_Mealy) (y509:Nat) (y697:Nat):Option (Nat⊕(Unit⊕(Nat⊕(Unit⊕Int)))) :=
 cond (decide ((↑y697:Int)<m_.Inputs)) (idxn m_.Next y509 fun e716=>idxn e716 y697 fun e717=>idxn m_.Out y509 fun e718=>idxn e718 y697 fun e719=>(cond (decide (e717<0)) (some true) (cond (decide ((↑(List.length m_.Next):Int)≤e717)) (some true) (cond (decide (e719<0)) (some true) (some (decide (1048576<e719))))):Option (Bool)).bind (fun (y725:Bool)=>cond (y725) (some (.inr (.inr (.inr (.inr 2))))) (chk (inR ((↑y697:Int)+1)) (some (.inl (y697+1)))))) (some (.inr (.inl ())))
def mealy_Valid.s14 (m_:T_api_Mealy) (y509:Nat):Option (Nat⊕(Unit⊕Int)) :=
 cond (decide ((↑y509:Int)<(↑(List.length m_.Next):Int))) ((idxn m_.Next y509 fun e628=>cond (decide ((↑(List.length e628):Int)≠m_.Inputs)) (some true) (idxn m_.Out y509 fun e630=>some (decide ((↑(List.length e630):Int)≠m_.Inputs))):Option (Bool)).bind (fun (y627:Bool)=>cond (y627) (some (.inr (.inr 1))) ((iter (fun (s:Nat)=>mealy_Valid.s13 m_ y509 s) fuel 0:Option (Unit⊕(Nat⊕(Unit⊕Int)))).bind (Sum.elim (fun (_:Unit)=>some (.inl (y509+1))) some)))) (some (.inr (.inl ())))
def mealy_Valid (m_:T_api_Mealy):Option (Int) :=
 (cond (decide (m_.Inputs<1)) (some true) (some (decide (64<m_.Inputs))):Option (Bool)).bind (fun (y54:Bool)=>cond (y54) (some 2) (cond (decide ((↑(List.length m_.Next):Int)=0)) (some 19) (cond (decide (128<(↑(List.length m_.Next):Int))) (some 11) ((cond (decide (m_.Start<0)) (some true) (some (decide ((↑(List.length m_.Next):Int)≤m_.Start))):Option (Bool)).bind (fun (y62:Bool)=>cond (y62) (some 2) (cond (decide ((↑(List.length m_.Out):Int)≠(↑(List.length m_.Next):Int))) (some 1) ((iter (fun (s:Nat)=>mealy_Valid.s14 m_ s) fuel 0:Option (Unit⊕Int)).bind (Sum.elim (fun (_:Unit)=>some 0) some))))))))
def mealy_Reach.s18 (e359:List Int) (y394:List Bool) (y395:List Int) (y396:Nat):Option ((List Bool×List Int×Nat)⊕(List Bool×List Int)) :=
 cond (decide ((↑y396:Int)<(↑(List.length e359):Int))) (idxn e359 y396 fun e405=>idx y394 e405 fun e406=>cond ((!e406)) (idx y394 e405 fun e408=>chk (capOk (List.length y395+1) 8) (some (.inl ((List.set y394 e405.toNat true),(y395++[e405]),(y396+1))))) (some (.inl (y394,y395,(y396+1))))) (some (.inr (y394,y395)))
def mealy_Reach.k19 (i297:Nat) (y386:List Bool) (y387:List Int):Option ((List Bool×List Int×Nat)⊕List Int) :=
 some (.inl (y386,y387,(i297+1)))
def mealy_Reach.s20 (m_:T_api_Mealy) (y295:List Bool) (y296:List Int) (i297:Nat):Option ((List Bool×List Int×Nat)⊕List Int) :=
 cond (decide ((↑i297:Int)<(↑(List.length y296):Int))) (idxn y296 i297 fun e358=>idx m_.Next e358 fun e359=>(iter (fun (s:List Bool×List Int×Nat)=>mealy_Reach.s18 e359 s.1 s.2.1 s.2.2) fuel (y295,y296,0):Option (List Bool×List Int)).bind (fun (s:List Bool×List Int)=>mealy_Reach.k19 i297 s.1 s.2)) (some (.inr y296))
def mealy_Reach (m_:T_api_Mealy):Option (List Int) :=
 (mealy_Valid m_).bind fun c51=>cond (decide (c51≠0)) (some []) (chk ((0:Int)≤(↑(List.length m_.Next):Int)∧(↑(List.length m_.Next):Int)≤(↑(List.length m_.Next):Int)∧capOk (Int.toNat (↑(List.length m_.Next):Int)) 1) (idx (List.replicate (List.length m_.Next) false) m_.Start fun e54=>(iter (fun (s:List Bool×List Int×Nat)=>mealy_Reach.s20 m_ s.1 s.2.1 s.2.2) fuel ((List.set (List.replicate (List.length m_.Next) false) m_.Start.toNat true),[m_.Start],0):Option (List Int)).bind (fun (y236:List Int)=>some y236)))
def mealy_Trim.s2 (c53:List Int) (y74:List Int) (y75:Nat):Option ((List Int×Nat)⊕List Int) :=
 cond (decide ((↑y75:Int)<(↑(List.length c53):Int))) (idxn c53 y75 fun e81=>idx y74 e81 fun e82=>some (.inl ((List.set y74 e81.toNat (↑y75:Int)),(y75+1)))) (some (.inr y74))
def mealy_Trim.s15 (y70:List Int) (e374:List Int) (y402:List Int) (y403:Nat):Option ((List Int×Nat)⊕List Int) :=
 cond (decide ((↑y403:Int)<(↑(List.length e374):Int))) (idxn e374 y403 fun e410=>idx y70 e410 fun e411=>idxn y402 y403 fun e412=>some (.inl ((List.set y402 y403 e411),(y403+1)))) (some (.inr y402))
def mealy_Trim.s16 (m_:T_api_Mealy) (c53:List Int) (y70:List Int) (y310:List (List Int)) (y311:List (List Int)) (y312:Nat):Option ((List (List Int)×List (List Int)×Nat)⊕(List (List Int)×List (List Int))) :=
 cond (decide ((↑y312:Int)<(↑(List.length c53):Int))) (idxn c53 y312 fun e372=>chk ((0:Int)≤m_.Inputs∧m_.Inputs≤m_.Inputs∧capOk (Int.toNat m_.Inputs) 8) (idx m_.Next e372 fun e374=>(iter (fun (s:List Int×Nat)=>mealy_Trim.s15 y70 e374 s.1 s.2) fuel ((List.replicate (Int.toNat m_.Inputs) (0:Int)),0):Option (List Int)).bind (fun (y397:List Int)=>chk (capOk (List.length y310+1) 24) (idx m_.Out e372 fun e425=>(lib_Clone_int e425).bind fun c426=>chk (capOk (List.length y311+1) 24) (some (.inl ((y310++[y397]),(y311++[c426]),(y312+1)))))))) (some (.inr (y310,y311)))
def mealy_Trim.k17 (m_:T_api_Mealy) (y259:List (List Int)) (y260:List (List Int)):Option (T_api_Mealy×Int) :=
 some ((⟨m_.Inputs,0,y259,y260⟩:T_api_Mealy),0)
def mealy_Trim (m_:T_api_Mealy):Option (T_api_Mealy×Int) :=
 (mealy_Valid m_).bind fun c51=>cond (decide (c51≠0)) (some ((⟨0,0,[],[]⟩:T_api_Mealy),c51)) ((mealy_Reach m_).bind fun c53=>chk ((0:Int)≤(↑(List.length m_.Next):Int)∧(↑(List.length m_.Next):Int)≤(↑(List.length m_.Next):Int)∧capOk (Int.toNat (↑(List.length m_.Next):Int)) 8) ((iter (fun (s:List Int×Nat)=>mealy_Trim.s2 c53 s.1 s.2) fuel ((List.replicate (List.length m_.Next) (0:Int)),0):Option (List Int)).bind (fun (y70:List Int)=>(iter (fun (s:List (List Int)×List (List Int)×Nat)=>mealy_Trim.s16 m_ c53 y70 s.1 s.2.1 s.2.2) fuel ([],[],0):Option (List (List Int)×List (List Int))).bind (fun (s:List (List Int)×List (List Int))=>mealy_Trim.k17 m_ s.1 s.2))))
def minimize_next.s18 (m_:T_api_Mealy) (class_:List Int) (y467:Nat) (y623:List Int) (y624:Nat):Option ((List Int×Nat)⊕List Int) :=
 cond (decide ((↑y624:Int)<m_.Inputs)) (idxn m_.Out y467 fun e639=>idxn e639 y624 fun e640=>chk ((↑y624:Int)<128) (idxn y623 y624 fun e641=>chk (inR (64+(↑y624:Int))) (idxn m_.Next y467 fun e644=>idxn e644 y624 fun e645=>idx class_ e645 fun e646=>chk ((64+(↑y624:Int))<128) (idxn (List.set y623 y624 e640) (64+y624) fun e647=>chk (inR ((↑y624:Int)+1)) (some (.inl ((List.set (List.set y623 y624 e640) (64+y624) e646),(y624+1)))))))) (some (.inr y623))
def minimize_next.k19 (y466:List Int) (y467:Nat) (y663:List (List Int×Int)) (n664:Int):Option (((List (List Int×Int))×List Int×Nat)⊕((List (List Int×Int))×List Int)) :=
 idxn y466 y467 fun e670=>some (.inl (y663,(List.set y466 y467 n664),(y467+1)))
def minimize_next.s20 (m_:T_api_Mealy) (class_:List Int) (y465:List (List Int×Int)) (y466:List Int) (y467:Nat):Option (((List (List Int×Int))×List Int×Nat)⊕((List (List Int×Int))×List Int)) :=
 cond (decide ((↑y467:Int)<(↑(List.length class_):Int))) ((iter (fun (s:List Int×Nat)=>minimize_next.s18 m_ class_ y467 s.1 s.2) fuel ((List.replicate 128 0),0):Option (List Int)).bind (fun (y612:List Int)=>chk (List.length y612=128) (chk (List.length y612=128∧∀ p∈y465,List.length p.1=128) ((cond ((!((mget y612 y465).isSome))) (chk (List.length y612=128) (chk (List.length y612=128∧∀ p∈y465,List.length p.1=128) (some ((mset y612 (↑(List.length y465):Int) y465),(↑(List.length y465):Int))))) (some (y465,((mget y612 y465).getD 0))):Option ((List (List Int×Int))×Int)).bind (fun (s:(List (List Int×Int))×Int)=>minimize_next.k19 y466 y467 s.1 s.2))))) (some (.inr (y465,y466)))
def minimize_next.k21 (y362:List (List Int×Int)) (y363:List Int):Option (List Int×Int) :=
 some (y363,(↑(List.length y362):Int))
def minimize_next (m_:T_api_Mealy) (class_:List Int):Option (List Int×Int) :=
 chk ((0:Int)≤(↑(List.length class_):Int)∧(↑(List.length class_):Int)≤(↑(List.length class_):Int)∧capOk (Int.toNat (↑(List.length class_):Int)) 8) ((iter (fun (s:(List (List Int×Int))×List Int×Nat)=>minimize_next.s20 m_ class_ s.1 s.2.1 s.2.2) fuel (([]:List (List Int×Int)),(List.replicate (List.length class_) (0:Int)),0):Option ((List (List Int×Int))×List Int)).bind (fun (s:(List (List Int×Int))×List Int)=>minimize_next.k21 s.1 s.2))
def minimize_refine.s2 (m_:T_api_Mealy) (k_:Int) (class71:List Int) (n72:Int) (y73:Nat):Option ((List Int×Int×Nat)⊕(List Int⊕(List Int×Int))) :=
 cond (decide ((↑y73:Int)<(min (max k_ 0) (↑(List.length m_.Next):Int)))) ((minimize_next m_ class71).bind fun c79=>cond (decide (c79.2=n72)) (some (.inr (.inr (class71,(↑y73:Int))))) (some (.inl (c79.1,c79.2,(y73+1))))) (some (.inr (.inl class71)))
def minimize_refine (m_:T_api_Mealy) (k_:Int):Option (List Int×Int) :=
 chk ((0:Int)≤(↑(List.length m_.Next):Int)∧(↑(List.length m_.Next):Int)≤(↑(List.length m_.Next):Int)∧capOk (Int.toNat (↑(List.length m_.Next):Int)) 8) ((iter (fun (s:List Int×Int×Nat)=>minimize_refine.s2 m_ k_ s.1 s.2.1 s.2.2) fuel ((List.replicate (List.length m_.Next) (0:Int)),1,0):Option (List Int⊕(List Int×Int))).bind (Sum.elim (fun (class67:List Int)=>some (class67,(min (max k_ 0) (↑(List.length m_.Next):Int)))) some))
def minimize_Partition (m_:T_api_Mealy) (k_:Int):Option (List Int×Int) :=
 (mealy_Valid m_).bind fun c51=>cond (decide (c51≠0)) (some ([],c51)) ((minimize_refine m_ k_).bind fun c53=>some (c53.1,0))
def minimize_Classes (m_:T_api_Mealy):Option (List Int×Int) :=
 (minimize_Partition m_ 128).bind fun c51=>some (c51.1,c51.2)
def minimize_Min.s30 (c53:List Int×Int) (e717:List Int) (y744:List Int) (y745:Nat):Option ((List Int×Nat)⊕List Int) :=
 cond (decide ((↑y745:Int)<(↑(List.length e717):Int))) (idxn e717 y745 fun e752=>idx c53.1 e752 fun e753=>chk (capOk (List.length y744+1) 8) (some (.inl ((y744++[e753]),(y745+1))))) (some (.inr y744))
def minimize_Min.k31 (y529:Nat) (y713:List (List Int)) (y714:List (List Int)):Option ((List (List Int)×List (List Int)×Nat)⊕(List (List Int)×List (List Int))) :=
 some (.inl (y713,y714,(y529+1)))
def minimize_Min.s32 (c51:T_api_Mealy×Int) (c53:List Int×Int) (y527:List (List Int)) (y528:List (List Int)) (y529:Nat):Option ((List (List Int)×List (List Int)×Nat)⊕(List (List Int)×List (List Int))) :=
 cond (decide ((↑y529:Int)<(↑(List.length c53.1):Int))) ((idxn c53.1 y529 fun e715=>cond (decide (e715<(↑(List.length y527):Int))) (some (y527,y528)) (idxn c51.1.Next y529 fun e717=>(iter (fun (s:List Int×Nat)=>minimize_Min.s30 c53 e717 s.1 s.2) fuel ([],0):Option (List Int)).bind (fun (y740:List Int)=>chk (capOk (List.length y527+1) 24) (idxn c51.1.Out y529 fun e769=>chk (capOk (List.length ([]:List Unit)+List.length e769) 8) (chk (capOk (List.length y528+1) 24) (some ((y527++[y740]),(y528++[([]++e769)]))))))):Option (List (List Int)×List (List Int))).bind (fun (s:List (List Int)×List (List Int))=>minimize_Min.k31 y529 s.1 s.2)) (some (.inr (y527,y528)))
def minimize_Min.k33 (c51:T_api_Mealy×Int) (y418:List (List Int)) (y419:List (List Int)):Option (T_api_Mealy×Int) :=
 some ((⟨c51.1.Inputs,0,y418,y419⟩:T_api_Mealy),0)
def minimize_Min (m_:T_api_Mealy):Option (T_api_Mealy×Int) :=
 (mealy_Trim m_).bind fun c51=>cond (decide (c51.2≠0)) (some ((⟨0,0,[],[]⟩:T_api_Mealy),c51.2)) ((minimize_Classes c51.1).bind fun c53=>cond (decide (c53.2≠0)) (some ((⟨0,0,[],[]⟩:T_api_Mealy),c53.2)) ((iter (fun (s:List (List Int)×List (List Int)×Nat)=>minimize_Min.s32 c51 c53 s.1 s.2.1 s.2.2) fuel ([],[],0):Option (List (List Int)×List (List Int))).bind (fun (s:List (List Int)×List (List Int))=>minimize_Min.k33 c51 s.1 s.2)))
def cover_places.s18 (i343:Nat) (e417:List Int) (y460:List Bool) (y461:List T_cover_place) (y462:Nat):Option ((List Bool×List T_cover_place×Nat)⊕(List Bool×List T_cover_place)) :=
 cond (decide ((↑y462:Int)<(↑(List.length e417):Int))) (idxn e417 y462 fun e473=>idx y460 e473 fun e474=>cond ((!e474)) (idx y460 e473 fun e476=>idxn y461 i343 fun e477=>(word_Join [e477.word,[(↑y462:Int)]]).bind fun c478=>chk (capOk (List.length y461+1) 32) (some (.inl ((List.set y460 e473.toNat true),(y461++[(⟨e473,c478⟩:T_cover_place)]),(y462+1))))) (some (.inl (y460,y461,(y462+1))))) (some (.inr (y460,y461)))
def cover_places.k19 (i343:Nat) (y450:List Bool) (y451:List T_cover_place):Option ((List Bool×List T_cover_place×Nat)⊕List T_cover_place) :=
 some (.inl (y450,y451,(i343+1)))
def cover_places.s20 (m_:T_api_Mealy) (y341:List Bool) (y342:List T_cover_place) (i343:Nat):Option ((List Bool×List T_cover_place×Nat)⊕List T_cover_place) :=
 cond (decide ((↑i343:Int)<(↑(List.length y342):Int))) (idxn y342 i343 fun e416=>idx m_.Next e416.state fun e417=>(iter (fun (s:List Bool×List T_cover_place×Nat)=>cover_places.s18 i343 e417 s.1 s.2.1 s.2.2) fuel (y341,y342,0):Option (List Bool×List T_cover_place)).bind (fun (s:List Bool×List T_cover_place)=>cover_places.k19 i343 s.1 s.2)) (some (.inr y342))
def cover_places (m_:T_api_Mealy) (from_:Int):Option (List T_cover_place) :=
 chk ((0:Int)≤(↑(List.length m_.Next):Int)∧(↑(List.length m_.Next):Int)≤(↑(List.length m_.Next):Int)∧capOk (Int.toNat (↑(List.length m_.Next):Int)) 1) (idx (List.replicate (List.length m_.Next) false) from_ fun e52=>(iter (fun (s:List Bool×List T_cover_place×Nat)=>cover_places.s20 m_ s.1 s.2.1 s.2.2) fuel ((List.set (List.replicate (List.length m_.Next) false) from_.toNat true),[(⟨from_,[]⟩:T_cover_place)],0):Option (List T_cover_place)).bind (fun (y270:List T_cover_place)=>some y270))
def cover_Access.s2 (c53:List T_cover_place) (y76:List Int) (y77:List (List Int)) (y78:Nat):Option ((List Int×List (List Int)×Nat)⊕(List Int×List (List Int))) :=
 cond (decide ((↑y78:Int)<(↑(List.length c53):Int))) (idxn c53 y78 fun e85=>chk (capOk (List.length y76+1) 8) (chk (capOk (List.length y77+1) 24) (some (.inl ((y76++[e85.state]),(y77++[e85.word]),(y78+1)))))) (some (.inr (y76,y77)))
def cover_Access.k3 (y72:List Int) (y73:List (List Int)):Option (List Int×List (List Int)×Int) :=
 some (y72,y73,0)
def cover_Access (m_:T_api_Mealy):Option (List Int×List (List Int)×Int) :=
 (mealy_Valid m_).bind fun c51=>cond (decide (c51≠0)) (some ([],[],c51)) ((cover_places m_ m_.Start).bind fun c53=>(iter (fun (s:List Int×List (List Int)×Nat)=>cover_Access.s2 c53 s.1 s.2.1 s.2.2) fuel ([],[],0):Option (List Int×List (List Int))).bind (fun (s:List Int×List (List Int))=>cover_Access.k3 s.1 s.2))
def cover_StateCover (m_:T_api_Mealy):Option (List (List Int)×Int) :=
 (cover_Access m_).bind fun c51=>some (c51.2.1,c51.2.2)
def cover_Transitions.s13 (m_:T_api_Mealy) (e260:List Int) (y283:List (List Int)) (y284:Nat):Option ((List (List Int)×Nat)⊕List (List Int)) :=
 cond (decide ((↑y284:Int)<m_.Inputs)) ((word_Join [e260,[(↑y284:Int)]]).bind fun c291=>chk (capOk (List.length y283+1) 24) (chk (inR ((↑y284:Int)+1)) (some (.inl ((y283++[c291]),(y284+1)))))) (some (.inr y283))
def cover_Transitions.s14 (m_:T_api_Mealy) (c51:List Int×List (List Int)×Int) (y216:List (List Int)) (y217:Nat):Option ((List (List Int)×Nat)⊕List (List Int)) :=
 cond (decide ((↑y217:Int)<(↑(List.length c51.2.1):Int))) (idxn c51.2.1 y217 fun e260=>(iter (fun (s:List (List Int)×Nat)=>cover_Transitions.s13 m_ e260 s.1 s.2) fuel (y216,0):Option (List (List Int))).bind (fun (y279:List (List Int))=>some (.inl (y279,(y217+1))))) (some (.inr y216))
def cover_Transitions (m_:T_api_Mealy):Option (List (List Int)×Int) :=
 (cover_Access m_).bind fun c51=>cond (decide (c51.2.2≠0)) (some ([],c51.2.2)) ((iter (fun (s:List (List Int)×Nat)=>cover_Transitions.s14 m_ c51 s.1 s.2) fuel ([],0):Option (List (List Int))).bind (fun (y177:List (List Int))=>(wordset_Sorted y177).bind fun c302=>some (c302,0)))
def separate_outs.s2 (m_:T_api_Mealy) (w_:List Int) (s88:Int) (y89:List Int) (y90:Nat):Option ((Int×List Int×Nat)⊕List Int) :=
 cond (decide ((↑y90:Int)<(↑(List.length w_):Int))) (idxn w_ y90 fun e100=>idx m_.Out s88 fun e101=>idx e101 e100 fun e102=>chk (capOk (List.length y89+1) 8) (idx m_.Next s88 fun e104=>idx e104 e100 fun e105=>some (.inl (e105,(y89++[e102]),(y90+1))))) (some (.inr y89))
def separate_outs (m_:T_api_Mealy) (s_:Int) (w_:List Int):Option (List Int) :=
 chk ((0:Int)≤0∧0≤(↑(List.length w_):Int)∧capOk (Int.toNat (↑(List.length w_):Int)) 8) ((iter (fun (s:Int×List Int×Nat)=>separate_outs.s2 m_ w_ s.1 s.2.1 s.2.2) fuel (s_,[],0):Option (List Int)).bind (fun (y80:List Int)=>some y80))
def slices_Equal_Sint_int.s2 (s1_:List Int) (s2_:List Int) (y73:Nat):Option (Nat⊕(Unit⊕Bool)) :=
 cond (decide ((↑y73:Int)<(↑(List.length s1_):Int))) (idxn s1_ y73 fun e80=>idxn s2_ y73 fun e81=>cond (decide (e80≠e81)) (some (.inr (.inr false))) (some (.inl (y73+1)))) (some (.inr (.inl ())))
def slices_Equal_Sint_int (s1_:List Int) (s2_:List Int):Option (Bool) :=
 cond (decide ((↑(List.length s1_):Int)≠(↑(List.length s2_):Int))) (some false) ((iter (fun (s:Nat)=>slices_Equal_Sint_int.s2 s1_ s2_ s) fuel 0:Option (Unit⊕Bool)).bind (Sum.elim (fun (_:Unit)=>some true) some))
def separate_separated_1 (w_:List Int) (p1_:T_api_Mealy) (p2_:Int) (p3_:Int):Option (Bool) :=
 (separate_outs p1_ p2_ w_).bind fun c51=>(separate_outs p1_ p3_ w_).bind fun c52=>(slices_Equal_Sint_int c51 c52).bind fun c53=>some (!c53)
def separate_some_Sint_n3.s2 (l_:List (List Int)) (has_:(List Int)→Option Bool) (y71:Nat):Option (Nat⊕(Unit⊕Bool)) :=
 cond (decide ((↑y71:Int)<(↑(List.length l_):Int))) (idxn l_ y71 fun e78=>(has_ e78).bind fun c79=>cond (c79) (some (.inr (.inr true))) (some (.inl (y71+1)))) (some (.inr (.inl ())))
def separate_some_Sint_n3 (l_:List (List Int)) (has_:(List Int)→Option Bool):Option (Bool) :=
 (iter (fun (s:Nat)=>separate_some_Sint_n3.s2 l_ has_ s) fuel 0:Option (Unit⊕Bool)).bind (Sum.elim (fun (_:Unit)=>some false) some)
def separate_separated (m_:T_api_Mealy) (words_:List (List Int)) (s_:Int) (t_:Int):Option (Bool) :=
 (separate_some_Sint_n3 words_ (fun u0=>separate_separated_1 u0 m_ s_ t_)).bind fun c51=>some c51
def minimize_Minimal (m_:T_api_Mealy):Option (Bool) :=
 ((mealy_Valid m_).bind fun c57=>cond (decide (c57≠0)) (some true) ((mealy_Reach m_).bind fun c59=>some (decide ((↑(List.length c59):Int)≠(↑(List.length m_.Next):Int)))):Option (Bool)).bind (fun (y56:Bool)=>cond (y56) (some false) ((minimize_Min m_).bind fun c61=>(cond (decide (c61.2=0)) (some (decide ((↑(List.length c61.1.Next):Int)=(↑(List.length m_.Next):Int)))) (some false):Option (Bool)).bind (fun (y65:Bool)=>some y65)))
def separate_check (m_:T_api_Mealy):Option (Int) :=
 (mealy_Valid m_).bind fun c51=>cond (decide (c51≠0)) (some c51) ((minimize_Minimal m_).bind fun c53=>cond ((!c53)) (some 1) (some 0))
def equiv_search.s2 (a_:T_api_Mealy) (b_:T_api_Mealy) (y72:List (List Bool)) (y73:Nat):Option ((List (List Bool)×Nat)⊕List (List Bool)) :=
 cond (decide ((↑y73:Int)<(↑(List.length (List.replicate (List.length a_.Next) ([]:List Bool))):Int))) (chk ((0:Int)≤(↑(List.length b_.Next):Int)∧(↑(List.length b_.Next):Int)≤(↑(List.length b_.Next):Int)∧capOk (Int.toNat (↑(List.length b_.Next):Int)) 1) (idxn y72 y73 fun e81=>chk (inR ((↑y73:Int)+1)) (some (.inl ((List.set y72 y73 (List.replicate (List.length b_.Next) false)),(y73+1)))))) (some (.inr y72))
def equiv_search.s20 (a_:T_api_Mealy) (b_:T_api_Mealy) (i900:Nat) (e1104:T_equiv_place) (y1234:List (List Bool)) (y1235:List T_equiv_place) (y1236:Nat):Option ((List (List Bool)×List T_equiv_place×Nat)⊕((List (List Bool)×List T_equiv_place)⊕((List (List Bool)×List T_equiv_place×Nat)⊕(Unit⊕(List Int×Bool))))) :=
 cond (decide ((↑y1236:Int)<a_.Inputs)) (idx a_.Out e1104.at_.s fun e1270=>idxn e1270 y1236 fun e1271=>idx b_.Out e1104.at_.t fun e1272=>idxn e1272 y1236 fun e1273=>cond (decide (e1271≠e1273)) (idxn y1235 i900 fun e1275=>(word_Join [e1275.word,[(↑y1236:Int)]]).bind fun c1276=>some (.inr (.inr (.inr (.inr (c1276,true)))))) (idx a_.Next e1104.at_.s fun e1277=>idxn e1277 y1236 fun e1278=>idx b_.Next e1104.at_.t fun e1279=>idxn e1279 y1236 fun e1280=>(cond ((!(decide (e1278=e1104.at_.s)&&(decide (e1280=e1104.at_.t)&&true)))) (idx y1234 e1278 fun e1288=>idx e1288 e1280 fun e1289=>some (!e1289)) (some false):Option (Bool)).bind (fun (y1286:Bool)=>cond (y1286) (idx y1234 e1278 fun e1293=>idx e1293 e1280 fun e1294=>idxn y1235 i900 fun e1295=>(word_Join [e1295.word,[(↑y1236:Int)]]).bind fun c1296=>chk (capOk (List.length y1235+1) 40) (chk (inR ((↑y1236:Int)+1)) (some (.inl ((List.set y1234 (Int.toNat e1278) (List.set e1293 (Int.toNat e1280) true)),(y1235++[(⟨(⟨e1278,e1280⟩:T_equiv_pair),c1296⟩:T_equiv_place)]),(y1236+1)))))) (chk (inR ((↑y1236:Int)+1)) (some (.inl (y1234,y1235,(y1236+1)))))))) (some (.inr (.inl (y1234,y1235))))
def equiv_search.k21 (i900:Nat) (y1203:List (List Bool)) (y1204:List T_equiv_place):Option ((List (List Bool)×List T_equiv_place×Nat)⊕(Unit⊕(List Int×Bool))) :=
 some (.inl (y1203,y1204,(i900+1)))
def equiv_search.s22 (a_:T_api_Mealy) (b_:T_api_Mealy) (y898:List (List Bool)) (y899:List T_equiv_place) (i900:Nat):Option ((List (List Bool)×List T_equiv_place×Nat)⊕(Unit⊕(List Int×Bool))) :=
 cond (decide ((↑i900:Int)<(↑(List.length y899):Int))) (idxn y899 i900 fun e1104=>(iter (fun (s:List (List Bool)×List T_equiv_place×Nat)=>equiv_search.s20 a_ b_ i900 e1104 s.1 s.2.1 s.2.2) fuel (y898,y899,0):Option ((List (List Bool)×List T_equiv_place)⊕((List (List Bool)×List T_equiv_place×Nat)⊕(Unit⊕(List Int×Bool))))).bind (Sum.elim (fun (s:List (List Bool)×List T_equiv_place)=>equiv_search.k21 i900 s.1 s.2) some)) (some (.inr (.inl ())))
def equiv_search (a_:T_api_Mealy) (b_:T_api_Mealy) (first_:T_equiv_pair):Option (List Int×Bool) :=
 chk ((0:Int)≤(↑(List.length a_.Next):Int)∧(↑(List.length a_.Next):Int)≤(↑(List.length a_.Next):Int)∧capOk (Int.toNat (↑(List.length a_.Next):Int)) 24) ((iter (fun (s:List (List Bool)×Nat)=>equiv_search.s2 a_ b_ s.1 s.2) fuel ((List.replicate (List.length a_.Next) ([]:List Bool)),0):Option (List (List Bool))).bind (fun (y68:List (List Bool))=>idx y68 first_.s fun e85=>idx e85 first_.t fun e86=>(iter (fun (s:List (List Bool)×List T_equiv_place×Nat)=>equiv_search.s22 a_ b_ s.1 s.2.1 s.2.2) fuel ((List.set y68 (Int.toNat first_.s) (List.set e85 (Int.toNat first_.t) true)),[(⟨first_,[]⟩:T_equiv_place)],0):Option (Unit⊕(List Int×Bool))).bind (Sum.elim (fun (_:Unit)=>some ([],false)) some)))
def equiv_States (m_:T_api_Mealy) (s_:Int) (t_:Int):Option (List Int×Bool×Int) :=
 (mealy_Valid m_).bind fun c51=>cond (decide (c51≠0)) (some ([],false,c51)) ((cond (decide (s_<0)) (some true) (cond (decide ((↑(List.length m_.Next):Int)≤s_)) (some true) (cond (decide (t_<0)) (some true) (some (decide ((↑(List.length m_.Next):Int)≤t_))))):Option (Bool)).bind (fun (y58:Bool)=>cond (y58) (some ([],false,2)) ((equiv_search m_ m_ (⟨s_,t_⟩:T_equiv_pair)).bind fun c63=>some (c63.1,c63.2,0))))
def separate_Charset.s13 (m_:T_api_Mealy) (y436:Nat) (y597:List (List Int)) (t598:Nat):Option ((List (List Int)×Nat)⊕(List (List Int)⊕((List (List Int)×Nat)⊕(List (List Int)⊕(List (List Int)×Int))))) :=
 cond (decide ((↑t598:Int)<(↑(List.length m_.Next):Int))) (((separate_separated m_ y597 (↑y436:Int) (↑t598:Int)).bind fun c622=>cond (c622) (some (.inl y597)) ((equiv_States m_ (↑y436:Int) (↑t598:Int)).bind fun c624=>cond (decide (c624.2.2≠0)) (some (.inr (.inr (.inr (.inr (.inr ([],c624.2.2))))))) (chk (capOk (List.length y597+1) 24) (some (.inl (y597++[c624.1]))))):Option (List (List Int)⊕((List (List Int)×Nat)⊕(List (List Int)⊕((List (List Int)×Nat)⊕(List (List Int)⊕(List (List Int)×Int))))))).bind (Sum.elim (fun (y621:List (List Int))=>some (.inl (y621,(t598+1)))) some)) (some (.inr (.inl y597)))
def separate_Charset.s14 (m_:T_api_Mealy) (y435:List (List Int)) (y436:Nat):Option ((List (List Int)×Nat)⊕(List (List Int)⊕(List (List Int)×Int))) :=
 cond (decide ((↑y436:Int)<(↑(List.length m_.Next):Int))) ((iter (fun (s:List (List Int)×Nat)=>separate_Charset.s13 m_ y436 s.1 s.2) fuel (y435,(y436+1)):Option (List (List Int)⊕((List (List Int)×Nat)⊕(List (List Int)⊕(List (List Int)×Int))))).bind (Sum.elim (fun (y582:List (List Int))=>some (.inl (y582,(y436+1)))) some)) (some (.inr (.inl y435)))
def separate_Charset (m_:T_api_Mealy):Option (List (List Int)×Int) :=
 (separate_check m_).bind fun c51=>cond (decide (c51≠0)) (some ([],c51)) ((iter (fun (s:List (List Int)×Nat)=>separate_Charset.s14 m_ s.1 s.2) fuel ([],0):Option (List (List Int)⊕(List (List Int)×Int))).bind (Sum.elim (fun (y342:List (List Int))=>(wordset_Sorted y342).bind fun c632=>some (c632,0)) some))
def merge_Sample (m_:T_api_Mealy):Option (List (List Int)×Int) :=
 (mealy_Valid m_).bind fun c51=>cond (decide (c51≠0)) (some ([],c51)) ((minimize_Min m_).bind fun c53=>(cover_StateCover c53.1).bind fun c54=>(cover_Transitions c53.1).bind fun c55=>(separate_Charset c53.1).bind fun c56=>(cond (decide ((↑(List.length c56.1):Int)=0)) (some [[]]) (some c56.1):Option (List (List Int))).bind (fun (ends60:List (List Int))=>(wordset_Union [c54.1,c55.1]).bind fun c65=>(wordset_Product c65 ends60).bind fun c66=>cond (decide (c66.2≠0)) (some ([],c66.2)) ((wordset_Union [c55.1,c66.1]).bind fun c68=>(wordset_Maximal c68).bind fun c69=>some (c69,0))))
def merge_Complete.s18 (p_:T_api_Part) (out_:Int) (y395:Nat) (e485:List Int) (y534:List Int) (y535:List Int) (y536:Nat):Option ((List Int×List Int×Nat)⊕(List Int×List Int)) :=
 cond (decide ((↑y536:Int)<(↑(List.length e485):Int))) (idxn e485 y536 fun e548=>idxn p_.Out y395 fun e549=>idxn e549 y536 fun e550=>idxn y534 y536 fun e551=>idxn y535 y536 fun e552=>cond (decide (e548=(-1:Int))) (idxn (List.set y534 y536 e548) y536 fun e554=>idxn (List.set y535 y536 e550) y536 fun e555=>some (.inl ((List.set (List.set y534 y536 e548) y536 (↑y395:Int)),(List.set (List.set y535 y536 e550) y536 out_),(y536+1)))) (some (.inl ((List.set y534 y536 e548),(List.set y535 y536 e550),(y536+1))))) (some (.inr (y534,y535)))
def merge_Complete.k19 (y393:List (List Int)) (y394:List (List Int)) (y395:Nat) (y523:List Int) (y524:List Int):Option ((List (List Int)×List (List Int)×Nat)⊕(List (List Int)×List (List Int))) :=
 chk (capOk (List.length y393+1) 24) (chk (capOk (List.length y394+1) 24) (some (.inl ((y393++[y523]),(y394++[y524]),(y395+1)))))
def merge_Complete.s20 (p_:T_api_Part) (out_:Int) (y393:List (List Int)) (y394:List (List Int)) (y395:Nat):Option ((List (List Int)×List (List Int)×Nat)⊕(List (List Int)×List (List Int))) :=
 cond (decide ((↑y395:Int)<(↑(List.length p_.Next):Int))) (chk ((0:Int)≤p_.Inputs∧p_.Inputs≤p_.Inputs∧capOk (Int.toNat p_.Inputs) 8) (chk ((0:Int)≤p_.Inputs∧p_.Inputs≤p_.Inputs∧capOk (Int.toNat p_.Inputs) 8) (idxn p_.Next y395 fun e485=>(iter (fun (s:List Int×List Int×Nat)=>merge_Complete.s18 p_ out_ y395 e485 s.1 s.2.1 s.2.2) fuel ((List.replicate (Int.toNat p_.Inputs) (0:Int)),(List.replicate (Int.toNat p_.Inputs) (0:Int)),0):Option (List Int×List Int)).bind (fun (s:List Int×List Int)=>merge_Complete.k19 y393 y394 y395 s.1 s.2)))) (some (.inr (y393,y394)))
def merge_Complete.k21 (p_:T_api_Part) (y314:List (List Int)) (y315:List (List Int)):Option (T_api_Mealy×Int) :=
 some ((⟨p_.Inputs,p_.Start,y314,y315⟩:T_api_Mealy),0)
def merge_Complete (p_:T_api_Part) (out_:Int):Option (T_api_Mealy×Int) :=
 (merge_Valid p_).bind fun c51=>cond (decide (c51≠0)) (some ((⟨0,0,[],[]⟩:T_api_Mealy),c51)) ((cond (decide (out_<0)) (some true) (some (decide (1048576<out_))):Option (Bool)).bind (fun (y56:Bool)=>cond (y56) (some ((⟨0,0,[],[]⟩:T_api_Mealy),2)) (cond (decide (128<(↑(List.length p_.Next):Int))) (some ((⟨0,0,[],[]⟩:T_api_Mealy),11)) ((iter (fun (s:List (List Int)×List (List Int)×Nat)=>merge_Complete.s20 p_ out_ s.1 s.2.1 s.2.2) fuel ([],[],0):Option (List (List Int)×List (List Int))).bind (fun (s:List (List Int)×List (List Int))=>merge_Complete.k21 p_ s.1 s.2)))))
def R35_Same (a_:T_api_Part) (b_:T_api_Part):Option (Bool) :=
 (cond (decide (a_.Inputs=b_.Inputs)) (cond (decide (a_.Start=b_.Start)) ((R01_SameWords a_.Next b_.Next).bind fun c61=>cond (c61) ((R01_SameWords a_.Out b_.Out).bind fun c63=>some c63) (some false)) (some false)) (some false):Option (Bool)).bind (fun (y58:Bool)=>some y58)
def L35_awake:Option (Bool) :=
 (merge_Tree (⟨1,[(⟨[0,0],[1,2]⟩:T_api_Trace)]⟩:T_api_Obs)).bind fun c51=>(merge_Fold c51.1 0 1).bind fun c52=>(merge_Fold c51.1 0 2).bind fun c53=>(merge_Learn (⟨1,[(⟨[0,0,0,0],[1,2,1,2]⟩:T_api_Trace)]⟩:T_api_Obs)).bind fun c54=>(merge_Run c54.1 [0,0,0,0,0]).bind fun c55=>(L35_gate).bind fun c56=>(merge_Sample c56).bind fun c57=>(merge_Complete c51.1 7).bind fun c58=>((R35_Same c51.1 (⟨1,0,[[1],[2],[(-1:Int)]],[[1],[2],[(-1:Int)]]⟩:T_api_Part)).bind fun c84=>cond (c84) (cond (decide (c51.2=0)) (cond ((!c52.2.1)) (cond (decide (c52.2.2=0)) ((R35_Same c53.1 (⟨1,0,[[1],[0]],[[1],[2]]⟩:T_api_Part)).bind fun c89=>cond (c89) (cond (c53.2.1) (cond (decide (c53.2.2=0)) ((R35_Same c54.1 (⟨1,0,[[1],[0]],[[1],[2]]⟩:T_api_Part)).bind fun c93=>cond (c93) (cond (decide (c54.2=0)) ((R01_Same c55.1 [1,2,1,2,1]).bind fun c96=>cond (c96) (cond (c55.2) ((R01_SameWords c57.1 [[1,1],[0,0,1],[0,1,1]]).bind fun c99=>cond (c99) (cond (decide (c57.2=0)) ((R01_SameWords c58.1.Next [[1],[2],[2]]).bind fun c102=>cond (c102) ((R01_SameWords c58.1.Out [[1],[2],[7]]).bind fun c104=>cond (c104) (some (decide (c58.2=0))) (some false)) (some false)) (some false)) (some false)) (some false)) (some false)) (some false)) (some false)) (some false)) (some false)) (some false)) (some false)) (some false)) (some false)) (some false):Option (Bool)).bind (fun (y83:Bool)=>some y83)
def R35_known.s2 (p_:T_api_Part) (class_:List Int) (c_:Int) (a_:Int) (q111:Nat):Option (Nat⊕(Unit⊕Int)) :=
 cond (decide ((↑q111:Int)<(↑(List.length class_):Int))) ((idxn class_ q111 fun e135=>cond (decide (e135=c_)) (idxn p_.Next q111 fun e137=>idx e137 a_ fun e138=>some (decide (e138≠(-1:Int)))) (some false):Option (Bool)).bind (fun (y134:Bool)=>cond (y134) (some (.inr (.inr (↑q111:Int)))) (some (.inl (q111+1))))) (some (.inr (.inl ())))
def R35_known (p_:T_api_Part) (class_:List Int) (c_:Int) (a_:Int):Option (Int) :=
 (iter (fun (s:Nat)=>R35_known.s2 p_ class_ c_ a_ s) fuel 0:Option (Unit⊕Int)).bind (Sum.elim (fun (_:Unit)=>some (-1:Int)) some)
def R35_place.s2 (l_:List Int) (n_:Int) (i94:Nat):Option (Nat⊕Nat) :=
 (cond (decide ((↑i94:Int)<(↑(List.length l_):Int))) (idxn l_ i94 fun e112=>some (decide (e112≠n_))) (some false):Option (Bool)).bind (fun (y110:Bool)=>cond (y110) (chk (inR ((↑i94:Int)+1)) (some (.inl (i94+1)))) (some (.inr i94)))
def R35_place (l_:List Int) (n_:Int):Option (Int) :=
 (iter (fun (s:Nat)=>R35_place.s2 l_ n_ s) fuel 0:Option (Nat)).bind (fun (i84:Nat)=>some (↑i84:Int))
def R35_Folded.k53 (a2332:Nat) (y2432:List Int) (y2433:List Int) (y2434:List Int):Option ((List Int×List Int×List Int×Nat)⊕(List Int×List Int×List Int)) :=
 chk (inR ((↑a2332:Int)+1)) (some (.inl (y2432,y2433,y2434,(a2332+1))))
def R35_Folded.s54 (p_:T_api_Part) (class_:List Int) (i1648:Nat) (y2329:List Int) (y2330:List Int) (y2331:List Int) (a2332:Nat):Option ((List Int×List Int×List Int×Nat)⊕(List Int×List Int×List Int)) :=
 cond (decide ((↑a2332:Int)<p_.Inputs)) ((idxn y2329 i1648 fun e2435=>(R35_known p_ class_ e2435 (↑a2332:Int)).bind fun c2436=>cond (decide (c2436=(-1:Int))) (chk (capOk (List.length y2330+1) 8) (chk (capOk (List.length y2331+1) 8) (some (y2329,(y2330++[(-1:Int)]),(y2331++[(-1:Int)]))))) (idx p_.Next c2436 fun e2440=>idxn e2440 a2332 fun e2441=>idx class_ e2441 fun e2442=>((R35_place y2329 e2442).bind fun c2449=>cond (decide (c2449=(↑(List.length y2329):Int))) (chk (capOk (List.length y2329+1) 8) (some (y2329++[e2442]))) (some y2329):Option (List Int)).bind (fun (y2448:List Int)=>(R35_place y2448 e2442).bind fun c2458=>chk (capOk (List.length y2330+1) 8) (idx p_.Out c2436 fun e2460=>idxn e2460 a2332 fun e2461=>chk (capOk (List.length y2331+1) 8) (some (y2448,(y2330++[c2458]),(y2331++[e2461])))))):Option (List Int×List Int×List Int)).bind (fun (s:List Int×List Int×List Int)=>R35_Folded.k53 a2332 s.1 s.2.1 s.2.2)) (some (.inr (y2329,y2330,y2331)))
def R35_Folded.k55 (y1646:List (List Int)) (y1647:List (List Int)) (i1648:Nat) (y2271:List Int) (y2272:List Int) (y2273:List Int):Option ((List Int×List (List Int)×List (List Int)×Nat)⊕(List Int×List (List Int)×List (List Int))) :=
 chk (capOk (List.length y1646+1) 24) (chk (capOk (List.length y1647+1) 24) (some (.inl (y2271,(y1646++[y2272]),(y1647++[y2273]),(i1648+1)))))
def R35_Folded.s56 (p_:T_api_Part) (class_:List Int) (y1645:List Int) (y1646:List (List Int)) (y1647:List (List Int)) (i1648:Nat):Option ((List Int×List (List Int)×List (List Int)×Nat)⊕(List Int×List (List Int)×List (List Int))) :=
 cond (decide ((↑i1648:Int)<(↑(List.length y1645):Int))) ((iter (fun (s:List Int×List Int×List Int×Nat)=>R35_Folded.s54 p_ class_ i1648 s.1 s.2.1 s.2.2.1 s.2.2.2) fuel (y1645,[],[],0):Option (List Int×List Int×List Int)).bind (fun (s:List Int×List Int×List Int)=>R35_Folded.k55 y1646 y1647 i1648 s.1 s.2.1 s.2.2)) (some (.inr (y1645,y1646,y1647)))
def R35_Folded.k57 (p_:T_api_Part) (y1269:List Int) (y1270:List (List Int)) (y1271:List (List Int)):Option (T_api_Part×List Int) :=
 some ((⟨p_.Inputs,0,y1270,y1271⟩:T_api_Part),y1269)
def R35_Folded (p_:T_api_Part) (class_:List Int):Option (T_api_Part×List Int) :=
 idx class_ p_.Start fun e51=>(iter (fun (s:List Int×List (List Int)×List (List Int)×Nat)=>R35_Folded.s56 p_ class_ s.1 s.2.1 s.2.2.1 s.2.2.2) fuel ([e51],[],[],0):Option (List Int×List (List Int)×List (List Int))).bind (fun (s:List Int×List (List Int)×List (List Int))=>R35_Folded.k57 p_ s.1 s.2.1 s.2.2)
def R35_join.s2 (e51:Int) (e52:Int) (e53:Int) (e54:Int) (y77:List Int) (q78:Nat):Option ((List Int×Nat)⊕List Int) :=
 cond (decide ((↑q78:Int)<(↑(List.length y77):Int))) (idxn y77 q78 fun e85=>cond (decide (e85=(max e53 e54))) (idxn y77 q78 fun e87=>some (.inl ((List.set y77 q78 (min e51 e52)),(q78+1)))) (some (.inl (y77,(q78+1))))) (some (.inr y77))
def R35_join (class_:List Int) (s_:Int) (t_:Int):Option (List Int) :=
 idx class_ s_ fun e51=>idx class_ t_ fun e52=>idx class_ s_ fun e53=>idx class_ t_ fun e54=>(iter (fun (s:List Int×Nat)=>R35_join.s2 e51 e52 e53 e54 s.1 s.2) fuel (class_,0):Option (List Int)).bind (fun (y72:List Int)=>some y72)
def R35_Classes.s2 (p_:T_api_Part) (y66:List Int) (q67:Nat):Option ((List Int×Nat)⊕List Int) :=
 cond (decide ((↑q67:Int)<(↑(List.length p_.Next):Int))) (idxn y66 q67 fun e72=>some (.inl ((List.set y66 q67 (↑q67:Int)),(q67+1)))) (some (.inr y66))
def R35_Classes.s196 (p_:T_api_Part) (y13231:List Int) (q13232:Nat):Option ((List Int×Nat)⊕List Int) :=
 cond (decide ((↑q13232:Int)<(↑(List.length p_.Next):Int))) (idxn y13231 q13232 fun e13237=>some (.inl ((List.set y13231 q13232 (-1:Int)),(q13232+1)))) (some (.inr y13231))
def R35_Classes.s198 (p_:T_api_Part) (y12837:List Int) (more12838:Bool) (a12839:Nat) (y13470:List Int) (q13471:Nat):Option ((List Int×Nat)⊕((List Int×Bool)⊕((List Int×Bool×Nat)⊕((List Int×Bool)⊕((List Int×Bool)⊕(List Int⊕(List Int×Bool))))))) :=
 cond (decide ((↑q13471:Int)<(↑(List.length p_.Next):Int))) ((idxn p_.Next q13471 fun e13556=>idxn e13556 a12839 fun e13557=>cond (decide (e13557=(-1:Int))) (some (.inl y13470)) (idxn y12837 q13471 fun e13559=>idx y13470 e13559 fun e13560=>cond (decide (e13560=(-1:Int))) (idxn y12837 q13471 fun e13562=>idx y13470 e13562 fun e13563=>some (.inl (List.set y13470 e13562.toNat (↑q13471:Int)))) (idx p_.Out e13560 fun e13564=>idxn e13564 a12839 fun e13565=>idxn p_.Out q13471 fun e13566=>idxn e13566 a12839 fun e13567=>cond (decide (e13565≠e13567)) (some (.inr (.inr (.inr (.inr (.inr (.inr (.inr ([],false))))))))) (idx p_.Next e13560 fun e13569=>idxn e13569 a12839 fun e13570=>idx y12837 e13570 fun e13571=>idxn p_.Next q13471 fun e13572=>idxn e13572 a12839 fun e13573=>idx y12837 e13573 fun e13574=>cond (decide (e13571≠e13574)) (idx p_.Next e13560 fun e13576=>idxn e13576 a12839 fun e13577=>idxn p_.Next q13471 fun e13578=>idxn e13578 a12839 fun e13579=>(R35_join y12837 e13577 e13579).bind fun c13580=>some (.inr (.inr (.inl (c13580,true))))) (some (.inl y13470))))):Option (List Int⊕((List Int×Nat)⊕((List Int×Bool)⊕((List Int×Bool×Nat)⊕((List Int×Bool)⊕((List Int×Bool)⊕(List Int⊕(List Int×Bool))))))))).bind (Sum.elim (fun (y13555:List Int)=>some (.inl (y13555,(q13471+1)))) some)) (some (.inr (.inl (y12837,more12838))))
def R35_Classes.k199 (a12839:Nat) (y13413:List Int) (more13414:Bool):Option ((List Int×Bool×Nat)⊕((List Int×Bool)⊕((List Int×Bool)⊕(List Int⊕(List Int×Bool))))) :=
 chk (inR ((↑a12839:Int)+1)) (some (.inl (y13413,more13414,(a12839+1))))
def R35_Classes.s200 (p_:T_api_Part) (y12837:List Int) (more12838:Bool) (a12839:Nat):Option ((List Int×Bool×Nat)⊕((List Int×Bool)⊕((List Int×Bool)⊕(List Int⊕(List Int×Bool))))) :=
 cond (decide ((↑a12839:Int)<p_.Inputs)) (chk ((0:Int)≤(↑(List.length p_.Next):Int)∧(↑(List.length p_.Next):Int)≤(↑(List.length p_.Next):Int)∧capOk (Int.toNat (↑(List.length p_.Next):Int)) 8) ((iter (fun (s:List Int×Nat)=>R35_Classes.s196 p_ s.1 s.2) fuel ((List.replicate (List.length p_.Next) (0:Int)),0):Option (List Int)).bind (fun (y13228:List Int)=>(iter (fun (s:List Int×Nat)=>R35_Classes.s198 p_ y12837 more12838 a12839 s.1 s.2) fuel (y13228,0):Option ((List Int×Bool)⊕((List Int×Bool×Nat)⊕((List Int×Bool)⊕((List Int×Bool)⊕(List Int⊕(List Int×Bool))))))).bind (Sum.elim (fun (s:List Int×Bool)=>R35_Classes.k199 a12839 s.1 s.2) some)))) (some (.inr (.inl (y12837,more12838))))
def R35_Classes.k201 (y12463:List Int) (more12464:Bool):Option ((List Int×Bool)⊕(List Int⊕(List Int×Bool))) :=
 some (.inl (y12463,more12464))
def R35_Classes.s202 (p_:T_api_Part) (y9084:List Int) (more9085:Bool):Option ((List Int×Bool)⊕(List Int⊕(List Int×Bool))) :=
 cond (more9085) ((iter (fun (s:List Int×Bool×Nat)=>R35_Classes.s200 p_ s.1 s.2.1 s.2.2) fuel (y9084,false,0):Option ((List Int×Bool)⊕((List Int×Bool)⊕(List Int⊕(List Int×Bool))))).bind (Sum.elim (fun (s:List Int×Bool)=>R35_Classes.k201 s.1 s.2) some)) (some (.inr (.inl y9084)))
def R35_Classes (p_:T_api_Part) (s_:Int) (t_:Int):Option (List Int×Bool) :=
 chk ((0:Int)≤(↑(List.length p_.Next):Int)∧(↑(List.length p_.Next):Int)≤(↑(List.length p_.Next):Int)∧capOk (Int.toNat (↑(List.length p_.Next):Int)) 8) ((iter (fun (s:List Int×Nat)=>R35_Classes.s2 p_ s.1 s.2) fuel ((List.replicate (List.length p_.Next) (0:Int)),0):Option (List Int)).bind (fun (y63:List Int)=>(R35_join y63 s_ t_).bind fun c75=>(iter (fun (s:List Int×Bool)=>R35_Classes.s202 p_ s.1 s.2) fuel (c75,true):Option (List Int⊕(List Int×Bool))).bind (Sum.elim (fun (y6833:List Int)=>some (y6833,true)) some)))
def R35_Fold (p_:T_api_Part) (s_:Int) (t_:Int):Option (T_api_Part×Bool×Int) :=
 (R35_Valid p_).bind fun c51=>cond (decide (c51≠0)) ((R35_Valid p_).bind fun c53=>some ((⟨0,0,[],[]⟩:T_api_Part),false,c53)) ((cond (decide (s_<0)) (some true) (cond (decide ((↑(List.length p_.Next):Int)≤s_)) (some true) (cond (decide (t_<0)) (some true) (some (decide ((↑(List.length p_.Next):Int)≤t_))))):Option (Bool)).bind (fun (y59:Bool)=>cond (y59) (some ((⟨0,0,[],[]⟩:T_api_Part),false,2)) ((R35_Classes p_ s_ t_).bind fun c64=>cond ((!c64.2)) (some ((⟨0,0,[],[]⟩:T_api_Part),false,0)) ((R35_Folded p_ c64.1).bind fun c66=>some (c66.1,true,0)))))
def R35_Complete.s18 (p_:T_api_Part) (out_:Int) (s328:Nat) (y438:List Int) (y439:List Int) (a440:Nat):Option ((List Int×List Int×Nat)⊕(List Int×List Int)) :=
 cond (decide ((↑a440:Int)<p_.Inputs)) (idxn y438 a440 fun e450=>cond (decide (e450=(-1:Int))) (idxn y438 a440 fun e452=>idxn y439 a440 fun e453=>chk (inR ((↑a440:Int)+1)) (some (.inl ((List.set y438 a440 (↑s328:Int)),(List.set y439 a440 out_),(a440+1))))) (chk (inR ((↑a440:Int)+1)) (some (.inl (y438,y439,(a440+1)))))) (some (.inr (y438,y439)))
def R35_Complete.k19 (y326:List (List Int)) (y327:List (List Int)) (s328:Nat) (y431:List Int) (y432:List Int):Option ((List (List Int)×List (List Int)×Nat)⊕(List (List Int)×List (List Int))) :=
 chk (capOk (List.length y326+1) 24) (chk (capOk (List.length y327+1) 24) (some (.inl ((y326++[y431]),(y327++[y432]),(s328+1)))))
def R35_Complete.s20 (p_:T_api_Part) (out_:Int) (y326:List (List Int)) (y327:List (List Int)) (s328:Nat):Option ((List (List Int)×List (List Int)×Nat)⊕(List (List Int)×List (List Int))) :=
 cond (decide ((↑s328:Int)<(↑(List.length p_.Next):Int))) (idxn p_.Next s328 fun e399=>chk (capOk (List.length ([]:List Unit)+List.length e399) 8) (idxn p_.Out s328 fun e401=>chk (capOk (List.length ([]:List Unit)+List.length e401) 8) ((iter (fun (s:List Int×List Int×Nat)=>R35_Complete.s18 p_ out_ s328 s.1 s.2.1 s.2.2) fuel (([]++e399),([]++e401),0):Option (List Int×List Int)).bind (fun (s:List Int×List Int)=>R35_Complete.k19 y326 y327 s328 s.1 s.2)))) (some (.inr (y326,y327)))
def R35_Complete.k21 (p_:T_api_Part) (y264:List (List Int)) (y265:List (List Int)):Option (T_api_Mealy×Int) :=
 some ((⟨p_.Inputs,p_.Start,y264,y265⟩:T_api_Mealy),0)
def R35_Complete (p_:T_api_Part) (out_:Int):Option (T_api_Mealy×Int) :=
 (R35_Valid p_).bind fun c51=>cond (decide (c51≠0)) ((R35_Valid p_).bind fun c53=>some ((⟨0,0,[],[]⟩:T_api_Mealy),c53)) ((cond (decide (out_<0)) (some true) (some (decide (1048576<out_))):Option (Bool)).bind (fun (y57:Bool)=>cond (y57) (some ((⟨0,0,[],[]⟩:T_api_Mealy),2)) (cond (decide (128<(↑(List.length p_.Next):Int))) (some ((⟨0,0,[],[]⟩:T_api_Mealy),11)) ((iter (fun (s:List (List Int)×List (List Int)×Nat)=>R35_Complete.s20 p_ out_ s.1 s.2.1 s.2.2) fuel ([],[],0):Option (List (List Int)×List (List Int))).bind (fun (s:List (List Int)×List (List Int))=>R35_Complete.k21 p_ s.1 s.2)))))
def R06_Ints.s2 (a_:List Int) (b_:List Int) (i73:Nat):Option (Nat⊕(Unit⊕Bool)) :=
 cond (decide ((↑i73:Int)<(↑(List.length a_):Int))) (idxn a_ i73 fun e80=>idxn b_ i73 fun e81=>cond (decide (e80≠e81)) (some (.inr (.inr false))) (some (.inl (i73+1)))) (some (.inr (.inl ())))
def R06_Ints (a_:List Int) (b_:List Int):Option (Bool) :=
 cond (decide ((↑(List.length a_):Int)≠(↑(List.length b_):Int))) (some false) ((iter (fun (s:Nat)=>R06_Ints.s2 a_ b_ s) fuel 0:Option (Unit⊕Bool)).bind (Sum.elim (fun (_:Unit)=>some true) some))
def R06_Lists.s2 (a_:List (List Int)) (b_:List (List Int)) (i77:Nat):Option (Nat⊕(Unit⊕Bool)) :=
 cond (decide ((↑i77:Int)<(↑(List.length a_):Int))) (idxn a_ i77 fun e85=>idxn b_ i77 fun e86=>(R06_Ints e85 e86).bind fun c87=>cond ((!c87)) (some (.inr (.inr false))) (some (.inl (i77+1)))) (some (.inr (.inl ())))
def R06_Lists (a_:List (List Int)) (b_:List (List Int)):Option (Bool) :=
 cond (decide ((↑(List.length a_):Int)≠(↑(List.length b_):Int))) (some false) ((iter (fun (s:Nat)=>R06_Lists.s2 a_ b_ s) fuel 0:Option (Unit⊕Bool)).bind (Sum.elim (fun (_:Unit)=>some true) some))
def R06_Same (a_:T_api_Mealy) (b_:T_api_Mealy):Option (Bool) :=
 (cond (decide (a_.Inputs=b_.Inputs)) (cond (decide (a_.Start=b_.Start)) ((R06_Lists a_.Next b_.Next).bind fun c61=>cond (c61) ((R06_Lists a_.Out b_.Out).bind fun c63=>some c63) (some false)) (some false)) (some false):Option (Bool)).bind (fun (y58:Bool)=>some y58)
def L35_MergeParts (given_:T_learnerlaw35_Parts):Option (Bool) :=
 ((R35_Great given_.P).bind fun c56=>cond (c56) (some true) (some (decide (40<(↑(List.length given_.W):Int)))):Option (Bool)).bind (fun (y55:Bool)=>cond (y55) ((L35_awake).bind fun c62=>some c62) ((merge_Run given_.P given_.W).bind fun c63=>(R35_Run given_.P given_.W).bind fun c64=>(merge_Fold given_.P given_.S given_.T).bind fun c65=>(R35_Fold given_.P given_.S given_.T).bind fun c66=>(merge_Complete given_.P given_.Out).bind fun c67=>(R35_Complete given_.P given_.Out).bind fun c68=>((merge_Valid given_.P).bind fun c86=>(R35_Valid given_.P).bind fun c87=>cond (decide (c86=c87)) ((R01_Same c63.1 c64.1).bind fun c89=>cond (c89) (cond ((c63.2==c64.2)) ((R35_Same c65.1 c66.1).bind fun c92=>cond (c92) (cond ((c65.2.1==c66.2.1)) (cond (decide (c65.2.2=c66.2.2)) ((R06_Same c67.1 c68.1).bind fun c96=>cond (c96) (cond (decide (c67.2=c68.2)) ((L35_awake).bind fun c99=>some c99) (some false)) (some false)) (some false)) (some false)) (some false)) (some false)) (some false)) (some false):Option (Bool)).bind (fun (y85:Bool)=>some y85)))
end Go.Proofs.YteigfkncoiiaiaaGreatDoor.Sym

/-
 Laws of rounds: what a loop comes to, in plain words. No program in sight.
-/
namespace Go.Proofs.YteigfkncoiiaiaaGreatDoor.Sym
section
variable {S R A B α β:Type}
theorem iter_post {step:S→Option (S⊕R)} (I:S→Prop) (m:S→Nat) (Q:R→Prop) (h:∀ s,I s→(∃ s',step s=some (.inl s')∧I s'∧m s'<m s)∨∃ r,step s=some (.inr r)∧Q r) :
  ∀ (n:Nat) (s:S),I s→m s<n→∃ r,iter step n s=some r∧Q r
 | 0,_,_,hm=>absurd hm (Nat.not_lt_zero _)
 | n+1,s,hi,hm=>by
  unfold iter
  rcases h s hi with ⟨s',e,hi',hm'⟩ | ⟨r,e,hq⟩
  ·rw [e]
   exact iter_post I m Q h n s' hi' (by omega)
  ·rw [e]
   exact ⟨r,rfl,hq⟩
theorem iter_eq {step:S→Option (S⊕R)} {r:R} (I:S→Prop) (m:S→Nat) (h:∀ s,I s→(∃ s',step s=some (.inl s')∧I s'∧m s'<m s)∨step s=some (.inr r)) {n:Nat} {s:S} (hi:I s) (hm:m s<n):iter step n s=some r:=by
 obtain ⟨r',e,rfl⟩:=iter_post I m (fun r'=>r'=r) (fun s hs=>(h s hs).imp id fun e=>⟨r,e,rfl⟩) n s hi hm
 exact e
def walk (g:A→Nat→α→Option (A⊕R)) (fin:A→Option R):A→Nat→List α→Option R
 | a,_,[]=>fin a
 | a,i,x::l=>(g a i x).bind (Sum.elim (fun a'=>walk g fin a' (i+1) l) some)
theorem idxn_at {l:List α} {i:Nat} {x:α} {k:α→Option β} (h:l[i]?=some x):idxn l i k=k x:=by unfold idxn;rw [h]
theorem idx_at {l:List α} {n:Int} {i:Nat} {x:α} {k:α→Option β} (hn:n=(i:Int)) (h:l[i]?=some x):idx l n k=k x:=by
 subst hn
 unfold idx
 rw [if_pos (by omega),Int.toNat_natCast,h]
theorem chk_pos {c:Prop} [Decidable c] {k:Option α} (h:c):chk c k=k:=by unfold chk;rw [if_pos h]
theorem obind {a:α} {f:α→Option β}:(some a).bind f=f a:=(Option.bind_some a f).trans (Eq.trans rfl rfl)
theorem fuel_big:100000000000000<fuel:=by unfold fuel;omega
theorem dec_lt {l:List α} {i:Nat} {x:α} (h:l[i]?=some x):decide ((↑i:Int)<(↑l.length:Int))=true:=by
 have:=(List.getElem?_eq_some_iff.1 h).1
 simpa using this
theorem dec_end (l:List α):decide ((↑l.length:Int)<(↑l.length:Int))=false:=by simp
def scan (g:Nat→α→Option R):Nat→List α→Option R
 | _,[]=>none
 | i,x::l=>match g i x with | some r=>some r | none=>scan g (i+1) l
theorem scan_none {g:Nat→α→Option R}:∀ {l:List α} {j:Nat},scan g j l=none↔∀ i x,l[i]?=some x→g (j+i) x=none
 | [],j=>by simp [scan]
 | y::l,j=>by
  constructor
  ·intro h i x hx
   unfold scan at h
   cases e:g j y with
   | some r=>rw [e] at h;cases h
   | none =>
    rw [e] at h
    match i,hx with
    | 0,hx =>
     simp at hx
     subst hx
     exact e
    | i+1,hx =>
     have:=(scan_none (g:=g) (l:=l) (j:=j+1)).1 h i x (by simpa using hx)
     rwa [show j+1+i=j+(i+1) by omega] at this
  ·intro h
   unfold scan
   have h0:=h 0 y rfl
   rw [Nat.add_zero] at h0
   rw [h0]
   exact (scan_none (g:=g) (l:=l) (j:=j+1)).2 fun i x hx=>by
    have:=h (i+1) x (by simpa using hx)
    rwa [show j+(i+1)=j+1+i by omega] at this
theorem iter_scan {step:Nat→Option (Nat⊕(Unit⊕R))} {l:List α} (g:Nat→α→Option R) (h1:∀ i x,l[i]?=some x→step i=some (match g i x with | some r=>.inr (.inr r) | none=>.inl (i+1))) (h2:step l.length=some (.inr (.inl ()))) (hl:l.length≤100000000000000) :
  iter step fuel 0=some (match scan g 0 l with | some r=>.inr r | none=>.inl ()):=by
 have key:∀ (n i:Nat),i≤l.length→l.length-i<n→iter step n i=some (match scan g i (l.drop i) with | some r=>.inr r | none=>.inl ()):=by
  intro n
  induction n with
  | zero=>intro i _ h;omega
  | succ n ih =>
   intro i hi hn
   rcases Nat.lt_or_ge i l.length with h | h
   ·rw [List.drop_eq_getElem_cons h]
    unfold iter scan
    rw [h1 i _ (List.getElem?_eq_getElem h)]
    cases g i l[i] with
    | some r=>rfl
    | none=>exact ih (i+1) h (by omega)
   ·have e:i=l.length:=by omega
    subst e
    rw [List.drop_length]
    unfold iter scan
    rw [h2]
 exact key fuel 0 (Nat.zero_le _) (by have:=fuel_big;omega)
end
end Go.Proofs.YteigfkncoiiaiaaGreatDoor.Sym

/-
 The comparisons of words are what they say; they may be handed to a sort.
-/
namespace Go.Proofs.YteigfkncoiiaiaaGreatDoor.Sym
open Go.RowKit
set_option maxRecDepth 100000
theorem cmp_Compare_int_eq (x y:Int):cmp_Compare_int x y=some (cmpI x y):=by
 unfold cmp_Compare_int cmp_isNaN_int cmpI
 by_cases h1:x<y
 ·simp [h1]
 ·by_cases h2:y<x<;>simp [h1,h2]
theorem slices_Compare_eq (s t:List Int) (hs:s.length≤100000000000000):slices_Compare_Sint_int s t=some (lexI s t):=by
 have key:=iter_post (step:=fun k=>slices_Compare_Sint_int.s2 s t k) (fun k=>k≤s.length∧k≤t.length∧lexI s t=lexI (s.drop k) (t.drop k)) (fun k=>s.length-k)
  (fun r=>Sum.elim (fun (_:Unit)=>cond (decide ((↑(List.length s):Int)<(↑(List.length t):Int))) (some (-1:Int)) (some 0)) some r=some (lexI s t)) (fun k ⟨h1,h2,h3⟩=>by
   unfold slices_Compare_Sint_int.s2
   rcases Nat.lt_or_ge k s.length with h | h
   ·have hx:=List.getElem?_eq_getElem h
    rw [dec_lt hx,cond_true,idxn_at hx]
    by_cases h4:t.length≤k
    ·right
     refine ⟨.inr 1,by simp [h4],?_⟩
     rw [h3,lexI_long h h4]
     rfl
    ·have hy:=List.getElem?_eq_getElem (show k<t.length by omega)
     have hst:=lexI_step hx hy
     have d4:decide ((↑(List.length t):Int)≤(↑k:Int))=false:=by simp;omega
     rw [d4,cond_false,idxn_at hy,cmp_Compare_int_eq]
     by_cases h5:cmpI s[k] t[k]=0
     ·left
      rw [if_pos h5] at hst
      exact ⟨k+1,by simp [h5],⟨by omega,by omega,by rw [h3,hst]⟩,by omega⟩
     ·right
      rw [if_neg h5] at hst
      exact ⟨.inr (cmpI s[k] t[k]),by simp [h5],by rw [h3,hst];rfl⟩
   ·right
    have e:k=s.length:=by omega
    subst e
    rw [dec_end,cond_false]
    refine ⟨.inl (),rfl,?_⟩
    rw [h3,lexI_end (Nat.le_refl _)]
    by_cases h4:s.length<t.length<;>simp [h4]) fuel 0 ⟨Nat.zero_le _,Nat.zero_le _,rfl⟩ (by have:=fuel_big;simp only [Nat.sub_zero];omega)
 obtain ⟨r,e,hq⟩:=key
 unfold slices_Compare_Sint_int
 rw [e]
 exact hq
theorem cmp_Or_two (x y:Int):cmp_Or_int [x,y]=some (if x≠0 then x else y):=by
 unfold cmp_Or_int
 have e:fuel=(fuel-3)+1+1+1:=by unfold fuel;omega
 rw [e]
 by_cases h1:x=0
 ·by_cases h2:y=0
  ·simp [iter,cmp_Or_int.s2,idxn,h1,h2]
  ·simp [iter,cmp_Or_int.s2,idxn,h1,h2]
 ·simp [iter,cmp_Or_int.s2,idxn,h1]
theorem word_Lex_eq (s t:List Int) (hs:s.length≤100000000000000):word_Lex s t=some (lexI s t):=by
 unfold word_Lex
 rw [slices_Compare_eq s t hs]
 rfl
theorem word_Compare_eq (s t:List Int) (hs:s.length≤100000000000000):word_Compare s t=some (cmpW s t):=by
 unfold word_Compare
 rw [slices_Compare_eq s t hs,cmp_Compare_int_eq]
 show (cmp_Or_int [cmpI s.length t.length,lexI s t]).bind some=_
 rw [cmp_Or_two]
 show some _=some _
 congr 1
 unfold cmpI cmpW
 by_cases h1:s.length<t.length
 ·simp [h1]
 ·by_cases h2:t.length<s.length
  ·simp [h1,h2]
  ·simp [h1,h2]
theorem cmpE_word_Lex:CmpE Tryz.prog 99 (fun x=>nL cI x) (fun x y=>word_Lex x y) :=
 ⟨fun args w=>run_enter rfl rfl rfl args w,cmpG_lex fun x y r hx h=>by rw [word_Lex_eq x y (by omega)] at h;injection h with h;exact h.symm⟩
theorem cmpE_word_Compare:CmpE Tryz.prog 96 (fun x=>nL cI x) (fun x y=>word_Compare x y) :=
 ⟨fun args w=>run_enter rfl rfl rfl args w,cmpG_compare fun x y r hx h=>by rw [word_Compare_eq x y (by omega)] at h;injection h with h;exact h.symm⟩
theorem cmpE_observe_fits_1:CmpE Tryz.prog 110 (fun x=>.agg (c_api_Trace x)) (fun x y=>observe_fits_1 x y) :=
 ⟨fun args w=>run_enter rfl rfl rfl args w,cmpG_fits1 (T:=T_api_Trace) (i:=fun x=>x.In) (o:=fun x=>x.Out) (f:=fun x y=>observe_fits_1 x y) (fun _=>rfl) fun x y r hx h=>by
  simp only [observe_fits_1] at h
  rw [word_Lex_eq _ _ (by omega)] at h
  injection h with h
  exact h.symm⟩
end Go.Proofs.YteigfkncoiiaiaaGreatDoor.Sym

/-
 What the basic functions on words come to: plain laws.
-/
namespace Go.Proofs.YteigfkncoiiaiaaGreatDoor.Sym
set_option maxRecDepth 100000
section
variable {α β R:Type}
theorem get_at {l:List α} {i:Nat} (h:i<l.length):l[i]?=some l[i]:=List.getElem?_eq_getElem h
theorem iter_all2 [DecidableEq α] {a b:List α} {step:Nat→Option (Nat⊕(Unit⊕Bool))} (hlen:a.length=b.length) (h1:∀ i x y,a[i]?=some x→b[i]?=some y→step i=some (if x=y then .inl (i+1) else .inr (.inr false)))
  (h2:step a.length=some (.inr (.inl ()))) (hl:a.length≤100000000000000):(iter step fuel 0).bind (Sum.elim (fun _=>some true) some)=some (decide (a=b)):=by
 rw [iter_scan (l:=a) (fun i x=>if b[i]?=some x then none else some false) (fun i x hx=>?_) h2 hl]
 ·cases e:scan (fun i x=>if b[i]?=some x then none else some false) 0 a with
  | none =>
   have:=scan_none.1 e
   have hab:a=b:=by
    apply List.ext_getElem?
    intro i
    rcases Nat.lt_or_ge i a.length with h | h
    ·have h3:=this i _ (get_at h)
     rw [Nat.zero_add] at h3
     split at h3
     ·rename_i h4
      rw [get_at h,h4]
     ·cases h3
    ·rw [List.getElem?_eq_none h,List.getElem?_eq_none (by omega)]
   simp [hab]
  | some r =>
   have hne:a≠b:=fun hab=>by
    subst hab
    have:scan (fun i x=>if a[i]?=some x then none else some false) 0 a=none:=scan_none.2 fun i x hx=>by rw [Nat.zero_add,if_pos hx]
    rw [this] at e
    cases e
   have hr:r=false:=by
    have key:∀ (l:List α) (j:Nat),scan (fun i x=>if b[i]?=some x then none else some false) j l=some r→r=false:=by
     intro l
     induction l with
     | nil=>intro j h;cases h
     | cons x l ih =>
      intro j h
      unfold scan at h
      split at h
      ·rename_i r' h3
       injection h with h
       subst h
       split at h3
       ·cases h3
       ·injection h3 with h3
        exact h3.symm
      ·exact ih _ h
    exact key a 0 e
   subst hr
   simp [hne]
 ·have hi:=(List.getElem?_eq_some_iff.1 hx).1
  have hy:=get_at (l:=b) (i:=i) (by omega)
  rw [h1 i x _ hx hy]
  by_cases h:x=b[i]'(by omega)
  ·rw [if_pos h,hy,if_pos (by rw [h])]
  ·rw [if_neg h,hy,if_neg (fun h3=>h (by injection h3 with h3;exact h3.symm))]
end
theorem R06_Ints_eq (a b:List Int) (hl:a.length≤100000000000000):R06_Ints a b=some (decide (a=b)):=by
 unfold R06_Ints
 by_cases hlen:a.length=b.length
 ·rw [show decide ((↑(List.length a):Int)≠(↑(List.length b):Int))=false by simp [hlen],cond_false]
  refine iter_all2 hlen (fun i x y hx hy=>?_) ?_ hl
  ·simp only [R06_Ints.s2]
   rw [dec_lt hx,cond_true,idxn_at hx,idxn_at hy]
   by_cases h:x=y<;>simp [h]
  ·simp only [R06_Ints.s2]
   rw [dec_end]
   rfl
 ·rw [show decide ((↑(List.length a):Int)≠(↑(List.length b):Int))=true by simp;omega,cond_true]
  have:a≠b:=fun h=>hlen (by rw [h])
  simp [this]
theorem R06_Lists_eq (a b:List (List Int)) (hl:a.length≤100000000000000) (hw:∀ x∈a,x.length≤100000000000000):R06_Lists a b=some (decide (a=b)):=by
 unfold R06_Lists
 by_cases hlen:a.length=b.length
 ·rw [show decide ((↑(List.length a):Int)≠(↑(List.length b):Int))=false by simp [hlen],cond_false]
  refine iter_all2 hlen (fun i x y hx hy=>?_) ?_ hl
  ·simp only [R06_Lists.s2]
   rw [dec_lt hx,cond_true,idxn_at hx,idxn_at hy,R06_Ints_eq x y (hw x (List.mem_of_getElem? hx))]
   by_cases h:x=y<;>simp [h]
  ·simp only [R06_Lists.s2]
   rw [dec_end]
   rfl
 ·rw [show decide ((↑(List.length a):Int)≠(↑(List.length b):Int))=true by simp;omega,cond_true]
  have:a≠b:=fun h=>hlen (by rw [h])
  simp [this]
def SmW (x:List Int):Prop:=x.length≤2000000
def SmL (l:List (List Int)):Prop:=l.length≤2000000∧∀ x∈l,SmW x
theorem R01_Common_eq (a b:List Int) (ha:SmW a):R01_Common a b=some (common a b:Int):=by
 unfold R01_Common
 rw [iter_eq (r:=common a b) (fun k=>k≤a.length∧common a b=common (a.drop k) (b.drop k)+k) (fun k=>a.length-k) (fun k ⟨h1,h2⟩=>?_) ⟨Nat.zero_le _,by simp⟩ (by have:=fuel_big;unfold SmW at ha;omega)]
 ·rfl
 ·simp only [R01_Common.s2]
  rcases Nat.lt_or_ge k a.length with h | h
  ·have hx:=get_at h
   rcases Nat.lt_or_ge k b.length with h' | h'
   ·have hy:=get_at h'
    rw [dec_lt hx,dec_lt hy,cond_true,cond_true,idxn_at hx,idxn_at hy]
    rw [List.drop_eq_getElem_cons h,List.drop_eq_getElem_cons h'] at h2
    by_cases e:a[k]=b[k]
    ·left
     unfold SmW at ha
     refine ⟨k+1,?_,⟨h,?_⟩,by omega⟩
     ·rw [chk_pos (by unfold inR;omega)]
      simp [e]
     ·rw [h2,e]
      simp [common]
      omega
    ·right
     simp only [common,e,if_false,Nat.zero_add] at h2
     simp [e,h2]
   ·right
    rw [dec_lt hx,cond_true,show decide ((↑k:Int)<(↑(List.length b):Int))=false by simp;omega]
    rw [common_end (Or.inr h'),Nat.zero_add] at h2
    simp [h2]
  ·right
   rw [show decide ((↑k:Int)<(↑(List.length a):Int))=false by simp;omega]
   rw [common_end (Or.inl h),Nat.zero_add] at h2
   simp [h2]
theorem R01_Same_eq (a b:List Int) (ha:SmW a):R01_Same a b=some (decide (a=b)):=by
 unfold R01_Same
 rw [R01_Common_eq a b ha]
 have h:=same_iff a b
 by_cases h1:a.length=b.length
 ·rw [show decide ((↑(List.length a):Int)=(↑(List.length b):Int))=true from decide_eq_true (by omega),cond_true]
  by_cases h2:common a b=a.length
  ·have:a=b:=h.1 ⟨h1,h2⟩
   subst this
   simp [common_self]
  ·have:a≠b:=fun e=>h2 (h.2 e).2
   simp only [Option.bind_some,this,decide_false]
   rw [decide_eq_false (by omega)]
 ·have:a≠b:=fun e=>h1 (by rw [e])
  rw [show decide ((↑(List.length a):Int)=(↑(List.length b):Int))=false from decide_eq_false (by omega),cond_false]
  simp [this]
end Go.Proofs.YteigfkncoiiaiaaGreatDoor.Sym

/-
 Tables: the first one, and what makes a table valid: the program's answer and the document's are one plain number.
-/
namespace Go.Proofs.YteigfkncoiiaiaaGreatDoor.Sym
set_option maxRecDepth 100000
section
variable {κ ν:Type} [BEq κ]
theorem mget_mset_same {k:κ} {v:ν} (hb:∀ a b:κ,(a==b)=true↔a=b):∀ m:List (κ×ν),mget k (mset k v m)=some v
 | []=>by
  unfold mset mget
  rw [(hb k k).2 rfl]
 | p::m=>by
  unfold mset
  cases h:k==p.1 with
  | true =>
   show mget k ((k,v)::m)=_
   unfold mget
   rw [(hb k k).2 rfl]
  | false =>
   show mget k (p::mset k v m)=_
   unfold mget
   rw [h]
   exact mget_mset_same hb m
theorem mget_mset_ne {k k':κ} {v:ν} (hb:∀ a b:κ,(a==b)=true↔a=b) (hne:¬ k'=k):∀ m:List (κ×ν),mget k' (mset k v m)=mget k' m
 | []=>by
  have e:(k'==k)=false:=by
   cases e:k'==k with
   | true=>exact absurd ((hb _ _).1 e) hne
   | false=>rfl
  unfold mset mget
  simp only [e]
  rfl
 | p::m=>by
  unfold mset
  cases h:k==p.1 with
  | true =>
   have e1:k=p.1:=(hb _ _).1 h
   show mget k' ((k,v)::m)=mget k' (p::m)
   have e:(k'==k)=false:=by
    cases e:k'==k with
    | true=>exact absurd ((hb _ _).1 e) hne
    | false=>rfl
   unfold mget
   rw [← e1]
   simp only [e]
  | false =>
   show mget k' (p::mset k v m)=mget k' (p::m)
   unfold mget
   rw [mget_mset_ne hb hne m]
end
def SmT (t:T_api_Table):Prop:=inR t.Inputs∧SmL t.Prefixes∧SmL t.Suffixes∧∀ x∈t.Prefixes,∀ a∈x,inR a
end Go.Proofs.YteigfkncoiiaiaaGreatDoor.Sym

/-
 Partial machines: checks, runs, completions. Plain laws.
-/
namespace Go.Proofs.YteigfkncoiiaiaaGreatDoor.Sym
set_option maxRecDepth 100000
def cellE (n:Nat) (t o:Int):Int:=if t < -1∨(↑n:Int)≤t∨o < -1∨1048576<o then 2 else if (t=-1)≠(o=-1) then 1 else 0
def cellP (n:Nat) (y:List Int) (a:Nat) (t:Int):Option Int:=if cellE n t ((y[a]?).getD 0)≠0 then some (cellE n t ((y[a]?).getD 0)) else none
def rowG (p:T_api_Part) (s:Nat) (x:List Int):Option Int:=if (↑x.length:Int)≠p.Inputs∨(↑((p.Out[s]?).getD []).length:Int)≠p.Inputs then some 1 else scan (cellP p.Next.length ((p.Out[s]?).getD [])) 0 x
def validP (p:T_api_Part):Int:=if p.Inputs<1∨64<p.Inputs then 2 else if p.Next.length=0 then 19 else if 4096<p.Next.length then 11 else if p.Start<0∨(↑p.Next.length:Int)≤p.Start then 2 else if p.Out.length≠p.Next.length then 1 else match scan (rowG p) 0 p.Next with | some e=>e | none=>0
theorem cell_cond (n:Nat) (t o:Int) {β:Type} (k2 k1 k0:Option β):((cond (decide (t<(-1:Int))) (some true) (cond (decide ((↑n:Int)≤t)) (some true) (cond (decide (o<(-1:Int))) (some true) (some (decide (1048576<o))))):Option Bool).bind fun (y:Bool)=>cond y k2 (cond ((!((decide (t=(-1:Int)))==(decide (o=(-1:Int)))))) k1 k0))=if cellE n t o=2 then k2 else if cellE n t o=1 then k1 else k0:=by
 have two:(t < -1∨(↑n:Int)≤t∨o < -1∨1048576<o)→(if cellE n t o=2 then k2 else if cellE n t o=1 then k1 else k0)=k2:=fun h=>by
  have e:cellE n t o=2:=if_pos h
  rw [e]
  rfl
 by_cases h1:t < -1
 ·rw [decide_eq_true h1,cond_true,obind,cond_true,two (.inl h1)]
 rw [decide_eq_false h1,cond_false]
 by_cases h2:(↑n:Int)≤t
 ·rw [decide_eq_true h2,cond_true,obind,cond_true,two (.inr (.inl h2))]
 rw [decide_eq_false h2,cond_false]
 by_cases h3:o < -1
 ·rw [decide_eq_true h3,cond_true,obind,cond_true,two (.inr (.inr (.inl h3)))]
 rw [decide_eq_false h3,cond_false,obind]
 by_cases h4:1048576<o
 ·rw [decide_eq_true h4,cond_true,two (.inr (.inr (.inr h4)))]
 rw [decide_eq_false h4,cond_false]
 have e0:cellE n t o=if (t=-1)≠(o=-1) then 1 else 0:=if_neg (by omega)
 rw [e0]
 by_cases h5:t=-1<;>by_cases h6:o=-1<;>simp [h5,h6]
theorem cellE_cases (n:Nat) (t o:Int):cellE n t o=0∨cellE n t o=1∨cellE n t o=2:=by
 unfold cellE
 split
 ·exact .inr (.inr rfl)
 ·split
  ·exact .inr (.inl rfl)
  ·exact .inl rfl
theorem scan_wrap {α R S:Type} {g:Nat→α→Option R} (f:R→S):∀ (l:List α) (j:Nat),scan (fun i x=>(g i x).map f) j l=(scan g j l).map f
 | [],_=>rfl
 | x::l,j=>by
  unfold scan
  cases h:g j x with
  | some r=>rfl
  | none=>exact scan_wrap f l (j+1)
theorem merge_Valid_eq {p:T_api_Part} (hl:p.Next.length≤10000000):merge_Valid p=some (validP p):=by
 unfold merge_Valid validP
 have hsp:(cond (decide (p.Start<0)) (some true) (some (decide ((↑(List.length p.Next):Int)≤p.Start))):Option Bool)=some (decide (p.Start<0∨(↑p.Next.length:Int)≤p.Start)):=by
  by_cases h:p.Start<0
  ·rw [decide_eq_true h,cond_true,decide_eq_true (.inl h)]
  ·rw [decide_eq_false h,cond_false];simp [h]
 by_cases h0:p.Inputs<1
 ·rw [decide_eq_true h0,cond_true,obind,cond_true,if_pos (.inl h0)]
 rw [decide_eq_false h0,cond_false,obind]
 by_cases h1:64<p.Inputs
 ·rw [decide_eq_true h1,cond_true,if_pos (.inr h1)]
 rw [decide_eq_false h1,cond_false,if_neg (by omega)]
 by_cases h2:p.Next.length=0
 ·rw [decide_eq_true (by omega),cond_true,if_pos h2]
 rw [decide_eq_false (by omega),cond_false,if_neg h2]
 by_cases h3:4096<p.Next.length
 ·rw [decide_eq_true (by omega),cond_true,if_pos h3]
 rw [decide_eq_false (by omega),cond_false,if_neg h3,hsp,obind]
 by_cases h4:p.Start<0∨(↑p.Next.length:Int)≤p.Start
 ·rw [decide_eq_true h4,cond_true,if_pos h4]
 rw [decide_eq_false h4,cond_false,if_neg h4]
 by_cases h5:p.Out.length≠p.Next.length
 ·rw [decide_eq_true (by omega),cond_true,if_pos h5]
 rw [decide_eq_false (by omega),cond_false,if_neg h5,iter_scan (l:=p.Next) (rowG p) (fun s x hx=>by
  have hs:=(List.getElem?_eq_some_iff.1 hx).1
  have hy:=get_at (l:=p.Out) (i:=s) (by omega)
  simp only [merge_Valid.s14,rowG]
  rw [dec_lt hx,cond_true,idxn_at hx,hy,Option.getD_some]
  by_cases k1:(↑x.length:Int)≠p.Inputs
  ·rw [decide_eq_true k1,cond_true,obind,cond_true,if_pos (.inl k1)]
  rw [decide_eq_false k1,cond_false,idxn_at hy,obind]
  by_cases k2:(↑p.Out[s].length:Int)≠p.Inputs
  ·rw [decide_eq_true k2,cond_true,if_pos (.inr k2)]
  rw [decide_eq_false k2,cond_false,if_neg (fun h=>h.elim k1 k2),idxn_at hx,iter_scan (l:=x) (fun a t=>(cellP p.Next.length p.Out[s] a t).map fun e=>(Sum.inr (Sum.inr e):Nat⊕(Unit⊕Int))) (fun a t ht=>by
   have ha:=(List.getElem?_eq_some_iff.1 ht).1
   have hz:=get_at (l:=p.Out[s]) (i:=a) (by omega)
   simp only [merge_Valid.s13,cellP]
   rw [dec_lt ht,cond_true,idxn_at ht,idxn_at hy,idxn_at hz,hz,Option.getD_some,cell_cond]
   rcases cellE_cases p.Next.length t p.Out[s][a] with e | e | e<;>rw [e]<;>rfl) (by simp only [merge_Valid.s13];rw [dec_end,cond_false]) (by omega),obind,scan_wrap]
  cases scan (cellP p.Next.length p.Out[s]) 0 x<;>rfl) (by simp only [merge_Valid.s14];rw [dec_end,cond_false]) (by omega),obind]
 cases scan (rowG p) 0 p.Next<;>rfl
theorem R35_Valid_eq {p:T_api_Part} (hl:p.Next.length≤10000000):R35_Valid p=some (validP p):=by
 unfold R35_Valid validP
 have hsp:(cond (decide (p.Start<0)) (some true) (some (decide ((↑(List.length p.Next):Int)≤p.Start))):Option Bool)=some (decide (p.Start<0∨(↑p.Next.length:Int)≤p.Start)):=by
  by_cases h:p.Start<0
  ·rw [decide_eq_true h,cond_true,decide_eq_true (.inl h)]
  ·rw [decide_eq_false h,cond_false];simp [h]
 by_cases h0:p.Inputs<1
 ·rw [decide_eq_true h0,cond_true,obind,cond_true,if_pos (.inl h0)]
 rw [decide_eq_false h0,cond_false,obind]
 by_cases h1:64<p.Inputs
 ·rw [decide_eq_true h1,cond_true,if_pos (.inr h1)]
 rw [decide_eq_false h1,cond_false,if_neg (by omega)]
 by_cases h2:p.Next.length=0
 ·rw [decide_eq_true (by omega),cond_true,if_pos h2]
 rw [decide_eq_false (by omega),cond_false,if_neg h2]
 by_cases h3:4096<p.Next.length
 ·rw [decide_eq_true (by omega),cond_true,if_pos h3]
 rw [decide_eq_false (by omega),cond_false,if_neg h3,hsp,obind]
 by_cases h4:p.Start<0∨(↑p.Next.length:Int)≤p.Start
 ·rw [decide_eq_true h4,cond_true,if_pos h4]
 rw [decide_eq_false h4,cond_false,if_neg h4]
 by_cases h5:p.Out.length≠p.Next.length
 ·rw [decide_eq_true (by omega),cond_true,if_pos h5]
 rw [decide_eq_false (by omega),cond_false,if_neg h5,iter_scan (l:=p.Next) (rowG p) (fun s x hx=>by
  have hs:=(List.getElem?_eq_some_iff.1 hx).1
  have hy:=get_at (l:=p.Out) (i:=s) (by omega)
  simp only [R35_Valid.s14,rowG]
  rw [dec_lt hx,cond_true,idxn_at hx,hy,Option.getD_some]
  by_cases k1:(↑x.length:Int)≠p.Inputs
  ·rw [decide_eq_true k1,cond_true,obind,cond_true,if_pos (.inl k1)]
  rw [decide_eq_false k1,cond_false,idxn_at hy,obind]
  by_cases k2:(↑p.Out[s].length:Int)≠p.Inputs
  ·rw [decide_eq_true k2,cond_true,if_pos (.inr k2)]
  rw [decide_eq_false k2,cond_false,if_neg (fun h=>h.elim k1 k2),iter_scan (l:=x) (fun a t=>(cellP p.Next.length p.Out[s] a t).map fun e=>(Sum.inr (Sum.inr e):Nat⊕(Unit⊕Int))) (fun a t ht=>by
   have ha:=(List.getElem?_eq_some_iff.1 ht).1
   have hz:=get_at (l:=p.Out[s]) (i:=a) (by omega)
   simp only [R35_Valid.s13,cellP]
   rw [decide_eq_true (by omega),cond_true,idxn_at hx,idxn_at ht,idxn_at hy,idxn_at hz,hz,Option.getD_some,chk_pos (by unfold inR;omega),cell_cond]
   rcases cellE_cases p.Next.length t p.Out[s][a] with e | e | e<;>rw [e]<;>rfl) (by simp only [R35_Valid.s13];rw [decide_eq_false (by omega),cond_false]) (by omega),obind,scan_wrap]
  cases scan (cellP p.Next.length p.Out[s]) 0 x<;>rfl) (by simp only [R35_Valid.s14];rw [dec_end,cond_false]) (by omega),obind]
 cases scan (rowG p) 0 p.Next<;>rfl
structure PartOk (p:T_api_Part):Prop where
 i1:1≤p.Inputs
 i2:p.Inputs≤64
 n1:0<p.Next.length
 n2:p.Next.length≤4096
 st:0≤p.Start∧p.Start<(↑p.Next.length:Int)
 ol:p.Out.length=p.Next.length
 row:∀ s,s<p.Next.length→∃ x y,p.Next[s]?=some x∧p.Out[s]?=some y∧(↑x.length:Int)=p.Inputs∧(↑y.length:Int)=p.Inputs∧∀ (a:Nat) (t o:Int),x[a]?=some t→y[a]?=some o→-1≤t∧t<(↑p.Next.length:Int)∧-1≤o∧o≤1048576∧(t=-1↔o=-1)
theorem validP_ok {p:T_api_Part} (h:validP p=0):PartOk p:=by
 unfold validP at h
 split at h
 ·cases h
 rename_i c1
 split at h
 ·cases h
 rename_i c2
 split at h
 ·cases h
 rename_i c3
 split at h
 ·cases h
 rename_i c4
 split at h
 ·cases h
 rename_i c5
 have hol:p.Out.length=p.Next.length:=Classical.not_not.1 c5
 have hs:scan (rowG p) 0 p.Next=none:=by
  cases e:scan (rowG p) 0 p.Next with
  | none=>rfl
  | some r =>
   rw [e] at h
   have h:r=0:=h
   obtain ⟨i,x,hx,hr⟩:∃ i x,p.Next[i]?=some x∧rowG p (0+i) x=some r:=by
    have:∀ (l:List (List Int)) (j:Nat),scan (rowG p) j l=some r→∃ i x,l[i]?=some x∧rowG p (j+i) x=some r:=by
     intro l
     induction l with
     | nil=>intro j h;cases h
     | cons x l ih =>
      intro j h
      unfold scan at h
      cases e2:rowG p j x with
      | some q =>
       rw [e2] at h
       injection h with h
       subst h
       exact ⟨0,x,rfl,e2⟩
      | none =>
       rw [e2] at h
       obtain ⟨i,y,q1,q2⟩:=ih (j+1) h
       exact ⟨i+1,y,q1,by rw [show j+(i+1)=j+1+i by omega];exact q2⟩
    exact this _ 0 e
   rw [h] at hr
   unfold rowG at hr
   split at hr
   ·cases hr
   ·have:∀ (y l:List Int) (j:Nat),scan (cellP p.Next.length y) j l≠some 0:=by
     intro y l
     induction l with
     | nil=>intro j h;cases h
     | cons x l ih =>
      intro j h
      unfold scan at h
      cases e:cellP p.Next.length y j x with
      | some q =>
       rw [e] at h
       injection h with h
       unfold cellP at e
       split at e
       ·rename_i g
        injection e with e
        exact g (e.trans h)
       ·cases e
      | none =>
       rw [e] at h
       exact ih _ h
    exact absurd hr (this _ _ _)
 refine ⟨by omega,by omega,by omega,by omega,by omega,hol,fun s hsl=>?_⟩
 have hx:=get_at hsl
 have hy:=get_at (l:=p.Out) (i:=s) (by omega)
 have hr:=scan_none.1 hs s _ hx
 unfold rowG at hr
 rw [Nat.zero_add,hy,Option.getD_some] at hr
 split at hr
 ·cases hr
 ·rename_i k
  refine ⟨_,_,hx,hy,Classical.byContradiction fun e=>k (.inl e),Classical.byContradiction fun e=>k (.inr e),fun a t o ha ho=>?_⟩
  have hc:=scan_none.1 hr a t ha
  unfold cellP at hc
  rw [Nat.zero_add,ho,Option.getD_some] at hc
  split at hc
  ·cases hc
  ·rename_i g
   have g:=Classical.not_not.1 g
   unfold cellE at g
   split at g
   ·cases g
   ·rename_i g1
    split at g
    ·cases g
    ·rename_i g2
     have g2:=Classical.not_not.1 g2
     exact ⟨by omega,by omega,by omega,by omega,by rw [g2]⟩
theorem merge_Run_same (p:T_api_Part) (w:List Int) (hl:p.Next.length≤10000000):merge_Run p w=R35_Run p w:=by
 unfold merge_Run R35_Run
 rw [merge_Valid_eq hl,R35_Valid_eq hl]
 have:(fun (s:Int×List Int×Nat)=>merge_Run.s2 p w s.1 s.2.1 s.2.2)=fun s=>R35_Run.s2 p w s.1 s.2.1 s.2.2:=by
  funext s
  obtain ⟨s,y,i⟩:=s
  simp only [merge_Run.s2,R35_Run.s2]
  by_cases h:i<w.length
  ·have hx:=get_at h
   simp only [idxn_at hx]
  ·rw [decide_eq_false (by omega),cond_false,cond_false]
 rw [this]
structure Wrt (f:Nat→Int) (init:List Int) (a:Nat) (y:List Int):Prop where
 len:y.length=init.length
 at_:∀ b,b<init.length→y[b]?=if b<a then some (f b) else init[b]?
theorem Wrt.zero (f:Nat→Int) (init:List Int):Wrt f init 0 init:=⟨rfl,fun b _=>by rw [if_neg (by omega)]⟩
theorem Wrt.step {f:Nat→Int} {init:List Int} {a:Nat} {y:List Int} (h:Wrt f init a y) (ha:a<init.length) {v:Int} (hv:v=f a):Wrt f init (a+1) (y.set a v):=by
 refine ⟨by rw [List.length_set];exact h.len,fun b hb=>?_⟩
 have hl:=h.len
 by_cases e:b=a
 ·subst e
  rw [if_pos (by omega),List.getElem?_set_self (by omega),hv]
 ·rw [List.getElem?_set_ne (by omega),h.at_ b hb]
  by_cases g:b<a
  ·rw [if_pos g,if_pos (by omega)]
  ·rw [if_neg g,if_neg (by omega)]
theorem Wrt.skip {f:Nat→Int} {init:List Int} {a:Nat} {y:List Int} (h:Wrt f init a y) (ha:a<init.length) (hv:init[a]?=some (f a)):Wrt f init (a+1) y:=by
 refine ⟨h.len,fun b hb=>?_⟩
 rw [h.at_ b hb]
 by_cases e:b=a
 ·subst e
  rw [if_neg (by omega),if_pos (by omega),hv]
 ·by_cases g:b<a
  ·rw [if_pos g,if_pos (by omega)]
  ·rw [if_neg g,if_neg (by omega)]
theorem Wrt.done {f:Nat→Int} {init y:List Int} {a:Nat} (h:Wrt f init a y) (ha:init.length≤a):y=(List.range init.length).map f:=by
 refine List.ext_getElem? fun b=>?_
 by_cases g:b<init.length
 ·rw [h.at_ b g,if_pos (by omega),List.getElem?_map,List.getElem?_range g]
  rfl
 ·rw [List.getElem?_eq_none (by have:=h.len;omega),List.getElem?_eq_none (by simp;omega)]
theorem Wrt.cur {f:Nat→Int} {init:List Int} {a:Nat} {y:List Int} (h:Wrt f init a y) (ha:a<init.length):y[a]?=init[a]?:=by rw [h.at_ a ha,if_neg (by omega)]
def compN (s:Nat) (x:List Int) (a:Nat):Int:=if (x[a]?).getD 0=-1 then (↑s:Int) else (x[a]?).getD 0
def compO (out:Int) (x y:List Int) (a:Nat):Int:=if (x[a]?).getD 0=-1 then out else (y[a]?).getD 0
def compL (p:T_api_Part) (s:Nat):List Int:=(List.range p.Inputs.toNat).map (compN s ((p.Next[s]?).getD []))
def compP (p:T_api_Part) (out:Int) (s:Nat):List Int:=(List.range p.Inputs.toNat).map (compO out ((p.Next[s]?).getD []) ((p.Out[s]?).getD []))
theorem rng_snoc {α:Type} (f:Nat→α) (k:Nat):(List.range (k+1)).map f=(List.range k).map f++[f k]:=by rw [List.range_succ,List.map_append];rfl
def complP (p:T_api_Part) (out:Int):T_api_Mealy×Int:=if validP p≠0 then (⟨0,0,[],[]⟩,validP p) else if out<0∨1048576<out then (⟨0,0,[],[]⟩,2) else if 128<p.Next.length then (⟨0,0,[],[]⟩,11) else (⟨p.Inputs,p.Start,(List.range p.Next.length).map (compL p),(List.range p.Next.length).map (compP p out)⟩,0)
theorem merge_Complete_eq {p:T_api_Part} (hl:p.Next.length≤10000000) (out:Int):merge_Complete p out=some (complP p out):=by
 unfold merge_Complete complP
 rw [merge_Valid_eq hl,obind]
 by_cases hv:validP p≠0
 ·rw [decide_eq_true hv,cond_true,if_pos hv]
 rw [decide_eq_false hv,cond_false,if_neg hv]
 have H:=validP_ok (Classical.not_not.1 hv)
 by_cases h1:out<0
 ·rw [decide_eq_true h1,cond_true,obind,cond_true,if_pos (.inl h1)]
 rw [decide_eq_false h1,cond_false,obind]
 by_cases h2:1048576<out
 ·rw [decide_eq_true h2,cond_true,if_pos (.inr h2)]
 rw [decide_eq_false h2,cond_false,if_neg (by omega)]
 by_cases h3:128<p.Next.length
 ·rw [decide_eq_true (by omega),cond_true,if_pos h3]
 rw [decide_eq_false (by omega),cond_false,if_neg h3]
 have hi1:=H.i1
 have hi2:=H.i2
 have key:=iter_post (step:=fun (s:List (List Int)×List (List Int)×Nat)=>merge_Complete.s20 p out s.1 s.2.1 s.2.2) (fun s=>s.2.2≤p.Next.length∧s.1=(List.range s.2.2).map (compL p)∧s.2.1=(List.range s.2.2).map (compP p out)) (fun s=>p.Next.length-s.2.2) (fun r=>r=((List.range p.Next.length).map (compL p),(List.range p.Next.length).map (compP p out))) (fun ⟨A,B,s⟩ ⟨g1,g2,g3⟩=>by
  simp only at g1 g2 g3
  subst g2 g3
  simp only [merge_Complete.s20]
  by_cases hs:s<p.Next.length
  ·left
   obtain ⟨x,y,hx,hy,hxl,hyl,hxy⟩:=H.row s hs
   refine ⟨((List.range (s+1)).map (compL p),(List.range (s+1)).map (compP p out),s+1),?_,⟨hs,rfl,rfl⟩,by simp only;omega⟩
   have inner:=iter_post (step:=fun (q:List Int×List Int×Nat)=>merge_Complete.s18 p out s x q.1 q.2.1 q.2.2) (fun q=>q.2.2≤x.length∧Wrt (compN s x) (List.replicate p.Inputs.toNat 0) q.2.2 q.1∧Wrt (compO out x y) (List.replicate p.Inputs.toNat 0) q.2.2 q.2.1) (fun q=>x.length-q.2.2) (fun r=>r=(compL p s,compP p out s)) (fun ⟨A,B,a⟩ ⟨q1,q2,q3⟩=>by
    simp only at q1 q2 q3
    simp only [merge_Complete.s18]
    by_cases ha:a<x.length
    ·left
     have hxa:=get_at ha
     have hya:=get_at (l:=y) (i:=a) (by omega)
     have hAl:=q2.len
     have hBl:=q3.len
     rw [List.length_replicate] at hAl hBl
     have hAa:=get_at (l:=A) (i:=a) (by omega)
     have hBa:=get_at (l:=B) (i:=a) (by omega)
     have hrl:(List.replicate p.Inputs.toNat (0:Int)).length=p.Inputs.toNat:=List.length_replicate
     have hn:compN s x a=if x[a]=-1 then (↑s:Int) else x[a]:=by unfold compN;rw [hxa,Option.getD_some]
     have ho:compO out x y a=if x[a]=-1 then out else y[a]:=by unfold compO;rw [hxa,hya,Option.getD_some,Option.getD_some]
     rw [dec_lt hxa,cond_true,idxn_at hxa,idxn_at hy,idxn_at hya,idxn_at hAa,idxn_at hBa]
     by_cases e:x[a]=-1
     ·rw [if_pos e] at hn ho
      refine ⟨((A.set a x[a]).set a (↑s:Int),(B.set a y[a]).set a out,a+1),?_,⟨ha,?_,?_⟩,by simp only;omega⟩
      ·rw [decide_eq_true e,cond_true,idxn_at (get_at (by rw [List.length_set];omega)),idxn_at (get_at (by rw [List.length_set];omega))]
      ·simp only [List.set_set];exact q2.step (by omega) hn.symm
      ·simp only [List.set_set];exact q3.step (by omega) ho.symm
     ·rw [if_neg e] at hn ho
      exact ⟨(A.set a x[a],B.set a y[a],a+1),by rw [decide_eq_false e,cond_false],⟨ha,q2.step (by omega) hn.symm,q3.step (by omega) ho.symm⟩,by simp only;omega⟩
    ·right
     have e:a=x.length:=by omega
     subst e
     refine ⟨_,by rw [dec_end,cond_false],?_⟩
     rw [q2.done (by rw [List.length_replicate];omega),q3.done (by rw [List.length_replicate];omega),List.length_replicate]
     unfold compL compP
     rw [hx,hy]
     rfl) fuel (List.replicate p.Inputs.toNat 0,List.replicate p.Inputs.toNat 0,0) ⟨Nat.zero_le _,Wrt.zero _ _,Wrt.zero _ _⟩ (by have:=fuel_big;simp only;omega)
   obtain ⟨r,e,rfl⟩:=inner
   rw [decide_eq_true (by omega),cond_true,chk_pos ⟨by omega,Int.le_refl _,by unfold capOk;omega⟩,chk_pos ⟨by omega,Int.le_refl _,by unfold capOk;omega⟩,idxn_at hx,e,obind]
   simp only [merge_Complete.k19]
   rw [chk_pos (by unfold capOk;simp;omega),chk_pos (by unfold capOk;simp;omega),rng_snoc,rng_snoc]
  ·right
   have e:s=p.Next.length:=by omega
   subst e
   exact ⟨_,by rw [decide_eq_false (by omega),cond_false],rfl⟩) fuel ([],[],0) ⟨Nat.zero_le _,rfl,rfl⟩ (by have:=fuel_big;simp only;omega)
 obtain ⟨r,e,rfl⟩:=key
 rw [e,obind]
 rfl
theorem R35_Complete_eq {p:T_api_Part} (hl:p.Next.length≤10000000) (out:Int):R35_Complete p out=some (complP p out):=by
 unfold R35_Complete complP
 rw [R35_Valid_eq hl,obind,obind]
 by_cases hv:validP p≠0
 ·rw [decide_eq_true hv,cond_true,if_pos hv]
 rw [decide_eq_false hv,cond_false,if_neg hv]
 have H:=validP_ok (Classical.not_not.1 hv)
 by_cases h1:out<0
 ·rw [decide_eq_true h1,cond_true,obind,cond_true,if_pos (.inl h1)]
 rw [decide_eq_false h1,cond_false,obind]
 by_cases h2:1048576<out
 ·rw [decide_eq_true h2,cond_true,if_pos (.inr h2)]
 rw [decide_eq_false h2,cond_false,if_neg (by omega)]
 by_cases h3:128<p.Next.length
 ·rw [decide_eq_true (by omega),cond_true,if_pos h3]
 rw [decide_eq_false (by omega),cond_false,if_neg h3]
 have hi1:=H.i1
 have hi2:=H.i2
 have key:=iter_post (step:=fun (s:List (List Int)×List (List Int)×Nat)=>R35_Complete.s20 p out s.1 s.2.1 s.2.2) (fun s=>s.2.2≤p.Next.length∧s.1=(List.range s.2.2).map (compL p)∧s.2.1=(List.range s.2.2).map (compP p out)) (fun s=>p.Next.length-s.2.2) (fun r=>r=((List.range p.Next.length).map (compL p),(List.range p.Next.length).map (compP p out))) (fun ⟨A,B,s⟩ ⟨g1,g2,g3⟩=>by
  simp only at g1 g2 g3
  subst g2 g3
  simp only [R35_Complete.s20]
  by_cases hs:s<p.Next.length
  ·left
   obtain ⟨x,y,hx,hy,hxl,hyl,hxy⟩:=H.row s hs
   refine ⟨((List.range (s+1)).map (compL p),(List.range (s+1)).map (compP p out),s+1),?_,⟨hs,rfl,rfl⟩,by simp only;omega⟩
   have inner:=iter_post (step:=fun (q:List Int×List Int×Nat)=>R35_Complete.s18 p out s q.1 q.2.1 q.2.2) (fun q=>q.2.2≤x.length∧Wrt (compN s x) x q.2.2 q.1∧Wrt (compO out x y) y q.2.2 q.2.1) (fun q=>x.length-q.2.2) (fun r=>r=(compL p s,compP p out s)) (fun ⟨A,B,a⟩ ⟨q1,q2,q3⟩=>by
    simp only at q1 q2 q3
    simp only [R35_Complete.s18]
    by_cases ha:a<x.length
    ·left
     have hxa:=get_at ha
     have hya:=get_at (l:=y) (i:=a) (by omega)
     have hAa:A[a]?=some x[a]:=(q2.cur ha).trans hxa
     have hBa:B[a]?=some y[a]:=(q3.cur (by omega)).trans hya
     have hn:compN s x a=if x[a]=-1 then (↑s:Int) else x[a]:=by unfold compN;rw [hxa,Option.getD_some]
     have ho:compO out x y a=if x[a]=-1 then out else y[a]:=by unfold compO;rw [hxa,hya,Option.getD_some,Option.getD_some]
     rw [decide_eq_true (by omega),cond_true,idxn_at hAa]
     by_cases e:x[a]=-1
     ·rw [if_pos e] at hn ho
      exact ⟨(A.set a (↑s:Int),B.set a out,a+1),by rw [decide_eq_true e,cond_true,idxn_at hAa,idxn_at hBa,chk_pos (by unfold inR;omega)],⟨ha,q2.step ha hn.symm,q3.step (by omega) ho.symm⟩,by simp only;omega⟩
     ·rw [if_neg e] at hn ho
      exact ⟨(A,B,a+1),by rw [decide_eq_false e,cond_false,chk_pos (by unfold inR;omega)],⟨ha,q2.skip ha (by rw [hn];exact hxa),q3.skip (by omega) (by rw [ho];exact hya)⟩,by simp only;omega⟩
    ·right
     have e:a=x.length:=by omega
     subst e
     refine ⟨_,by rw [decide_eq_false (by omega),cond_false],?_⟩
     rw [q2.done (by omega),q3.done (by omega)]
     unfold compL compP
     rw [hx,hy,show x.length=p.Inputs.toNat by omega,show y.length=p.Inputs.toNat by omega]
     rfl) fuel (x,y,0) ⟨Nat.zero_le _,Wrt.zero _ _,Wrt.zero _ _⟩ (by have:=fuel_big;simp only;omega)
   obtain ⟨r,e,rfl⟩:=inner
   rw [decide_eq_true (by omega),cond_true,idxn_at hx,chk_pos (by unfold capOk;simp;omega),idxn_at hy,chk_pos (by unfold capOk;simp;omega),List.nil_append,List.nil_append,e,obind]
   simp only [R35_Complete.k19]
   rw [chk_pos (by unfold capOk;simp;omega),chk_pos (by unfold capOk;simp;omega),rng_snoc,rng_snoc]
  ·right
   have e:s=p.Next.length:=by omega
   subst e
   exact ⟨_,by rw [decide_eq_false (by omega),cond_false],rfl⟩) fuel ([],[],0) ⟨Nat.zero_le _,rfl,rfl⟩ (by have:=fuel_big;simp only;omega)
 obtain ⟨r,e,rfl⟩:=key
 rw [e,obind]
 rfl
end Go.Proofs.YteigfkncoiiaiaaGreatDoor.Sym

/-
 The fold of two states: the least congruence that joins them, and what the reference's classes are. Plain laws.
-/
namespace Go.Proofs.YteigfkncoiiaiaaGreatDoor.Sym
set_option maxRecDepth 100000
def pnx (p:T_api_Part) (s a:Nat):Int:=(((p.Next[s]?).getD [])[a]?).getD (-1)
def pot (p:T_api_Part) (s a:Nat):Int:=(((p.Out[s]?).getD [])[a]?).getD (-1)
theorem PartOk.at {p:T_api_Part} (H:PartOk p) {s a:Nat} (hs:s<p.Next.length) (ha:a<p.Inputs.toNat):-1≤pnx p s a∧pnx p s a<(↑p.Next.length:Int)∧-1≤pot p s a∧pot p s a≤1048576∧(pnx p s a=-1↔pot p s a=-1)∧∃ x y,p.Next[s]?=some x∧p.Out[s]?=some y∧x[a]?=some (pnx p s a)∧y[a]?=some (pot p s a)∧(↑x.length:Int)=p.Inputs∧(↑y.length:Int)=p.Inputs:=by
 obtain ⟨x,y,h1,h2,h3,h4,h5⟩:=H.row s hs
 have hx:=get_at (l:=x) (i:=a) (by omega)
 have hy:=get_at (l:=y) (i:=a) (by omega)
 have e1:pnx p s a=x[a]:=by unfold pnx;rw [h1,Option.getD_some,hx,Option.getD_some]
 have e2:pot p s a=y[a]:=by unfold pot;rw [h2,Option.getD_some,hy,Option.getD_some]
 obtain ⟨k1,k2,k3,k4,k5⟩:=h5 a _ _ hx hy
 rw [e1,e2]
 exact ⟨k1,k2,k3,k4,k5,x,y,h1,h2,hx,hy,h3,h4⟩
theorem pnx_rng {p:T_api_Part} (H:PartOk p) {q a u:Nat} (h:pnx p q a=(↑u:Int)):q<p.Next.length∧a<p.Inputs.toNat∧u<p.Next.length:=by
 have hq:q<p.Next.length:=Classical.byContradiction fun g=>by
  unfold pnx at h
  rw [show p.Next[q]?=none from List.getElem?_eq_none (by omega)] at h
  have h:(-1:Int)=↑u:=h
  omega
 have ha:a<p.Inputs.toNat:=Classical.byContradiction fun g=>by
  obtain ⟨x,y,h1,h2,h3,h4,h5⟩:=H.row q hq
  unfold pnx at h
  rw [h1,Option.getD_some,show x[a]?=none from List.getElem?_eq_none (by omega)] at h
  have h:(-1:Int)=↑u:=h
  omega
 have:=(H.at hq ha).2.1
 exact ⟨hq,ha,by omega⟩
inductive Cong (p:T_api_Part) (s t:Nat):Nat→Nat→Prop
 | base:Cong p s t s t
 | refl (q:Nat):Cong p s t q q
 | symm {q r:Nat} (h:Cong p s t q r):Cong p s t r q
 | trans {q r u:Nat} (h:Cong p s t q r) (k:Cong p s t r u):Cong p s t q u
 | step {q r:Nat} (a u v:Nat) (h:Cong p s t q r) (hu:pnx p q a=(↑u:Int)) (hv:pnx p r a=(↑v:Int)):Cong p s t u v
def Confl (p:T_api_Part) (s t:Nat):Prop:=∃ q r a,Cong p s t q r∧pnx p q a≠-1∧pnx p r a≠-1∧pot p q a≠pot p r a
noncomputable def clsOf (p:T_api_Part) (s t q:Nat):Nat:=by
 classical
 exact ((List.range (q+1)).find? fun r=>decide (Cong p s t q r)).getD q
section
variable {p:T_api_Part} {s t:Nat}
theorem clsOf_spec (q:Nat):clsOf p s t q≤q∧Cong p s t q (clsOf p s t q)∧∀ r,r<clsOf p s t q→¬ Cong p s t q r:=by
 classical
 unfold clsOf
 cases h:(List.range (q+1)).find? fun r=>decide (Cong p s t q r) with
 | none=>exact absurd (decide_eq_true (Cong.refl q)) (List.find?_eq_none.1 h q (List.mem_range.2 (by omega)))
 | some r =>
  obtain ⟨h1,h2,h3⟩:=List.find?_range_eq_some.1 h
  rw [Option.getD_some]
  have h2:=List.mem_range.1 h2
  refine ⟨by omega,of_decide_eq_true h1,fun u hu hc=>?_⟩
  have:=h3 u hu
  simp [hc] at this
theorem clsOf_eq {q c:Nat} (h:Cong p s t q c) (h2:∀ r,Cong p s t q r→c≤r):clsOf p s t q=c:=by
 obtain ⟨g1,g2,g3⟩:=clsOf_spec (p:=p) (s:=s) (t:=t) q
 have h3:=h2 _ g2
 rcases Nat.lt_or_ge c (clsOf p s t q) with k | k
 ·exact absurd h (g3 c k)
 ·omega
theorem cong_into (H:PartOk p) (hs:s<p.Next.length) (ht:t<p.Next.length) {cl:Nat→Nat} (h0:cl s=cl t) (hc:∀ q r a u v:Nat,q<p.Next.length→r<p.Next.length→cl q=cl r→pnx p q a=(↑u:Int)→pnx p r a=(↑v:Int)→cl u=cl v) {q r:Nat} (h:Cong p s t q r):q=r∨(q<p.Next.length∧r<p.Next.length∧cl q=cl r):=by
 induction h with
 | base=>exact .inr ⟨hs,ht,h0⟩
 | refl q=>exact .inl rfl
 | symm _ ih =>
  rcases ih with e | ⟨a,b,c⟩
  ·exact .inl e.symm
  ·exact .inr ⟨b,a,c.symm⟩
 | trans _ _ ih1 ih2 =>
  rcases ih1 with rfl | ⟨a,b,c⟩
  ·exact ih2
  ·rcases ih2 with rfl | ⟨a',b',c'⟩
   ·exact .inr ⟨a,b,c⟩
   ·exact .inr ⟨a,b',c.trans c'⟩
 | step a u v _ hu hv ih =>
  obtain ⟨q1,_,q3⟩:=pnx_rng H hu
  obtain ⟨r1,_,r3⟩:=pnx_rng H hv
  rcases ih with rfl | ⟨_,_,c⟩
  ·rw [hu] at hv
   exact .inl (by omega)
  ·exact .inr ⟨q3,r3,hc _ _ a u v q1 r1 c hu hv⟩
structure ClsL (p:T_api_Part) (s t:Nat) (C:List Int) (cl:Nat→Nat):Prop where
 len:C.length=p.Next.length
 at_:∀ q,q<p.Next.length→C[q]?=some (↑(cl q):Int)
 le:∀ q,q<p.Next.length→cl q≤q
 idem:∀ q,q<p.Next.length→cl (cl q)=cl q
 sound:∀ q,q<p.Next.length→Cong p s t q (cl q)
def repsN (n:Nat) (cl:Nat→Nat):Nat:=(List.range n).countP fun q=>decide (cl q=q)
def joinF (cl:Nat→Nat) (u v q:Nat):Nat:=if cl q=max (cl u) (cl v) then min (cl u) (cl v) else cl q
theorem joinF_same (cl:Nat→Nat) (u v:Nat):joinF cl u v u=joinF cl u v v:=by
 unfold joinF
 rcases Nat.le_total (cl u) (cl v) with h | h
 ·rw [Nat.max_eq_right h,Nat.min_eq_left h,if_pos rfl]
  split<;>omega
 ·rw [Nat.max_eq_left h,Nat.min_eq_right h,if_pos rfl]
  split<;>omega
theorem joinF_keep {cl:Nat→Nat} {u v q r:Nat} (h:cl q=cl r):joinF cl u v q=joinF cl u v r:=by unfold joinF;rw [h]
theorem countP_lt {n:Nat} {f g:Nat→Bool} (h:∀ q,q<n→g q=true→f q=true) {x:Nat} (hx:x<n) (h1:f x=true) (h2:g x=false):(List.range n).countP g<(List.range n).countP f:=by
 induction n with
 | zero=>omega
 | succ n ih =>
  rw [List.range_succ,List.countP_append,List.countP_append,List.countP_singleton,List.countP_singleton]
  by_cases e:x=n
  ·subst e
   have hle:(List.range x).countP g≤(List.range x).countP f:=List.countP_mono_left fun q hq hg=>h q (by have:=List.mem_range.1 hq;omega) hg
   rw [h1,h2]
   simp
   omega
  ·have:=ih (fun q hq=>h q (by omega)) (by omega)
   have h3:(if g n=true then 1 else 0)≤(if f n=true then 1 else 0:Nat):=by
    by_cases k:g n=true
    ·rw [if_pos k,if_pos (h n (by omega) k)]
     omega
    ·rw [if_neg k]
     omega
   omega
theorem ClsL.join {C:List Int} {cl:Nat→Nat} (K:ClsL p s t C cl) {u v:Nat} (hu:u<p.Next.length) (hv:v<p.Next.length) (hc:Cong p s t u v) (hn:p.Next.length≤10000000):∃ C',R35_join C (↑u:Int) (↑v:Int)=some C'∧ClsL p s t C' (joinF cl u v)∧(cl u≠cl v→repsN p.Next.length (joinF cl u v)<repsN p.Next.length cl):=by
 have hlen:=K.len
 have key:=iter_post (step:=fun (q:List Int×Nat)=>R35_join.s2 (↑(cl u):Int) (↑(cl v):Int) (↑(cl u):Int) (↑(cl v):Int) q.1 q.2) (fun q=>q.2≤C.length∧Wrt (fun b=>(↑(joinF cl u v b):Int)) C q.2 q.1) (fun q=>C.length-q.2) (fun r=>r=(List.range C.length).map fun b=>(↑(joinF cl u v b):Int)) (fun ⟨y,i⟩ ⟨g1,g2⟩=>by
  simp only at g1 g2
  simp only [R35_join.s2]
  have hyl:=g2.len
  by_cases h:i<C.length
  ·left
   have hy:y[i]?=some (↑(cl i):Int):=(g2.cur h).trans (K.at_ i (by omega))
   rw [decide_eq_true (by omega),cond_true,idxn_at hy]
   by_cases e:cl i=max (cl u) (cl v)
   ·refine ⟨(y.set i (min (↑(cl u):Int) (↑(cl v):Int)),i+1),by rw [decide_eq_true (by omega),cond_true,idxn_at hy],⟨h,g2.step h ?_⟩,by simp only;omega⟩
    unfold joinF
    rw [if_pos e]
    omega
   ·refine ⟨(y,i+1),by rw [decide_eq_false (by omega),cond_false],⟨h,g2.skip h ?_⟩,by simp only;omega⟩
    unfold joinF
    rw [if_neg e]
    exact K.at_ i (by omega)
  ·right
   exact ⟨_,by rw [decide_eq_false (by omega),cond_false],g2.done (by omega)⟩) fuel (C,0) ⟨Nat.zero_le _,Wrt.zero _ _⟩ (by have:=fuel_big;simp only;omega)
 obtain ⟨r,e,rfl⟩:=key
 have hlo:min (cl u) (cl v)<p.Next.length:=by have:=K.le u hu;omega
 have hcl:∀ q,q<p.Next.length→cl q<p.Next.length:=fun q hq=>by have:=K.le q hq;omega
 have hcc:Cong p s t (cl u) (cl v):=(K.sound u hu).symm.trans (hc.trans (K.sound v hv))
 have hmm:Cong p s t (max (cl u) (cl v)) (min (cl u) (cl v)):=by
  rcases Nat.le_total (cl u) (cl v) with h | h
  ·rw [Nat.max_eq_right h,Nat.min_eq_left h];exact hcc.symm
  ·rw [Nat.max_eq_left h,Nat.min_eq_right h];exact hcc
 have hmi:cl (min (cl u) (cl v))=min (cl u) (cl v):=by
  rcases Nat.le_total (cl u) (cl v) with h | h
  ·rw [Nat.min_eq_left h];exact K.idem u hu
  ·rw [Nat.min_eq_right h];exact K.idem v hv
 have hma:cl (max (cl u) (cl v))=max (cl u) (cl v):=by
  rcases Nat.le_total (cl u) (cl v) with h | h
  ·rw [Nat.max_eq_right h];exact K.idem v hv
  ·rw [Nat.max_eq_left h];exact K.idem u hu
 have hlmin:joinF cl u v (min (cl u) (cl v))=min (cl u) (cl v):=by
  unfold joinF
  rw [hmi]
  split<;>omega
 refine ⟨(List.range C.length).map fun b=>(↑(joinF cl u v b):Int),?_,⟨by simp [hlen],fun q hq=>?_,fun q hq=>?_,fun q hq=>?_,fun q hq=>?_⟩,fun hne=>?_⟩
 ·unfold R35_join
  rw [idx_at (i:=u) rfl (K.at_ u hu),idx_at (i:=v) rfl (K.at_ v hv),idx_at (i:=u) rfl (K.at_ u hu),idx_at (i:=v) rfl (K.at_ v hv),e,obind]
 ·rw [List.getElem?_map,List.getElem?_range (by omega)]
  rfl
 ·have:=K.le q hq
  unfold joinF
  split<;>omega
 ·have h1:joinF cl u v q=min (cl u) (cl v)∨(joinF cl u v q=cl q∧cl q≠max (cl u) (cl v)):=by
   unfold joinF
   split
   ·exact .inl rfl
   ·rename_i g;exact .inr ⟨rfl,g⟩
  rcases h1 with h1 | ⟨h1,h2⟩
  ·rw [h1,hlmin]
  ·rw [h1]
   unfold joinF
   rw [K.idem q hq,if_neg h2]
 ·unfold joinF
  split
  ·rename_i g
   have:=K.sound q hq
   rw [g] at this
   exact this.trans hmm
  ·exact K.sound q hq
 ·have hlt:min (cl u) (cl v)<max (cl u) (cl v):=by omega
  have hmx:max (cl u) (cl v)<p.Next.length:=by have:=hcl u hu;have:=hcl v hv;omega
  refine countP_lt (fun q hq h=>?_) hmx (decide_eq_true hma) (decide_eq_false ?_)
  ·have h:=of_decide_eq_true h
   refine decide_eq_true ?_
   unfold joinF at h
   split at h
   ·rename_i g
    rw [← h,hmi]
   ·exact h
  ·unfold joinF
   rw [hma,if_pos rfl]
   omega
structure FstOk (p:T_api_Part) (cl:Nat→Nat) (a q:Nat) (F:List Int):Prop where
 len:F.length=p.Next.length
 none_:∀ c,c<p.Next.length→F[c]?=some (-1)→∀ r,r<q→cl r=c→pnx p r a=-1
 some_:∀ c,c<p.Next.length→F[c]?≠some (-1)→∃ f:Nat,F[c]?=some (↑f:Int)∧f<q∧cl f=c∧pnx p f a≠-1∧∀ r,r<q→cl r=c→pnx p r a≠-1→pot p f a=pot p r a∧cl (pnx p f a).toNat=cl (pnx p r a).toNat
def SymOk (p:T_api_Part) (cl:Nat→Nat) (a:Nat):Prop:=∀ q r,q<p.Next.length→r<p.Next.length→cl q=cl r→pnx p q a≠-1→pnx p r a≠-1→pot p q a=pot p r a∧cl (pnx p q a).toNat=cl (pnx p r a).toNat
theorem FstOk.end_ (H:PartOk p) {cl:Nat→Nat} {a:Nat} {F:List Int} (K:FstOk p cl a p.Next.length F) (hcl:∀ q,q<p.Next.length→cl q<p.Next.length):SymOk p cl a:=fun q r hq hr e h1 h2=>by
 have hc:=hcl q hq
 by_cases g:F[cl q]?=some (-1)
 ·exact absurd (K.none_ _ hc g q hq rfl) h1
 ·obtain ⟨f,_,_,_,_,h⟩:=K.some_ _ hc g
  obtain ⟨a1,a2⟩:=h q hq rfl h1
  obtain ⟨b1,b2⟩:=h r hr e.symm h2
  exact ⟨a1.symm.trans b1,a2.symm.trans b2⟩
theorem loop_first (H:PartOk p) {C:List Int} {cl:Nat→Nat} (K:ClsL p s t C cl) {a:Nat} (ha:a<p.Inputs.toNat) (more:Bool) {F0:List Int} (hF:F0=(List.range p.Next.length).map fun _=>(-1:Int)) :
  ∃ r,iter (fun (q:List Int×Nat)=>R35_Classes.s198 p C more a q.1 q.2) fuel (F0,0)=some r ∧
   ((r=.inr (.inr (.inr (.inr (.inr ([],false)))))∧Confl p s t)∨(∃ C' cl',r=.inl (C',true)∧ClsL p s t C' cl'∧repsN p.Next.length cl'<repsN p.Next.length cl∧∀ q r,cl q=cl r→cl' q=cl' r)∨(r=.inl (C,more)∧SymOk p cl a)):=by
 have hn:=H.n2
 have hcl:∀ q,q<p.Next.length→cl q<p.Next.length:=fun q hq=>by have:=K.le q hq;omega
 refine iter_post (step:=fun (q:List Int×Nat)=>R35_Classes.s198 p C more a q.1 q.2) (fun q=>q.2≤p.Next.length∧FstOk p cl a q.2 q.1) (fun q=>p.Next.length-q.2) (fun r=>_) (fun ⟨F,q⟩ ⟨g1,g2⟩=>?_) fuel (F0,0) ⟨Nat.zero_le _,?_⟩ (by have:=fuel_big;simp only;omega)
 ·simp only at g1 g2
  simp only [R35_Classes.s198]
  by_cases hq:q<p.Next.length
  ·obtain ⟨n1,n2,n3,n4,n5,x,y,hx,hy,hxa,hya,hxl,hyl⟩:=H.at hq ha
   rw [decide_eq_true (by omega),cond_true,idxn_at hx,idxn_at hxa]
   by_cases e:pnx p q a=-1
   ·left
    refine ⟨(F,q+1),by rw [decide_eq_true e,cond_true,obind];rfl,⟨hq,g2.len,fun c hc hF r hr hrc=>?_,fun c hc hF=>?_⟩,by simp only;omega⟩
    ·by_cases e2:r=q
     ·rw [e2];exact e
     ·exact g2.none_ c hc hF r (by simp only at hr;omega) hrc
    ·obtain ⟨f,f1,f2,f3,f4,f5⟩:=g2.some_ c hc hF
     refine ⟨f,f1,by simp only;omega,f3,f4,fun r hr hrc hr1=>?_⟩
     by_cases e2:r=q
     ·rw [e2] at hr1;exact absurd e hr1
     ·exact f5 r (by simp only at hr;omega) hrc hr1
   ·have hCq:=K.at_ q hq
    have hFl:=g2.len
    have hc:=hcl q hq
    have hFc:=get_at (l:=F) (i:=cl q) (by omega)
    rw [decide_eq_false e,cond_false,idxn_at hCq,idx_at (i:=cl q) rfl hFc]
    by_cases e1:F[cl q]=-1
    ·left
     refine ⟨(F.set (cl q) (↑q:Int),q+1),by rw [decide_eq_true e1,cond_true,idxn_at hCq,idx_at (i:=cl q) rfl hFc,obind];rfl,⟨hq,by rw [List.length_set];exact hFl,fun c hc' hF r hr hrc=>?_,fun c hc' hF=>?_⟩,by simp only;omega⟩
     ·simp only at hF hr
      by_cases e2:c=cl q
      ·subst e2
       rw [List.getElem?_set_self (by omega)] at hF
       injection hF with hF
       omega
      ·rw [List.getElem?_set_ne (by omega)] at hF
       exact g2.none_ c hc' hF r (Nat.lt_of_le_of_ne (by omega) fun e3=>e2 (by rw [← hrc,e3])) hrc
     ·simp only at hF ⊢
      by_cases e2:c=cl q
      ·subst e2
       refine ⟨q,by rw [List.getElem?_set_self (by omega)],by omega,rfl,e,fun r hr hrc hr1=>?_⟩
       by_cases e3:r=q
       ·rw [e3];exact ⟨rfl,rfl⟩
       ·exact absurd (g2.none_ _ hc (by rw [hFc,e1]) r (by omega) hrc) hr1
      ·rw [List.getElem?_set_ne (by omega)] at hF ⊢
       obtain ⟨f,f1,f2,f3,f4,f5⟩:=g2.some_ c hc' hF
       exact ⟨f,f1,by omega,f3,f4,fun r hr hrc hr1=>f5 r (Nat.lt_of_le_of_ne (by omega) fun e3=>e2 (by rw [← hrc,e3])) hrc hr1⟩
    ·obtain ⟨f,f1,f2,f3,f4,f5⟩:=g2.some_ (cl q) hc (by rw [hFc];intro h;injection h with h;exact e1 h)
     rw [hFc] at f1
     injection f1 with f1
     have hf:f<p.Next.length:=by omega
     obtain ⟨m1,m2,m3,m4,m5,x',y',hx',hy',hxa',hya',hxl',hyl'⟩:=H.at hf ha
     have hcong:Cong p s t f q:=(K.sound f hf).trans (by rw [f3];exact (K.sound q hq).symm)
     rw [decide_eq_false e1,cond_false,f1,idx_at (i:=f) rfl hy',idxn_at hya',idxn_at hy,idxn_at hya]
     by_cases e4:pot p f a≠pot p q a
     ·right
      exact ⟨_,by rw [decide_eq_true e4,cond_true,obind];rfl,.inl ⟨rfl,f,q,a,hcong,f4,e,e4⟩⟩
     ·obtain ⟨u,hu⟩:∃ u:Nat,pnx p f a=(↑u:Int):=⟨(pnx p f a).toNat,by omega⟩
      obtain ⟨v,hv⟩:∃ v:Nat,pnx p q a=(↑v:Int):=⟨(pnx p q a).toNat,by omega⟩
      have hul:u<p.Next.length:=by omega
      have hvl:v<p.Next.length:=by omega
      rw [decide_eq_false e4,cond_false,idx_at (i:=f) rfl hx',idxn_at hxa',hu,idx_at (i:=u) rfl (K.at_ u hul),idxn_at hx,idxn_at hxa,hv,idx_at (i:=v) rfl (K.at_ v hvl)]
      by_cases e5:cl u=cl v
      ·left
       refine ⟨(F,q+1),by rw [decide_eq_false (by omega),cond_false,obind];rfl,⟨hq,hFl,fun c hc' hF r hr hrc=>?_,fun c hc' hF=>?_⟩,by simp only;omega⟩
       ·simp only at hF hr
        by_cases e2:c=cl q
        ·rw [e2,hFc] at hF
         injection hF with hF
         exact absurd hF e1
        ·exact g2.none_ c hc' hF r (Nat.lt_of_le_of_ne (by omega) fun e3=>e2 (by rw [← hrc,e3])) hrc
       ·simp only at hF ⊢
        obtain ⟨f',f1',f2',f3',f4',f5'⟩:=g2.some_ c hc' hF
        refine ⟨f',f1',by omega,f3',f4',fun r hr hrc hr1=>?_⟩
        by_cases e3:r=q
        ·rw [e3] at hrc ⊢
         rw [← hrc,hFc] at f1'
         injection f1' with f1'
         have:f'=f:=by omega
         rw [this,hu,hv]
         exact ⟨Classical.not_not.1 e4,by simpa using e5⟩
        ·exact f5' r (by omega) hrc hr1
      ·right
       obtain ⟨C',j1,j2,j3⟩:=K.join hul hvl (.step a u v hcong hu hv) (by omega)
       rw [decide_eq_true (by omega),cond_true,idx_at (i:=f) rfl hx',idxn_at hxa',hu,idxn_at hx,idxn_at hxa,hv,j1,obind,obind]
       exact ⟨_,rfl,.inr (.inl ⟨C',joinF cl u v,rfl,j2,j3 e5,fun q r h=>joinF_keep h⟩)⟩
  ·right
   have e:q=p.Next.length:=by omega
   subst e
   exact ⟨_,by rw [decide_eq_false (by omega),cond_false],.inr (.inr ⟨rfl,g2.end_ H hcl⟩)⟩
 ·subst hF
  refine ⟨by simp,fun c _ _ r hr=>by simp only at hr;omega,fun c hc hF=>absurd ?_ hF⟩
  simp only
  rw [List.getElem?_map,List.getElem?_range hc]
  rfl
end
end Go.Proofs.YteigfkncoiiaiaaGreatDoor.Sym

/-
 The reference's classes are those of the least congruence. Plain laws.
-/
namespace Go.Proofs.YteigfkncoiiaiaaGreatDoor.Sym
set_option maxRecDepth 100000
section
variable {p:T_api_Part} {s t:Nat}
theorem all_minus (H:PartOk p):iter (fun (q:List Int×Nat)=>R35_Classes.s196 p q.1 q.2) fuel (List.replicate p.Next.length 0,0)=some ((List.range p.Next.length).map fun _=>(-1:Int)):=by
 have hn:=H.n2
 have key:=iter_post (step:=fun (q:List Int×Nat)=>R35_Classes.s196 p q.1 q.2) (fun q=>q.2≤p.Next.length∧Wrt (fun _=>(-1:Int)) (List.replicate p.Next.length 0) q.2 q.1) (fun q=>p.Next.length-q.2) (fun r=>r=(List.range p.Next.length).map fun _=>(-1:Int)) (fun ⟨y,i⟩ ⟨g1,g2⟩=>by
  simp only at g1 g2
  simp only [R35_Classes.s196]
  have hyl:=g2.len
  rw [List.length_replicate] at hyl
  by_cases h:i<p.Next.length
  ·left
   exact ⟨(y.set i (-1),i+1),by rw [decide_eq_true (by omega),cond_true,idxn_at (get_at (l:=y) (i:=i) (by omega))],⟨h,g2.step (by rw [List.length_replicate];exact h) rfl⟩,by simp only;omega⟩
  ·right
   refine ⟨_,by rw [decide_eq_false (by omega),cond_false],?_⟩
   rw [g2.done (by rw [List.length_replicate];omega),List.length_replicate]) fuel (List.replicate p.Next.length 0,0) ⟨Nat.zero_le _,Wrt.zero _ _⟩ (by have:=fuel_big;simp only;omega)
 obtain ⟨r,e,rfl⟩:=key
 exact e
theorem pass_at (H:PartOk p) {C:List Int} {cl:Nat→Nat} (K:ClsL p s t C cl) {a:Nat} (ha:a<p.Inputs.toNat) (m:Bool) :
  (R35_Classes.s200 p C m a=some (.inr (.inr (.inr (.inr ([],false)))))∧Confl p s t)∨(∃ C' cl',R35_Classes.s200 p C m a=some (.inl (C',true,a+1))∧ClsL p s t C' cl'∧repsN p.Next.length cl'<repsN p.Next.length cl∧∀ q r,cl q=cl r→cl' q=cl' r)∨(R35_Classes.s200 p C m a=some (.inl (C,m,a+1))∧SymOk p cl a):=by
 have hn:=H.n2
 have hi:=H.i2
 have k:∀ (y:List Int) (b:Bool),R35_Classes.k199 a y b=some (.inl (y,b,a+1)):=fun y b=>by
  unfold R35_Classes.k199
  rw [chk_pos (by unfold inR;omega)]
 obtain ⟨r,e,hr⟩:=loop_first H K ha m rfl
 have e2:R35_Classes.s200 p C m a=Sum.elim (fun (s:List Int×Bool)=>R35_Classes.k199 a s.1 s.2) some r:=by
  unfold R35_Classes.s200
  rw [decide_eq_true (by omega),cond_true,chk_pos ⟨by omega,Int.le_refl _,by unfold capOk;omega⟩,all_minus H,obind,e,obind]
 rw [e2]
 rcases hr with ⟨hr,hc⟩ | ⟨C2,cl2,hr,h⟩ | ⟨hr,hs⟩
 ·exact .inl ⟨by rw [hr,Sum.elim_inr],hc⟩
 ·exact .inr (.inl ⟨C2,cl2,by rw [hr,Sum.elim_inl,k],h⟩)
 ·exact .inr (.inr ⟨by rw [hr,Sum.elim_inl,k],hs⟩)
def PassQ (p:T_api_Part) (s t:Nat) (cl:Nat→Nat) (r:(List Int×Bool)⊕((List Int×Bool)⊕(List Int⊕(List Int×Bool)))):Prop:=(r=.inr (.inr (.inr ([],false)))∧Confl p s t)∨∃ C' cl' m,r=.inl (C',m)∧ClsL p s t C' cl'∧(m=true→repsN p.Next.length cl'<repsN p.Next.length cl)∧(m=false→cl'=cl∧∀ a,a<p.Inputs.toNat→SymOk p cl' a)∧∀ q r,cl q=cl r→cl' q=cl' r
theorem loop_pass (H:PartOk p) {C:List Int} {cl:Nat→Nat} (K:ClsL p s t C cl) :
  ∃ r,iter (fun (q:List Int×Bool×Nat)=>R35_Classes.s200 p q.1 q.2.1 q.2.2) fuel (C,false,0)=some r∧PassQ p s t cl r:=by
 have hn:=H.n2
 have hi:=H.i2
 refine iter_post (step:=fun (q:List Int×Bool×Nat)=>R35_Classes.s200 p q.1 q.2.1 q.2.2) (fun q=>q.2.2≤p.Inputs.toNat∧∃ cl',ClsL p s t q.1 cl'∧(q.2.1=true→repsN p.Next.length cl'<repsN p.Next.length cl)∧(q.2.1=false→cl'=cl∧∀ a,a<q.2.2→SymOk p cl' a)∧∀ q r,cl q=cl r→cl' q=cl' r) (fun q=>p.Inputs.toNat-q.2.2) (PassQ p s t cl) (fun ⟨C1,m,a⟩ ⟨g1,cl1,K1,g2,g3,g4⟩=>?_) fuel (C,false,0) ⟨Nat.zero_le _,cl,K,(fun h=>by cases h),(fun _=>⟨rfl,fun a ha=>by simp only at ha;omega⟩),fun q r h=>h⟩ (by have:=fuel_big;simp only;omega)
 unfold PassQ
 simp only at g1 K1 g2 g3
 simp only
 by_cases ha:a<p.Inputs.toNat
 ·have hle:repsN p.Next.length cl1≤repsN p.Next.length cl:=by
   cases m with
   | true=>exact Nat.le_of_lt (g2 rfl)
   | false=>rw [(g3 rfl).1];exact Nat.le_refl _
  rcases pass_at H K1 ha m with ⟨e,hc⟩ | ⟨C2,cl2,e,K2,h2,h3⟩ | ⟨e,hs⟩
  ·exact .inr ⟨_,e,.inl ⟨rfl,hc⟩⟩
  ·exact .inl ⟨(C2,true,a+1),e,⟨ha,cl2,K2,(fun _=>by omega),(fun h=>by cases h),fun q r h=>h3 q r (g4 q r h)⟩,by simp only;omega⟩
  ·refine .inl ⟨(C1,m,a+1),e,⟨ha,cl1,K1,g2,fun hm=>⟨(g3 hm).1,fun b hb=>?_⟩,g4⟩,by simp only;omega⟩
   simp only at hb
   by_cases e2:b=a
   ·rw [e2];exact hs
   ·exact (g3 hm).2 b (by omega)
 ·have e:a=p.Inputs.toNat:=by have:=g1;omega
  subst e
  exact .inr ⟨_,by unfold R35_Classes.s200;rw [decide_eq_false (by have:=H.i1;omega),cond_false],.inr ⟨C1,cl1,m,rfl,K1,g2,g3,g4⟩⟩
def clF (C:List Int) (q:Nat):Nat:=((C[q]?).getD 0).toNat
theorem ClsL.reps {C:List Int} {cl:Nat→Nat} (K:ClsL p s t C cl):repsN p.Next.length (clF C)=repsN p.Next.length cl:=by
 unfold repsN
 refine List.countP_congr fun q hq=>?_
 have e:clF C q=cl q:=by
  unfold clF
  rw [K.at_ q (List.mem_range.1 hq),Option.getD_some]
  rfl
 rw [e]
theorem repsN_le (n:Nat) (cl:Nat→Nat):repsN n cl≤n:=by
 have:=List.countP_le_length (p:=fun q=>decide (cl q=q)) (l:=List.range n)
 rw [List.length_range] at this
 exact this
theorem cls_done (H:PartOk p) (hs:s<p.Next.length) (ht:t<p.Next.length) {C:List Int} {cl:Nat→Nat} (K:ClsL p s t C cl) (h0:cl s=cl t) (hS:∀ a,a<p.Inputs.toNat→SymOk p cl a):(∀ q,q<p.Next.length→cl q=clsOf p s t q)∧¬ Confl p s t:=by
 have hinto:∀ {q r:Nat},Cong p s t q r→q=r∨(q<p.Next.length∧r<p.Next.length∧cl q=cl r):=fun h=>cong_into H hs ht h0 (fun q r a u v hq hr e hu hv=>by
  obtain ⟨_,ha,_⟩:=pnx_rng H hu
  have:=(hS a ha q r hq hr e (by rw [hu];omega) (by rw [hv];omega)).2
  rw [hu,hv] at this
  simpa using this) h
 refine ⟨fun q hq=>(clsOf_eq (K.sound q hq) fun r hr=>?_).symm,fun ⟨q,r,a,hc,h1,h2,h3⟩=>?_⟩
 ·rcases hinto hr with rfl | ⟨_,hr2,e⟩
  ·exact K.le q hq
  ·rw [e];exact K.le r hr2
 ·have rng:∀ q,pnx p q a≠-1→q<p.Next.length∧a<p.Inputs.toNat:=fun q h=>by
   have hq:q<p.Next.length:=Classical.byContradiction fun g=>h (by unfold pnx;rw [show p.Next[q]?=none from List.getElem?_eq_none (by omega)];rfl)
   refine ⟨hq,Classical.byContradiction fun g=>h ?_⟩
   obtain ⟨x,y,e1,e2,e3,e4,e5⟩:=H.row q hq
   unfold pnx
   rw [e1,Option.getD_some,show x[a]?=none from List.getElem?_eq_none (by omega)]
   rfl
  obtain ⟨hq,ha⟩:=rng q h1
  obtain ⟨hr,_⟩:=rng r h2
  rcases hinto hc with rfl | ⟨_,_,e⟩
  ·exact h3 rfl
  ·exact h3 (hS a ha q r hq hr e h1 h2).1
theorem R35_Classes_eq (H:PartOk p) (hs:s<p.Next.length) (ht:t<p.Next.length):(Confl p s t∧R35_Classes p (↑s:Int) (↑t:Int)=some ([],false))∨(¬ Confl p s t∧R35_Classes p (↑s:Int) (↑t:Int)=some ((List.range p.Next.length).map fun q=>(↑(clsOf p s t q):Int),true)):=by
 have hn:=H.n2
 have init:=iter_post (step:=fun (q:List Int×Nat)=>R35_Classes.s2 p q.1 q.2) (fun q=>q.2≤p.Next.length∧Wrt (fun b=>(↑b:Int)) (List.replicate p.Next.length 0) q.2 q.1) (fun q=>p.Next.length-q.2) (fun r=>r=(List.range p.Next.length).map fun (b:Nat)=>(↑b:Int)) (fun ⟨y,i⟩ ⟨g1,g2⟩=>by
  simp only at g1 g2
  simp only [R35_Classes.s2]
  have hyl:=g2.len
  rw [List.length_replicate] at hyl
  by_cases h:i<p.Next.length
  ·left
   exact ⟨(y.set i (↑i:Int),i+1),by rw [decide_eq_true (by omega),cond_true,idxn_at (get_at (l:=y) (i:=i) (by omega))],⟨h,g2.step (by rw [List.length_replicate];exact h) rfl⟩,by simp only;omega⟩
  ·right
   refine ⟨_,by rw [decide_eq_false (by omega),cond_false],?_⟩
   rw [g2.done (by rw [List.length_replicate];omega),List.length_replicate]) fuel (List.replicate p.Next.length 0,0) ⟨Nat.zero_le _,Wrt.zero _ _⟩ (by have:=fuel_big;simp only;omega)
 obtain ⟨r,e,rfl⟩:=init
 have K0:ClsL p s t ((List.range p.Next.length).map fun (b:Nat)=>(↑b:Int)) (fun b=>b):=⟨by simp,fun q hq=>by rw [List.getElem?_map,List.getElem?_range hq];rfl,fun q _=>Nat.le_refl q,fun _ _=>rfl,fun q _=>.refl q⟩
 obtain ⟨C1,j1,K1,_⟩:=K0.join hs ht .base (by omega)
 unfold R35_Classes
 rw [chk_pos ⟨by omega,Int.le_refl _,by unfold capOk;omega⟩,e,obind,j1,obind]
 have key:=iter_post (step:=fun (q:List Int×Bool)=>R35_Classes.s202 p q.1 q.2) (fun q=>∃ cl,ClsL p s t q.1 cl∧cl s=cl t∧(q.2=false→∀ a,a<p.Inputs.toNat→SymOk p cl a)) (fun q=>2*repsN p.Next.length (clF q.1)+(if q.2=true then 1 else 0)) (fun r=>(r=.inr ([],false)∧Confl p s t)∨∃ C cl,r=.inl C∧ClsL p s t C cl∧cl s=cl t∧∀ a,a<p.Inputs.toNat→SymOk p cl a) (fun ⟨C,m⟩ ⟨cl,K,g1,g2⟩=>by
  simp only at K g2
  simp only [R35_Classes.s202]
  cases m with
  | false =>
   right
   exact ⟨_,by rw [cond_false],.inr ⟨C,cl,rfl,K,g1,g2 rfl⟩⟩
  | true =>
   rw [cond_true]
   obtain ⟨r,e,hr⟩:=loop_pass H K
   rw [e,obind]
   rcases hr with ⟨rfl,hc⟩ | ⟨C',cl',m',rfl,K',h1,h2,h3⟩
   ·right
    exact ⟨_,rfl,.inl ⟨rfl,hc⟩⟩
   ·left
    refine ⟨(C',m'),rfl,⟨cl',K',h3 _ _ g1,fun hm=>(h2 hm).2⟩,?_⟩
    simp only
    rw [K.reps,K'.reps]
    cases m' with
    | true =>
     have:=h1 rfl
     simp only [if_true]
     omega
    | false =>
     rw [(h2 rfl).1]
     simp) fuel (C1,true) ⟨_,K1,joinF_same _ s t,(fun h=>by cases h)⟩ (by
  have:=fuel_big
  have:=repsN_le p.Next.length (clF C1)
  simp only [if_true]
  omega)
 obtain ⟨r,e2,hr⟩:=key
 rw [e2,obind]
 rcases hr with ⟨rfl,hc⟩ | ⟨C,cl,rfl,K,h0,hS⟩
 ·exact .inl ⟨hc,rfl⟩
 ·obtain ⟨d1,d2⟩:=cls_done H hs ht K h0 hS
  refine .inr ⟨d2,?_⟩
  have hC:C=(List.range p.Next.length).map fun q=>(↑(clsOf p s t q):Int):=List.ext_getElem? fun q=>by
   by_cases hq:q<p.Next.length
   ·rw [K.at_ q hq,d1 q hq,List.getElem?_map,List.getElem?_range hq]
    rfl
   ·rw [List.getElem?_eq_none (by have:=K.len;omega),List.getElem?_eq_none (by simp;omega)]
  rw [hC]
  rfl
end
end Go.Proofs.YteigfkncoiiaiaaGreatDoor.Sym

/-
 The fold of two states by a work list reaches the least congruence. Plain laws.
-/
namespace Go.Proofs.YteigfkncoiiaiaaGreatDoor.Sym
set_option maxRecDepth 100000
def gx (N:List (List Int)) (q a:Nat):Int:=(((N[q]?).getD [])[a]?).getD (-1)
structure Grid (n I:Nat) (N:List (List Int)):Prop where
 len:N.length=n
 row:∀ q,q<n→∃ x,N[q]?=some x∧x.length=I
theorem Grid.at {n I:Nat} {N:List (List Int)} (G:Grid n I N) {q a:Nat} (hq:q<n) (ha:a<I):∃ x,N[q]?=some x∧x[a]?=some (gx N q a)∧x.length=I:=by
 obtain ⟨x,h1,h2⟩:=G.row q hq
 refine ⟨x,h1,?_,h2⟩
 have hx:=get_at (l:=x) (i:=a) (by omega)
 unfold gx
 rw [h1,Option.getD_some,hx,Option.getD_some]
theorem Grid.put {n I:Nat} {N:List (List Int)} (G:Grid n I N) {c a:Nat} {x:List Int} (hc:c<n) (ha:a<I) (hx:N[c]?=some x) (v:Int):Grid n I (N.set c (x.set a v))∧∀ q b,q<n→b<I→gx (N.set c (x.set a v)) q b=if q=c∧b=a then v else gx N q b:=by
 obtain ⟨x',h1,h2⟩:=G.row c hc
 rw [hx] at h1
 injection h1 with h1
 subst h1
 have hlen:=G.len
 constructor
 ·refine ⟨by rw [List.length_set];exact G.len,fun q hq=>?_⟩
  by_cases e:q=c
  ·subst e
   exact ⟨_,List.getElem?_set_self (by omega),by rw [List.length_set];exact h2⟩
  ·rw [List.getElem?_set_ne (by omega)]
   exact G.row q hq
 ·intro q b hq hb
  by_cases e:q=c
  ·subst e
   unfold gx
   rw [List.getElem?_set_self (by omega),Option.getD_some]
   by_cases e2:b=a
   ·subst e2
    rw [List.getElem?_set_self (by omega),Option.getD_some,if_pos ⟨rfl,rfl⟩]
   ·rw [List.getElem?_set_ne (by omega),if_neg (fun h=>e2 h.2),hx,Option.getD_some]
  ·unfold gx
   rw [List.getElem?_set_ne (by omega),if_neg (fun h=>e h.1)]
theorem PartOk.gn {p:T_api_Part} (H:PartOk p):Grid p.Next.length p.Inputs.toNat p.Next:=⟨rfl,fun q hq=>by
 obtain ⟨x,y,h1,h2,h3,h4,h5⟩:=H.row q hq
 exact ⟨x,h1,by omega⟩⟩
theorem PartOk.go {p:T_api_Part} (H:PartOk p):Grid p.Next.length p.Inputs.toNat p.Out:=⟨H.ol,fun q hq=>by
 obtain ⟨x,y,h1,h2,h3,h4,h5⟩:=H.row q hq
 exact ⟨y,h2,by omega⟩⟩
structure UpOk (n:Nat) (cl:Nat→Nat) (M:List (Int×Int)):Prop where
 u0:∀ q,q<n→cl q=q→mget (↑q:Int) M=none
 u1:∀ q,q<n→cl q≠q→∃ u:Nat,u<q∧mget (↑q:Int) M=some (↑u:Int)∧cl u=cl q
theorem of_eq {n:Nat} {cl:Nat→Nat} {M:List (Int×Int)} (U:UpOk n cl M) (hn:n≤10000000) {u:Nat} (hu:u<n):merge_blocks_int_of ⟨M⟩ (↑u:Int)=some ((↑(cl u):Int),M):=by
 unfold merge_blocks_int_of
 have key:=iter_post (step:=fun (s:Int)=>merge_blocks_int_of.s1 ⟨M⟩ s) (fun s=>∃ v:Nat,s=(↑v:Int)∧v≤u∧cl v=cl u) (fun s=>s.toNat) (fun r=>r=((↑(cl u):Int),M)) (fun s ⟨v,e,h1,h2⟩=>by
  subst e
  simp only [merge_blocks_int_of.s1]
  by_cases g:cl v=v
  ·right
   rw [U.u0 v (by omega) g]
   exact ⟨_,rfl,by rw [← h2,g]⟩
  ·left
   obtain ⟨w,w1,w2,w3⟩:=U.u1 v (by omega) g
   rw [w2]
   exact ⟨_,rfl,⟨w,rfl,by omega,w3.trans h2⟩,by rw [Option.getD_some];omega⟩) fuel (↑u) ⟨u,rfl,Nat.le_refl _,rfl⟩ (by have:=fuel_big;omega)
 obtain ⟨r,e,rfl⟩:=key
 exact e
section
variable {p:T_api_Part} {s t:Nat}
theorem ClsL.mm {C:List Int} {cl:Nat→Nat} (K:ClsL p s t C cl) {u v:Nat} (hu:u<p.Next.length) (hv:v<p.Next.length):cl (min (cl u) (cl v))=min (cl u) (cl v)∧cl (max (cl u) (cl v))=max (cl u) (cl v):=by
 rcases Nat.le_total (cl u) (cl v) with h | h
 ·rw [Nat.min_eq_left h,Nat.max_eq_right h];exact ⟨K.idem u hu,K.idem v hv⟩
 ·rw [Nat.min_eq_right h,Nat.max_eq_left h];exact ⟨K.idem v hv,K.idem u hu⟩
theorem joinF_min {C:List Int} {cl:Nat→Nat} (K:ClsL p s t C cl) {u v:Nat} (hu:u<p.Next.length) (hv:v<p.Next.length):joinF cl u v (min (cl u) (cl v))=min (cl u) (cl v):=by
 unfold joinF
 rw [(K.mm hu hv).1]
 split<;>omega
theorem UpOk.join {C:List Int} {cl:Nat→Nat} {M:List (Int×Int)} (K:ClsL p s t C cl) (U:UpOk p.Next.length cl M) {u v:Nat} (hu:u<p.Next.length) (hv:v<p.Next.length) (hne:cl u≠cl v):UpOk p.Next.length (joinF cl u v) (mset (↑(max (cl u) (cl v)):Int) (↑(min (cl u) (cl v)):Int) M):=by
 obtain ⟨m1,m2⟩:=K.mm hu hv
 have hb:∀ a b:Int,(a==b)=true↔a=b:=fun a b=>beq_iff_eq
 have hcmax:joinF cl u v (max (cl u) (cl v))=min (cl u) (cl v):=by unfold joinF;rw [m2,if_pos rfl]
 refine ⟨fun q hq h=>?_,fun q hq h=>?_⟩
 ·by_cases e:q=max (cl u) (cl v)
  ·rw [e,hcmax] at h
   omega
  ·rw [mget_mset_ne hb (by omega)]
   refine U.u0 q hq ?_
   unfold joinF at h
   split at h
   ·rw [← h,m1]
   ·exact h
 ·by_cases e:q=max (cl u) (cl v)
  ·subst e
   exact ⟨min (cl u) (cl v),by omega,mget_mset_same hb _,by rw [hcmax,joinF_min K hu hv]⟩
  ·rw [mget_mset_ne hb (by omega)]
   have h0:cl q≠q:=fun g=>h (by
    unfold joinF
    rw [g,if_neg e])
   obtain ⟨w,w1,w2,w3⟩:=U.u1 q hq h0
   exact ⟨w,w1,w2,joinF_keep w3⟩
end
structure InI (n I:Nat) (N O:List (List Int)) (W0:List T_A2) (c1 c2:Nat) (N1 O1:List (List Int)) (W1:List T_A2) (a:Nat):Prop where
 gn:Grid n I N1
 go:Grid n I O1
 nx:∀ q b,q<n→b<I→gx N1 q b=if q=c1∧b<a∧gx N c1 b=-1 then gx N c2 b else gx N q b
 ot:∀ q b,q<n→b<I→gx O1 q b=if q=c1∧b<a∧gx N c1 b=-1 then gx O c2 b else gx O q b
 wk:∀ w,w∈W1→w∈W0∨∃ b,b<a∧gx N c1 b≠-1∧gx N c2 b≠-1∧w=⟨gx N c1 b,gx N c2 b⟩
 w0:∀ w,w∈W0→w∈W1
 w1:∀ b,b<a→gx N c1 b≠-1→gx N c2 b≠-1→gx O c1 b=gx O c2 b∧(⟨gx N c1 b,gx N c2 b⟩:T_A2)∈W1
 few:W1.length≤W0.length+a
def InQ (n I:Nat) (N O:List (List Int)) (W0:List T_A2) (c1 c2:Nat) (r:(List (List Int)×List (List Int)×List T_A2)⊕((List (List Int)×List (List Int)×(List (Int×Int))×List T_A2)⊕((List (List Int)×List (List Int)×(List (Int×Int))×List T_A2)⊕((List (List Int)×List (List Int)×(List (Int×Int)))⊕(T_api_Part×List Int×Bool))))):Prop :=
 (r=.inr (.inr (.inr (.inr (⟨0,0,[],[]⟩,[],false))))∧∃ b,b<I∧gx N c1 b≠-1∧gx N c2 b≠-1∧gx O c1 b≠gx O c2 b)∨∃ N1 O1 W1,r=.inl (N1,O1,W1)∧InI n I N O W0 c1 c2 N1 O1 W1 I
theorem loop_in {n I:Nat} {N O:List (List Int)} {W0:List T_A2} {c1 c2:Nat} {x y:Int×List (Int×Int)} (hmin:min x.1 y.1=(↑c1:Int)) (hmax:max x.1 y.1=(↑c2:Int)) (hc1:c1<n) (hc2:c2<n) (hne:c2≠c1) {e:List Int} (he:e.length=I) (hI:I≤64) (GN:Grid n I N) (GO:Grid n I O)
  (h1:∀ b,b<I→gx N c1 b=-1→gx O c1 b=-1) (h2:∀ b,b<I→gx N c2 b=-1→gx O c2 b=-1) (hW:W0.length≤1000000) :
  ∃ r,iter (fun (s:List (List Int)×List (List Int)×List T_A2×Nat)=>merge_folded.s43 x y e s.1 s.2.1 s.2.2.1 s.2.2.2) fuel (N,O,W0,0)=some r∧InQ n I N O W0 c1 c2 r:=by
 refine iter_post (step:=fun (s:List (List Int)×List (List Int)×List T_A2×Nat)=>merge_folded.s43 x y e s.1 s.2.1 s.2.2.1 s.2.2.2) (fun s=>s.2.2.2≤I∧InI n I N O W0 c1 c2 s.1 s.2.1 s.2.2.1 s.2.2.2) (fun s=>I-s.2.2.2) (InQ n I N O W0 c1 c2) (fun ⟨N1,O1,W1,a⟩ ⟨g1,g2⟩=>?_) fuel (N,O,W0,0) ⟨Nat.zero_le _,⟨GN,GO,fun q b _ _=>?_,fun q b _ _=>?_,fun w hw=>.inl hw,fun w hw=>hw,fun b hb=>?_,Nat.le_refl _⟩⟩ (by have:=fuel_big;simp only;omega)
 ·simp only at g1 g2
  unfold InQ
  simp only [merge_folded.s43,hmin,hmax,Int.toNat_natCast]
  by_cases ha:a<I
  ·obtain ⟨x2,hx2,hxa2,hl2⟩:=g2.gn.at hc2 ha
   obtain ⟨x1,hx1,hxa1,hl1⟩:=g2.gn.at hc1 ha
   obtain ⟨y2,hy2,hya2,hm2⟩:=g2.go.at hc2 ha
   obtain ⟨y1,hy1,hya1,hm1⟩:=g2.go.at hc1 ha
   have e2:gx N1 c2 a=gx N c2 a:=by rw [g2.nx c2 a hc2 ha,if_neg (fun h=>hne h.1)]
   have e1:gx N1 c1 a=gx N c1 a:=by rw [g2.nx c1 a hc1 ha,if_neg (fun h=>Nat.lt_irrefl _ h.2.1)]
   have o2:gx O1 c2 a=gx O c2 a:=by rw [g2.ot c2 a hc2 ha,if_neg (fun h=>hne h.1)]
   have o1:gx O1 c1 a=gx O c1 a:=by rw [g2.ot c1 a hc1 ha,if_neg (fun h=>Nat.lt_irrefl _ h.2.1)]
   rw [e1] at hxa1
   rw [e2] at hxa2
   rw [o1] at hya1
   rw [o2] at hya2
   have hf:=g2.few
   have hsame:∀ {q b:Nat} {A B D:Int},(q=c1→b=a→gx N c1 a=-1→A=B)→(if q=c1∧b<a∧gx N c1 b=-1 then A else B)=if q=c1∧b<a+1∧gx N c1 b=-1 then A else B:=fun {q b A B D} h=>by
    by_cases k:q=c1∧b<a∧gx N c1 b=-1
    ·rw [if_pos k,if_pos ⟨k.1,by omega,k.2.2⟩]
    ·rw [if_neg k]
     by_cases k2:q=c1∧b<a+1∧gx N c1 b=-1
     ·have:b=a:=Nat.le_antisymm (by omega) (Nat.le_of_not_lt fun k3=>k ⟨k2.1,k3,k2.2.2⟩)
      subst this
      rw [if_pos k2,h k2.1 rfl k2.2.2]
     ·rw [if_neg k2]
   rw [decide_eq_true (by omega),cond_true,idxn_at hx2,idxn_at hxa2]
   by_cases k2:gx N c2 a=-1
   ·left
    refine ⟨(N1,O1,W1,a+1),by rw [decide_eq_true k2,cond_true,chk_pos (by unfold inR;omega)],⟨ha,g2.gn,g2.go,fun q b hq hb=>?_,fun q b hq hb=>?_,fun w hw=>?_,g2.w0,fun b hb hb1 hb2=>?_,by simp only;omega⟩,by simp only;omega⟩
    ·simp only
     rw [g2.nx q b hq hb]
     exact hsame (D:=0) fun e3 e4 e5=>by rw [e3,e4,k2,e5]
    ·simp only
     rw [g2.ot q b hq hb]
     exact hsame (D:=0) fun e3 e4 e5=>by rw [e3,e4,h1 a ha e5,h2 a ha k2]
    ·rcases g2.wk w hw with h | ⟨b,b1,b2⟩
     ·exact .inl h
     ·exact .inr ⟨b,by simp only;omega,b2⟩
    ·exact g2.w1 b (Nat.lt_of_le_of_ne (by simp only at hb;omega) fun e3=>hb2 (by rw [e3];exact k2)) hb1 hb2
   ·rw [decide_eq_false k2,cond_false,idx_at (i:=c1) rfl hx1,idxn_at hxa1]
    by_cases k1:gx N c1 a=-1
    ·left
     obtain ⟨p1,p2⟩:=g2.gn.put hc1 ha hx1 (gx N c2 a)
     obtain ⟨r1,r2⟩:=g2.go.put hc1 ha hy1 (gx O c2 a)
     refine ⟨(N1.set c1 (x1.set a (gx N c2 a)),O1.set c1 (y1.set a (gx O c2 a)),W1,a+1),by rw [decide_eq_true k1,cond_true,idx_at (i:=c1) rfl hx1,idx_at (i:=c1) rfl hy1,idx_at (i:=c2) rfl hy2,idxn_at hya2,idxn_at hxa1,idxn_at hya1,chk_pos (by unfold inR;omega)],⟨ha,p1,r1,fun q b hq hb=>?_,fun q b hq hb=>?_,fun w hw=>?_,g2.w0,fun b hb hb1 hb2=>?_,by simp only;omega⟩,by simp only;omega⟩
     ·simp only
      rw [p2 q b hq hb]
      by_cases k:q=c1∧b=a
      ·rw [if_pos k,if_pos ⟨k.1,by omega,by rw [k.2];exact k1⟩,k.2]
      ·rw [if_neg k,g2.nx q b hq hb]
       exact hsame (D:=0) fun e3 e4=>absurd ⟨e3,e4⟩ k
     ·simp only
      rw [r2 q b hq hb]
      by_cases k:q=c1∧b=a
      ·rw [if_pos k,if_pos ⟨k.1,by omega,by rw [k.2];exact k1⟩,k.2]
      ·rw [if_neg k,g2.ot q b hq hb]
       exact hsame (D:=0) fun e3 e4=>absurd ⟨e3,e4⟩ k
     ·rcases g2.wk w hw with h | ⟨b,b1,b2⟩
      ·exact .inl h
      ·exact .inr ⟨b,by simp only;omega,b2⟩
     ·exact g2.w1 b (Nat.lt_of_le_of_ne (by simp only at hb;omega) fun e3=>hb1 (by rw [e3];exact k1)) hb1 hb2
    ·rw [decide_eq_false k1,cond_false,idx_at (i:=c1) rfl hy1,idxn_at hya1,idx_at (i:=c2) rfl hy2,idxn_at hya2]
     by_cases k3:gx O c1 a≠gx O c2 a
     ·right
      exact ⟨_,by rw [decide_eq_true k3,cond_true],.inl ⟨rfl,a,ha,k1,k2,k3⟩⟩
     ·left
      have k3:=Classical.not_not.1 k3
      refine ⟨(N1,O1,W1++[⟨gx N c1 a,gx N c2 a⟩],a+1),by rw [decide_eq_false (fun h=>h k3),cond_false,idx_at (i:=c1) rfl hx1,idxn_at hxa1,chk_pos (by unfold capOk;omega),chk_pos (by unfold inR;omega)],⟨ha,g2.gn,g2.go,fun q b hq hb=>?_,fun q b hq hb=>?_,fun w hw=>?_,fun w hw=>List.mem_append_left _ (g2.w0 w hw),fun b hb hb1 hb2=>?_,by simp only [List.length_append,List.length_singleton];omega⟩,by simp only;omega⟩
      ·simp only
       rw [g2.nx q b hq hb]
       exact hsame (D:=0) fun _ _ e5=>absurd e5 k1
      ·simp only
       rw [g2.ot q b hq hb]
       exact hsame (D:=0) fun _ _ e5=>absurd e5 k1
      ·rcases List.mem_append.1 hw with hw | hw
       ·rcases g2.wk w hw with h | ⟨b,b1,b2⟩
        ·exact .inl h
        ·exact .inr ⟨b,by simp only;omega,b2⟩
       ·exact .inr ⟨a,by simp only;omega,k1,k2,List.mem_singleton.1 hw⟩
      ·by_cases e3:b=a
       ·rw [e3]
        exact ⟨k3,List.mem_append_right _ (List.mem_singleton.2 rfl)⟩
       ·obtain ⟨q1,q2⟩:=g2.w1 b (by simp only at hb;omega) hb1 hb2
        exact ⟨q1,List.mem_append_left _ q2⟩
  ·right
   have e3:a=I:=by omega
   rw [e3] at g2
   exact ⟨_,by rw [decide_eq_false (by omega),cond_false],.inr ⟨N1,O1,W1,rfl,g2⟩⟩
 ·rw [if_neg (fun h=>Nat.not_lt_zero _ h.2.1)]
 ·rw [if_neg (fun h=>Nat.not_lt_zero _ h.2.1)]
 ·exact absurd hb (Nat.not_lt_zero _)
end Go.Proofs.YteigfkncoiiaiaaGreatDoor.Sym

/-
 The fold's work list, to its end. Plain laws.
-/
namespace Go.Proofs.YteigfkncoiiaiaaGreatDoor.Sym
set_option maxRecDepth 100000
def Lab (n:Nat) (cl:Nat→Nat) (W:List T_A2) (f:Nat→Nat):Prop:=(∀ q r,q<n→r<n→cl q=cl r→f q=f r)∧∀ u v:Nat,(⟨(↑u:Int),(↑v:Int)⟩:T_A2)∈W→f u=f v
structure FoldI (p:T_api_Part) (s t:Nat) (cl:Nat→Nat) (N O:List (List Int)) (M:List (Int×Int)) (W:List T_A2):Prop where
 gn:Grid p.Next.length p.Inputs.toNat N
 go:Grid p.Next.length p.Inputs.toNat O
 cls:∃ C,ClsL p s t C cl
 up:UpOk p.Next.length cl M
 wk:∀ w,w∈W→∃ u v:Nat,w=⟨(↑u:Int),(↑v:Int)⟩∧u<p.Next.length∧v<p.Next.length∧Cong p s t u v
 st:∀ f,Lab p.Next.length cl W f→f s=f t
 row:∀ c a,c<p.Next.length→a<p.Inputs.toNat→cl c=c→(gx N c a=-1→gx O c a=-1∧∀ r,r<p.Next.length→cl r=c→pnx p r a=-1)∧(gx N c a≠-1→∃ u:Nat,gx N c a=(↑u:Int)∧u<p.Next.length∧(∃ r,r<p.Next.length∧cl r=c∧pnx p r a=(↑u:Int)∧pot p r a=gx O c a)∧∀ r,r<p.Next.length→cl r=c→pnx p r a≠-1→pot p r a=gx O c a∧∀ f,Lab p.Next.length cl W f→f u=f (pnx p r a).toNat)
 few:65*repsN p.Next.length cl+W.length≤65*p.Next.length+1
 rng:∀ q a,q<p.Next.length→a<p.Inputs.toNat→gx N q a=-1∨∃ u:Nat,gx N q a=(↑u:Int)∧u<p.Next.length
section
variable {p:T_api_Part} {s t:Nat}
theorem FoldI.join {cl:Nat→Nat} {N O:List (List Int)} {M:List (Int×Int)} {W:List T_A2} {u v:Nat} (H:PartOk p) (F:FoldI p s t cl N O M (⟨(↑u:Int),(↑v:Int)⟩::W)) (hu:u<p.Next.length) (hv:v<p.Next.length) (huv:Cong p s t u v) (hne:cl u≠cl v) {N1 O1:List (List Int)} {W1:List T_A2} (J:InI p.Next.length p.Inputs.toNat N O W (min (cl u) (cl v)) (max (cl u) (cl v)) N1 O1 W1 p.Inputs.toNat) :
  FoldI p s t (joinF cl u v) N1 O1 (mset (↑(max (cl u) (cl v)):Int) (↑(min (cl u) (cl v)):Int) M) W1∧65*repsN p.Next.length (joinF cl u v)+W1.length<65*repsN p.Next.length cl+(W.length+1):=by
 obtain ⟨C,K⟩:=F.cls
 have hn:=H.n2
 have hi:=H.i2
 obtain ⟨C',_,K',hreps⟩:=K.join hu hv huv (by omega)
 have hreps:=hreps hne
 obtain ⟨m1,m2⟩:=K.mm hu hv
 have hup:=F.up.join K hu hv hne
 have hcu:=K.le u hu
 have hcv:=K.le v hv
 have hcc:Cong p s t (min (cl u) (cl v)) (max (cl u) (cl v)):=by
  have h0:Cong p s t (cl u) (cl v):=(K.sound u hu).symm.trans (huv.trans (K.sound v hv))
  rcases Nat.le_total (cl u) (cl v) with h | h
  ·rw [Nat.max_eq_right h,Nat.min_eq_left h];exact h0
  ·rw [Nat.max_eq_left h,Nat.min_eq_right h];exact h0.symm
 have hj:∀ r,joinF cl u v r=if cl r=max (cl u) (cl v) then min (cl u) (cl v) else cl r:=fun r=>rfl
 have hsame:=joinF_same cl u v
 have hlt:min (cl u) (cl v)<max (cl u) (cl v):=by omega
 have hl1:min (cl u) (cl v)<p.Next.length:=by omega
 have hl2:max (cl u) (cl v)<p.Next.length:=by omega
 generalize hc1:min (cl u) (cl v)=c1 at *
 generalize hc2:max (cl u) (cl v)=c2 at *
 have hj1:∀ r,cl r=c1→joinF cl u v r=c1:=fun r h=>by rw [hj,h,if_neg (by omega)]
 have hj2:∀ r,cl r=c2→joinF cl u v r=c1:=fun r h=>by rw [hj,h,if_pos rfl]
 have hj3:∀ r c,cl r=c→c≠c2→joinF cl u v r=c:=fun r c h h2=>by rw [hj,h,if_neg h2]
 have hsub:∀ f,Lab p.Next.length (joinF cl u v) W1 f→Lab p.Next.length cl (⟨(↑u:Int),(↑v:Int)⟩::W) f:=fun f ⟨f1,f2⟩=>⟨fun q r hq hr e=>f1 q r hq hr (joinF_keep e),fun u' v' h=>by
  rcases List.mem_cons.1 h with h | h
  ·injection h with h3 h4
   have e1:u'=u:=by omega
   have e2:v'=v:=by omega
   rw [e1,e2]
   exact f1 _ _ hu hv hsame
  ·exact f2 u' v' (J.w0 _ h)⟩
 have hfew:=F.few
 have hJ:=J.few
 rw [List.length_cons] at hfew
 have hrng:∀ q a,q<p.Next.length→a<p.Inputs.toNat→gx N1 q a=-1∨∃ u:Nat,gx N1 q a=(↑u:Int)∧u<p.Next.length:=fun q a hq ha=>by
  rw [J.nx q a hq ha]
  split
  ·exact F.rng _ _ hl2 ha
  ·exact F.rng _ _ hq ha
 refine ⟨⟨J.gn,J.go,⟨C',K'⟩,hup,fun w hw=>?_,fun f hf=>F.st f (hsub f hf),fun c a hc ha hcl=>?_,by omega,hrng⟩,by omega⟩
 ·rcases J.wk w hw with h | ⟨b,b1,b2,b3,b4⟩
  ·exact F.wk w (List.mem_cons_of_mem _ h)
  ·obtain ⟨u1,a1,a2,⟨r1,d1,d2,d3,_⟩,_⟩:=(F.row c1 b hl1 b1 m1).2 b2
   obtain ⟨u2,e1,e2,⟨r2,g1,g2,g3,_⟩,_⟩:=(F.row c2 b hl2 b1 m2).2 b3
   refine ⟨u1,u2,by rw [b4,a1,e1],a2,e2,.step b u1 u2 ?_ d3 g3⟩
   have k1:=K.sound r1 d1
   have k2:=K.sound r2 g1
   rw [d2] at k1
   rw [g2] at k2
   exact k1.trans (hcc.trans k2.symm)
 ·have hcc2:cl c=c∧c≠c2:=by
   rw [hj] at hcl
   split at hcl
   ·rename_i g
    rw [← hcl,m1] at g
    omega
   ·rename_i g
    exact ⟨hcl,fun e=>g (by rw [e];exact m2)⟩
  have hclass:∀ r,joinF cl u v r=c→cl r=c∨(c=c1∧cl r=c2):=fun r h=>by
   rw [hj] at h
   split at h
   ·rename_i g
    exact .inr ⟨h.symm,g⟩
   ·exact .inl h
  by_cases e:c=c1
  ·have hN:=J.nx c a hc ha
   have hO:=J.ot c a hc ha
   rw [e] at hN hO hclass
   rw [e]
   have row1:=F.row c1 a hl1 ha m1
   have row2:=F.row c2 a hl2 ha m2
   by_cases k1:gx N c1 a=-1
   ·rw [if_pos ⟨rfl,ha,k1⟩] at hN hO
    rw [hN,hO]
    refine ⟨fun k2=>⟨(row2.1 k2).1,fun r hr hrc=>?_⟩,fun k2=>?_⟩
    ·rcases hclass r hrc with h | ⟨_,h⟩
     ·exact (row1.1 k1).2 r hr h
     ·exact (row2.1 k2).2 r hr h
    ·obtain ⟨u2,a1,a2,⟨r2,b1,b2,b3,b4⟩,a4⟩:=row2.2 k2
     refine ⟨u2,a1,a2,⟨r2,b1,hj2 _ b2,b3,b4⟩,fun r hr hrc hp=>?_⟩
     rcases hclass r hrc with h | ⟨_,h⟩
     ·exact absurd ((row1.1 k1).2 r hr h) hp
     ·obtain ⟨d1,d2⟩:=a4 r hr h hp
      exact ⟨d1,fun f hf=>d2 f (hsub f hf)⟩
   ·rw [if_neg (fun h=>k1 h.2.2)] at hN hO
    rw [hN,hO]
    refine ⟨fun k=>absurd k k1,fun _=>?_⟩
    obtain ⟨u1,a1,a2,⟨r1,b1,b2,b3,b4⟩,a4⟩:=row1.2 k1
    refine ⟨u1,a1,a2,⟨r1,b1,hj1 _ b2,b3,b4⟩,fun r hr hrc hp=>?_⟩
    rcases hclass r hrc with h | ⟨_,h⟩
    ·obtain ⟨d1,d2⟩:=a4 r hr h hp
     exact ⟨d1,fun f hf=>d2 f (hsub f hf)⟩
    ·have k2:gx N c2 a≠-1:=fun k=>hp ((row2.1 k).2 r hr h)
     obtain ⟨u2,e1,e2,_,e4⟩:=row2.2 k2
     obtain ⟨d1,d2⟩:=e4 r hr h hp
     obtain ⟨j1,j2⟩:=J.w1 a ha k1 k2
     rw [a1,e1] at j2
     exact ⟨by rw [j1];exact d1,fun f hf=>(hf.2 u1 u2 j2).trans (d2 f (hsub f hf))⟩
  ·have hN:=J.nx c a hc ha
   have hO:=J.ot c a hc ha
   rw [if_neg (fun h=>e h.1)] at hN hO
   rw [hN,hO]
   have row1:=F.row c a hc ha hcc2.1
   have hcl2:∀ r,joinF cl u v r=c→cl r=c:=fun r h=>(hclass r h).elim id fun h=>absurd h.1 e
   refine ⟨fun k=>⟨(row1.1 k).1,fun r hr hrc=>(row1.1 k).2 r hr (hcl2 r hrc)⟩,fun k=>?_⟩
   obtain ⟨u1,a1,a2,⟨r1,b1,b2,b3,b4⟩,a4⟩:=row1.2 k
   refine ⟨u1,a1,a2,⟨r1,b1,hj3 _ _ b2 hcc2.2,b3,b4⟩,fun r hr hrc hp=>?_⟩
   obtain ⟨d1,d2⟩:=a4 r hr (hcl2 r hrc) hp
   exact ⟨d1,fun f hf=>d2 f (hsub f hf)⟩
theorem fold_step (H:PartOk p) {cl:Nat→Nat} {N O:List (List Int)} {M:List (Int×Int)} {W:List T_A2} (F:FoldI p s t cl N O M W) :
  (W=[]∧merge_folded.s46 N O M W=some (.inr (.inl (N,O,M))))∨(merge_folded.s46 N O M W=some (.inr (.inr (⟨0,0,[],[]⟩,[],false)))∧Confl p s t)∨∃ N' O' M' W' cl',merge_folded.s46 N O M W=some (.inl (N',O',M',W'))∧FoldI p s t cl' N' O' M' W'∧65*repsN p.Next.length cl'+W'.length<65*repsN p.Next.length cl+W.length:=by
 have hn:=H.n2
 have hi:=H.i2
 cases W with
 | nil=>exact .inl ⟨rfl,by unfold merge_folded.s46;rw [decide_eq_false (by simp),cond_false]⟩
 | cons w W =>
  right
  obtain ⟨u,v,rfl,hu,hv,huv⟩:=F.wk w List.mem_cons_self
  obtain ⟨C,K⟩:=F.cls
  have hfew:=F.few
  rw [List.length_cons] at hfew
  have hcu:=K.le u hu
  have hcv:=K.le v hv
  have e0:=of_eq F.up (by omega) hu
  have e1:=of_eq F.up (by omega) hv
  by_cases g:cl u=cl v
  ·right
   refine ⟨N,O,M,W,cl,?_,⟨F.gn,F.go,F.cls,F.up,fun w hw=>F.wk w (List.mem_cons_of_mem _ hw),fun f hf=>F.st f ?_,fun c a hc ha hcl=>?_,by omega,F.rng⟩,by rw [List.length_cons];omega⟩
   ·unfold merge_folded.s46
    rw [decide_eq_true (by rw [List.length_cons];omega),cond_true,idxn_at (x:=⟨(↑u:Int),(↑v:Int)⟩) rfl,e0,obind,idxn_at (x:=⟨(↑u:Int),(↑v:Int)⟩) rfl,e1,obind,chk_pos (by simp),decide_eq_true (by simp [g]),cond_true,obind,Sum.elim_inl]
    rfl
   ·refine ⟨hf.1,fun u' v' h=>?_⟩
    rcases List.mem_cons.1 h with h | h
    ·injection h with h3 h4
     have q1:u'=u:=by omega
     have q2:v'=v:=by omega
     rw [q1,q2]
     exact hf.1 u v hu hv g
    ·exact hf.2 u' v' h
   ·have hlab:∀ f,Lab p.Next.length cl W f→Lab p.Next.length cl (⟨(↑u:Int),(↑v:Int)⟩::W) f:=fun f hf=>⟨hf.1,fun u' v' h=>by
     rcases List.mem_cons.1 h with h | h
     ·injection h with h3 h4
      have q1:u'=u:=by omega
      have q2:v'=v:=by omega
      rw [q1,q2]
      exact hf.1 u v hu hv g
     ·exact hf.2 u' v' h⟩
    obtain ⟨r1,r2⟩:=F.row c a hc ha hcl
    refine ⟨r1,fun k=>?_⟩
    obtain ⟨x,a1,a2,a3,a4⟩:=r2 k
    exact ⟨x,a1,a2,a3,fun r hr hrc hp=>⟨(a4 r hr hrc hp).1,fun f hf=>(a4 r hr hrc hp).2 f (hlab f hf)⟩⟩
  ·have hl1:min (cl u) (cl v)<p.Next.length:=by omega
   have hl2:max (cl u) (cl v)<p.Next.length:=by omega
   obtain ⟨m1,m2⟩:=K.mm hu hv
   obtain ⟨x2,hx2,hxl⟩:=F.gn.row _ hl2
   obtain ⟨r,e,hr⟩:=loop_in (W0:=W) (c1:=min (cl u) (cl v)) (c2:=max (cl u) (cl v)) (x:=((↑(cl u):Int),M)) (y:=((↑(cl v):Int),M)) (show min (↑(cl u):Int) (↑(cl v):Int)=_ by omega) (show max (↑(cl u):Int) (↑(cl v):Int)=_ by omega) hl1 hl2 (by omega) hxl (by omega) F.gn F.go (fun b hb h=>((F.row _ b hl1 hb m1).1 h).1) (fun b hb h=>((F.row _ b hl2 hb m2).1 h).1) (by omega)
   have es:merge_folded.s46 N O M (⟨(↑u:Int),(↑v:Int)⟩::W)=((Sum.elim (fun (s:List (List Int)×List (List Int)×List T_A2)=>merge_folded.k44 (mset (↑(max (cl u) (cl v)):Int) (↑(min (cl u) (cl v)):Int) M) s.1 s.2.1 s.2.2) some r)).bind (Sum.elim (fun (s:List (List Int)×List (List Int)×(List (Int×Int))×List T_A2)=>merge_folded.k45 s.1 s.2.1 s.2.2.1 s.2.2.2) some):=by
    unfold merge_folded.s46
    have ej:merge_blocks_int_join ⟨M⟩ (min (↑(cl u):Int) (↑(cl v):Int)) (max (↑(cl u):Int) (↑(cl v):Int))=some (mset (↑(max (cl u) (cl v)):Int) (↑(min (cl u) (cl v)):Int) M):=by
     unfold merge_blocks_int_join
     rw [show max (↑(cl u):Int) (↑(cl v):Int)=(↑(max (cl u) (cl v)):Int) by omega,show min (↑(cl u):Int) (↑(cl v):Int)=(↑(min (cl u) (cl v)):Int) by omega]
    rw [decide_eq_true (by rw [List.length_cons];omega),cond_true,idxn_at (x:=⟨(↑u:Int),(↑v:Int)⟩) rfl,e0,obind,idxn_at (x:=⟨(↑u:Int),(↑v:Int)⟩) rfl,e1,obind,chk_pos (by simp),decide_eq_false (by simp only;omega),cond_false,ej,obind,idx_at (i:=max (cl u) (cl v)) (by simp only;omega) hx2,List.drop_succ_cons,List.drop_zero,e,obind]
   rw [es]
   rcases hr with ⟨hr,b,b1,b2,b3,b4⟩ | ⟨N1,O1,W1,hr,J⟩
   ·left
    refine ⟨by rw [hr,Sum.elim_inr,obind,Sum.elim_inr],?_⟩
    obtain ⟨u1,_,_,⟨r1,d1,d2,d3,d4⟩,_⟩:=(F.row _ b hl1 b1 m1).2 b2
    obtain ⟨u2,_,_,⟨r2,g1,g2,g3,g4⟩,_⟩:=(F.row _ b hl2 b1 m2).2 b3
    have k1:=K.sound r1 d1
    have k2:=K.sound r2 g1
    rw [d2] at k1
    rw [g2] at k2
    have h0:Cong p s t (cl u) (cl v):=(K.sound u hu).symm.trans (huv.trans (K.sound v hv))
    have hcc:Cong p s t (min (cl u) (cl v)) (max (cl u) (cl v)):=by
     rcases Nat.le_total (cl u) (cl v) with h | h
     ·rw [Nat.max_eq_right h,Nat.min_eq_left h];exact h0
     ·rw [Nat.max_eq_left h,Nat.min_eq_right h];exact h0.symm
    exact ⟨r1,r2,b,k1.trans (hcc.trans k2.symm),by rw [d3];omega,by rw [g3];omega,by rw [d4,g4];exact b4⟩
   ·right
    obtain ⟨F',hd⟩:=F.join H hu hv huv g J
    exact ⟨N1,O1,_,W1,_,by rw [hr,Sum.elim_inl];unfold merge_folded.k44;rw [obind,Sum.elim_inl];rfl,F',by rw [List.length_cons];exact hd⟩
def repsM (n:Nat) (M:List (Int×Int)):Nat:=(List.range n).countP fun (q:Nat)=>(mget (↑q:Int) M).isNone
theorem loop_fold (H:PartOk p) (hs:s<p.Next.length) (ht:t<p.Next.length) :
  ∃ r,iter (fun (q:List (List Int)×List (List Int)×(List (Int×Int))×List T_A2)=>merge_folded.s46 q.1 q.2.1 q.2.2.1 q.2.2.2) fuel (p.Next,p.Out,[],[⟨(↑s:Int),(↑t:Int)⟩])=some r ∧
   ((r=.inr (⟨0,0,[],[]⟩,[],false)∧Confl p s t)∨∃ N O M cl,r=.inl (N,O,M)∧FoldI p s t cl N O M []):=by
 have hn:=H.n2
 have hi:=H.i2
 have K0:ClsL p s t ((List.range p.Next.length).map fun (b:Nat)=>(↑b:Int)) (fun b=>b):=⟨by simp,fun q hq=>by rw [List.getElem?_map,List.getElem?_range hq];rfl,fun q _=>Nat.le_refl q,fun _ _=>rfl,fun q _=>.refl q⟩
 have F0:FoldI p s t (fun b=>b) p.Next p.Out [] [⟨(↑s:Int),(↑t:Int)⟩]:=by
  refine ⟨H.gn,H.go,⟨_,K0⟩,⟨fun q _ _=>rfl,fun q _ h=>absurd rfl h⟩,fun w hw=>⟨s,t,List.mem_singleton.1 hw,hs,ht,.base⟩,fun f hf=>hf.2 s t (List.mem_singleton.2 rfl),fun c a hc ha _=>?_,?_,fun q a hq ha=>?_⟩
  ·obtain ⟨n1,n2,n3,n4,n5,_⟩:=H.at hc ha
   have h1:gx p.Next c a=pnx p c a:=rfl
   have h2:gx p.Out c a=pot p c a:=rfl
   rw [h1,h2]
   refine ⟨fun h=>⟨n5.1 h,fun r _ e=>by rw [e];exact h⟩,fun h=>⟨(pnx p c a).toNat,by omega,by omega,⟨c,hc,rfl,by omega,rfl⟩,fun r _ e _=>?_⟩⟩
   rw [e]
   exact ⟨rfl,fun f _=>rfl⟩
  ·have:=repsN_le p.Next.length fun b=>b
   simp only [List.length_singleton]
   omega
  ·obtain ⟨n1,n2,_⟩:=H.at hq ha
   have h1:gx p.Next q a=pnx p q a:=rfl
   rw [h1]
   by_cases k:pnx p q a=-1
   ·exact .inl k
   ·exact .inr ⟨(pnx p q a).toNat,by omega,by omega⟩
 have hm:∀ (cl:Nat→Nat) (M:List (Int×Int)),UpOk p.Next.length cl M→repsM p.Next.length M=repsN p.Next.length cl:=fun cl M U=>by
  unfold repsM repsN
  refine List.countP_congr fun q hq=>?_
  have hq:=List.mem_range.1 hq
  by_cases h:cl q=q
  ·rw [U.u0 q hq h,decide_eq_true h]
   simp
  ·obtain ⟨w,_,w2,_⟩:=U.u1 q hq h
   rw [w2,decide_eq_false h]
   simp
 refine iter_post (step:=fun (q:List (List Int)×List (List Int)×(List (Int×Int))×List T_A2)=>merge_folded.s46 q.1 q.2.1 q.2.2.1 q.2.2.2) (fun q=>∃ cl,FoldI p s t cl q.1 q.2.1 q.2.2.1 q.2.2.2) (fun q=>65*repsM p.Next.length q.2.2.1+q.2.2.2.length) (fun r=>(r=.inr (⟨0,0,[],[]⟩,[],false)∧Confl p s t)∨∃ N O M cl,r=.inl (N,O,M)∧FoldI p s t cl N O M []) (fun ⟨N,O,M,W⟩ ⟨cl,F⟩=>?_) fuel _ ⟨_,F0⟩ ?_
 ·simp only at F
  simp only
  rcases fold_step H F with ⟨e1,e2⟩ | ⟨e1,e2⟩ | ⟨N',O',M',W',cl',e1,F',e2⟩
  ·rw [e1] at F
   exact .inr ⟨_,e2,.inr ⟨N,O,M,cl,rfl,F⟩⟩
  ·exact .inr ⟨_,e1,.inl ⟨rfl,e2⟩⟩
  ·exact .inl ⟨(N',O',M',W'),e1,⟨cl',F'⟩,by simp only;rw [hm _ _ F.up,hm _ _ F'.up];exact e2⟩
 ·have h1:=hm _ _ F0.up
  have h2:=repsN_le p.Next.length fun b=>b
  have:=fuel_big
  simp only [List.length_singleton]
  omega
theorem FoldI.done (H:PartOk p) (hs:s<p.Next.length) (ht:t<p.Next.length) {cl:Nat→Nat} {N O:List (List Int)} {M:List (Int×Int)} (F:FoldI p s t cl N O M []):(∀ q,q<p.Next.length→cl q=clsOf p s t q)∧¬ Confl p s t:=by
 obtain ⟨C,K⟩:=F.cls
 have hlab:Lab p.Next.length cl [] cl:=⟨fun _ _ _ _ h=>h,fun _ _ h=>by cases h⟩
 refine cls_done H hs ht K (F.st cl hlab) fun a ha q r hq hr e h1 h2=>?_
 have hc:cl q<p.Next.length:=by have:=K.le q hq;omega
 obtain ⟨r1,r2⟩:=F.row (cl q) a hc ha (K.idem q hq)
 by_cases k:gx N (cl q) a=-1
 ·exact absurd ((r1 k).2 q hq rfl) h1
 ·obtain ⟨u,a1,a2,a3,a4⟩:=r2 k
  obtain ⟨b1,b2⟩:=a4 q hq rfl h1
  obtain ⟨c1,c2⟩:=a4 r hr e.symm h2
  exact ⟨b1.trans c1.symm,(b2 cl hlab).symm.trans (c2 cl hlab)⟩
end
end Go.Proofs.YteigfkncoiiaiaaGreatDoor.Sym

/-
 A machine numbered anew, in breadth from its start. Plain laws.
-/
namespace Go.Proofs.YteigfkncoiiaiaaGreatDoor.Sym
set_option maxRecDepth 100000
theorem nodup_lenF {α:Type} [DecidableEq α]:∀ {a b:List α},a.Nodup→(∀ x∈a,x∈b)→a.length≤b.length
 | [],_,_,_=>Nat.zero_le _
 | x::a,b,hn,h=>by
  obtain ⟨h1,h2⟩:=List.nodup_cons.1 hn
  have:=nodup_lenF (a:=a) (b:=b.erase x) h2 fun y hy=>(List.mem_erase_of_ne (fun e=>h1 (by rw [← e];exact hy))).2 (h y (List.mem_cons_of_mem _ hy))
  rw [List.length_erase_of_mem (h x List.mem_cons_self)] at this
  have hp:0<b.length:=List.length_pos_of_mem (h x List.mem_cons_self)
  rw [List.length_cons]
  omega
def addT (L:List Nat) (t:Int):List Nat:=if t=-1∨t.toNat∈L then L else L++[t.toNat]
def bfsL (R:Nat→List Int):Nat→Nat→List Nat→List Nat
 | 0,_,L=>L
 | f+1,i,L=>match L[i]? with
  | none=>L
  | some c=>bfsL R f (i+1) ((R c).foldl addT L)
structure NumL (n:Nat) (L:List Nat) (nums:List Int):Prop where
 len:nums.length=n
 at_:∀ c,c<n→nums[c]?=some (if c∈L then (↑(L.idxOf c):Int) else -1)
 nd:L.Nodup
 lt:∀ c,c∈L→c<n
theorem NumL.le {n:Nat} {L:List Nat} {nums:List Int} (A:NumL n L nums):L.length≤n:=by
 have:=nodup_lenF (b:=List.range n) A.nd fun x hx=>List.mem_range.2 (A.lt x hx)
 rwa [List.length_range] at this
theorem NumL.push {n:Nat} {L:List Nat} {nums:List Int} (A:NumL n L nums) {c:Nat} (hc:c<n) (h:c∉L):NumL n (L++[c]) (nums.set c (↑L.length:Int)):=by
 have hl:=A.len
 refine ⟨by rw [List.length_set];exact A.len,fun d hd=>?_,?_,fun d hd=>?_⟩
 ·by_cases e:d=c
  ·subst e
   rw [List.getElem?_set_self (by omega),if_pos (List.mem_append_right _ (List.mem_singleton.2 rfl)),List.idxOf_append,if_neg h]
   simp
  ·rw [List.getElem?_set_ne (by omega),A.at_ d hd]
   by_cases k:d∈L
   ·rw [if_pos k,if_pos (List.mem_append_left _ k),List.idxOf_append,if_pos k]
   ·rw [if_neg k,if_neg (fun g=>(List.mem_append.1 g).elim k fun g=>e (List.mem_singleton.1 g))]
 ·refine List.nodup_append.2 ⟨A.nd,by simp,fun a ha b hb=>?_⟩
  rw [List.mem_singleton.1 hb]
  exact fun g=>h (by rw [← g];exact ha)
 ·rcases List.mem_append.1 hd with k | k
  ·exact A.lt d k
  ·rw [List.mem_singleton.1 k];exact hc
def cast_ (L:List Nat):List Int:=L.map fun (c:Nat)=>(↑c:Int)
theorem loop_s18 {n:Nat} {e:List Int} (he:∀ (k:Nat) (t:Int),e[k]?=some t→t=-1∨∃ u:Nat,t=(↑u:Int)∧u<n) (hl:e.length≤1000000) {L:List Nat} {nums:List Int} (A:NumL n L nums) (hn:n≤1000000) :
  ∃ nums',iter (fun (s:List Int×List Int×Nat)=>merge_renumbered.s18 e s.1 s.2.1 s.2.2) fuel (nums,cast_ L,0)=some (nums',cast_ (e.foldl addT L))∧NumL n (e.foldl addT L) nums':=by
 have key:=iter_post (step:=fun (s:List Int×List Int×Nat)=>merge_renumbered.s18 e s.1 s.2.1 s.2.2) (fun s=>s.2.2≤e.length∧∃ L',s.2.1=cast_ L'∧NumL n L' s.1∧(e.drop s.2.2).foldl addT L'=e.foldl addT L) (fun s=>e.length-s.2.2) (fun r=>∃ nums',r=(nums',cast_ (e.foldl addT L))∧NumL n (e.foldl addT L) nums') (fun ⟨y,z,k⟩ ⟨g1,L',g2,g3,g4⟩=>by
  simp only at g1 g2 g3 g4
  subst g2
  simp only [merge_renumbered.s18]
  by_cases h:k<e.length
  ·left
   have hx:=get_at h
   have hd:(e.drop k).foldl addT L'=(e.drop (k+1)).foldl addT (addT L' e[k]):=by rw [List.drop_eq_getElem_cons h,List.foldl_cons]
   rw [hd] at g4
   rw [dec_lt hx,cond_true,idxn_at hx]
   by_cases t0:e[k]=-1
   ·exact ⟨(y,cast_ L',k+1),by rw [decide_eq_false (fun g=>g t0),cond_false,obind,cond_false],⟨h,L',rfl,g3,by rw [← g4];unfold addT;rw [if_pos (.inl t0)]⟩,by simp only;omega⟩
   ·obtain ⟨u,hu,hun⟩:=(he k _ hx).resolve_left t0
    have hy:=g3.at_ u hun
    rw [decide_eq_true t0,cond_true,idx_at (i:=u) hu hy,obind]
    by_cases k1:u∈L'
    ·rw [if_pos k1,decide_eq_false (by omega),cond_false]
     exact ⟨(y,cast_ L',k+1),rfl,⟨h,L',rfl,g3,by rw [← g4];unfold addT;rw [if_pos (.inr (by rw [hu];exact k1))]⟩,by simp only;omega⟩
    ·have hle:=g3.le
     have hcl:(cast_ L').length=L'.length:=by unfold cast_;rw [List.length_map]
     rw [if_neg k1,decide_eq_true rfl,cond_true,idx_at (i:=u) hu hy,chk_pos (by unfold capOk;omega)]
     refine ⟨(y.set u (↑L'.length:Int),cast_ (L'++[u]),k+1),?_,⟨h,L'++[u],rfl,g3.push hun k1,?_⟩,by simp only;omega⟩
     ·rw [hu,hcl]
      unfold cast_
      rw [List.map_append,Int.toNat_natCast]
      rfl
     ·rw [← g4]
      unfold addT
      rw [if_neg (fun g=>g.elim t0 fun g=>k1 (by rw [hu] at g;exact g)),hu,Int.toNat_natCast]
  ·right
   have e1:k=e.length:=by omega
   subst e1
   rw [List.drop_length] at g4
   refine ⟨_,by rw [dec_end,cond_false],y,?_,?_⟩
   ·rw [← g4];rfl
   ·rw [← g4];exact g3) fuel (nums,cast_ L,0) ⟨Nat.zero_le _,L,rfl,A,rfl⟩ (by have:=fuel_big;simp only;omega)
 obtain ⟨r,e1,nums',rfl,h⟩:=key
 exact ⟨nums',e1,h⟩
structure RenOk (p:T_api_Part):Prop where
 i1:0≤p.Inputs
 i2:p.Inputs≤64
 n2:p.Next.length≤1000000
 st:∃ c:Nat,p.Start=(↑c:Int)∧c<p.Next.length
 gn:Grid p.Next.length p.Inputs.toNat p.Next
 go:Grid p.Next.length p.Inputs.toNat p.Out
 rng:∀ q a,q<p.Next.length→a<p.Inputs.toNat→gx p.Next q a=-1∨∃ u:Nat,gx p.Next q a=(↑u:Int)∧u<p.Next.length
def ordP (p:T_api_Part):List Nat:=bfsL (fun c=>(p.Next[c]?).getD []) (p.Next.length+1) 0 [p.Start.toNat]
theorem merge_row_eq {x:Nat} (hx:x≤1000000):merge_row (↑x:Int)=some (List.replicate x (-1)):=by
 unfold merge_row
 rw [chk_pos ⟨by omega,Int.le_refl _,by unfold capOk;omega⟩,Int.toNat_natCast]
 have key:=iter_post (step:=fun (q:List Int×Nat)=>merge_row.s2 (↑x:Int) q.1 q.2) (fun q=>q.2≤x∧Wrt (fun _=>(-1:Int)) (List.replicate x 0) q.2 q.1) (fun q=>x-q.2) (fun r=>r=List.replicate x (-1)) (fun ⟨y,i⟩ ⟨g1,g2⟩=>by
  simp only at g1 g2
  simp only [merge_row.s2,Int.toNat_natCast,List.length_replicate]
  have hyl:=g2.len
  rw [List.length_replicate] at hyl
  by_cases h:i<x
  ·left
   exact ⟨(y.set i (-1),i+1),by rw [decide_eq_true (by omega),cond_true,idxn_at (get_at (l:=y) (i:=i) (by omega)),chk_pos (by unfold inR;omega)],⟨h,g2.step (by rw [List.length_replicate];exact h) rfl⟩,by simp only;omega⟩
  ·right
   refine ⟨_,by rw [decide_eq_false (by omega),cond_false],?_⟩
   rw [g2.done (by rw [List.length_replicate];omega),List.length_replicate]
   exact List.ext_getElem? fun b=>by
    by_cases g:b<x
    ·rw [List.getElem?_map,List.getElem?_range g,List.getElem?_replicate,if_pos g];rfl
    ·rw [List.getElem?_eq_none (by simp;omega),List.getElem?_eq_none (by simp;omega)]) fuel (List.replicate x 0,0) ⟨Nat.zero_le _,Wrt.zero _ _⟩ (by have:=fuel_big;simp only;omega)
 obtain ⟨r,e,rfl⟩:=key
 rw [e,obind]
theorem loop_s20 {p:T_api_Part} (R:RenOk p):∃ nums,iter (fun (s:List Int×List Int×Nat)=>merge_renumbered.s20 p s.1 s.2.1 s.2.2) fuel ((List.replicate p.Next.length (-1)).set p.Start.toNat 0,[p.Start],0)=some (nums,cast_ (ordP p))∧NumL p.Next.length (ordP p) nums:=by
 obtain ⟨c,hc,hcl⟩:=R.st
 have hn:=R.n2
 have A0:NumL p.Next.length [c] ((List.replicate p.Next.length (-1)).set c 0):=by
  have B:NumL p.Next.length [] (List.replicate p.Next.length (-1)):=⟨List.length_replicate,fun d hd=>by rw [List.getElem?_replicate,if_pos hd,if_neg List.not_mem_nil],List.nodup_nil,fun d hd=>by cases hd⟩
  exact B.push hcl List.not_mem_nil
 have key:=iter_post (step:=fun (s:List Int×List Int×Nat)=>merge_renumbered.s20 p s.1 s.2.1 s.2.2) (fun s=>∃ L,s.2.1=cast_ L∧s.2.2≤L.length∧NumL p.Next.length L s.1∧bfsL (fun c=>(p.Next[c]?).getD []) (p.Next.length+1-s.2.2) s.2.2 L=ordP p) (fun s=>p.Next.length+1-s.2.2) (fun r=>∃ nums,r=(nums,cast_ (ordP p))∧NumL p.Next.length (ordP p) nums) (fun ⟨y,z,i⟩ ⟨L,g1,g2,g3,g4⟩=>by
  simp only at g1 g2 g3 g4
  subst g1
  simp only [merge_renumbered.s20]
  have hle:=g3.le
  have hcast:(cast_ L).length=L.length:=by unfold cast_;rw [List.length_map]
  by_cases h:i<L.length
  ·left
   have hx:=get_at h
   have hq:L[i]<p.Next.length:=g3.lt _ (List.getElem_mem h)
   obtain ⟨x,x1,x2⟩:=R.gn.row _ hq
   obtain ⟨nums',e1,e2⟩:=loop_s18 (e:=x) (fun k t hk=>by
    have hk2:=(List.getElem?_eq_some_iff.1 hk).1
    have:=R.rng L[i] k hq (by omega)
    unfold gx at this
    rw [x1,Option.getD_some,hk,Option.getD_some] at this
    exact this) (by have:=R.i2;omega) g3 hn
   have hL2:=e2.le
   have hgrow:i+1≤(x.foldl addT L).length:=by
    have:∀ (x:List Int) (L:List Nat),L.length≤(x.foldl addT L).length:=by
     intro x
     induction x with
     | nil=>exact fun L=>Nat.le_refl _
     | cons t x ih =>
      intro L
      rw [List.foldl_cons]
      refine Nat.le_trans ?_ (ih _)
      unfold addT
      split
      ·exact Nat.le_refl _
      ·rw [List.length_append];omega
    have:=this x L
    omega
   refine ⟨(nums',cast_ (x.foldl addT L),i+1),?_,⟨_,rfl,hgrow,e2,?_⟩,by simp only;omega⟩
   ·rw [decide_eq_true (by omega),cond_true,idxn_at (x:=(↑L[i]:Int)) (by unfold cast_;rw [List.getElem?_map,hx];rfl),idx_at (i:=L[i]) rfl x1,e1,obind]
    rfl
   ·rw [← g4,show p.Next.length+1-i=(p.Next.length+1-(i+1))+1 by omega]
    simp only [bfsL,hx,x1,Option.getD_some]
  ·right
   have e1:ordP p=L:=by
    rw [← g4]
    cases hk:p.Next.length+1-i with
    | zero=>rfl
    | succ k =>
     simp only [bfsL]
     rw [show L[i]?=none from List.getElem?_eq_none (by omega)]
   exact ⟨_,by rw [decide_eq_false (by omega),cond_false],y,by rw [e1],by rw [e1];exact g3⟩) fuel ((List.replicate p.Next.length (-1)).set p.Start.toNat 0,[p.Start],0) ⟨[c],by rw [hc];rfl,Nat.zero_le _,by rw [hc];exact A0,by unfold ordP;rw [hc,Int.toNat_natCast];rfl⟩ (by have:=fuel_big;simp only;omega)
 obtain ⟨r,e1,nums,rfl,h⟩:=key
 exact ⟨nums,e1,h⟩
end Go.Proofs.YteigfkncoiiaiaaGreatDoor.Sym

/-
 A machine numbered anew: its rows. Plain laws.
-/
namespace Go.Proofs.YteigfkncoiiaiaaGreatDoor.Sym
set_option maxRecDepth 100000
def numT (F:List Nat) (t:Int):Int:=if t≠-1∧t.toNat∈F then (↑(F.idxOf t.toNat):Int) else -1
def rowNQ (p:T_api_Part) (F:List Nat) (c:Nat):List Int:=(List.range p.Inputs.toNat).map fun a=>numT F (gx p.Next c a)
def rowOQ (p:T_api_Part) (c:Nat):List Int:=(List.range p.Inputs.toNat).map fun a=>if gx p.Next c a=-1 then (-1:Int) else gx p.Out c a
theorem loop_s38 {p:T_api_Part} (R:RenOk p) {F:List Nat} {nums:List Int} (A:NumL p.Next.length F nums) {c:Nat} (hc:c<p.Next.length) {x:List Int} (hx:p.Next[c]?=some x) :
  iter (fun (s:List Int×List Int×Nat)=>merge_renumbered.s38 p nums (↑c:Int) x s.1 s.2.1 s.2.2) fuel (List.replicate p.Inputs.toNat (-1),List.replicate p.Inputs.toNat (-1),0)=some (rowNQ p F c,rowOQ p c):=by
 have hi:=R.i2
 obtain ⟨x',hx',hxl⟩:=R.gn.row c hc
 rw [hx] at hx'
 injection hx' with hx'
 subst hx'
 have key:=iter_post (step:=fun (s:List Int×List Int×Nat)=>merge_renumbered.s38 p nums (↑c:Int) x s.1 s.2.1 s.2.2) (fun s=>s.2.2≤p.Inputs.toNat∧Wrt (fun a=>numT F (gx p.Next c a)) (List.replicate p.Inputs.toNat (-1)) s.2.2 s.1∧Wrt (fun a=>if gx p.Next c a=-1 then (-1:Int) else gx p.Out c a) (List.replicate p.Inputs.toNat (-1)) s.2.2 s.2.1) (fun s=>p.Inputs.toNat-s.2.2) (fun r=>r=(rowNQ p F c,rowOQ p c)) (fun ⟨y,z,k⟩ ⟨g1,g2,g3⟩=>by
  simp only at g1 g2 g3
  simp only [merge_renumbered.s38]
  have hl2:=g2.len
  have hl3:=g3.len
  rw [List.length_replicate] at hl2 hl3
  by_cases h:k<p.Inputs.toNat
  ·left
   obtain ⟨x1,q1,q2,q3⟩:=R.gn.at hc h
   obtain ⟨o1,r1,r2,r3⟩:=R.go.at hc h
   rw [hx] at q1
   injection q1 with q1
   subst q1
   rw [decide_eq_true (by omega),cond_true,idxn_at q2]
   by_cases t0:gx p.Next c k=-1
   ·refine ⟨(y,z,k+1),by rw [decide_eq_false (fun g=>g t0),cond_false],⟨h,g2.skip (by rw [List.length_replicate];exact h) ?_,g3.skip (by rw [List.length_replicate];exact h) ?_⟩,by simp only;omega⟩
    ·rw [List.getElem?_replicate,if_pos h]
     unfold numT
     rw [if_neg (fun g=>g.1 t0)]
    ·rw [List.getElem?_replicate,if_pos h,if_pos t0]
   ·obtain ⟨u,hu,hun⟩:=(R.rng c k hc h).resolve_left t0
    have hy:=A.at_ u hun
    refine ⟨(y.set k (numT F (gx p.Next c k)),z.set k (gx p.Out c k),k+1),?_,⟨h,g2.step (by rw [List.length_replicate];exact h) rfl,g3.step (by rw [List.length_replicate];exact h) (by rw [if_neg t0])⟩,by simp only;omega⟩
    rw [decide_eq_true t0,cond_true,idx_at (i:=u) hu hy,idx_at (i:=c) rfl r1,idxn_at r2,idxn_at (get_at (l:=y) (i:=k) (by omega)),idxn_at (get_at (l:=z) (i:=k) (by omega))]
    have:numT F (gx p.Next c k)=if u∈F then (↑(F.idxOf u):Int) else -1:=by
     unfold numT
     rw [hu,Int.toNat_natCast]
     by_cases k1:u∈F
     ·rw [if_pos ⟨by omega,k1⟩,if_pos k1]
     ·rw [if_neg (fun g=>k1 g.2),if_neg k1]
    rw [this]
  ·right
   have e1:k=p.Inputs.toNat:=by omega
   subst e1
   refine ⟨_,by rw [decide_eq_false (by omega),cond_false],?_⟩
   rw [g2.done (by rw [List.length_replicate];exact Nat.le_refl _),g3.done (by rw [List.length_replicate];exact Nat.le_refl _),List.length_replicate]
   rfl) fuel (List.replicate p.Inputs.toNat (-1),List.replicate p.Inputs.toNat (-1),0) ⟨Nat.zero_le _,Wrt.zero _ _,Wrt.zero _ _⟩ (by have:=fuel_big;simp only;omega)
 obtain ⟨r,e1,rfl⟩:=key
 exact e1
def renP (p:T_api_Part):T_api_Part:=⟨p.Inputs,0,(ordP p).map (rowNQ p (ordP p)),(ordP p).map (rowOQ p)⟩
theorem merge_renumbered_eq {p:T_api_Part} (R:RenOk p):∃ nums,merge_renumbered p=some (renP p,nums)∧NumL p.Next.length (ordP p) nums:=by
 obtain ⟨nums,e1,A⟩:=loop_s20 R
 obtain ⟨c,hc,hcl⟩:=R.st
 have hn:=R.n2
 have hi:=R.i2
 have hi1:=R.i1
 have hle:=A.le
 refine ⟨nums,?_,A⟩
 have hmr:merge_row p.Inputs=some (List.replicate p.Inputs.toNat (-1)):=by
  have:=merge_row_eq (x:=p.Inputs.toNat) (by omega)
  rwa [Int.toNat_of_nonneg hi1] at this
 have hcast:(cast_ (ordP p)).length=(ordP p).length:=by unfold cast_;rw [List.length_map]
 have key:=iter_post (step:=fun (s:List (List Int)×List (List Int)×Nat)=>merge_renumbered.s40 p nums (cast_ (ordP p)) s.1 s.2.1 s.2.2) (fun s=>s.2.2≤(ordP p).length∧s.1=((ordP p).take s.2.2).map (rowNQ p (ordP p))∧s.2.1=((ordP p).take s.2.2).map (rowOQ p)) (fun s=>(ordP p).length-s.2.2) (fun r=>r=((ordP p).map (rowNQ p (ordP p)),(ordP p).map (rowOQ p))) (fun ⟨y,z,k⟩ ⟨g1,g2,g3⟩=>by
  simp only at g1 g2 g3
  subst g2
  subst g3
  simp only [merge_renumbered.s40]
  by_cases h:k<(ordP p).length
  ·left
   have hx:=get_at h
   have hq:(ordP p)[k]<p.Next.length:=A.lt _ (List.getElem_mem h)
   obtain ⟨x,x1,x2⟩:=R.gn.row _ hq
   have hl1:(((ordP p).take k).map (rowNQ p (ordP p))).length=k:=by rw [List.length_map,List.length_take];omega
   have hl2:(((ordP p).take k).map (rowOQ p)).length=k:=by rw [List.length_map,List.length_take];omega
   refine ⟨(((ordP p).take (k+1)).map (rowNQ p (ordP p)),((ordP p).take (k+1)).map (rowOQ p),k+1),?_,⟨h,rfl,rfl⟩,by simp only;omega⟩
   rw [decide_eq_true (by omega),cond_true,idxn_at (x:=(↑(ordP p)[k]:Int)) (by unfold cast_;rw [List.getElem?_map,hx];rfl),hmr,obind,obind,idx_at (i:=(ordP p)[k]) rfl x1,loop_s38 R A hq x1,obind]
   unfold merge_renumbered.k39
   simp only
   rw [chk_pos (by unfold capOk;omega),chk_pos (by unfold capOk;omega),List.take_succ_eq_append_getElem h,List.map_append,List.map_append]
   rfl
  ·right
   have e1:k=(ordP p).length:=by omega
   subst e1
   exact ⟨_,by rw [decide_eq_false (by omega),cond_false],by rw [List.take_length]⟩) fuel ([],[],0) ⟨Nat.zero_le _,rfl,rfl⟩ (by have:=fuel_big;simp only;omega)
 obtain ⟨r,e2,rfl⟩:=key
 unfold merge_renumbered
 rw [merge_row_eq hn,obind,idx_at (i:=c) hc (x:=(-1:Int)) (by rw [List.getElem?_replicate,if_pos hcl]),e1,obind]
 unfold merge_renumbered.k42
 simp only
 rw [e2,obind]
 rfl
end Go.Proofs.YteigfkncoiiaiaaGreatDoor.Sym

/-
 The reference's folded machine. Plain laws.
-/
namespace Go.Proofs.YteigfkncoiiaiaaGreatDoor.Sym
set_option maxRecDepth 100000
theorem place_eq {L:List Nat} {d:Nat} (hl:L.length≤10000000):R35_place (cast_ L) (↑d:Int)=some (↑(L.idxOf d):Int):=by
 have hcast:(cast_ L).length=L.length:=by unfold cast_;rw [List.length_map]
 have key:=iter_post (step:=fun (i:Nat)=>R35_place.s2 (cast_ L) (↑d:Int) i) (fun i=>i≤L.length∧d∉L.take i) (fun i=>L.length-i) (fun r=>r=L.idxOf d) (fun i ⟨g1,g2⟩=>by
  simp only [R35_place.s2]
  by_cases h:i<L.length
  ·have hx:=get_at h
   rw [decide_eq_true (by omega),cond_true,idxn_at (x:=(↑L[i]:Int)) (by unfold cast_;rw [List.getElem?_map,hx];rfl),obind]
   by_cases e:L[i]=d
   ·right
    refine ⟨i,by rw [decide_eq_false (by omega),cond_false],?_⟩
    have hL:L=L.take i++L[i]::L.drop (i+1):=by rw [← List.drop_eq_getElem_cons h,List.take_append_drop]
    rw [hL,List.idxOf_append,if_neg g2,e,List.idxOf_cons_self,Nat.zero_add,List.length_take]
    omega
   ·left
    refine ⟨i+1,by rw [decide_eq_true (by omega),cond_true,chk_pos (by unfold inR;omega)],⟨h,fun hm=>?_⟩,by omega⟩
    rw [List.take_succ_eq_append_getElem h] at hm
    rcases List.mem_append.1 hm with k | k
    ·exact g2 k
    ·exact e (List.mem_singleton.1 k).symm
  ·right
   have e1:i=L.length:=by omega
   subst e1
   rw [List.take_length] at g2
   exact ⟨L.length,by rw [decide_eq_false (by omega),cond_false,obind,cond_false],(List.idxOf_eq_length g2).symm⟩) fuel 0 ⟨Nat.zero_le _,by simp⟩ (by have:=fuel_big;omega)
 obtain ⟨r,e1,rfl⟩:=key
 unfold R35_place
 rw [e1,obind]
section
variable {p:T_api_Part}
theorem known_eq (H:PartOk p) {cl:Nat→Nat} {c a:Nat} (ha:a<p.Inputs.toNat):∃ k,R35_known p ((List.range p.Next.length).map fun q=>(↑(cl q):Int)) (↑c:Int) (↑a:Int)=some k∧((k=-1∧∀ r,r<p.Next.length→cl r=c→pnx p r a=-1)∨∃ q:Nat,k=(↑q:Int)∧q<p.Next.length∧cl q=c∧pnx p q a≠-1):=by
 have hn:=H.n2
 have key:=iter_post (step:=fun (q:Nat)=>R35_known.s2 p ((List.range p.Next.length).map fun q=>(↑(cl q):Int)) (↑c:Int) (↑a:Int) q) (fun q=>q≤p.Next.length∧∀ r,r<q→cl r=c→pnx p r a=-1) (fun q=>p.Next.length-q) (fun r=>(r=.inl ()∧∀ r,r<p.Next.length→cl r=c→pnx p r a=-1)∨∃ q:Nat,r=.inr (↑q:Int)∧q<p.Next.length∧cl q=c∧pnx p q a≠-1) (fun q ⟨g1,g2⟩=>by
  simp only [R35_known.s2,List.length_map,List.length_range]
  by_cases h:q<p.Next.length
  ·obtain ⟨_,_,_,_,_,x,y,hx,hy,hxa,hya,_,_⟩:=H.at h ha
   rw [decide_eq_true (by omega),cond_true,idxn_at (x:=(↑(cl q):Int)) (by rw [List.getElem?_map,List.getElem?_range h];rfl)]
   by_cases e:cl q=c
   ·rw [decide_eq_true (by omega),cond_true,idxn_at hx,idx_at (i:=a) rfl hxa,obind]
    by_cases k:pnx p q a=-1
    ·left
     refine ⟨q+1,by rw [decide_eq_false (fun g=>g k),cond_false],⟨h,fun r hr hrc=>?_⟩,by omega⟩
     by_cases e2:r=q
     ·rw [e2];exact k
     ·exact g2 r (by omega) hrc
    ·right
     exact ⟨_,by rw [decide_eq_true k,cond_true],.inr ⟨q,rfl,h,e,k⟩⟩
   ·left
    refine ⟨q+1,by rw [decide_eq_false (by omega),cond_false,obind,cond_false],⟨h,fun r hr hrc=>?_⟩,by omega⟩
    by_cases e2:r=q
    ·rw [e2] at hrc;exact absurd hrc e
    ·exact g2 r (by omega) hrc
  ·right
   have e1:q=p.Next.length:=by omega
   subst e1
   exact ⟨_,by rw [decide_eq_false (by omega),cond_false],.inl ⟨rfl,g2⟩⟩) fuel 0 ⟨Nat.zero_le _,fun r hr=>absurd hr (Nat.not_lt_zero _)⟩ (by have:=fuel_big;omega)
 obtain ⟨r,e1,hr⟩:=key
 unfold R35_known
 rw [e1,obind]
 rcases hr with ⟨rfl,h⟩ | ⟨q,rfl,h⟩
 ·exact ⟨-1,by rw [Sum.elim_inl],.inl ⟨rfl,h⟩⟩
 ·exact ⟨_,by rw [Sum.elim_inr],.inr ⟨q,rfl,h⟩⟩
structure QuoOk (p Q:T_api_Part) (cl:Nat→Nat):Prop where
 ren:RenOk Q
 len:Q.Next.length=p.Next.length
 inp:Q.Inputs=p.Inputs
 st:Q.Start=(↑(cl p.Start.toNat):Int)
 idem:∀ q,q<p.Next.length→cl (cl q)=cl q
 lt:∀ q,q<p.Next.length→cl q<p.Next.length
 row:∀ c a,c<p.Next.length→a<p.Inputs.toNat→cl c=c→(gx Q.Next c a=-1→∀ r,r<p.Next.length→cl r=c→pnx p r a=-1)∧(gx Q.Next c a≠-1→(∃ r,r<p.Next.length∧cl r=c∧pnx p r a≠-1)∧∀ r,r<p.Next.length→cl r=c→pnx p r a≠-1→gx Q.Next c a=(↑(cl (pnx p r a).toNat):Int)∧pot p r a=gx Q.Out c a)
structure OrdI (n:Nat) (cl:Nat→Nat) (L:List Nat):Prop where
 nd:L.Nodup
 lt:∀ c,c∈L→c<n∧cl c=c
theorem OrdI.le {n:Nat} {cl:Nat→Nat} {L:List Nat} (A:OrdI n cl L):L.length≤n:=by
 have:=nodup_lenF (b:=List.range n) A.nd fun x hx=>List.mem_range.2 (A.lt x hx).1
 rwa [List.length_range] at this
theorem OrdI.push {n:Nat} {cl:Nat→Nat} {L:List Nat} (A:OrdI n cl L) {c:Nat} (hc:c<n) (h2:cl c=c) (h:c∉L):OrdI n cl (L++[c]):=by
 refine ⟨List.nodup_append.2 ⟨A.nd,by simp,fun a ha b hb=>?_⟩,fun d hd=>?_⟩
 ·rw [List.mem_singleton.1 hb]
  exact fun g=>h (by rw [← g];exact ha)
 ·rcases List.mem_append.1 hd with k | k
  ·exact A.lt d k
  ·rw [List.mem_singleton.1 k];exact ⟨hc,h2⟩
theorem numT_grow {L L':List Nat} (h:L <+: L') {t:Int} (ht:t=-1∨t.toNat∈L):numT L' t=numT L t:=by
 obtain ⟨K,rfl⟩:=h
 unfold numT
 by_cases t0:t=-1
 ·rw [if_neg (fun g=>g.1 t0),if_neg (fun g=>g.1 t0)]
 ·have h:=ht.resolve_left t0
  rw [if_pos ⟨t0,List.mem_append_left _ h⟩,if_pos ⟨t0,h⟩,List.idxOf_append,if_pos h]
theorem loop_s54 (H:PartOk p) {Q:T_api_Part} {cl:Nat→Nat} (K:QuoOk p Q cl) {L:List Nat} (A:OrdI p.Next.length cl L) {i c:Nat} (hi:L[i]?=some c) {x:List Int} (hx:Q.Next[c]?=some x) :
  ∃ L',iter (fun (s:List Int×List Int×List Int×Nat)=>R35_Folded.s54 p ((List.range p.Next.length).map fun q=>(↑(cl q):Int)) i s.1 s.2.1 s.2.2.1 s.2.2.2) fuel (cast_ L,[],[],0)=some (cast_ L',rowNQ Q L' c,rowOQ Q c)∧L'=x.foldl addT L∧L <+: L'∧OrdI p.Next.length cl L'∧∀ b,b<p.Inputs.toNat→gx Q.Next c b=-1∨(gx Q.Next c b).toNat∈L':=by
 have hn:=H.n2
 have hi2:=H.i2
 obtain ⟨hc,hcc⟩:=A.lt c (List.mem_of_getElem? hi)
 have hxl:x.length=p.Inputs.toNat:=by
  obtain ⟨x',q1,q2⟩:=K.ren.gn.row c (by rw [K.len];exact hc)
  rw [hx] at q1
  injection q1 with q1
  rw [q1,q2,K.inp]
 have hgx:∀ b,b<p.Inputs.toNat→x[b]?=some (gx Q.Next c b):=fun b hb=>by
  obtain ⟨x',q1,q2,_⟩:=K.ren.gn.at (q:=c) (a:=b) (by rw [K.len];exact hc) (by rw [K.inp];exact hb)
  rw [hx] at q1
  injection q1 with q1
  rw [q1,q2]
 have key:=iter_post (step:=fun (s:List Int×List Int×List Int×Nat)=>R35_Folded.s54 p ((List.range p.Next.length).map fun q=>(↑(cl q):Int)) i s.1 s.2.1 s.2.2.1 s.2.2.2) (fun s=>s.2.2.2≤p.Inputs.toNat∧∃ La,s.1=cast_ La∧La=(x.take s.2.2.2).foldl addT L∧L <+: La∧OrdI p.Next.length cl La∧(∀ b,b<s.2.2.2→gx Q.Next c b=-1∨(gx Q.Next c b).toNat∈La)∧s.2.1=(List.range s.2.2.2).map (fun b=>numT La (gx Q.Next c b))∧s.2.2.1=(List.range s.2.2.2).map (fun a=>if gx Q.Next c a=-1 then (-1:Int) else gx Q.Out c a)) (fun s=>p.Inputs.toNat-s.2.2.2) (fun r=>∃ L',r=(cast_ L',rowNQ Q L' c,rowOQ Q c)∧L'=x.foldl addT L∧L <+: L'∧OrdI p.Next.length cl L'∧∀ b,b<p.Inputs.toNat→gx Q.Next c b=-1∨(gx Q.Next c b).toNat∈L') (fun ⟨l,y,z,a⟩ ⟨g1,La,g2,g3,g4,g5,g6,g7,g8⟩=>by
  simp only at g1 g2 g3 g6 g7 g8
  subst g2
  subst g7
  subst g8
  simp only [R35_Folded.s54]
  have hle:=g5.le
  have hcast:∀ L:List Nat,(cast_ L).length=L.length:=fun L=>by unfold cast_;rw [List.length_map]
  by_cases ha:a<p.Inputs.toNat
  ·left
   have hxa:=hgx a ha
   have hLi:(cast_ La)[i]?=some (↑c:Int):=by
    obtain ⟨T,rfl⟩:=g4
    unfold cast_
    rw [List.getElem?_map,List.getElem?_append_left (List.getElem?_eq_some_iff.1 hi).1,hi]
    rfl
   have hf:(x.take (a+1)).foldl addT L=addT La (gx Q.Next c a):=by
    have h1:a<x.length:=by omega
    have h2:=get_at h1
    rw [hxa] at h2
    injection h2 with h2
    rw [List.take_succ_eq_append_getElem h1,List.foldl_append,← g3,← h2]
    rfl
   have hk53:∀ (l x y:List Int),R35_Folded.k53 a l x y=some (.inl (l,x,y,a+1)):=fun l x y=>by
    unfold R35_Folded.k53
    rw [chk_pos (by unfold inR;omega)]
   obtain ⟨k,e1,hk⟩:=known_eq H (cl:=cl) (c:=c) ha
   obtain ⟨row1,row2⟩:=K.row c a hc ha hcc
   rw [decide_eq_true (by clear hk row2;omega),cond_true,idxn_at hLi,e1,obind]
   by_cases t0:gx Q.Next c a=-1
   ·have hk1:k=-1:=by
     rcases hk with h | ⟨q,_,q2,q3,q4⟩
     ·exact h.1
     ·exact absurd (row1 t0 q q2 q3) q4
    clear hk row2
    have hLa:addT La (gx Q.Next c a)=La:=by unfold addT;rw [if_pos (.inl t0)]
    refine ⟨(cast_ La,(List.range (a+1)).map (fun b=>numT La (gx Q.Next c b)),(List.range (a+1)).map (fun a=>if gx Q.Next c a=-1 then (-1:Int) else gx Q.Out c a),a+1),?_,⟨ha,La,rfl,by rw [hf,hLa],g4,g5,fun b hb=>?_,rfl,rfl⟩,by simp only;omega⟩
    ·rw [decide_eq_true hk1,cond_true,chk_pos (by unfold capOk;rw [List.length_map,List.length_range];omega),chk_pos (by unfold capOk;rw [List.length_map,List.length_range];omega),obind,hk53,List.range_succ,List.map_append,List.map_append,List.map_singleton,List.map_singleton,if_pos t0,show numT La (gx Q.Next c a)=-1 by unfold numT;rw [if_neg (fun g=>g.1 t0)]]
    ·by_cases e:b=a
     ·rw [e];exact .inl t0
     ·exact g6 b (by simp only at hb;omega)
   ·obtain ⟨⟨r0,r1,r2,r3⟩,row3⟩:=row2 t0
    obtain ⟨q,q1,q2,q3,q4⟩:∃ q:Nat,k=(↑q:Int)∧q<p.Next.length∧cl q=c∧pnx p q a≠-1:=by
     rcases hk with h | h
     ·exact absurd (h.2 r0 r1 r2) r3
     ·exact h
    clear hk row2
    obtain ⟨m1,m2⟩:=row3 q q2 q3 q4
    obtain ⟨w1,w2,w3,w4,w5,xr,yr,hxr,hyr,hxra,hyra,_,_⟩:=H.at q2 ha
    obtain ⟨u,hu⟩:∃ u:Nat,pnx p q a=(↑u:Int):=⟨(pnx p q a).toNat,by omega⟩
    have hul:u<p.Next.length:=by omega
    rw [hu,Int.toNat_natCast] at m1
    have hcu:=K.lt u hul
    have hidem:=K.idem u hul
    -- the order behind this symbol
    have hadd:addT La (gx Q.Next c a)=if cl u∈La then La else La++[cl u]:=by
     unfold addT
     rw [m1,Int.toNat_natCast]
     by_cases h:cl u∈La
     ·rw [if_pos (.inr h),if_pos h]
     ·rw [if_neg (fun g=>g.elim (by omega) h),if_neg h]
    have hb:((R35_place (cast_ La) (↑(cl u):Int)).bind fun c2449=>cond (decide (c2449=(↑(List.length (cast_ La)):Int))) (chk (capOk (List.length (cast_ La)+1) 8) (some (cast_ La++[(↑(cl u):Int)]))) (some (cast_ La)):Option (List Int))=some (cast_ (addT La (gx Q.Next c a))):=by
     rw [place_eq (by omega),obind,hcast,hadd]
     by_cases h:cl u∈La
     ·have:=List.idxOf_lt_length_of_mem h
      rw [if_pos h,decide_eq_false (by omega),cond_false]
     ·have:=List.idxOf_eq_length h
      rw [if_neg h,decide_eq_true (by omega),cond_true,chk_pos (by unfold capOk;omega)]
      unfold cast_
      rw [List.map_append]
      rfl
    have hpre:La <+: addT La (gx Q.Next c a):=by
     rw [hadd]
     split
     ·exact List.prefix_refl _
     ·exact List.prefix_append _ _
    have hmem:cl u∈addT La (gx Q.Next c a):=by
     rw [hadd]
     split
     ·assumption
     ·exact List.mem_append_right _ (List.mem_singleton.2 rfl)
    have hord:OrdI p.Next.length cl (addT La (gx Q.Next c a)):=by
     rw [hadd]
     split
     ·exact g5
     ·rename_i h;exact g5.push hcu hidem h
    have hle2:=hord.le
    refine ⟨(cast_ (addT La (gx Q.Next c a)),(List.range (a+1)).map (fun b=>numT (addT La (gx Q.Next c a)) (gx Q.Next c b)),(List.range (a+1)).map (fun a=>if gx Q.Next c a=-1 then (-1:Int) else gx Q.Out c a),a+1),?_,⟨ha,_,rfl,hf.symm,g4.trans hpre,hord,fun b hb2=>?_,rfl,rfl⟩,by simp only;omega⟩
    ·rw [decide_eq_false (by omega),cond_false,idx_at (i:=q) q1 hxr,idxn_at hxra,hu,idx_at (i:=u) rfl (x:=(↑(cl u):Int)) (by rw [List.getElem?_map,List.getElem?_range hul];rfl),hb,obind,place_eq (by omega),obind,chk_pos (by unfold capOk;rw [List.length_map,List.length_range];omega),idx_at (i:=q) q1 hyr,idxn_at hyra,chk_pos (by unfold capOk;rw [List.length_map,List.length_range];omega),obind,hk53,List.range_succ,List.map_append,List.map_append,List.map_singleton,List.map_singleton,if_neg t0,m2]
     have hold:(List.range a).map (fun b=>numT La (gx Q.Next c b))=(List.range a).map (fun b=>numT (addT La (gx Q.Next c a)) (gx Q.Next c b)):=List.map_congr_left fun b hb2=>(numT_grow hpre (g6 b (List.mem_range.1 hb2))).symm
     have hnew:numT (addT La (gx Q.Next c a)) (gx Q.Next c a)=(↑((addT La (gx Q.Next c a)).idxOf (cl u)):Int):=by
      generalize hG:addT La (gx Q.Next c a)=G at hmem ⊢
      unfold numT
      rw [m1,Int.toNat_natCast,if_pos ⟨by omega,hmem⟩]
     rw [hold,hnew]
    ·by_cases e:b=a
     ·rw [e];right;rw [m1,Int.toNat_natCast,← m1];exact hmem
     ·rcases g6 b (by simp only at hb2;omega) with h | h
      ·exact .inl h
      ·exact .inr (hpre.subset h)
  ·right
   have e1:a=p.Inputs.toNat:=by omega
   subst e1
   rw [← hxl,List.take_length] at g3
   refine ⟨_,by rw [decide_eq_false (by have:=H.i1;omega),cond_false],La,?_,g3,g4,g5,g6⟩
   unfold rowNQ rowOQ
   rw [K.inp]) fuel (cast_ L,[],[],0) ⟨Nat.zero_le _,L,rfl,rfl,List.prefix_refl _,A,fun b hb=>absurd hb (Nat.not_lt_zero _),rfl,rfl⟩ (by have:=fuel_big;simp only;omega)
 obtain ⟨r,e1,L',rfl,h⟩:=key
 exact ⟨L',e1,h⟩
end
end Go.Proofs.YteigfkncoiiaiaaGreatDoor.Sym

/-
 The reference's folded machine is the quotient, numbered anew. Plain laws.
-/
namespace Go.Proofs.YteigfkncoiiaiaaGreatDoor.Sym
set_option maxRecDepth 100000
section
variable {p:T_api_Part}
theorem foldl_len (x:List Int):∀ L:List Nat,L.length≤(x.foldl addT L).length:=by
 induction x with
 | nil=>exact fun L=>Nat.le_refl _
 | cons t x ih =>
  intro L
  rw [List.foldl_cons]
  refine Nat.le_trans ?_ (ih _)
  unfold addT
  split
  ·exact Nat.le_refl _
  ·rw [List.length_append];omega
theorem R35_Folded_eq (H:PartOk p) {Q:T_api_Part} {cl:Nat→Nat} (K:QuoOk p Q cl):R35_Folded p ((List.range p.Next.length).map fun q=>(↑(cl q):Int))=some (renP Q,cast_ (ordP Q))∧OrdI p.Next.length cl (ordP Q):=by
 have hn:=H.n2
 have hst:=H.st
 have hs:p.Start.toNat<p.Next.length:=by omega
 have hcast:∀ L:List Nat,(cast_ L).length=L.length:=fun L=>by unfold cast_;rw [List.length_map]
 have A0:OrdI p.Next.length cl [cl p.Start.toNat]:=⟨by simp,fun c hc=>by
  rw [List.mem_singleton.1 hc]
  exact ⟨K.lt _ hs,K.idem _ hs⟩⟩
 have key:=iter_post (step:=fun (s:List Int×List (List Int)×List (List Int)×Nat)=>R35_Folded.s56 p ((List.range p.Next.length).map fun q=>(↑(cl q):Int)) s.1 s.2.1 s.2.2.1 s.2.2.2) (fun s=>∃ L,s.1=cast_ L∧s.2.2.2≤L.length∧OrdI p.Next.length cl L∧bfsL (fun c=>(Q.Next[c]?).getD []) (Q.Next.length+1-s.2.2.2) s.2.2.2 L=ordP Q∧s.2.1=(L.take s.2.2.2).map (rowNQ Q L)∧s.2.2.1=(L.take s.2.2.2).map (rowOQ Q)∧∀ c,c∈L.take s.2.2.2→∀ b,b<p.Inputs.toNat→gx Q.Next c b=-1∨(gx Q.Next c b).toNat∈L) (fun s=>p.Next.length+1-s.2.2.2) (fun r=>r=(cast_ (ordP Q),(ordP Q).map (rowNQ Q (ordP Q)),(ordP Q).map (rowOQ Q))∧OrdI p.Next.length cl (ordP Q)) (fun ⟨l,y,z,i⟩ ⟨L,g1,g2,g3,g4,g5,g6,g7⟩=>by
  simp only at g1 g2 g4 g5 g6 g7
  subst g1
  subst g5
  subst g6
  simp only [R35_Folded.s56]
  have hle:=g3.le
  by_cases h:i<L.length
  ·left
   have hx:=get_at h
   obtain ⟨hc,hcc⟩:=g3.lt L[i] (List.getElem_mem h)
   obtain ⟨x,x1,x2⟩:=K.ren.gn.row L[i] (by rw [K.len];exact hc)
   obtain ⟨L',e1,e2,e3,e4,e5⟩:=loop_s54 H K g3 hx x1
   have hgr:i+1≤L'.length:=by
    have:=foldl_len x L
    rw [← e2] at this
    omega
   have htk:L'.take (i+1)=L.take i++[L[i]]:=by
    obtain ⟨T,rfl⟩:=e3
    rw [List.take_append_of_le_length (by omega),List.take_succ_eq_append_getElem h]
   refine ⟨(cast_ L',(L'.take (i+1)).map (rowNQ Q L'),(L'.take (i+1)).map (rowOQ Q),i+1),?_,⟨L',rfl,hgr,e4,?_,rfl,rfl,fun c hc2 b hb=>?_⟩,by simp only;omega⟩
   ·rw [decide_eq_true (by rw [hcast];omega),cond_true,e1,obind]
    unfold R35_Folded.k55
    simp only
    have hold:(L.take i).map (rowNQ Q L)=(L.take i).map (rowNQ Q L'):=List.map_congr_left fun c hc2=>by
     unfold rowNQ
     refine List.map_congr_left fun b hb=>(numT_grow e3 (g7 c hc2 b ?_)).symm
     have:=List.mem_range.1 hb
     rwa [K.inp] at this
    rw [chk_pos (by unfold capOk;rw [List.length_map,List.length_take];omega),chk_pos (by unfold capOk;rw [List.length_map,List.length_take];omega),htk,List.map_append,List.map_append,hold]
    rfl
   ·rw [← g4,show Q.Next.length+1-i=(Q.Next.length+1-(i+1))+1 by rw [K.len];omega]
    simp only [bfsL,hx,x1,Option.getD_some]
    rw [e2]
   ·rw [htk] at hc2
    rcases List.mem_append.1 hc2 with k | k
    ·exact (g7 c k b hb).elim .inl fun k=>.inr (e3.subset k)
    ·rw [List.mem_singleton.1 k];exact e5 b hb
  ·right
   have e1:i=L.length:=by omega
   have e2:ordP Q=L:=by
    rw [← g4]
    cases hk:Q.Next.length+1-i with
    | zero=>rfl
    | succ k =>
     simp only [bfsL]
     rw [show L[i]?=none from List.getElem?_eq_none (by omega)]
   subst e1
   refine ⟨_,by rw [decide_eq_false (by rw [hcast];omega),cond_false],?_⟩
   rw [e2,List.take_length]
   exact ⟨rfl,g3⟩) fuel (cast_ [cl p.Start.toNat],[],[],0) ⟨_,rfl,Nat.zero_le _,A0,by unfold ordP;rw [K.st,Int.toNat_natCast];rfl,rfl,rfl,fun c hc=>by simp at hc⟩ (by have:=fuel_big;simp only;omega)
 obtain ⟨r,e1,rfl,hO⟩:=key
 refine ⟨?_,hO⟩
 unfold R35_Folded
 rw [idx_at (i:=p.Start.toNat) (by omega) (x:=(↑(cl p.Start.toNat):Int)) (by rw [List.getElem?_map,List.getElem?_range hs];rfl)]
 have:[(↑(cl p.Start.toNat):Int)]=cast_ [cl p.Start.toNat]:=rfl
 rw [this,e1,obind]
 unfold R35_Folded.k57 renP
 rw [K.inp]
end
end Go.Proofs.YteigfkncoiiaiaaGreatDoor.Sym

/-
 The fold as a whole: the program's and the reference's are one. Plain laws.
-/
namespace Go.Proofs.YteigfkncoiiaiaaGreatDoor.Sym
set_option maxRecDepth 100000
section
variable {p:T_api_Part} {s t:Nat}
def clT (cl:Nat→Nat) (v:Int):Int:=if v=-1 then -1 else (↑(cl v.toNat):Int)
theorem loop_s64 {n I:Nat} {cl:Nat→Nat} {M:List (Int×Int)} (U:UpOk n cl M) (hn:n≤10000000) (hI:I≤64) {G:List (List Int)} (GG:Grid n I G) (rng:∀ q a,q<n→a<I→gx G q a=-1∨∃ u:Nat,gx G q a=(↑u:Int)∧u<n) {q:Nat} (hq:q<n) {e:List Int} (he:e.length=I) :
  ∃ G',iter (fun (s:List (List Int)×(List (Int×Int))×Nat)=>merge_folded.s64 q e s.1 s.2.1 s.2.2) fuel (G,M,0)=some (G',M)∧Grid n I G'∧∀ r b,r<n→b<I→gx G' r b=if r=q then clT cl (gx G r b) else gx G r b:=by
 have key:=iter_post (step:=fun (s:List (List Int)×(List (Int×Int))×Nat)=>merge_folded.s64 q e s.1 s.2.1 s.2.2) (fun s=>s.2.2≤I∧s.2.1=M∧Grid n I s.1∧∀ r b,r<n→b<I→gx s.1 r b=if r=q∧b<s.2.2 then clT cl (gx G r b) else gx G r b) (fun s=>I-s.2.2) (fun r=>∃ G',r=(G',M)∧Grid n I G'∧∀ r b,r<n→b<I→gx G' r b=if r=q then clT cl (gx G r b) else gx G r b) (fun ⟨y,m,k⟩ ⟨g1,g2,g3,g4⟩=>by
  simp only at g1 g2 g3 g4
  subst g2
  simp only [merge_folded.s64]
  by_cases h:k<I
  ·left
   obtain ⟨x,x1,x2,x3⟩:=g3.at hq h
   have hcell:gx y q k=gx G q k:=by rw [g4 q k hq h,if_neg (fun g=>Nat.lt_irrefl _ g.2)]
   rw [hcell] at x2
   rw [decide_eq_true (by omega),cond_true,idxn_at x1,idxn_at x2]
   by_cases t0:gx G q k=-1
   ·refine ⟨(y,m,k+1),by rw [decide_eq_false (fun g=>g t0),cond_false,chk_pos (by unfold inR;omega)],⟨h,rfl,g3,fun r b hr hb=>?_⟩,by simp only;omega⟩
    simp only
    rw [g4 r b hr hb]
    by_cases k1:r=q∧b<k
    ·rw [if_pos k1,if_pos ⟨k1.1,by omega⟩]
    ·rw [if_neg k1]
     by_cases k2:r=q∧b<k+1
     ·have e2:b=k:=Nat.le_antisymm (by omega) (Nat.le_of_not_lt fun g=>k1 ⟨k2.1,g⟩)
      rw [if_pos k2,k2.1,e2,t0]
      rfl
     ·rw [if_neg k2]
   ·obtain ⟨u,hu,hul⟩:=(rng q k hq h).resolve_left t0
    obtain ⟨p1,p2⟩:=g3.put hq h x1 (↑(cl u):Int)
    refine ⟨(y.set q (x.set k (↑(cl u):Int)),m,k+1),?_,⟨h,rfl,p1,fun r b hr hb=>?_⟩,by simp only;omega⟩
    ·rw [decide_eq_true t0,cond_true,idxn_at x1,hu,of_eq U hn hul,obind,idxn_at x2,chk_pos (by unfold inR;omega)]
    ·simp only
     rw [p2 r b hr hb]
     by_cases k1:r=q∧b=k
     ·rw [if_pos k1,if_pos ⟨k1.1,by omega⟩,k1.1,k1.2]
      unfold clT
      rw [if_neg t0,hu,Int.toNat_natCast]
     ·rw [if_neg k1,g4 r b hr hb]
      by_cases k2:r=q∧b<k
      ·rw [if_pos k2,if_pos ⟨k2.1,by omega⟩]
      ·rw [if_neg k2,if_neg (fun g=>k2 ⟨g.1,Nat.lt_of_le_of_ne (by omega) fun e3=>k1 ⟨g.1,e3⟩⟩)]
  ·right
   have e1:k=I:=by omega
   subst e1
   refine ⟨_,by rw [decide_eq_false (by omega),cond_false],y,rfl,g3,fun r b hr hb=>?_⟩
   rw [g4 r b hr hb]
   by_cases k1:r=q
   ·rw [if_pos ⟨k1,hb⟩,if_pos k1]
   ·rw [if_neg (fun g=>k1 g.1),if_neg k1]) fuel (G,M,0) ⟨Nat.zero_le _,rfl,GG,fun r b _ _=>by rw [if_neg (fun g=>Nat.not_lt_zero _ g.2)]⟩ (by have:=fuel_big;simp only;omega)
 obtain ⟨r,e1,G',rfl,h⟩:=key
 exact ⟨G',e1,h⟩
theorem loop_s66 {n I:Nat} {cl:Nat→Nat} {M:List (Int×Int)} (U:UpOk n cl M) (hn:n≤10000000) (hI:I≤64) {N:List (List Int)} (GN:Grid n I N) (rng:∀ q a,q<n→a<I→gx N q a=-1∨∃ u:Nat,gx N q a=(↑u:Int)∧u<n) :
  ∃ N',iter (fun (s:List (List Int)×(List (Int×Int))×Nat)=>merge_folded.s66 N s.1 s.2.1 s.2.2) fuel (N,M,0)=some (N',M)∧Grid n I N'∧∀ r b,r<n→b<I→gx N' r b=clT cl (gx N r b):=by
 have hl:=GN.len
 have key:=iter_post (step:=fun (s:List (List Int)×(List (Int×Int))×Nat)=>merge_folded.s66 N s.1 s.2.1 s.2.2) (fun s=>s.2.2≤n∧s.2.1=M∧Grid n I s.1∧∀ r b,r<n→b<I→gx s.1 r b=if r<s.2.2 then clT cl (gx N r b) else gx N r b) (fun s=>n-s.2.2) (fun r=>∃ N',r=(N',M)∧Grid n I N'∧∀ r b,r<n→b<I→gx N' r b=clT cl (gx N r b)) (fun ⟨y,m,q⟩ ⟨g1,g2,g3,g4⟩=>by
  simp only at g1 g2 g3 g4
  subst g2
  simp only [merge_folded.s66]
  by_cases h:q<n
  ·left
   obtain ⟨x,x1,x2⟩:=g3.row q h
   obtain ⟨y',e1,e2,e3⟩:=loop_s64 (e:=x) U hn hI g3 (fun r a hr ha=>by
    rw [g4 r a hr ha]
    split
    ·unfold clT
     rcases rng r a hr ha with k | ⟨u,k1,k2⟩
     ·rw [if_pos k];exact .inl rfl
     ·refine .inr ⟨cl u,by rw [if_neg (by omega),k1,Int.toNat_natCast],?_⟩
      by_cases k3:cl u=u
      ·omega
      ·have hcl:∀ v:Nat,v<n→cl v≤v:=fun v=>by
        induction v using Nat.strongRecOn with
        | _ v ih =>
         intro hv
         by_cases k4:cl v=v
         ·omega
         ·obtain ⟨w,w1,_,w3⟩:=U.u1 v hv k4
          have:=ih w w1 (by omega)
          omega
       have:=hcl u k2
       omega
    ·exact rng r a hr ha) h x2
   refine ⟨(y',m,q+1),?_,⟨h,rfl,e2,fun r b hr hb=>?_⟩,by simp only;omega⟩
   ·rw [decide_eq_true (by omega),cond_true,idxn_at x1,e1,obind]
    rfl
   ·simp only
    rw [e3 r b hr hb,g4 r b hr hb]
    by_cases k1:r=q
    ·rw [if_pos k1,if_neg (by omega),if_pos (by omega)]
    ·rw [if_neg k1]
     by_cases k2:r<q
     ·rw [if_pos k2,if_pos (by omega)]
     ·rw [if_neg k2,if_neg (by omega)]
  ·right
   have e1:q=n:=by omega
   subst e1
   refine ⟨_,by rw [decide_eq_false (by omega),cond_false],y,rfl,g3,fun r b hr hb=>?_⟩
   rw [g4 r b hr hb,if_pos hr]) fuel (N,M,0) ⟨Nat.zero_le _,rfl,GN,fun r b _ _=>by rw [if_neg (Nat.not_lt_zero _)]⟩ (by have:=fuel_big;simp only;omega)
 obtain ⟨r,e1,N',rfl,h⟩:=key
 exact ⟨N',e1,h⟩
theorem loop_s68 {n:Nat} {cl:Nat→Nat} {M:List (Int×Int)} (U:UpOk n cl M) (hn:n≤1000000) (hcl:∀ q,q<n→cl q<n) {F:List Nat} {nums:List Int} (A:NumL n F nums) (P:T_api_Part) :
  iter (fun (s:(List (Int×Int))×List Int×Nat)=>merge_folded.s68 (P,nums) s.1 s.2.1 s.2.2) fuel (M,List.replicate n 0,0)=some ((List.range n).map fun q=>numT F (↑(cl q):Int)):=by
 have hl:=A.len
 have key:=iter_post (step:=fun (s:(List (Int×Int))×List Int×Nat)=>merge_folded.s68 (P,nums) s.1 s.2.1 s.2.2) (fun s=>s.2.2≤n∧s.1=M∧Wrt (fun q=>numT F (↑(cl q):Int)) (List.replicate n 0) s.2.2 s.2.1) (fun s=>n-s.2.2) (fun r=>r=(List.range n).map fun q=>numT F (↑(cl q):Int)) (fun ⟨m,y,q⟩ ⟨g1,g2,g3⟩=>by
  simp only at g1 g2 g3
  subst g2
  simp only [merge_folded.s68,List.length_replicate]
  have hyl:=g3.len
  rw [List.length_replicate] at hyl
  by_cases h:q<n
  ·left
   have hc:=hcl q h
   refine ⟨(m,y.set q (numT F (↑(cl q):Int)),q+1),?_,⟨h,rfl,g3.step (by rw [List.length_replicate];exact h) rfl⟩,by simp only;omega⟩
   rw [decide_eq_true (by omega),cond_true,of_eq U (by omega) h,obind,idx_at (i:=cl q) rfl (A.at_ _ hc),idxn_at (get_at (l:=y) (i:=q) (by omega)),chk_pos (by unfold inR;omega)]
   unfold numT
   rw [Int.toNat_natCast]
   by_cases k1:cl q∈F
   ·rw [if_pos k1,if_pos ⟨by omega,k1⟩]
   ·rw [if_neg k1,if_neg (fun g=>k1 g.2)]
  ·right
   have e1:q=n:=by omega
   subst e1
   refine ⟨_,by rw [decide_eq_false (by omega),cond_false],?_⟩
   rw [g3.done (by rw [List.length_replicate];exact Nat.le_refl _),List.length_replicate]) fuel (M,List.replicate n 0,0) ⟨Nat.zero_le _,rfl,Wrt.zero _ _⟩ (by have:=fuel_big;simp only;omega)
 obtain ⟨r,e1,rfl⟩:=key
 exact e1
theorem FoldI.quo (H:PartOk p) {cl:Nat→Nat} {N O:List (List Int)} {M:List (Int×Int)} (F:FoldI p s t cl N O M []) {N':List (List Int)} (GN:Grid p.Next.length p.Inputs.toNat N') (hN:∀ r b,r<p.Next.length→b<p.Inputs.toNat→gx N' r b=clT cl (gx N r b)):QuoOk p ⟨p.Inputs,(↑(cl p.Start.toNat):Int),N',O⟩ cl:=by
 have hn:=H.n2
 have hst:=H.st
 obtain ⟨C,K⟩:=F.cls
 have hlt:∀ q,q<p.Next.length→cl q<p.Next.length:=fun q hq=>by have:=K.le q hq;omega
 have hl:=GN.len
 have hs:p.Start.toNat<p.Next.length:=by omega
 have hlab:Lab p.Next.length cl [] cl:=⟨fun _ _ _ _ h=>h,fun _ _ h=>by cases h⟩
 refine ⟨⟨by have:=H.i1;simp only;omega,H.i2,by simp only;omega,⟨cl p.Start.toNat,rfl,by simp only;rw [hl];exact hlt _ hs⟩,by simp only;rw [hl];exact GN,by simp only;rw [hl];exact F.go,fun q a hq ha=>?_⟩,hl,rfl,rfl,K.idem,hlt,fun c a hc ha hcc=>?_⟩
 ·simp only at hq ha ⊢
  rw [hl] at hq ⊢
  rw [hN q a hq ha]
  unfold clT
  rcases F.rng q a hq ha with k | ⟨u,k1,k2⟩
  ·rw [if_pos k];exact .inl rfl
  ·exact .inr ⟨cl u,by rw [if_neg (by omega),k1,Int.toNat_natCast],hlt u k2⟩
 ·simp only
  rw [hN c a hc ha]
  obtain ⟨r1,r2⟩:=F.row c a hc ha hcc
  unfold clT
  by_cases k:gx N c a=-1
  ·rw [if_pos k]
   exact ⟨fun _=>(r1 k).2,fun h=>absurd rfl h⟩
  ·rw [if_neg k]
   obtain ⟨u,a1,a2,⟨r,b1,b2,b3,b4⟩,a4⟩:=r2 k
   refine ⟨fun h=>by omega,fun _=>⟨⟨r,b1,b2,by omega⟩,fun r hr hrc hp=>?_⟩⟩
   obtain ⟨d1,d2⟩:=a4 r hr hrc hp
   exact ⟨by rw [a1,Int.toNat_natCast,d2 cl hlab],d1⟩
theorem loop_copy (H:PartOk p):iter (fun (s:List (List Int)×List (List Int)×Nat)=>merge_folded.s2 p s.1 s.2.1 s.2.2) fuel ([],[],0)=some (p.Next,p.Out):=by
 have hn:=H.n2
 have hi:=H.i2
 have ho:=H.ol
 have key:=iter_post (step:=fun (s:List (List Int)×List (List Int)×Nat)=>merge_folded.s2 p s.1 s.2.1 s.2.2) (fun s=>s.2.2≤p.Next.length∧s.1=p.Next.take s.2.2∧s.2.1=p.Out.take s.2.2) (fun s=>p.Next.length-s.2.2) (fun r=>r=(p.Next,p.Out)) (fun ⟨y,z,k⟩ ⟨g1,g2,g3⟩=>by
  simp only at g1 g2 g3
  subst g2
  subst g3
  simp only [merge_folded.s2,List.length_nil,List.nil_append,List.length_take,List.length_singleton,Nat.zero_add]
  by_cases h:k<p.Next.length
  ·left
   obtain ⟨x,y,h1,h2,h3,h4,_⟩:=H.row k h
   refine ⟨(p.Next.take (k+1),p.Out.take (k+1),k+1),?_,⟨h,rfl,rfl⟩,by simp only;omega⟩
   rw [decide_eq_true (by omega),cond_true,idxn_at h1,chk_pos (by unfold capOk;omega),chk_pos (by unfold capOk;omega),idxn_at h2,chk_pos (by unfold capOk;omega),chk_pos (by unfold capOk;omega)]
   have q1:p.Next.take (k+1)=p.Next.take k++[x]:=by rw [List.take_succ,h1];rfl
   have q2:p.Out.take (k+1)=p.Out.take k++[y]:=by rw [List.take_succ,h2];rfl
   rw [q1,q2]
  ·right
   have e1:k=p.Next.length:=by omega
   subst e1
   exact ⟨_,by rw [decide_eq_false (by omega),cond_false],by rw [List.take_length,← ho,List.take_length]⟩) fuel ([],[],0) ⟨Nat.zero_le _,rfl,rfl⟩ (by have:=fuel_big;simp only;omega)
 obtain ⟨r,e1,rfl⟩:=key
 exact e1
theorem merge_folded_eq (H:PartOk p) (hs:s<p.Next.length) (ht:t<p.Next.length):(Confl p s t∧merge_folded p (↑s:Int) (↑t:Int)=some (⟨0,0,[],[]⟩,[],false))∨(¬ Confl p s t∧∃ Q cl,QuoOk p Q cl∧(∀ q,q<p.Next.length→cl q=clsOf p s t q)∧merge_folded p (↑s:Int) (↑t:Int)=some (renP Q,(List.range p.Next.length).map fun q=>numT (ordP Q) (↑(cl q):Int),true)):=by
 have hn:=H.n2
 have hst:=H.st
 have hps:p.Start.toNat<p.Next.length:=by omega
 obtain ⟨r,e1,hr⟩:=loop_fold H hs ht
 unfold merge_folded
 rw [loop_copy H,obind]
 unfold merge_folded.k71
 simp only
 rw [e1,obind]
 rcases hr with ⟨rfl,hc⟩ | ⟨N,O,M,cl,rfl,F⟩
 ·exact .inl ⟨hc,by rw [Sum.elim_inr]⟩
 ·obtain ⟨d1,d2⟩:=F.done H hs ht
  obtain ⟨N',e2,GN,hN⟩:=loop_s66 F.up (by omega) (by have:=H.i2;omega) F.gn F.rng
  have K:=F.quo H GN hN
  obtain ⟨nums,e3,A⟩:=merge_renumbered_eq K.ren
  refine .inr ⟨d2,_,cl,K,d1,?_⟩
  rw [Sum.elim_inl]
  unfold merge_folded.k70
  simp only
  rw [e2,obind]
  unfold merge_folded.k69
  simp only
  have hAl:=A.len
  simp only at A hAl
  rw [GN.len] at A hAl
  rw [show p.Start=(↑p.Start.toNat:Int) by omega,of_eq F.up (by omega) hps,obind,Int.toNat_natCast,e3,obind]
  dsimp only
  rw [chk_pos ⟨by omega,Int.le_refl _,by unfold capOk;omega⟩,hAl,loop_s68 F.up (by omega) K.lt A,obind]
theorem merge_Fold_same (p:T_api_Part) (s t:Int) (hl:p.Next.length≤10000000):merge_Fold p s t=R35_Fold p s t:=by
 unfold merge_Fold R35_Fold
 rw [merge_Valid_eq hl,R35_Valid_eq hl,obind,obind,obind]
 by_cases h0:validP p=0
 ·have H:=validP_ok h0
  rw [decide_eq_false (fun h=>h h0),cond_false,cond_false]
  have c1:(cond (decide (min s t<0)) (some true) (some (decide ((↑p.Next.length:Int)≤max s t))):Option Bool)=some (decide (min s t<0∨(↑p.Next.length:Int)≤max s t)):=by
   by_cases h:min s t<0
   ·rw [decide_eq_true h,cond_true,decide_eq_true (.inl h)]
   ·rw [decide_eq_false h,cond_false];simp [h]
  have c2:(cond (decide (s<0)) (some true) (cond (decide ((↑p.Next.length:Int)≤s)) (some true) (cond (decide (t<0)) (some true) (some (decide ((↑p.Next.length:Int)≤t))))):Option Bool)=some (decide (min s t<0∨(↑p.Next.length:Int)≤max s t)):=by
   by_cases h1:s<0
   ·rw [decide_eq_true h1,cond_true,decide_eq_true (by omega)]
   rw [decide_eq_false h1,cond_false]
   by_cases h2:(↑p.Next.length:Int)≤s
   ·rw [decide_eq_true h2,cond_true,decide_eq_true (by omega)]
   rw [decide_eq_false h2,cond_false]
   by_cases h3:t<0
   ·rw [decide_eq_true h3,cond_true,decide_eq_true (by omega)]
   rw [decide_eq_false h3,cond_false]
   by_cases h4:(↑p.Next.length:Int)≤t
   ·rw [decide_eq_true h4,decide_eq_true (by omega)]
   ·rw [decide_eq_false h4,decide_eq_false (by omega)]
  rw [c1,c2,obind,obind]
  by_cases hr:min s t<0∨(↑p.Next.length:Int)≤max s t
  ·rw [decide_eq_true hr,cond_true,cond_true]
  ·rw [decide_eq_false hr,cond_false,cond_false]
   obtain ⟨a,ha⟩:∃ a:Nat,s=(↑a:Int):=⟨s.toNat,by omega⟩
   obtain ⟨b,hb⟩:∃ b:Nat,t=(↑b:Int):=⟨t.toNat,by omega⟩
   subst ha
   subst hb
   have hal:a<p.Next.length:=by omega
   have hbl:b<p.Next.length:=by omega
   rcases merge_folded_eq H hal hbl with ⟨f1,f2⟩ | ⟨f1,Q,cl,K,f2,f3⟩
   ·rcases R35_Classes_eq H hal hbl with ⟨r1,r2⟩ | ⟨r1,r2⟩
    ·rw [f2,obind,r2,obind,Bool.not_false,cond_true]
    ·exact absurd f1 r1
   ·rcases R35_Classes_eq H hal hbl with ⟨r1,r2⟩ | ⟨r1,r2⟩
    ·exact absurd r1 f1
    ·have hcl:(List.range p.Next.length).map (fun q=>(↑(clsOf p a b q):Int))=(List.range p.Next.length).map fun q=>(↑(cl q):Int):=List.map_congr_left fun q hq=>by rw [f2 q (List.mem_range.1 hq)]
     rw [f3,obind,r2,obind,Bool.not_true,cond_false,hcl,(R35_Folded_eq H K).1,obind]
 ·rw [decide_eq_true h0,cond_true,cond_true]
end
end Go.Proofs.YteigfkncoiiaiaaGreatDoor.Sym

/-
 The examples of the chapter, reckoned.
-/
namespace Go.Proofs.YteigfkncoiiaiaaGreatDoor.Sym
set_option maxRecDepth 100000
end Go.Proofs.YteigfkncoiiaiaaGreatDoor.Sym

/-
 Tables: the program's own checks, the first table, and the law of both.
-/
namespace Go.Proofs.YteigfkncoiiaiaaGreatDoor.Sym
set_option maxRecDepth 100000
end Go.Proofs.YteigfkncoiiaiaaGreatDoor.Sym

/-
 Sorted lists of words, duplicates struck: plain laws.
-/
namespace Go.Proofs.YteigfkncoiiaiaaGreatDoor
structure TotalCmp (cf:List Int→List Int→Int):Prop where
 range:∀ a b,cf a b=-1∨cf a b=0∨cf a b=1
 zero:∀ a b,cf a b=0↔a=b
 swap:∀ a b,cf b a=- cf a b
 trans:∀ a b c,cf a b=-1→cf b c=-1→cf a c=-1
end Go.Proofs.YteigfkncoiiaiaaGreatDoor

/-
 Prefixes, suffixes and maximal words: plain laws.
-/
namespace Go.Proofs.YteigfkncoiiaiaaGreatDoor
def prefixes (x:List Int):List (List Int):=(List.range (x.length+1)).map x.take
def suffixes (x:List Int):List (List Int):=(List.range (x.length+1)).map x.drop
end Go.Proofs.YteigfkncoiiaiaaGreatDoor

/-
 What the functions on lists of words come to: plain laws.
-/
namespace Go.Proofs.YteigfkncoiiaiaaGreatDoor.Sym
set_option maxRecDepth 100000
end Go.Proofs.YteigfkncoiiaiaaGreatDoor.Sym

/-
 Tables that grow: the program's Prefix and Suffix are the document's. Plain laws.
-/
namespace Go.Proofs.YteigfkncoiiaiaaGreatDoor.Sym
set_option maxRecDepth 100000
end Go.Proofs.YteigfkncoiiaiaaGreatDoor.Sym

/-
 Observations: what makes them valid, and their answers. Plain laws.
-/
namespace Go.Proofs.YteigfkncoiiaiaaGreatDoor.Sym
set_option maxRecDepth 100000
def PropT (n:Int) (t:T_api_Trace):Prop:=checkI t.In n=0∧t.Out.length=t.In.length∧∀ y∈t.Out,0≤y∧y≤1048576
def Agree (a b:T_api_Trace):Prop:=a.Out.take (common a.In b.In)=b.Out.take (common a.In b.In)
structure ObsOk (o:T_api_Obs):Prop where
 inp:1≤o.Inputs∧o.Inputs≤64
 num:o.Traces.length≤10000
 prop:∀ t∈o.Traces,PropT o.Inputs t∧t.In≠[]
 asc:∀ (i j:Nat) a b,i<j→o.Traces[i]?=some a→o.Traces[j]?=some b→cmpW a.In b.In=-1
 apart:∀ (i j:Nat) a b,i<j→o.Traces[i]?=some a→o.Traces[j]?=some b→¬ a.In <+: b.In∧Agree a b
end Go.Proofs.YteigfkncoiiaiaaGreatDoor.Sym

/-
 Answers and rows: the program's finder answers as the document's observations do. Plain laws.
-/
namespace Go.Proofs.YteigfkncoiiaiaaGreatDoor.Sym
set_option maxRecDepth 100000
end Go.Proofs.YteigfkncoiiaiaaGreatDoor.Sym

/-
 Rows, missing queries and maximal words: the program's are the document's. Plain laws.
-/
namespace Go.Proofs.YteigfkncoiiaiaaGreatDoor.Sym
set_option maxRecDepth 100000
end Go.Proofs.YteigfkncoiiaiaaGreatDoor.Sym

/-
 The missing queries of a table: the program's are the document's. Plain laws, and the law of TableNeeds.
-/
namespace Go.Proofs.YteigfkncoiiaiaaGreatDoor.Sym
set_option maxRecDepth 100000
structure TabOk (t:T_api_Table):Prop where
 sm:SmT t
 n:t.Inputs≤4
 p:t.Prefixes.length≤80
 s:t.Suffixes.length≤12
 pw:∀ x∈t.Prefixes,x.length≤80
 sw:∀ x∈t.Suffixes,x.length≤30
theorem R01_SameWords_eq (a b:List (List Int)) (ha:SmL a):R01_SameWords a b=some (decide (a=b)):=by
 have ha1:a.length≤2000000:=ha.1
 unfold R01_SameWords
 by_cases hlen:a.length=b.length
 ·rw [decide_eq_false (by omega),cond_false]
  refine iter_all2 hlen (fun i x y hx hy=>?_) ?_ (by omega)
  ·simp only [R01_SameWords.s2]
   rw [dec_lt hx,cond_true,idxn_at hx,idxn_at hy,R01_Same_eq x y (ha.2 x (List.mem_of_getElem? hx)),obind]
   by_cases h:x=y<;>simp [h]
  ·simp only [R01_SameWords.s2]
   rw [dec_end]
   rfl
 ·rw [decide_eq_true (by omega),cond_true]
  have:a≠b:=fun h=>hlen (by rw [h])
  simp [this]
end Go.Proofs.YteigfkncoiiaiaaGreatDoor.Sym

/-
 The examples of the chapter on merging states, reckoned.
-/
namespace Go.Proofs.YteigfkncoiiaiaaGreatDoor.Sym
set_option maxRecDepth 100000
theorem awake35_true:L35_awake=some true:=by decide +kernel
end Go.Proofs.YteigfkncoiiaiaaGreatDoor.Sym

/-
 The law of MergeParts. Plain laws.
-/
namespace Go.Proofs.YteigfkncoiiaiaaGreatDoor.Sym
set_option maxRecDepth 100000
theorem Great_eq (p:T_api_Part):∃ b,R35_Great p=some b∧(b=false→p.Next.length≤30):=by
 have k1:=iter_post (step:=fun (s:Nat)=>R35_Great.s2 p s) (fun k=>k≤31) (fun k=>32-k) (fun r=>r=.inl ()∨r=.inr true) (fun k g1=>by
  simp only [R35_Great.s2]
  by_cases h:k<p.Next.length
  ·have hx:=get_at h
   rw [dec_lt hx,cond_true,obind]
   by_cases h2:k<31
   ·rw [decide_eq_true (by omega:(↑k:Int)<31),cond_true,idxn_at hx]
    by_cases h3:4<p.Next[k].length
    ·right
     exact ⟨.inr true,by rw [decide_eq_true (by omega),cond_true],.inr rfl⟩
    ·left
     exact ⟨k+1,by rw [decide_eq_false (by omega),cond_false,chk_pos (by unfold inR;omega)],by omega,by omega⟩
   ·right
    exact ⟨.inl (),by rw [decide_eq_false (by omega:¬ (↑k:Int)<31),cond_false],.inl rfl⟩
  ·right
   exact ⟨.inl (),by rw [decide_eq_false (by omega),cond_false,obind,cond_false],.inl rfl⟩) fuel 0 (by omega) (by have:=fuel_big;omega)
 have k2:=iter_post (step:=fun (s:Nat)=>R35_Great.s4 p s) (fun k=>k≤41) (fun k=>42-k) (fun r=>r=.inl ()∨r=.inr true) (fun k g1=>by
  simp only [R35_Great.s4]
  by_cases h:k<p.Out.length
  ·have hx:=get_at h
   rw [dec_lt hx,cond_true,obind]
   by_cases h2:k<41
   ·rw [decide_eq_true (by omega:(↑k:Int)<41),cond_true,idxn_at hx]
    by_cases h3:4<p.Out[k].length
    ·right
     exact ⟨.inr true,by rw [decide_eq_true (by omega),cond_true],.inr rfl⟩
    ·left
     exact ⟨k+1,by rw [decide_eq_false (by omega),cond_false,chk_pos (by unfold inR;omega)],by omega,by omega⟩
   ·right
    exact ⟨.inl (),by rw [decide_eq_false (by omega:¬ (↑k:Int)<41),cond_false],.inl rfl⟩
  ·right
   exact ⟨.inl (),by rw [decide_eq_false (by omega),cond_false,obind,cond_false],.inl rfl⟩) fuel 0 (by omega) (by have:=fuel_big;omega)
 obtain ⟨r1,e1,h1⟩:=k1
 obtain ⟨r2,e2,h2⟩:=k2
 unfold R35_Great
 rw [e1,obind]
 rcases h1 with rfl | rfl
 ·rw [Sum.elim_inl,e2,obind]
  rcases h2 with rfl | rfl
  ·rw [Sum.elim_inl]
   by_cases h:30<p.Next.length
   ·rw [decide_eq_true (by omega),cond_true,obind]
    exact ⟨_,rfl,fun hb=>by cases hb⟩
   ·rw [decide_eq_false (by omega),cond_false,obind]
    exact ⟨_,rfl,fun _=>by omega⟩
  ·rw [Sum.elim_inr]
   exact ⟨_,rfl,fun hb=>by cases hb⟩
 ·rw [Sum.elim_inr]
  exact ⟨_,rfl,fun hb=>by cases hb⟩
theorem merge_Run_ex {p:T_api_Part} {w:List Int} (hl:p.Next.length≤1000) (hw:w.length≤1000):∃ y b,merge_Run p w=some (y,b)∧SmW y:=by
 unfold merge_Run
 rw [merge_Valid_eq (by omega),obind]
 by_cases hv:validP p=0
 ·have H:=validP_ok hv
  have hst:=H.st
  rw [decide_eq_false (fun h=>h hv),cond_false]
  have key:=iter_post (step:=fun (s:Int×List Int×Nat)=>merge_Run.s2 p w s.1 s.2.1 s.2.2) (fun s=>∃ c:Nat,s.1=(↑c:Int)∧c<p.Next.length∧s.2.2≤w.length∧s.2.1.length=s.2.2) (fun s=>w.length-s.2.2) (fun r=>∃ y:List Int,y.length≤1000∧(r=.inl y∨∃ b,r=.inr (y,b))) (fun ⟨x,y,i⟩ ⟨c,g1,g2,g3,g4⟩=>by
   simp only at g1 g3 g4
   subst g1
   simp only [merge_Run.s2]
   by_cases h:i<w.length
   ·have hx:=get_at h
    rw [dec_lt hx,cond_true,idxn_at hx]
    by_cases a0:w[i]<0
    ·right
     exact ⟨_,by rw [decide_eq_true a0,cond_true,obind,cond_true],[],by simp,.inr ⟨false,rfl⟩⟩
    rw [decide_eq_false a0,cond_false]
    by_cases a1:p.Inputs≤w[i]
    ·right
     exact ⟨_,by rw [decide_eq_true a1,cond_true,obind,cond_true],[],by simp,.inr ⟨false,rfl⟩⟩
    obtain ⟨a,ha⟩:∃ a:Nat,w[i]=(↑a:Int):=⟨w[i].toNat,by omega⟩
    obtain ⟨n1,n2,n3,n4,n5,xr,yr,hxr,hyr,hxa,hya,_,_⟩:=H.at g2 (a:=a) (by omega)
    rw [decide_eq_false a1,cond_false,idx_at (i:=c) rfl hxr,idx_at (i:=a) ha hxa,obind]
    by_cases t0:pnx p c a=-1
    ·right
     exact ⟨_,by rw [decide_eq_true t0,cond_true],[],by simp,.inr ⟨false,rfl⟩⟩
    ·left
     refine ⟨(pnx p c a,y++[pot p c a],i+1),by rw [decide_eq_false t0,cond_false,idx_at (i:=c) rfl hyr,idx_at (i:=a) ha hya,chk_pos (by unfold capOk;omega),idx_at (i:=c) rfl hxr,idx_at (i:=a) ha hxa],⟨(pnx p c a).toNat,by simp only;omega,by omega,h,by simp only [List.length_append,List.length_singleton];omega⟩,by simp only;omega⟩
   ·right
    exact ⟨_,by rw [decide_eq_false (by omega),cond_false],y,by omega,.inl rfl⟩) fuel (p.Start,[],0) ⟨p.Start.toNat,by simp only;omega,by omega,Nat.zero_le _,rfl⟩ (by have:=fuel_big;simp only;omega)
  obtain ⟨r,e,y,hy,hr⟩:=key
  rw [e,obind]
  rcases hr with rfl | ⟨b,rfl⟩
  ·exact ⟨y,true,by rw [Sum.elim_inl],by unfold SmW;omega⟩
  ·exact ⟨y,b,by rw [Sum.elim_inr],by unfold SmW;omega⟩
 ·rw [decide_eq_true hv,cond_true]
  exact ⟨_,_,rfl,by unfold SmW;simp⟩
theorem SmL_nil:SmL []:=⟨by simp,fun x hx=>by cases hx⟩
theorem renP_small {Q:T_api_Part} (R:RenOk Q):SmL (renP Q).Next∧SmL (renP Q).Out:=by
 obtain ⟨nums,_,A⟩:=merge_renumbered_eq R
 have h1:=A.le
 have h2:=R.n2
 have h3:=R.i2
 unfold renP
 refine ⟨⟨by simp only [List.length_map];omega,fun x hx=>?_⟩,⟨by simp only [List.length_map];omega,fun x hx=>?_⟩⟩
 ·obtain ⟨c,_,rfl⟩:=List.mem_map.1 hx
  unfold SmW rowNQ
  rw [List.length_map,List.length_range]
  omega
 ·obtain ⟨c,_,rfl⟩:=List.mem_map.1 hx
  unfold SmW rowOQ
  rw [List.length_map,List.length_range]
  omega
theorem merge_Fold_ex (p:T_api_Part) (s t:Int) (hl:p.Next.length≤10000000):∃ v,merge_Fold p s t=some v∧SmL v.1.Next∧SmL v.1.Out:=by
 unfold merge_Fold
 rw [merge_Valid_eq hl,obind]
 by_cases h0:validP p=0
 ·have H:=validP_ok h0
  rw [decide_eq_false (fun h=>h h0),cond_false]
  have c1:(cond (decide (min s t<0)) (some true) (some (decide ((↑p.Next.length:Int)≤max s t))):Option Bool)=some (decide (min s t<0∨(↑p.Next.length:Int)≤max s t)):=by
   by_cases h:min s t<0
   ·rw [decide_eq_true h,cond_true,decide_eq_true (.inl h)]
   ·rw [decide_eq_false h,cond_false];simp [h]
  rw [c1,obind]
  by_cases hr:min s t<0∨(↑p.Next.length:Int)≤max s t
  ·rw [decide_eq_true hr,cond_true]
   exact ⟨_,rfl,SmL_nil,SmL_nil⟩
  ·rw [decide_eq_false hr,cond_false]
   obtain ⟨a,ha⟩:∃ a:Nat,s=(↑a:Int):=⟨s.toNat,by omega⟩
   obtain ⟨b,hb⟩:∃ b:Nat,t=(↑b:Int):=⟨t.toNat,by omega⟩
   subst ha
   subst hb
   rcases merge_folded_eq H (s:=a) (t:=b) (by omega) (by omega) with ⟨f1,f2⟩ | ⟨f1,Q,cl,K,f2,f3⟩
   ·rw [f2,obind]
    exact ⟨_,rfl,SmL_nil,SmL_nil⟩
   ·rw [f3,obind]
    obtain ⟨q1,q2⟩:=renP_small K.ren
    exact ⟨_,rfl,q1,q2⟩
 ·rw [decide_eq_true h0,cond_true]
  exact ⟨_,rfl,SmL_nil,SmL_nil⟩
theorem complP_small (p:T_api_Part) (out:Int) (hi:p.Next.length≤1000):SmL (complP p out).1.Next∧SmL (complP p out).1.Out:=by
 unfold complP
 split
 ·exact ⟨SmL_nil,SmL_nil⟩
 ·rename_i hv
  have H:=validP_ok (Classical.not_not.1 hv)
  have h3:=H.i2
  split
  ·exact ⟨SmL_nil,SmL_nil⟩
  ·split
   ·exact ⟨SmL_nil,SmL_nil⟩
   ·refine ⟨⟨by simp only [List.length_map,List.length_range];omega,fun x hx=>?_⟩,⟨by simp only [List.length_map,List.length_range];omega,fun x hx=>?_⟩⟩
    ·obtain ⟨c,_,rfl⟩:=List.mem_map.1 hx
     unfold SmW compL
     rw [List.length_map,List.length_range]
     omega
    ·obtain ⟨c,_,rfl⟩:=List.mem_map.1 hx
     unfold SmW compP
     rw [List.length_map,List.length_range]
     omega
theorem R06_Same_eqF (a b:T_api_Mealy) (h1:SmL a.Next) (h2:SmL a.Out):R06_Same a b=some (decide (a=b)):=by
 unfold R06_Same
 rw [R06_Lists_eq _ _ (by have:=h1.1;omega) (fun x hx=>by have:x.length≤2000000:=h1.2 x hx;omega),R06_Lists_eq _ _ (by have:=h2.1;omega) (fun x hx=>by have:x.length≤2000000:=h2.2 x hx;omega)]
 obtain ⟨a1,a2,a3,a4⟩:=a
 obtain ⟨b1,b2,b3,b4⟩:=b
 simp only [T_api_Mealy.mk.injEq]
 by_cases e1:a1=b1<;>by_cases e2:a2=b2<;>by_cases e3:a3=b3<;>by_cases e4:a4=b4<;>simp [e1,e2,e3,e4]
theorem R35_Same_self {p:T_api_Part} (h1:SmL p.Next) (h2:SmL p.Out):R35_Same p p=some true:=by
 unfold R35_Same
 rw [decide_eq_true rfl,cond_true,decide_eq_true rfl,cond_true,R01_SameWords_eq _ _ h1,obind,decide_eq_true rfl,cond_true,R01_SameWords_eq _ _ h2,obind,decide_eq_true rfl,obind]
theorem plain_Parts (x:T_learnerlaw35_Parts):L35_MergeParts x=some true:=by
 unfold L35_MergeParts
 obtain ⟨b,e1,hb⟩:=Great_eq x.P
 rw [e1,obind]
 have stop:∀ k:Option Bool,((some true:Option Bool).bind fun y=>cond y ((L35_awake).bind fun c=>some c) k)=some true:=fun k=>by rw [obind,cond_true,awake35_true,obind]
 cases b with
 | true=>rw [cond_true];exact stop _
 | false =>
  have hn:=hb rfl
  rw [cond_false]
  by_cases hw:40<x.W.length
  ·rw [decide_eq_true (by omega)];exact stop _
  ·rw [decide_eq_false (by omega),obind,cond_false]
   obtain ⟨y,b,e2,hy⟩:=merge_Run_ex (p:=x.P) (w:=x.W) (by omega) (by omega)
   obtain ⟨v,e3,v1,v2⟩:=merge_Fold_ex x.P x.S x.T (by omega)
   obtain ⟨c1,c2⟩:=complP_small x.P x.Out (by omega)
   rw [← merge_Run_same _ _ (by omega),e2,obind,obind,← merge_Fold_same _ _ _ (by omega),e3,obind,obind,merge_Complete_eq (by omega),R35_Complete_eq (by omega),obind,obind,merge_Valid_eq (by omega),R35_Valid_eq (by omega),obind,obind,decide_eq_true rfl,cond_true,R01_Same_eq _ _ hy,obind,decide_eq_true rfl,cond_true,R35_Same_self v1 v2,obind,cond_true,R06_Same_eqF _ _ c1 c2,obind,awake35_true]
   simp
end Go.Proofs.YteigfkncoiiaiaaGreatDoor.Sym

/-
 The law of MergeParts, for arguments within the bound.
-/
namespace Go.Proofs.YteigfkncoiiaiaaGreatDoor.Sym
theorem law_L35_MergeParts (x0:T_learnerlaw35_Parts) (_:ok_learnerlaw35_Parts x0) (_:sz_learnerlaw35_Parts x0≤1048576):L35_MergeParts x0=some true :=
 plain_Parts x0
end Go.Proofs.YteigfkncoiiaiaaGreatDoor.Sym
