/-
  Parts of the proof, behind each other.
-/
import Derived.Test.YtmcfpohmiabmpaaGreatDoorM3
import Derived.Maps.RangeRun
import Derived.StillTailTactics
set_option linter.all false
namespace Go.Proofs.YtmcfpohmiabmpaaGreatDoor.Sym
open Go.RowKit
set_option maxRecDepth 100000
set_option linter.unusedVariables false
set_option maxHeartbeats 4000000
def nondet_Vote.s2 (l_:List (List Int)) (need_:Int) (y87:List (ByteArray×Int)) (y88:Nat):Option (((List (ByteArray×Int))×Nat)⊕(Unit⊕(List Int×Int))) :=
 cond (decide ((↑y88:Int)<(↑(List.length l_):Int))) (idxn l_ y88 fun e97=>(nondet_key e97).bind fun c98=>chk (inR (((mget c98 y87).getD 0)+1)) (cond (decide (((mget c98 (mset c98 (((mget c98 y87).getD 0)+1) y87)).getD 0)=need_)) ((lib_Clone_int e97).bind fun c101=>some (.inr (.inr (c101,0)))) (some (.inl ((mset c98 (((mget c98 y87).getD 0)+1) y87),(y88+1)))))) (some (.inr (.inl ())))
def nondet_Vote (l_:List (List Int)) (need_:Int):Option (List Int×Int) :=
 (cond (decide (need_<1)) (some true) (some (decide (9<need_))):Option (Bool)).bind (fun (y54:Bool)=>cond (y54) (some ([],2)) ((iter (fun (s:(List (ByteArray×Int))×Nat)=>nondet_Vote.s2 l_ need_ s.1 s.2) fuel (([]:List (ByteArray×Int)),0):Option (Unit⊕(List Int×Int))).bind (Sum.elim (fun (_:Unit)=>some ([],13)) some)))
def R01_Common.s2 (a_:List Int) (b_:List Int) (i115:Nat):Option (Nat⊕Nat) :=
 (cond (decide ((↑i115:Int)<(↑(List.length a_):Int))) (cond (decide ((↑i115:Int)<(↑(List.length b_):Int))) (idxn a_ i115 fun e141=>idxn b_ i115 fun e142=>some (decide (e141=e142))) (some false)) (some false):Option (Bool)).bind (fun (y138:Bool)=>cond (y138) (chk (inR ((↑i115:Int)+1)) (some (.inl (i115+1)))) (some (.inr i115)))
def R01_Common (a_:List Int) (b_:List Int):Option (Int) :=
 (iter (fun (s:Nat)=>R01_Common.s2 a_ b_ s) fuel 0:Option (Nat)).bind (fun (i100:Nat)=>some (↑i100:Int))
def R01_Same (a_:List Int) (b_:List Int):Option (Bool) :=
 (cond (decide ((↑(List.length a_):Int)=(↑(List.length b_):Int))) ((R01_Common a_ b_).bind fun c57=>some (decide (c57=(↑(List.length a_):Int)))) (some false):Option (Bool)).bind (fun (y55:Bool)=>some y55)
def cmp_isNaN_int (x_:Int):Option (Bool) :=
 some (decide (x_≠x_))
def cmp_Compare_int (x_:Int) (y_:Int):Option (Int) :=
 (cmp_isNaN_int x_).bind fun c51=>(cmp_isNaN_int y_).bind fun c52=>cond (c51) (cond (c52) (some 0) (some (-1:Int))) (cond (c52) (some 1) (cond (decide (x_<y_)) (some (-1:Int)) (cond (decide (y_<x_)) (some 1) (some 0))))
def slices_Compare_Sint_int.s2 (s1_:List Int) (s2_:List Int) (y80:Nat):Option (Nat⊕(Unit⊕Int)) :=
 cond (decide ((↑y80:Int)<(↑(List.length s1_):Int))) (idxn s1_ y80 fun e89=>cond (decide ((↑(List.length s2_):Int)≤(↑y80:Int))) (some (.inr (.inr 1))) (idxn s2_ y80 fun e91=>(cmp_Compare_int e89 e91).bind fun c92=>cond (decide (c92≠0)) (some (.inr (.inr c92))) (some (.inl (y80+1))))) (some (.inr (.inl ())))
def slices_Compare_Sint_int (s1_:List Int) (s2_:List Int):Option (Int) :=
 (iter (fun (s:Nat)=>slices_Compare_Sint_int.s2 s1_ s2_ s) fuel 0:Option (Unit⊕Int)).bind (Sum.elim (fun (_:Unit)=>cond (decide ((↑(List.length s1_):Int)<(↑(List.length s2_):Int))) (some (-1:Int)) (some 0)) some)
def cmp_Or_int.s2 (vals_:List Int) (y67:Nat):Option (Nat⊕(Unit⊕Int)) :=
 cond (decide ((↑y67:Int)<(↑(List.length vals_):Int))) (idxn vals_ y67 fun e73=>cond (decide (e73≠0)) (some (.inr (.inr e73))) (some (.inl (y67+1)))) (some (.inr (.inl ())))
def cmp_Or_int (vals_:List Int):Option (Int) :=
 (iter (fun (s:Nat)=>cmp_Or_int.s2 vals_ s) fuel 0:Option (Unit⊕Int)).bind (Sum.elim (fun (_:Unit)=>some 0) some)
def word_Compare (a_:List Int) (b_:List Int):Option (Int) :=
 (cmp_Compare_int (↑(List.length a_):Int) (↑(List.length b_):Int)).bind fun c51=>(slices_Compare_Sint_int a_ b_).bind fun c52=>(cmp_Or_int [c51,c52]).bind fun c53=>some c53
def nondet_Distinct.s2 (l_:List (List Int)) (y73:List (ByteArray×Int)) (y74:Nat):Option (((List (ByteArray×Int))×Nat)⊕((List (ByteArray×Int)))) :=
 cond (decide ((↑y74:Int)<(↑(List.length l_):Int))) (idxn l_ y74 fun e81=>(nondet_key e81).bind fun c82=>chk (inR (((mget c82 y73).getD 0)+1)) (some (.inl ((mset c82 (((mget c82 y73).getD 0)+1) y73),(y74+1))))) (some (.inr y73))
def nondet_Distinct.s4 (c87:List (List Int)) (y127:List (ByteArray×Int)) (y128:List (List Int)) (y129:List Int) (y130:Nat):Option (((List (ByteArray×Int))×List (List Int)×List Int×Nat)⊕(List (List Int)×List Int)) :=
 cond (decide ((↑y130:Int)<(↑(List.length c87):Int))) (idxn c87 y130 fun e141=>(nondet_key e141).bind fun c142=>cond ((mget c142 y127).isSome) ((lib_Clone_int e141).bind fun c144=>chk (capOk (List.length y128+1) 24) (chk (capOk (List.length y129+1) 8) ((nondet_key e141).bind fun c147=>some (.inl ((mdel c147 y127),(y128++[c144]),(y129++[((mget c142 y127).getD 0)]),(y130+1)))))) (some (.inl (y127,y128,y129,(y130+1))))) (some (.inr (y128,y129)))
def nondet_Distinct.k5 (y119:List (List Int)) (y120:List Int):Option (List (List Int)×List Int) :=
 some (y119,y120)
def nondet_Distinct (l_:List (List Int)):Option (List (List Int)×List Int) :=
 (iter (fun (s:(List (ByteArray×Int))×Nat)=>nondet_Distinct.s2 l_ s.1 s.2) fuel (([]:List (ByteArray×Int)),0):Option ((List (ByteArray×Int)))).bind (fun (y68:(List (ByteArray×Int)))=>(lib_Clone_words l_).bind fun c86=>(lib_SortFunc_words c86 (fun u0 u1=>word_Compare u0 u1)).bind fun c87=>(iter (fun (s:(List (ByteArray×Int))×List (List Int)×List Int×Nat)=>nondet_Distinct.s4 c87 s.1 s.2.1 s.2.2.1 s.2.2.2) fuel (y68,[],[],0):Option (List (List Int)×List Int)).bind (fun (s:List (List Int)×List Int)=>nondet_Distinct.k5 s.1 s.2))
def R01_Lex (a_:List Int) (b_:List Int):Option (Int) :=
 (R01_Common a_ b_).bind fun c51=>(cond (decide (c51=(↑(List.length a_):Int))) (some (decide (c51=(↑(List.length b_):Int)))) (some false):Option (Bool)).bind (fun (y55:Bool)=>cond (y55) (some 0) ((cond (decide (c51=(↑(List.length a_):Int))) (some (decide (c51=(↑(List.length a_):Int)))) (cond (decide (c51<(↑(List.length b_):Int))) (idx a_ c51 fun e69=>idx b_ c51 fun e70=>some (decide (e69<e70))) (some false)):Option (Bool)).bind (fun (y66:Bool)=>cond (y66) (some (-1:Int)) (some 1))))
def R01_Compare (a_:List Int) (b_:List Int):Option (Int) :=
 cond (decide ((↑(List.length a_):Int)<(↑(List.length b_):Int))) (some (-1:Int)) (cond (decide ((↑(List.length b_):Int)<(↑(List.length a_):Int))) (some 1) ((R01_Lex a_ b_).bind fun c53=>some c53))
def R02_place.s2 (l_:List (List Int)) (w_:List Int) (low84:Nat) (high85:Nat):Option ((Nat×Nat)⊕Nat) :=
 cond (decide ((↑low84:Int)<(↑high85:Int))) (chk (inR ((↑low84:Int)+(↑high85:Int))) (chk (inR (((↑low84:Int)+(↑high85:Int)) / 2)∧(0:Int)≤((↑low84:Int)+(↑high85:Int))∧(1:Int)≤2) (idxn l_ ((low84+high85) / 2) fun e97=>(R01_Compare e97 w_).bind fun c98=>cond (decide (c98<0)) (chk (inR ((((↑low84:Int)+(↑high85:Int)) / 2)+1)) (some (.inl ((((low84+high85) / 2)+1),high85)))) (some (.inl (low84,((low84+high85) / 2))))))) (some (.inr low84))
def R02_place (l_:List (List Int)) (w_:List Int):Option (Int) :=
 (iter (fun (s:Nat×Nat)=>R02_place.s2 l_ w_ s.1 s.2) fuel (0,(List.length l_)):Option (Nat)).bind (fun (low77:Nat)=>some (↑low77:Int))
def R02_with.s2 (c51:Int) (y93:List (List Int)) (i94:Int):Option ((List (List Int)×Int)⊕List (List Int)) :=
 cond (decide (c51<i94)) (chk (inR (i94-1)) (idx y93 (i94-1) fun e103=>idx y93 i94 fun e104=>chk (inR (i94-1)) (some (.inl ((List.set y93 i94.toNat e103),(i94-1)))))) (some (.inr y93))
def R02_with (l_:List (List Int)) (w_:List Int):Option (List (List Int)) :=
 (R02_place l_ w_).bind fun c51=>(cond (decide (c51<(↑(List.length l_):Int))) (idx l_ c51 fun e59=>(R01_Same e59 w_).bind fun c60=>some c60) (some false):Option (Bool)).bind (fun (y57:Bool)=>cond (y57) (some l_) (chk (capOk (List.length l_+1) 24) (chk (inR ((↑(List.length (l_++[[]])):Int)-1)) ((iter (fun (s:List (List Int)×Int)=>R02_with.s2 c51 s.1 s.2) fuel ((l_++[[]]),((↑(List.length (l_++[[]])):Int)-1)):Option (List (List Int))).bind (fun (y87:List (List Int))=>chk (capOk (List.length ([]:List Unit)+List.length w_) 8) (idx y87 c51 fun e111=>some (List.set y87 c51.toNat ([]++w_))))))))
def R02_Sorted.s2 (l_:List (List Int)) (y70:List (List Int)) (i71:Nat):Option ((List (List Int)×Nat)⊕List (List Int)) :=
 cond (decide ((↑i71:Int)<(↑(List.length l_):Int))) (idxn l_ i71 fun e77=>(R02_with y70 e77).bind fun c78=>some (.inl (c78,(i71+1)))) (some (.inr y70))
def R02_Sorted (l_:List (List Int)):Option (List (List Int)) :=
 (iter (fun (s:List (List Int)×Nat)=>R02_Sorted.s2 l_ s.1 s.2) fuel ([],0):Option (List (List Int))).bind (fun (y66:List (List Int))=>some y66)
def R01_SameWords.s2 (a_:List (List Int)) (b_:List (List Int)) (i77:Nat):Option (Nat⊕(Unit⊕Bool)) :=
 cond (decide ((↑i77:Int)<(↑(List.length a_):Int))) (idxn a_ i77 fun e85=>idxn b_ i77 fun e86=>(R01_Same e85 e86).bind fun c87=>cond ((!c87)) (some (.inr (.inr false))) (some (.inl (i77+1)))) (some (.inr (.inl ())))
def R01_SameWords (a_:List (List Int)) (b_:List (List Int)):Option (Bool) :=
 cond (decide ((↑(List.length a_):Int)≠(↑(List.length b_):Int))) (some false) ((iter (fun (s:Nat)=>R01_SameWords.s2 a_ b_ s) fuel 0:Option (Unit⊕Bool)).bind (Sum.elim (fun (_:Unit)=>some true) some))
def slices_Index_Sint_int.s2 (s_:List Int) (v_:Int) (y67:Nat):Option (Nat⊕(Unit⊕Int)) :=
 cond (decide ((↑y67:Int)<(↑(List.length s_):Int))) (idxn s_ y67 fun e73=>cond (decide (v_=e73)) (some (.inr (.inr (↑y67:Int)))) (some (.inl (y67+1)))) (some (.inr (.inl ())))
def slices_Index_Sint_int (s_:List Int) (v_:Int):Option (Int) :=
 (iter (fun (s:Nat)=>slices_Index_Sint_int.s2 s_ v_ s) fuel 0:Option (Unit⊕Int)).bind (Sum.elim (fun (_:Unit)=>some (-1:Int)) some)
def slices_Contains_Sint_int (s_:List Int) (v_:Int):Option (Bool) :=
 (slices_Index_Sint_int s_ v_).bind fun c51=>some (decide (0≤c51))
def cmp_Less_int (x_:Int) (y_:Int):Option (Bool) :=
 ((cmp_isNaN_int x_).bind fun c58=>cond (c58) ((cmp_isNaN_int y_).bind fun c60=>cond ((!c60)) (some true) (some (decide (x_<y_)))) (some (decide (x_<y_))):Option (Bool)).bind (fun (y57:Bool)=>some y57)
def slices_insertionSortOrdered_int.s13 (a_:Int) (y881:List Int) (j882:Int):Option ((List Int×Int)⊕List Int) :=
 (cond (decide (a_<j882)) (idx y881 j882 fun e915=>chk (inR (j882-1)) (idx y881 (j882-1) fun e917=>(cmp_Less_int e915 e917).bind fun c918=>some c918)) (some false):Option (Bool)).bind (fun (y913:Bool)=>cond (y913) (chk (inR (j882-1)) (chk (inR (j882-1)) (idx y881 (j882-1) fun e923=>idx y881 j882 fun e924=>idx y881 j882 fun e925=>idx (List.set y881 j882.toNat e923) (j882-1) fun e926=>chk (inR (j882-1)) (some (.inl ((List.set (List.set y881 j882.toNat e923) ((j882-1).toNat) e924),(j882-1))))))) (some (.inr y881)))
def slices_insertionSortOrdered_int.s14 (a_:Int) (b_:Int) (y638:List Int) (i639:Int):Option ((List Int×Int)⊕List Int) :=
 cond (decide (i639<b_)) ((iter (fun (s:List Int×Int)=>slices_insertionSortOrdered_int.s13 a_ s.1 s.2) fuel (y638,i639):Option (List Int)).bind (fun (y858:List Int)=>chk (inR (i639+1)) (some (.inl (y858,(i639+1)))))) (some (.inr y638))
def slices_insertionSortOrdered_int (data_:List Int) (a_:Int) (b_:Int):Option (List Int) :=
 chk (inR (a_+1)) ((iter (fun (s:List Int×Int)=>slices_insertionSortOrdered_int.s14 a_ b_ s.1 s.2) fuel (data_,(a_+1)):Option (List Int)).bind (fun (y492:List Int)=>some y492))
def word_Lex (a_:List Int) (b_:List Int):Option (Int) :=
 (slices_Compare_Sint_int a_ b_).bind fun c51=>some c51
def slices_Equal_Sint_int.s2 (s1_:List Int) (s2_:List Int) (y73:Nat):Option (Nat⊕(Unit⊕Bool)) :=
 cond (decide ((↑y73:Int)<(↑(List.length s1_):Int))) (idxn s1_ y73 fun e80=>idxn s2_ y73 fun e81=>cond (decide (e80≠e81)) (some (.inr (.inr false))) (some (.inl (y73+1)))) (some (.inr (.inl ())))
def slices_Equal_Sint_int (s1_:List Int) (s2_:List Int):Option (Bool) :=
 cond (decide ((↑(List.length s1_):Int)≠(↑(List.length s2_):Int))) (some false) ((iter (fun (s:Nat)=>slices_Equal_Sint_int.s2 s1_ s2_ s) fuel 0:Option (Unit⊕Bool)).bind (Sum.elim (fun (_:Unit)=>some true) some))
def slices_CompactFunc_S_nondet_group_nondet_group.s18 (eq_:Grp→Grp→Option Bool) (k356:Nat) (y481:List Grp) (k482:Nat) (y483:Nat):Option ((List Grp×Nat×Nat)⊕(List Grp×Nat)) :=
 cond (decide ((↑y483:Int)<(↑(List.length y481-k356):Int))) (idxn y481 (k356+y483) fun e495=>chk ((0:Int)≤((↑y483:Int)-1)) (idxn y481 (k356+(Int.toNat ((↑y483:Int)-1))) fun e496=>(eq_ e495 e496).bind fun c498=>cond ((!c498)) (idxn y481 (k356+y483) fun e500=>idxn y481 k482 fun e501=>chk (inR ((↑k482:Int)+1)) (some (.inl ((List.set y481 k482 e500),(k482+1),(y483+1))))) (some (.inl (y481,k482,(y483+1)))))) (some (.inr (y481,k482)))
def slices_CompactFunc_S_nondet_group_nondet_group.k19 (y471:List Grp) (k472:Nat):Option (Nat⊕(Unit⊕List Grp)) :=
 chk ((0:Int)≤(↑k472:Int)∧(↑k472:Int)≤(↑(List.length y471):Int)∧0<List.length y471) (chk (k472≤List.length y471) (chk ((0:Int)≤(↑k472:Int)∧(↑k472:Int)≤(↑(List.length (List.take k472 y471++List.replicate (List.length y471-k472) (([],[],[]):Grp))):Int)∧0<List.length (List.take k472 y471++List.replicate (List.length y471-k472) (([],[],[]):Grp))) (some (.inr (.inr (List.take k472 (List.take k472 y471++List.replicate (List.length y471-k472) (([],[],[]):Grp))))))))
def slices_CompactFunc_S_nondet_group_nondet_group.s20 (s_:List Grp) (eq_:Grp→Grp→Option Bool) (k356:Nat):Option (Nat⊕(Unit⊕List Grp)) :=
 cond (decide ((↑k356:Int)<(↑(List.length s_):Int))) (idxn s_ k356 fun e434=>idx s_ ((↑k356:Int)-1) fun e435=>(eq_ e434 e435).bind fun c436=>cond (c436) (chk ((0:Int)≤(↑k356:Int)∧(↑k356:Int)≤(↑(List.length s_):Int)∧0<List.length s_) ((iter (fun (s:List Grp×Nat×Nat)=>slices_CompactFunc_S_nondet_group_nondet_group.s18 eq_ k356 s.1 s.2.1 s.2.2) fuel (s_,k356,1):Option (List Grp×Nat)).bind (fun (s:List Grp×Nat)=>slices_CompactFunc_S_nondet_group_nondet_group.k19 s.1 s.2))) (some (.inl (k356+1)))) (some (.inr (.inl ())))
def slices_CompactFunc_S_nondet_group_nondet_group (s_:List Grp) (eq_:Grp→Grp→Option Bool):Option (List Grp) :=
 cond (decide ((↑(List.length s_):Int)<2)) (some s_) ((iter (fun (s:Nat)=>slices_CompactFunc_S_nondet_group_nondet_group.s20 s_ eq_ s) fuel 1:Option (Unit⊕List Grp)).bind (Sum.elim (fun (_:Unit)=>some s_) some))
def lib_Sort_int (l:List Int):Option (List Int):=chk (l.length≤12) (slices_insertionSortOrdered_int l 0 l.length)
def lib_SortFunc_groups (l:List Grp) (f:Grp→Grp→Option Int):Option (List Grp):=libSort l f
def nondet_cmp (a b:Grp):Option Int:=(word_Compare a.1 b.1).bind fun c=>cond (decide (c≠0)) (some c) (word_Lex a.2.1 b.2.1)
def nondet_eq (a b:Grp):Option Bool:=slices_Equal_Sint_int a.1 b.1
def nondet_rest.s2 (c52:List Grp) (y82:List T_api_Clash) (y83:Nat):Option ((List T_api_Clash×Nat)⊕List T_api_Clash) :=
 cond (decide ((↑y83:Int)<(↑(List.length c52):Int))) (idxn c52 y83 fun e92=>(lib_Clone_int e92.1).bind fun c93=>idxn e92.2.2 0 fun e94=>idxn e92.2.2 1 fun e95=>chk (capOk (List.length y82+1) 40) (some (.inl ((y82++[(⟨c93,e94,e95⟩:T_api_Clash)]),(y83+1))))) (some (.inr y82))
def nondet_rest (found_:List Grp):Option (List T_api_Clash) :=
 (lib_SortFunc_groups found_ (fun u0 u1=>nondet_cmp u0 u1)).bind fun c51=>(slices_CompactFunc_S_nondet_group_nondet_group c51 (fun u0 u1=>nondet_eq u0 u1)).bind fun c52=>(iter (fun (s:List T_api_Clash×Nat)=>nondet_rest.s2 c52 s.1 s.2) fuel ([],0):Option (List T_api_Clash)).bind (fun (y76:List T_api_Clash)=>some y76)
def nondet_Clashes (l:List T_api_Trace):Option (List T_api_Clash):=chk (l.length≤1000∧∀ t∈l,t.In.length≤1000∧t.Out.length≤1000∧(∀ a∈t.In,inR a)∧∀ a∈t.Out,inR a) (nondet_rest ((grpsN l).filter fun g=>decide (g.2.2.length=2)))
def observe_New (inputs_:Int):Option (T_api_Obs×Int) :=
 (cond (decide (inputs_<1)) (some true) (some (decide (64<inputs_))):Option (Bool)).bind (fun (y54:Bool)=>cond (y54) (some ((⟨0,[]⟩:T_api_Obs),2)) (some ((⟨inputs_,[]⟩:T_api_Obs),0)))
def slices_IndexFunc_Sint_int.s2 (s_:List Int) (f_:Int→Option Bool) (y71:Nat):Option (Nat⊕(Unit⊕Int)) :=
 cond (decide ((↑y71:Int)<(↑(List.length s_):Int))) (idxn s_ y71 fun e78=>(f_ e78).bind fun c79=>cond (c79) (some (.inr (.inr (↑y71:Int)))) (some (.inl (y71+1)))) (some (.inr (.inl ())))
def slices_IndexFunc_Sint_int (s_:List Int) (f_:Int→Option Bool):Option (Int) :=
 (iter (fun (s:Nat)=>slices_IndexFunc_Sint_int.s2 s_ f_ s) fuel 0:Option (Unit⊕Int)).bind (Sum.elim (fun (_:Unit)=>some (-1:Int)) some)
def slices_ContainsFunc_Sint_int (s_:List Int) (f_:Int→Option Bool):Option (Bool) :=
 (slices_IndexFunc_Sint_int s_ f_).bind fun c51=>some (decide (0≤c51))
def word_permitted (inputs_:Int):Option (Bool) :=
 (cond (decide (1≤inputs_)) (some (decide (inputs_≤1024))) (some false):Option (Bool)).bind (fun (y54:Bool)=>some y54)
def word_Check_1 (a_:Int) (p1_:Int):Option (Bool) :=
 (cond (decide (a_<0)) (some true) (some (decide (p1_≤a_))):Option (Bool)).bind (fun (y54:Bool)=>some y54)
def slices_IndexFunc_Sint_int_n1.s2 (s_:List Int) (f_:Int→Option Bool) (y71:Nat):Option (Nat⊕(Unit⊕Int)) :=
 cond (decide ((↑y71:Int)<(↑(List.length s_):Int))) (idxn s_ y71 fun e78=>(f_ e78).bind fun c79=>cond (c79) (some (.inr (.inr (↑y71:Int)))) (some (.inl (y71+1)))) (some (.inr (.inl ())))
def slices_IndexFunc_Sint_int_n1 (s_:List Int) (f_:Int→Option Bool):Option (Int) :=
 (iter (fun (s:Nat)=>slices_IndexFunc_Sint_int_n1.s2 s_ f_ s) fuel 0:Option (Unit⊕Int)).bind (Sum.elim (fun (_:Unit)=>some (-1:Int)) some)
def slices_ContainsFunc_Sint_int_n1 (s_:List Int) (f_:Int→Option Bool):Option (Bool) :=
 (slices_IndexFunc_Sint_int_n1 s_ f_).bind fun c51=>some (decide (0≤c51))
def word_Check (w_:List Int) (inputs_:Int):Option (Int) :=
 (word_permitted inputs_).bind fun c51=>cond ((!c51)) (some 2) (cond (decide (1024<(↑(List.length w_):Int))) (some 3) ((slices_ContainsFunc_Sint_int_n1 w_ (fun u0=>word_Check_1 u0 inputs_)).bind fun c54=>cond (c54) (some 1) (some 0)))
def nondet_proper_1 (o_:Int):Option (Bool) :=
 (cond (decide (o_<0)) (some true) (some (decide (1048576<o_))):Option (Bool)).bind (fun (y54:Bool)=>some y54)
def nondet_proper (t_:T_api_Trace) (inputs_:Int):Option (Int) :=
 (word_Check t_.In inputs_).bind fun c51=>cond (decide (c51≠0)) (some c51) (cond (decide ((↑(List.length t_.Out):Int)≠(↑(List.length t_.In):Int))) (some 1) ((slices_ContainsFunc_Sint_int t_.Out (fun u0=>nondet_proper_1 u0)).bind fun c54=>cond (c54) (some 2) (some 0)))
def observe_copied (t_:T_api_Trace):Option (T_api_Trace) :=
 (lib_Clone_int t_.In).bind fun c51=>(lib_Clone_int t_.Out).bind fun c52=>some (⟨c51,c52⟩:T_api_Trace)
def observe_owned.s2 (l_:List T_api_Trace) (y75:List T_api_Trace) (y76:Nat):Option ((List T_api_Trace×Nat)⊕List T_api_Trace) :=
 cond (decide ((↑y76:Int)<(↑(List.length l_):Int))) (idxn l_ y76 fun e83=>(observe_copied e83).bind fun c84=>chk (capOk (List.length y75+1) 48) (some (.inl ((y75++[c84]),(y76+1))))) (some (.inr y75))
def observe_owned (l_:List T_api_Trace):Option (List T_api_Trace) :=
 chk ((0:Int)≤0∧0≤((↑(List.length l_):Int)+1)∧capOk (Int.toNat ((↑(List.length l_):Int)+1)) 48) ((iter (fun (s:List T_api_Trace×Nat)=>observe_owned.s2 l_ s.1 s.2) fuel ([],0):Option (List T_api_Trace)).bind (fun (y70:List T_api_Trace)=>some y70))
def word_Common.s2 (a_:List Int) (b_:List Int) (y72:Nat):Option (Nat⊕(Unit⊕Int)) :=
 cond (decide ((↑y72:Int)<(min (↑(List.length a_):Int) (↑(List.length b_):Int)))) (idxn a_ y72 fun e79=>idxn b_ y72 fun e80=>cond (decide (e79≠e80)) (some (.inr (.inr (↑y72:Int)))) (some (.inl (y72+1)))) (some (.inr (.inl ())))
def word_Common (a_:List Int) (b_:List Int):Option (Int) :=
 (iter (fun (s:Nat)=>word_Common.s2 a_ b_ s) fuel 0:Option (Unit⊕Int)).bind (Sum.elim (fun (_:Unit)=>some (min (↑(List.length a_):Int) (↑(List.length b_):Int))) some)
def word_HasPrefix (w_:List Int) (p_:List Int):Option (Bool) :=
 (word_Common w_ p_).bind fun c51=>some (decide (c51=(↑(List.length p_):Int)))
def slices_BinarySearchFunc_Sapi_Trace_api_Trace_api_Trace.s2 (x_:List T_api_Trace) (target_:T_api_Trace) (cmp_:T_api_Trace→T_api_Trace→Option Int) (i89:Int) (j90:Int):Option ((Int×Int)⊕Int) :=
 cond (decide (i89<j90)) (chk (inR (i89+j90)) (chk ((0:Int)≤(i89+j90)∧(i89+j90)≤18446744073709551615) (chk ((0:Int)≤(i89+j90)∧(i89+j90)≤18446744073709551615) (chk (inR ((i89+j90) / 2^1)) (idx x_ ((i89+j90) / 2^1) fun e106=>(cmp_ e106 target_).bind fun c107=>cond (decide (c107<0)) (chk (inR (((i89+j90) / 2^1)+1)) (some (.inl ((((i89+j90) / 2^1)+1),j90)))) (some (.inl (i89,((i89+j90) / 2^1))))))))) (some (.inr i89))
def slices_BinarySearchFunc_Sapi_Trace_api_Trace_api_Trace (x_:List T_api_Trace) (target_:T_api_Trace) (cmp_:T_api_Trace→T_api_Trace→Option Int):Option (Int×Bool) :=
 (iter (fun (s:Int×Int)=>slices_BinarySearchFunc_Sapi_Trace_api_Trace_api_Trace.s2 x_ target_ cmp_ s.1 s.2) fuel (0,(↑(List.length x_):Int)):Option (Int)).bind (fun (i81:Int)=>(cond (decide (i81<(↑(List.length x_):Int))) (idx x_ i81 fun e119=>(cmp_ e119 target_).bind fun c120=>some (decide (c120=0))) (some false):Option (Bool)).bind (fun (y117:Bool)=>some (i81,y117)))
def observe_differ (a_:T_api_Trace) (b_:T_api_Trace):Option (Int) :=
 (word_Common a_.In b_.In).bind fun c51=>chk ((0:Int)≤(min (min c51 (↑(List.length a_.Out):Int)) (↑(List.length b_.Out):Int))∧(min (min c51 (↑(List.length a_.Out):Int)) (↑(List.length b_.Out):Int))≤(↑(List.length a_.Out):Int)) (chk ((0:Int)≤(min (min c51 (↑(List.length a_.Out):Int)) (↑(List.length b_.Out):Int))∧(min (min c51 (↑(List.length a_.Out):Int)) (↑(List.length b_.Out):Int))≤(↑(List.length b_.Out):Int)) ((word_Common (List.take (Int.toNat (min (min c51 (↑(List.length a_.Out):Int)) (↑(List.length b_.Out):Int))) a_.Out) (List.take (Int.toNat (min (min c51 (↑(List.length a_.Out):Int)) (↑(List.length b_.Out):Int))) b_.Out)).bind fun c54=>cond (decide (c54<(min (min c51 (↑(List.length a_.Out):Int)) (↑(List.length b_.Out):Int)))) (some c54) (some (-1:Int))))
def observe_add_1 (u_:T_api_Trace) (p1_:T_api_Trace):Option (Bool) :=
 (word_HasPrefix p1_.In u_.In).bind fun c51=>some c51
def slices_IndexFunc_Sapi_Trace_api_Trace_n1.s2 (s_:List T_api_Trace) (f_:T_api_Trace→Option Bool) (y71:Nat):Option (Nat⊕(Unit⊕Int)) :=
 cond (decide ((↑y71:Int)<(↑(List.length s_):Int))) (idxn s_ y71 fun e78=>(f_ e78).bind fun c79=>cond (c79) (some (.inr (.inr (↑y71:Int)))) (some (.inl (y71+1)))) (some (.inr (.inl ())))
def slices_IndexFunc_Sapi_Trace_api_Trace_n1 (s_:List T_api_Trace) (f_:T_api_Trace→Option Bool):Option (Int) :=
 (iter (fun (s:Nat)=>slices_IndexFunc_Sapi_Trace_api_Trace_n1.s2 s_ f_ s) fuel 0:Option (Unit⊕Int)).bind (Sum.elim (fun (_:Unit)=>some (-1:Int)) some)
def slices_DeleteFunc_Sapi_Trace_api_Trace_n1.s2 (del_:T_api_Trace→Option Bool) (y94:List T_api_Trace) (i95:Int) (j96:Int):Option ((List T_api_Trace×Int×Int)⊕(List T_api_Trace×Int)) :=
 cond (decide (j96<(↑(List.length y94):Int))) (idx y94 j96 fun e107=>(del_ e107).bind fun c108=>cond ((!c108)) (idx y94 i95 fun e110=>chk (inR (i95+1)) (chk (inR (j96+1)) (some (.inl ((List.set y94 i95.toNat e107),(i95+1),(j96+1)))))) (chk (inR (j96+1)) (some (.inl (y94,i95,(j96+1)))))) (some (.inr (y94,i95)))
def slices_DeleteFunc_Sapi_Trace_api_Trace_n1.k3 (y84:List T_api_Trace) (i85:Int):Option (List T_api_Trace) :=
 chk ((0:Int)≤i85∧i85≤(↑(List.length y84):Int)∧0<List.length y84) (chk ((Int.toNat i85)≤List.length y84) (chk ((0:Int)≤i85∧i85≤(↑(List.length (List.take (Int.toNat i85) y84++List.replicate (List.length y84-(Int.toNat i85)) (⟨[],[]⟩:T_api_Trace))):Int)∧0<List.length (List.take (Int.toNat i85) y84++List.replicate (List.length y84-(Int.toNat i85)) (⟨[],[]⟩:T_api_Trace))) (some (List.take (Int.toNat i85) (List.take (Int.toNat i85) y84++List.replicate (List.length y84-(Int.toNat i85)) (⟨[],[]⟩:T_api_Trace))))))
def slices_DeleteFunc_Sapi_Trace_api_Trace_n1 (s_:List T_api_Trace) (del_:T_api_Trace→Option Bool):Option (List T_api_Trace) :=
 (slices_IndexFunc_Sapi_Trace_api_Trace_n1 s_ del_).bind fun c51=>cond (decide (c51=(-1:Int))) (some s_) (chk (inR (c51+1)) ((iter (fun (s:List T_api_Trace×Int×Int)=>slices_DeleteFunc_Sapi_Trace_api_Trace_n1.s2 del_ s.1 s.2.1 s.2.2) fuel (s_,c51,(c51+1)):Option (List T_api_Trace×Int)).bind (fun (s:List T_api_Trace×Int)=>slices_DeleteFunc_Sapi_Trace_api_Trace_n1.k3 s.1 s.2)))
def observe_order (a_:T_api_Trace) (b_:T_api_Trace):Option (Int) :=
 (word_Compare a_.In b_.In).bind fun c51=>some c51
def observe_add.s2 (l_:List T_api_Trace) (t_:T_api_Trace) (inside79:Bool) (y80:Nat):Option ((Bool×Nat)⊕(Bool⊕(List T_api_Trace×Int))) :=
 cond (decide ((↑y80:Int)<(↑(List.length l_):Int))) (idxn l_ y80 fun e89=>(observe_differ e89 t_).bind fun c90=>cond (decide (0≤c90)) (some (.inr (.inr ([],13)))) (cond (inside79) (some (.inl (true,(y80+1)))) ((word_HasPrefix e89.In t_.In).bind fun c93=>some (.inl (c93,(y80+1)))))) (some (.inr (.inl inside79)))
def observe_add (l_:List T_api_Trace) (t_:T_api_Trace):Option (List T_api_Trace×Int) :=
 (iter (fun (s:Bool×Nat)=>observe_add.s2 l_ t_ s.1 s.2) fuel (false,0):Option (Bool⊕(List T_api_Trace×Int))).bind (Sum.elim (fun (inside73:Bool)=>(cond (inside73) (some true) (some (decide ((↑(List.length t_.In):Int)=0))):Option (Bool)).bind (fun (y99:Bool)=>cond (y99) (some (l_,0)) ((slices_DeleteFunc_Sapi_Trace_api_Trace_n1 l_ (fun u0=>observe_add_1 u0 t_)).bind fun c103=>cond (decide ((↑(List.length c103):Int)=10000)) (some ([],11)) ((slices_BinarySearchFunc_Sapi_Trace_api_Trace_api_Trace c103 t_ (fun u0 u1=>observe_order u0 u1)).bind fun c105=>(observe_copied t_).bind fun c106=>(lib_Insert_traces c103 c105.1 [c106]).bind fun c107=>some (c107,0))))) some)
def observe_proper_1 (o_:Int):Option (Bool) :=
 (cond (decide (o_<0)) (some true) (some (decide (1048576<o_))):Option (Bool)).bind (fun (y54:Bool)=>some y54)
def observe_proper (t_:T_api_Trace) (inputs_:Int):Option (Int) :=
 (word_Check t_.In inputs_).bind fun c51=>cond (decide (c51≠0)) (some c51) (cond (decide ((↑(List.length t_.Out):Int)≠(↑(List.length t_.In):Int))) (some 1) ((slices_ContainsFunc_Sint_int t_.Out (fun u0=>observe_proper_1 u0)).bind fun c54=>cond (c54) (some 2) (some 0)))
def observe_all.s2 (o_:T_api_Obs) (l_:List T_api_Trace) (y83:List T_api_Trace) (y84:Nat):Option ((List T_api_Trace×Nat)⊕(List T_api_Trace⊕(T_api_Obs×Int))) :=
 cond (decide ((↑y84:Int)<(↑(List.length l_):Int))) (idxn l_ y84 fun e93=>(observe_proper e93 o_.Inputs).bind fun c94=>cond (decide (c94≠0)) (some (.inr (.inr (o_,c94)))) ((observe_add y83 e93).bind fun c96=>cond (decide (c96.2≠0)) (some (.inr (.inr (o_,c96.2)))) (some (.inl (c96.1,(y84+1)))))) (some (.inr (.inl y83)))
def observe_all (o_:T_api_Obs) (l_:List T_api_Trace):Option (T_api_Obs×Int) :=
 (observe_owned o_.Traces).bind fun c51=>(iter (fun (s:List T_api_Trace×Nat)=>observe_all.s2 o_ l_ s.1 s.2) fuel (c51,0):Option (List T_api_Trace⊕(T_api_Obs×Int))).bind (Sum.elim (fun (y76:List T_api_Trace)=>some ((⟨o_.Inputs,y76⟩:T_api_Obs),0)) some)
def observe_Add (o_:T_api_Obs) (t_:T_api_Trace):Option (T_api_Obs×Int) :=
 (observe_all o_ [t_]).bind fun c51=>some (c51.1,c51.2)
def nondet_Settle.s2 (l_:List T_api_Trace) (inputs_:Int) (y74:Nat):Option (Nat⊕(Unit⊕(T_api_Obs×List T_api_Clash×Int))) :=
 cond (decide ((↑y74:Int)<(↑(List.length l_):Int))) (idxn l_ y74 fun e81=>(nondet_proper e81 inputs_).bind fun c82=>cond (decide (c82≠0)) (some (.inr (.inr ((⟨0,[]⟩:T_api_Obs),[],c82)))) (some (.inl (y74+1)))) (some (.inr (.inl ())))
def nondet_Settle.s4 (c88:List T_api_Clash) (y109:List (ByteArray×Bool)) (y110:Nat):Option (((List (ByteArray×Bool))×Nat)⊕((List (ByteArray×Bool)))) :=
 cond (decide ((↑y110:Int)<(↑(List.length c88):Int))) (idxn c88 y110 fun e116=>(nondet_key e116.Word).bind fun c117=>some (.inl ((mset c117 true y109),(y110+1)))) (some (.inr y109))
def nondet_Settle.s17 (y105:List (ByteArray×Bool)) (e744:T_api_Trace) (n816:Nat):Option (Nat⊕Nat) :=
 (cond (decide ((↑n816:Int)<(↑(List.length e744.In):Int))) (chk ((0:Int)≤((↑n816:Int)+1)∧((↑n816:Int)+1)≤(↑(List.length e744.In):Int)) ((nondet_key (List.take (n816+1) e744.In)).bind fun c842=>some (!((mget c842 y105).getD false)))) (some false):Option (Bool)).bind (fun (y839:Bool)=>cond (y839) (chk (inR ((↑n816:Int)+1)) (some (.inl (n816+1)))) (some (.inr n816)))
def nondet_Settle.s18 (l_:List T_api_Trace) (y105:List (ByteArray×Bool)) (y618:Int) (y619:List T_api_Trace) (y620:Nat):Option ((Int×List T_api_Trace×Nat)⊕((Int×List T_api_Trace)⊕(T_api_Obs×List T_api_Clash×Int))) :=
 cond (decide ((↑y620:Int)<(↑(List.length l_):Int))) (idxn l_ y620 fun e744=>(iter (fun (s:Nat)=>nondet_Settle.s17 y105 e744 s) fuel 0:Option (Nat)).bind (fun (n800:Nat)=>chk ((0:Int)≤(↑n800:Int)∧(↑n800:Int)≤(↑(List.length e744.In):Int)) (chk ((0:Int)≤(↑n800:Int)∧(↑n800:Int)≤(↑(List.length e744.Out):Int)) ((observe_Add (⟨y618,y619⟩:T_api_Obs) (⟨(List.take n800 e744.In),(List.take n800 e744.Out)⟩:T_api_Trace)).bind fun c862=>cond (decide (c862.2≠0)) (some (.inr (.inr ((⟨0,[]⟩:T_api_Obs),[],c862.2)))) (some (.inl (c862.1.Inputs,c862.1.Traces,(y620+1)))))))) (some (.inr (.inl (y618,y619))))
def nondet_Settle.k19 (c88:List T_api_Clash) (y495:Int) (y496:List T_api_Trace):Option (T_api_Obs×List T_api_Clash×Int) :=
 some ((⟨y495,y496⟩:T_api_Obs),c88,0)
def nondet_Settle (l_:List T_api_Trace) (inputs_:Int):Option (T_api_Obs×List T_api_Clash×Int) :=
 (observe_New inputs_).bind fun c51=>cond (decide (c51.2≠0)) (some ((⟨0,[]⟩:T_api_Obs),[],c51.2)) ((iter (fun (s:Nat)=>nondet_Settle.s2 l_ inputs_ s) fuel 0:Option (Unit⊕(T_api_Obs×List T_api_Clash×Int))).bind (Sum.elim (fun (_:Unit)=>(nondet_Clashes l_).bind fun c88=>(iter (fun (s:(List (ByteArray×Bool))×Nat)=>nondet_Settle.s4 c88 s.1 s.2) fuel (([]:List (ByteArray×Bool)),0):Option ((List (ByteArray×Bool)))).bind (fun (y105:(List (ByteArray×Bool)))=>(iter (fun (s:Int×List T_api_Trace×Nat)=>nondet_Settle.s18 l_ y105 s.1 s.2.1 s.2.2) fuel (c51.1.Inputs,c51.1.Traces,0):Option ((Int×List T_api_Trace)⊕(T_api_Obs×List T_api_Clash×Int))).bind (Sum.elim (fun (s:Int×List T_api_Trace)=>nondet_Settle.k19 c88 s.1 s.2) some))) some))
def R18_Same.s2 (a_:List T_api_Clash) (b_:List T_api_Clash) (i157:Nat):Option (Nat⊕(Unit⊕Bool)) :=
 cond (decide ((↑i157:Int)<(↑(List.length a_):Int))) ((idxn a_ i157 fun e197=>idxn b_ i157 fun e198=>(R01_Same e197.Word e198.Word).bind fun c199=>cond ((!c199)) (some true) (idxn a_ i157 fun e201=>idxn b_ i157 fun e202=>cond (decide (e201.First≠e202.First)) (some true) (idxn a_ i157 fun e204=>idxn b_ i157 fun e205=>some (decide (e204.Second≠e205.Second)))):Option (Bool)).bind (fun (y196:Bool)=>cond (y196) (some (.inr (.inr false))) (some (.inl (i157+1))))) (some (.inr (.inl ())))
def R18_Same (a_:List T_api_Clash) (b_:List T_api_Clash):Option (Bool) :=
 cond (decide ((↑(List.length a_):Int)≠(↑(List.length b_):Int))) (some false) ((iter (fun (s:Nat)=>R18_Same.s2 a_ b_ s) fuel 0:Option (Unit⊕Bool)).bind (Sum.elim (fun (_:Unit)=>some true) some))
def R06_Ints.s2 (a_:List Int) (b_:List Int) (i73:Nat):Option (Nat⊕(Unit⊕Bool)) :=
 cond (decide ((↑i73:Int)<(↑(List.length a_):Int))) (idxn a_ i73 fun e80=>idxn b_ i73 fun e81=>cond (decide (e80≠e81)) (some (.inr (.inr false))) (some (.inl (i73+1)))) (some (.inr (.inl ())))
def R06_Ints (a_:List Int) (b_:List Int):Option (Bool) :=
 cond (decide ((↑(List.length a_):Int)≠(↑(List.length b_):Int))) (some false) ((iter (fun (s:Nat)=>R06_Ints.s2 a_ b_ s) fuel 0:Option (Unit⊕Bool)).bind (Sum.elim (fun (_:Unit)=>some true) some))
def R06_SameTraces.s2 (a_:List T_api_Trace) (b_:List T_api_Trace) (i141:Nat):Option (Nat⊕(Unit⊕Bool)) :=
 cond (decide ((↑i141:Int)<(↑(List.length a_):Int))) ((idxn a_ i141 fun e175=>idxn b_ i141 fun e176=>(R06_Ints e175.In e176.In).bind fun c177=>cond ((!c177)) (some true) (idxn a_ i141 fun e179=>idxn b_ i141 fun e180=>(R06_Ints e179.Out e180.Out).bind fun c181=>some (!c181)):Option (Bool)).bind (fun (y174:Bool)=>cond (y174) (some (.inr (.inr false))) (some (.inl (i141+1))))) (some (.inr (.inl ())))
def R06_SameTraces (a_:List T_api_Trace) (b_:List T_api_Trace):Option (Bool) :=
 cond (decide ((↑(List.length a_):Int)≠(↑(List.length b_):Int))) (some false) ((iter (fun (s:Nat)=>R06_SameTraces.s2 a_ b_ s) fuel 0:Option (Unit⊕Bool)).bind (Sum.elim (fun (_:Unit)=>some true) some))
def R16_Same (a_:T_api_Obs) (b_:T_api_Obs):Option (Bool) :=
 (cond (decide (a_.Inputs=b_.Inputs)) ((R06_SameTraces a_.Traces b_.Traces).bind fun c57=>some c57) (some false):Option (Bool)).bind (fun (y55:Bool)=>some y55)
def L18_awake:Option (Bool) :=
 (nondet_Vote [[1,2],[1,0],[1,2],[1,0]] 2).bind fun c51=>(nondet_Vote [[1,2],[1,0],[1,2],[1,0]] 3).bind fun c52=>(nondet_Vote [[1,2],[1,0],[1,2],[1,0]] 10).bind fun c53=>(nondet_Distinct [[1,2],[1,0],[1,2],[1,0]]).bind fun c54=>(nondet_Settle [(⟨[0,1],[1,2]⟩:T_api_Trace),(⟨[0,1,1],[1,0,0]⟩:T_api_Trace),(⟨[0],[1]⟩:T_api_Trace)] 2).bind fun c55=>((R01_Same c51.1 [1,2]).bind fun c76=>cond (c76) (cond (decide (c51.2=0)) (cond (decide (c52.2=13)) (cond (decide (c53.2=2)) ((R01_SameWords c54.1 [[1,0],[1,2]]).bind fun c81=>cond (c81) ((R01_Same c54.2 [2,2]).bind fun c83=>cond (c83) ((nondet_Clashes [(⟨[0,1],[1,2]⟩:T_api_Trace),(⟨[0,1,1],[1,0,0]⟩:T_api_Trace),(⟨[0],[1]⟩:T_api_Trace)]).bind fun c85=>(R18_Same c85 [(⟨[0,1],0,2⟩:T_api_Clash)]).bind fun c86=>cond (c86) ((R18_Same c55.2.1 [(⟨[0,1],0,2⟩:T_api_Clash)]).bind fun c88=>cond (c88) (chk ((0:Int)≤2∧2≤(↑(List.length [(⟨[0,1],[1,2]⟩:T_api_Trace),(⟨[0,1,1],[1,0,0]⟩:T_api_Trace),(⟨[0],[1]⟩:T_api_Trace)]):Int)) ((R16_Same c55.1 (⟨2,(List.drop 2 [(⟨[0,1],[1,2]⟩:T_api_Trace),(⟨[0,1,1],[1,0,0]⟩:T_api_Trace),(⟨[0],[1]⟩:T_api_Trace)])⟩:T_api_Obs)).bind fun c91=>cond (c91) (some (decide (c55.2.2=0))) (some false))) (some false)) (some false)) (some false)) (some false)) (some false)) (some false)) (some false)) (some false):Option (Bool)).bind (fun (y75:Bool)=>some y75)
def L18_few.s2 (l_:List T_api_Trace) (i129:Nat):Option (Nat⊕(Unit⊕Bool)) :=
 (cond (decide ((↑i129:Int)<(↑(List.length l_):Int))) (some (decide ((↑i129:Int)<17))) (some false):Option (Bool)).bind (fun (y153:Bool)=>cond (y153) ((idxn l_ i129 fun e163=>cond (decide (16<(↑(List.length e163.In):Int))) (some true) (idxn l_ i129 fun e165=>some (decide (16<(↑(List.length e165.Out):Int)))):Option (Bool)).bind (fun (y162:Bool)=>cond (y162) (some (.inr (.inr false))) (chk (inR ((↑i129:Int)+1)) (some (.inl (i129+1)))))) (some (.inr (.inl ()))))
def L18_few (l_:List T_api_Trace):Option (Bool) :=
 (iter (fun (s:Nat)=>L18_few.s2 l_ s) fuel 0:Option (Unit⊕Bool)).bind (Sum.elim (fun (_:Unit)=>some (decide ((↑(List.length l_):Int)≤16))) some)
def R01_HasPrefix (w_:List Int) (p_:List Int):Option (Bool) :=
 (R01_Common w_ p_).bind fun c51=>some (decide (c51=(↑(List.length p_):Int)))
def R18_steps (t_:T_api_Trace):Option (Int) :=
 some (min (↑(List.length t_.In):Int) (↑(List.length t_.Out):Int))
def R18_rivals.s2 (l_:List T_api_Trace) (w_:List Int) (before_:List Int) (y168:List (List Int)) (i169:Nat):Option ((List (List Int)×Nat)⊕List (List Int)) :=
 cond (decide ((↑i169:Int)<(↑(List.length l_):Int))) ((idxn l_ i169 fun e211=>(R18_steps e211).bind fun c212=>cond (decide ((↑(List.length w_):Int)≤c212)) (idxn l_ i169 fun e214=>(R01_HasPrefix e214.In w_).bind fun c215=>cond (c215) (idxn l_ i169 fun e217=>(R01_HasPrefix e217.Out before_).bind fun c218=>some c218) (some false)) (some false):Option (Bool)).bind (fun (y210:Bool)=>cond (y210) (idxn l_ i169 fun e224=>idx e224.Out ((↑(List.length w_):Int)-1) fun e225=>chk (capOk (List.length y168+1) 24) (some (.inl ((y168++[[e225]]),(i169+1))))) (some (.inl (y168,(i169+1)))))) (some (.inr y168))
def R18_rivals.s4 (c232:List (List Int)) (y254:List Int) (i255:Nat):Option ((List Int×Nat)⊕List Int) :=
 cond (decide ((↑i255:Int)<(↑(List.length c232):Int))) (idxn c232 i255 fun e262=>idxn e262 0 fun e263=>chk (capOk (List.length y254+1) 8) (some (.inl ((y254++[e263]),(i255+1))))) (some (.inr y254))
def R18_rivals (l_:List T_api_Trace) (w_:List Int) (before_:List Int):Option (List Int) :=
 (iter (fun (s:List (List Int)×Nat)=>R18_rivals.s2 l_ w_ before_ s.1 s.2) fuel ([],0):Option (List (List Int))).bind (fun (y141:List (List Int))=>(R02_Sorted y141).bind fun c232=>(iter (fun (s:List Int×Nat)=>R18_rivals.s4 c232 s.1 s.2) fuel ([],0):Option (List Int)).bind (fun (y250:List Int)=>some y250))
def R18_clash.k7 (i420:Nat) (best555:List Int) (y556:List Int) (y557:Int) (y558:Int) (found559:Bool):Option ((List Int×List Int×Int×Int×Bool×Nat)⊕(List Int×Int×Int×Bool)) :=
 some (.inl (best555,y556,y557,y558,found559,(i420+1)))
def R18_clash.s8 (l_:List T_api_Trace) (w_:List Int) (best415:List Int) (y416:List Int) (y417:Int) (y418:Int) (found419:Bool) (i420:Nat):Option ((List Int×List Int×Int×Int×Bool×Nat)⊕(List Int×Int×Int×Bool)) :=
 cond (decide ((↑i420:Int)<(↑(List.length l_):Int))) (((idxn l_ i420 fun e568=>(R18_steps e568).bind fun c569=>cond (decide (c569<(↑(List.length w_):Int))) (some true) (idxn l_ i420 fun e571=>(R01_HasPrefix e571.In w_).bind fun c572=>some (!c572)):Option (Bool)).bind (fun (y567:Bool)=>cond (y567) (some (best415,y416,y417,y418,found419)) (idxn l_ i420 fun e578=>chk ((0:Int)≤((↑(List.length w_):Int)-1)∧((↑(List.length w_):Int)-1)≤(↑(List.length e578.Out):Int)) ((R18_rivals l_ w_ (List.take (Int.toNat ((↑(List.length w_):Int)-1)) e578.Out)).bind fun c580=>(cond (decide (1<(↑(List.length c580):Int))) (cond ((!found419)) (some true) ((R01_Lex (List.take (Int.toNat ((↑(List.length w_):Int)-1)) e578.Out) best415).bind fun c589=>some (decide (c589<0)))) (some false):Option (Bool)).bind (fun (y586:Bool)=>cond (y586) (chk (capOk (List.length ([]:List Unit)+List.length w_) 8) (idxn c580 0 fun e598=>idxn c580 1 fun e599=>some ((List.take (Int.toNat ((↑(List.length w_):Int)-1)) e578.Out),([]++w_),e598,e599,true))) (some (best415,y416,y417,y418,found419)))))):Option (List Int×List Int×Int×Int×Bool)).bind (fun (s:List Int×List Int×Int×Int×Bool)=>R18_clash.k7 i420 s.1 s.2.1 s.2.2.1 s.2.2.2.1 s.2.2.2.2)) (some (.inr (y416,y417,y418,found419)))
def R18_clash.k9 (y328:List Int) (y329:Int) (y330:Int) (found331:Bool):Option (T_api_Clash×Bool) :=
 some ((⟨y328,y329,y330⟩:T_api_Clash),found331)
def R18_clash (l_:List T_api_Trace) (w_:List Int):Option (T_api_Clash×Bool) :=
 (iter (fun (s:List Int×List Int×Int×Int×Bool×Nat)=>R18_clash.s8 l_ w_ s.1 s.2.1 s.2.2.1 s.2.2.2.1 s.2.2.2.2.1 s.2.2.2.2.2) fuel ([],[],0,0,false,0):Option (List Int×Int×Int×Bool)).bind (fun (s:List Int×Int×Int×Bool)=>R18_clash.k9 s.1 s.2.1 s.2.2.1 s.2.2.2)
def R18_Clashes.s13 (l_:List T_api_Trace) (i275:Nat) (y366:List (List Int)) (n367:Nat):Option ((List (List Int)×Nat)⊕List (List Int)) :=
 idxn l_ i275 fun e376=>(R18_steps e376).bind fun c377=>cond (decide ((↑n367:Int)≤c377)) (idxn l_ i275 fun e379=>chk ((0:Int)≤(↑n367:Int)∧(↑n367:Int)≤(↑(List.length e379.In):Int)) (chk (capOk (List.length y366+1) 24) (chk (inR ((↑n367:Int)+1)) (some (.inl ((y366++[(List.take n367 e379.In)]),(n367+1))))))) (some (.inr y366))
def R18_Clashes.s14 (l_:List T_api_Trace) (y274:List (List Int)) (i275:Nat):Option ((List (List Int)×Nat)⊕List (List Int)) :=
 cond (decide ((↑i275:Int)<(↑(List.length l_):Int))) ((iter (fun (s:List (List Int)×Nat)=>R18_Clashes.s13 l_ i275 s.1 s.2) fuel (y274,1):Option (List (List Int))).bind (fun (y359:List (List Int))=>some (.inl (y359,(i275+1))))) (some (.inr y274))
def R18_Clashes.s16 (l_:List T_api_Trace) (c391:List (List Int)) (y418:List T_api_Clash) (i419:Nat):Option ((List T_api_Clash×Nat)⊕List T_api_Clash) :=
 cond (decide ((↑i419:Int)<(↑(List.length c391):Int))) (idxn c391 i419 fun e427=>(R18_clash l_ e427).bind fun c428=>cond (c428.2) (chk (capOk (List.length y418+1) 40) (some (.inl ((y418++[c428.1]),(i419+1))))) (some (.inl (y418,(i419+1))))) (some (.inr y418))
def R18_Clashes (l_:List T_api_Trace):Option (List T_api_Clash) :=
 (iter (fun (s:List (List Int)×Nat)=>R18_Clashes.s14 l_ s.1 s.2) fuel ([],0):Option (List (List Int))).bind (fun (y220:List (List Int))=>(R02_Sorted y220).bind fun c391=>(iter (fun (s:List T_api_Clash×Nat)=>R18_Clashes.s16 l_ c391 s.1 s.2) fuel ([],0):Option (List T_api_Clash)).bind (fun (y413:List T_api_Clash)=>some y413))
def R18_touched.s2 (c_:List T_api_Clash) (w_:List Int) (i72:Nat):Option (Nat⊕(Unit⊕Bool)) :=
 cond (decide ((↑i72:Int)<(↑(List.length c_):Int))) (idxn c_ i72 fun e79=>(R01_Same e79.Word w_).bind fun c80=>cond (c80) (some (.inr (.inr true))) (some (.inl (i72+1)))) (some (.inr (.inl ())))
def R18_touched (c_:List T_api_Clash) (w_:List Int):Option (Bool) :=
 (iter (fun (s:Nat)=>R18_touched.s2 c_ w_ s) fuel 0:Option (Unit⊕Bool)).bind (Sum.elim (fun (_:Unit)=>some false) some)
def R01_Size (inputs_:Int):Option (Bool) :=
 (cond (decide (1≤inputs_)) (some (decide (inputs_≤1024))) (some false):Option (Bool)).bind (fun (y54:Bool)=>some y54)
def R01_Check.s2 (w_:List Int) (inputs_:Int) (i106:Nat):Option (Nat⊕(Unit⊕Int)) :=
 cond (decide ((↑i106:Int)<(↑(List.length w_):Int))) ((idxn w_ i106 fun e127=>cond (decide (e127<0)) (some true) (idxn w_ i106 fun e129=>some (decide (inputs_≤e129))):Option (Bool)).bind (fun (y126:Bool)=>cond (y126) (some (.inr (.inr 1))) (some (.inl (i106+1))))) (some (.inr (.inl ())))
def R01_Check (w_:List Int) (inputs_:Int):Option (Int) :=
 (R01_Size inputs_).bind fun c51=>cond ((!c51)) (some 2) (cond (decide (1024<(↑(List.length w_):Int))) (some 3) ((iter (fun (s:Nat)=>R01_Check.s2 w_ inputs_ s) fuel 0:Option (Unit⊕Int)).bind (Sum.elim (fun (_:Unit)=>some 0) some)))
def R16_Proper.s2 (t_:T_api_Trace) (i101:Nat):Option (Nat⊕(Unit⊕Int)) :=
 cond (decide ((↑i101:Int)<(↑(List.length t_.Out):Int))) ((idxn t_.Out i101 fun e121=>cond (decide (e121<0)) (some true) (idxn t_.Out i101 fun e123=>some (decide (1048576<e123))):Option (Bool)).bind (fun (y120:Bool)=>cond (y120) (some (.inr (.inr 2))) (some (.inl (i101+1))))) (some (.inr (.inl ())))
def R16_Proper (t_:T_api_Trace) (inputs_:Int):Option (Int) :=
 (R01_Check t_.In inputs_).bind fun c51=>cond (decide (c51≠0)) (some c51) (cond (decide ((↑(List.length t_.Out):Int)≠(↑(List.length t_.In):Int))) (some 1) ((iter (fun (s:Nat)=>R16_Proper.s2 t_ s) fuel 0:Option (Unit⊕Int)).bind (Sum.elim (fun (_:Unit)=>some 0) some)))
def R16_Differ.s2 (a_:T_api_Trace) (b_:T_api_Trace) (c51:Int) (i73:Nat):Option (Nat⊕(Unit⊕Int)) :=
 cond (decide ((↑i73:Int)<c51)) (idxn a_.Out i73 fun e81=>idxn b_.Out i73 fun e82=>cond (decide (e81≠e82)) (some (.inr (.inr (↑i73:Int)))) (chk (inR ((↑i73:Int)+1)) (some (.inl (i73+1))))) (some (.inr (.inl ())))
def R16_Differ (a_:T_api_Trace) (b_:T_api_Trace):Option (Int) :=
 (R01_Common a_.In b_.In).bind fun c51=>(iter (fun (s:Nat)=>R16_Differ.s2 a_ b_ c51 s) fuel 0:Option (Unit⊕Int)).bind (Sum.elim (fun (_:Unit)=>some (-1:Int)) some)
def R01_Join.s2 (parts_:List (List Int)) (y70:List Int) (i71:Nat):Option ((List Int×Nat)⊕List Int) :=
 cond (decide ((↑i71:Int)<(↑(List.length parts_):Int))) (idxn parts_ i71 fun e77=>chk (capOk (List.length y70+List.length e77) 8) (some (.inl ((y70++e77),(i71+1))))) (some (.inr y70))
def R01_Join (parts_:List (List Int)):Option (List Int) :=
 (iter (fun (s:List Int×Nat)=>R01_Join.s2 parts_ s.1 s.2) fuel ([],0):Option (List Int)).bind (fun (y66:List Int)=>some y66)
def R16_copied (t_:T_api_Trace):Option (T_api_Trace) :=
 (R01_Join [t_.In]).bind fun c51=>(R01_Join [t_.Out]).bind fun c52=>some (⟨c51,c52⟩:T_api_Trace)
def R16_add.s2 (o_:T_api_Obs) (t_:T_api_Trace) (done72:Bool) (i73:Nat):Option ((Bool×Nat)⊕Bool) :=
 cond (decide ((↑i73:Int)<(↑(List.length o_.Traces):Int))) (cond (done72) (some (.inl (true,(i73+1)))) (idxn o_.Traces i73 fun e81=>(R01_HasPrefix e81.In t_.In).bind fun c82=>some (.inl (c82,(i73+1))))) (some (.inr done72))
def R16_add.k9 (t_:T_api_Trace) (i277:Nat) (e328:T_api_Trace) (y344:List T_api_Trace) (done345:Bool):Option ((List T_api_Trace×Bool×Nat)⊕(List T_api_Trace×Bool)) :=
 ((R01_HasPrefix t_.In e328.In).bind fun c367=>cond ((!c367)) (some true) (some (decide ((↑(List.length t_.In):Int)=(↑(List.length e328.In):Int)))):Option (Bool)).bind (fun (y366:Bool)=>cond (y366) ((R16_copied e328).bind fun c373=>chk (capOk (List.length y344+1) 48) (some (.inl ((y344++[c373]),done345,(i277+1))))) (some (.inl (y344,done345,(i277+1)))))
def R16_add.s10 (o_:T_api_Obs) (t_:T_api_Trace) (y275:List T_api_Trace) (done276:Bool) (i277:Nat):Option ((List T_api_Trace×Bool×Nat)⊕(List T_api_Trace×Bool)) :=
 cond (decide ((↑i277:Int)<(↑(List.length o_.Traces):Int))) (idxn o_.Traces i277 fun e328=>((cond ((!done276)) ((R01_Compare t_.In e328.In).bind fun c352=>some (decide (c352<0))) (some false):Option (Bool)).bind (fun (y350:Bool)=>cond (y350) ((R16_copied t_).bind fun c357=>chk (capOk (List.length y275+1) 48) (some ((y275++[c357]),true))) (some (y275,done276))):Option (List T_api_Trace×Bool)).bind (fun (s:List T_api_Trace×Bool)=>R16_add.k9 t_ i277 e328 s.1 s.2)) (some (.inr (y275,done276)))
def R16_add.k11 (o_:T_api_Obs) (t_:T_api_Trace) (y229:List T_api_Trace) (done230:Bool):Option (T_api_Obs) :=
 (cond ((!done230)) ((R16_copied t_).bind fun c384=>chk (capOk (List.length y229+1) 48) (some (y229++[c384]))) (some y229):Option (List T_api_Trace)).bind (fun (y382:List T_api_Trace)=>some (⟨o_.Inputs,y382⟩:T_api_Obs))
def R16_add (o_:T_api_Obs) (t_:T_api_Trace):Option (T_api_Obs) :=
 (iter (fun (s:Bool×Nat)=>R16_add.s2 o_ t_ s.1 s.2) fuel (decide ((↑(List.length t_.In):Int)=0),0):Option (Bool)).bind (fun (done67:Bool)=>(iter (fun (s:List T_api_Trace×Bool×Nat)=>R16_add.s10 o_ t_ s.1 s.2.1 s.2.2) fuel ([],done67,0):Option (List T_api_Trace×Bool)).bind (fun (s:List T_api_Trace×Bool)=>R16_add.k11 o_ t_ s.1 s.2))
def R16_Add.s2 (o_:T_api_Obs) (t_:T_api_Trace) (i72:Nat):Option (Nat⊕(Unit⊕(T_api_Obs×Int))) :=
 cond (decide ((↑i72:Int)<(↑(List.length o_.Traces):Int))) (idxn o_.Traces i72 fun e79=>(R16_Differ e79 t_).bind fun c80=>cond (decide (0≤c80)) (some (.inr (.inr (o_,13)))) (some (.inl (i72+1)))) (some (.inr (.inl ())))
def R16_Add (o_:T_api_Obs) (t_:T_api_Trace):Option (T_api_Obs×Int) :=
 (R16_Proper t_ o_.Inputs).bind fun c51=>cond (decide (c51≠0)) (some (o_,c51)) ((iter (fun (s:Nat)=>R16_Add.s2 o_ t_ s) fuel 0:Option (Unit⊕(T_api_Obs×Int))).bind (Sum.elim (fun (_:Unit)=>(R16_add o_ t_).bind fun c82=>cond (decide (10000<(↑(List.length c82.Traces):Int))) (some (o_,11)) (some (c82,0))) some))
def R16_All.s2 (o_:T_api_Obs) (l_:List T_api_Trace) (y76:Int) (y77:List T_api_Trace) (i78:Nat):Option ((Int×List T_api_Trace×Nat)⊕((Int×List T_api_Trace)⊕(T_api_Obs×Int))) :=
 cond (decide ((↑i78:Int)<(↑(List.length l_):Int))) (idxn l_ i78 fun e85=>(R16_Add (⟨y76,y77⟩:T_api_Obs) e85).bind fun c86=>cond (decide (c86.2≠0)) (some (.inr (.inr (o_,c86.2)))) (some (.inl (c86.1.Inputs,c86.1.Traces,(i78+1))))) (some (.inr (.inl (y76,y77))))
def R16_All.k3 (y70:Int) (y71:List T_api_Trace):Option (T_api_Obs×Int) :=
 some ((⟨y70,y71⟩:T_api_Obs),0)
def R16_All (o_:T_api_Obs) (l_:List T_api_Trace):Option (T_api_Obs×Int) :=
 (iter (fun (s:Int×List T_api_Trace×Nat)=>R16_All.s2 o_ l_ s.1 s.2.1 s.2.2) fuel (o_.Inputs,o_.Traces,0):Option ((Int×List T_api_Trace)⊕(T_api_Obs×Int))).bind (Sum.elim (fun (s:Int×List T_api_Trace)=>R16_All.k3 s.1 s.2) some)
def R16_New (inputs_:Int):Option (T_api_Obs×Int) :=
 (cond (decide (inputs_<1)) (some true) (some (decide (64<inputs_))):Option (Bool)).bind (fun (y54:Bool)=>cond (y54) (some ((⟨0,[]⟩:T_api_Obs),2)) (some ((⟨inputs_,[]⟩:T_api_Obs),0)))
def R18_Settle.s2 (l_:List T_api_Trace) (inputs_:Int) (e101:Int) (i102:Nat):Option ((Int×Nat)⊕Int) :=
 (cond (decide ((↑i102:Int)<(↑(List.length l_):Int))) (some (decide (e101=0))) (some false):Option (Bool)).bind (fun (y118:Bool)=>cond (y118) (idxn l_ i102 fun e123=>(R16_Proper e123 inputs_).bind fun c124=>chk (inR ((↑i102:Int)+1)) (some (.inl (c124,(i102+1))))) (some (.inr e101)))
def R18_Settle.s15 (l_:List T_api_Trace) (c131:List T_api_Clash) (i698:Nat) (n931:Nat):Option (Nat⊕Nat) :=
 (idxn l_ i698 fun e963=>cond (decide ((↑n931:Int)<(↑(List.length e963.In):Int))) (idxn l_ i698 fun e965=>chk (inR ((↑n931:Int)+1)) (chk ((0:Int)≤((↑n931:Int)+1)∧((↑n931:Int)+1)≤(↑(List.length e965.In):Int)) ((R18_touched c131 (List.take (n931+1) e965.In)).bind fun c968=>some (!c968)))) (some false):Option (Bool)).bind (fun (y962:Bool)=>cond (y962) (chk (inR ((↑n931:Int)+1)) (some (.inl (n931+1)))) (some (.inr n931)))
def R18_Settle.s16 (l_:List T_api_Trace) (c131:List T_api_Clash) (y697:List T_api_Trace) (i698:Nat):Option ((List T_api_Trace×Nat)⊕List T_api_Trace) :=
 cond (decide ((↑i698:Int)<(↑(List.length l_):Int))) ((iter (fun (s:Nat)=>R18_Settle.s15 l_ c131 i698 s) fuel 0:Option (Nat)).bind (fun (n912:Nat)=>idxn l_ i698 fun e983=>chk ((0:Int)≤(↑n912:Int)∧(↑n912:Int)≤(↑(List.length e983.In):Int)) (idxn l_ i698 fun e985=>chk ((0:Int)≤(↑n912:Int)∧(↑n912:Int)≤(↑(List.length e985.Out):Int)) (chk (capOk (List.length y697+1) 48) (some (.inl ((y697++[(⟨(List.take n912 e983.In),(List.take n912 e985.Out)⟩:T_api_Trace)]),(i698+1)))))))) (some (.inr y697))
def R18_Settle (l_:List T_api_Trace) (inputs_:Int):Option (T_api_Obs×List T_api_Clash×Int) :=
 (R16_New inputs_).bind fun c51=>(iter (fun (s:Int×Nat)=>R18_Settle.s2 l_ inputs_ s.1 s.2) fuel (c51.2,0):Option (Int)).bind (fun (e90:Int)=>cond (decide (e90≠0)) (some ((⟨0,[]⟩:T_api_Obs),[],e90)) ((R18_Clashes l_).bind fun c131=>(iter (fun (s:List T_api_Trace×Nat)=>R18_Settle.s16 l_ c131 s.1 s.2) fuel ([],0):Option (List T_api_Trace)).bind (fun (y562:List T_api_Trace)=>(R16_All c51.1 y562).bind fun c995=>cond (decide (c995.2≠0)) (some ((⟨0,[]⟩:T_api_Obs),[],c995.2)) (some (c995.1,c131,0)))))
def L18_NondetContradictions.s2 (l_:List T_api_Trace) (y99:Int) (y100:List T_api_Trace) (fits101:Bool) (i102:Nat):Option ((Int×List T_api_Trace×Bool×Nat)⊕((Int×List T_api_Trace×Bool)⊕Bool)) :=
 cond (decide ((↑i102:Int)<(↑(List.length l_):Int))) (idxn l_ i102 fun e113=>(R16_Proper e113 2).bind fun c114=>cond (decide (c114≠0)) ((L18_awake).bind fun c116=>some (.inr (.inr c116))) (idxn l_ i102 fun e117=>(observe_Add (⟨y99,y100⟩:T_api_Obs) e117).bind fun c118=>cond (decide (c118.2=0)) (some (.inl (c118.1.Inputs,c118.1.Traces,fits101,(i102+1)))) (some (.inl (y99,y100,false,(i102+1)))))) (some (.inr (.inl (y99,y100,fits101))))
def L18_NondetContradictions.k3 (l_:List T_api_Trace) (y88:Int) (y89:List T_api_Trace) (fits90:Bool):Option (Bool) :=
 (nondet_Clashes l_).bind fun c124=>(nondet_Settle l_ 2).bind fun c125=>(cond ((!((decide ((↑(List.length c124):Int)=0))==fits90))) (some true) ((R18_Same c124 c125.2.1).bind fun c133=>cond ((!c133)) (some true) (some (decide (c125.2.2≠0)))):Option (Bool)).bind (fun (y131:Bool)=>cond (y131) (some false) ((cond ((!fits90)) ((L18_awake).bind fun c147=>some c147) ((R16_Same c125.1 (⟨y88,y89⟩:T_api_Obs)).bind fun c148=>cond (c148) ((L18_awake).bind fun c150=>some c150) (some false)):Option (Bool)).bind (fun (y145:Bool)=>some y145)))
def L18_NondetContradictions (l_:List T_api_Trace):Option (Bool) :=
 (L18_few l_).bind fun c51=>cond ((!c51)) ((L18_awake).bind fun c53=>some c53) ((observe_New 2).bind fun c54=>cond (decide (c54.2≠0)) (some false) ((iter (fun (s:Int×List T_api_Trace×Bool×Nat)=>L18_NondetContradictions.s2 l_ s.1 s.2.1 s.2.2.1 s.2.2.2) fuel (c54.1.Inputs,c54.1.Traces,true,0):Option ((Int×List T_api_Trace×Bool)⊕Bool)).bind (Sum.elim (fun (s:Int×List T_api_Trace×Bool)=>L18_NondetContradictions.k3 l_ s.1 s.2.1 s.2.2) some)))
def R17_Great.s2 (l_:List T_api_Trace) (i129:Nat):Option (Nat⊕(Unit⊕Bool)) :=
 (cond (decide ((↑i129:Int)<(↑(List.length l_):Int))) (some (decide ((↑i129:Int)<31))) (some false):Option (Bool)).bind (fun (y153:Bool)=>cond (y153) ((idxn l_ i129 fun e163=>cond (decide (40<(↑(List.length e163.In):Int))) (some true) (idxn l_ i129 fun e165=>some (decide (40<(↑(List.length e165.Out):Int)))):Option (Bool)).bind (fun (y162:Bool)=>cond (y162) (some (.inr (.inr true))) (chk (inR ((↑i129:Int)+1)) (some (.inl (i129+1)))))) (some (.inr (.inl ()))))
def R17_Great (l_:List T_api_Trace):Option (Bool) :=
 (iter (fun (s:Nat)=>R17_Great.s2 l_ s) fuel 0:Option (Unit⊕Bool)).bind (Sum.elim (fun (_:Unit)=>some (decide (30<(↑(List.length l_):Int)))) some)
def observe_Answer_1 (t_:T_api_Trace) (p1_:List Int):Option (Bool) :=
 (word_HasPrefix t_.In p1_).bind fun c51=>some c51
def observe_Answer (o_:T_api_Obs) (w_:List Int):Option (List Int×Bool) :=
 cond (decide ((↑(List.length w_):Int)=0)) (some ([],true)) ((slices_IndexFunc_Sapi_Trace_api_Trace_n1 o_.Traces (fun u0=>observe_Answer_1 u0 w_)).bind fun c52=>cond (decide (c52<0)) (some ([],false)) (idx o_.Traces c52 fun e54=>chk ((0:Int)≤(min (↑(List.length w_):Int) (↑(List.length e54.Out):Int))∧(min (↑(List.length w_):Int) (↑(List.length e54.Out):Int))≤(↑(List.length e54.Out):Int)) ((lib_Clone_int (List.take (Int.toNat (min (↑(List.length w_):Int) (↑(List.length e54.Out):Int))) e54.Out)).bind fun c56=>some (c56,true))))
def L18_NondetCertain.s2 (l_:List T_api_Trace) (i78:Nat):Option (Nat⊕(Unit⊕Bool)) :=
 cond (decide ((↑i78:Int)<(↑(List.length l_):Int))) (idxn l_ i78 fun e86=>(R16_Proper e86 2).bind fun c87=>cond (decide (c87≠0)) ((L18_awake).bind fun c89=>some (.inr (.inr c89))) (some (.inl (i78+1)))) (some (.inr (.inl ())))
def L18_NondetCertain.s15 (c92:T_api_Obs×List T_api_Clash×Int) (i390:Nat) (k514:Nat):Option (Nat⊕(Unit⊕(Nat⊕(Unit⊕Bool)))) :=
 cond (decide ((↑k514:Int)<(↑(List.length c92.1.Traces):Int))) (idxn c92.1.Traces k514 fun e522=>idxn c92.2.1 i390 fun e523=>(R01_HasPrefix e522.In e523.Word).bind fun c524=>cond (c524) (some (.inr (.inr (.inr (.inr false))))) (some (.inl (k514+1)))) (some (.inr (.inl ())))
def L18_NondetCertain.s16 (c92:T_api_Obs×List T_api_Clash×Int) (i390:Nat):Option (Nat⊕(Unit⊕Bool)) :=
 cond (decide ((↑i390:Int)<(↑(List.length c92.2.1):Int))) ((idxn c92.2.1 i390 fun e475=>cond (decide ((↑(List.length e475.Word):Int)=0)) (some true) (idxn c92.2.1 i390 fun e477=>idxn c92.2.1 i390 fun e478=>cond (decide (e478.Second≤e477.First)) (some true) (cond (decide (0<(↑i390:Int))) (idx c92.2.1 ((↑i390:Int)-1) fun e481=>idxn c92.2.1 i390 fun e482=>(R01_Compare e481.Word e482.Word).bind fun c483=>some (decide (0≤c483))) (some false))):Option (Bool)).bind (fun (y474:Bool)=>cond (y474) (some (.inr (.inr false))) ((iter (fun (s:Nat)=>L18_NondetCertain.s15 c92 i390 s) fuel 0:Option (Unit⊕(Nat⊕(Unit⊕Bool)))).bind (Sum.elim (fun (_:Unit)=>some (.inl (i390+1))) some)))) (some (.inr (.inl ())))
def L18_NondetCertain.s29 (l_:List T_api_Trace) (c92:T_api_Obs×List T_api_Clash×Int) (i860:Nat) (n979:Int) (k980:Nat):Option ((Int×Nat)⊕Int) :=
 cond (decide ((↑k980:Int)<(↑(List.length c92.2.1):Int))) (idxn l_ i860 fun e990=>idxn c92.2.1 k980 fun e991=>(R01_HasPrefix e990.In e991.Word).bind fun c992=>cond (c992) (idxn c92.2.1 k980 fun e994=>chk (inR ((↑(List.length e994.Word):Int)-1)) (some (.inl ((min n979 ((↑(List.length e994.Word):Int)-1)),(k980+1))))) (some (.inl (n979,(k980+1))))) (some (.inr n979))
def L18_NondetCertain.s30 (l_:List T_api_Trace) (c92:T_api_Obs×List T_api_Clash×Int) (i860:Nat):Option (Nat⊕(Unit⊕Bool)) :=
 cond (decide ((↑i860:Int)<(↑(List.length l_):Int))) (idxn l_ i860 fun e942=>(iter (fun (s:Int×Nat)=>L18_NondetCertain.s29 l_ c92 i860 s.1 s.2) fuel ((↑(List.length e942.In):Int),0):Option (Int)).bind (fun (n971:Int)=>idxn l_ i860 fun e1002=>chk ((0:Int)≤n971∧n971≤(↑(List.length e1002.In):Int)) ((observe_Answer c92.1 (List.take (Int.toNat n971) e1002.In)).bind fun c1004=>(cond ((!c1004.2)) (some true) (idxn l_ i860 fun e1013=>chk ((0:Int)≤n971∧n971≤(↑(List.length e1013.Out):Int)) ((R01_Same c1004.1 (List.take (Int.toNat n971) e1013.Out)).bind fun c1015=>some (!c1015))):Option (Bool)).bind (fun (y1011:Bool)=>cond (y1011) (some (.inr (.inr false))) (some (.inl (i860+1))))))) (some (.inr (.inl ())))
def L18_NondetCertain (l_:List T_api_Trace):Option (Bool) :=
 (L18_few l_).bind fun c51=>cond ((!c51)) ((L18_awake).bind fun c53=>some c53) ((iter (fun (s:Nat)=>L18_NondetCertain.s2 l_ s) fuel 0:Option (Unit⊕Bool)).bind (Sum.elim (fun (_:Unit)=>(nondet_Settle l_ 2).bind fun c92=>(cond (decide (c92.2.2≠0)) (some true) ((R17_Great c92.1.Traces).bind fun c99=>some c99):Option (Bool)).bind (fun (y97:Bool)=>cond (y97) (some false) ((iter (fun (s:Nat)=>L18_NondetCertain.s16 c92 s) fuel 0:Option (Unit⊕Bool)).bind (Sum.elim (fun (_:Unit)=>(iter (fun (s:Nat)=>L18_NondetCertain.s30 l_ c92 s) fuel 0:Option (Unit⊕Bool)).bind (Sum.elim (fun (_:Unit)=>(L18_awake).bind fun c1023=>some c1023) some)) some)))) some))
end Go.Proofs.YtmcfpohmiabmpaaGreatDoor.Sym

/-
 Laws of rounds: what a loop comes to, in plain words. No program in sight.
-/
namespace Go.Proofs.YtmcfpohmiabmpaaGreatDoor.Sym
section
variable {S R A B α β:Type}
theorem iter_post {step:S→Option (S⊕R)} (I:S→Prop) (m:S→Nat) (Q:R→Prop) (h:∀ s,I s→(∃ s',step s=some (.inl s')∧I s'∧m s'<m s)∨∃ r,step s=some (.inr r)∧Q r) :
  ∀ (n:Nat) (s:S),I s→m s<n→∃ r,iter step n s=some r∧Q r
 | 0,_,_,hm=>absurd hm (Nat.not_lt_zero _)
 | n+1,s,hi,hm=>by
  unfold iter
  rcases h s hi with ⟨s',e,hi',hm'⟩ | ⟨r,e,hq⟩
  ·rw [e]
   exact iter_post I m Q h n s' hi' (by omega)
  ·rw [e]
   exact ⟨r,rfl,hq⟩
theorem iter_eq {step:S→Option (S⊕R)} {r:R} (I:S→Prop) (m:S→Nat) (h:∀ s,I s→(∃ s',step s=some (.inl s')∧I s'∧m s'<m s)∨step s=some (.inr r)) {n:Nat} {s:S} (hi:I s) (hm:m s<n):iter step n s=some r:=by
 obtain ⟨r',e,rfl⟩:=iter_post I m (fun r'=>r'=r) (fun s hs=>(h s hs).imp id fun e=>⟨r,e,rfl⟩) n s hi hm
 exact e
def walk (g:A→Nat→α→Option (A⊕R)) (fin:A→Option R):A→Nat→List α→Option R
 | a,_,[]=>fin a
 | a,i,x::l=>(g a i x).bind (Sum.elim (fun a'=>walk g fin a' (i+1) l) some)
theorem idxn_at {l:List α} {i:Nat} {x:α} {k:α→Option β} (h:l[i]?=some x):idxn l i k=k x:=by unfold idxn;rw [h]
theorem idx_at {l:List α} {n:Int} {i:Nat} {x:α} {k:α→Option β} (hn:n=(i:Int)) (h:l[i]?=some x):idx l n k=k x:=by
 subst hn
 unfold idx
 rw [if_pos (by omega),Int.toNat_natCast,h]
theorem chk_pos {c:Prop} [Decidable c] {k:Option α} (h:c):chk c k=k:=by unfold chk;rw [if_pos h]
theorem obind {a:α} {f:α→Option β}:(some a).bind f=f a:=(Option.bind_some a f).trans (Eq.trans rfl rfl)
theorem fuel_big:100000000000000<fuel:=by unfold fuel;omega
theorem dec_lt {l:List α} {i:Nat} {x:α} (h:l[i]?=some x):decide ((↑i:Int)<(↑l.length:Int))=true:=by
 have:=(List.getElem?_eq_some_iff.1 h).1
 simpa using this
theorem dec_end (l:List α):decide ((↑l.length:Int)<(↑l.length:Int))=false:=by simp
def scan (g:Nat→α→Option R):Nat→List α→Option R
 | _,[]=>none
 | i,x::l=>match g i x with | some r=>some r | none=>scan g (i+1) l
theorem scan_none {g:Nat→α→Option R}:∀ {l:List α} {j:Nat},scan g j l=none↔∀ i x,l[i]?=some x→g (j+i) x=none
 | [],j=>by simp [scan]
 | y::l,j=>by
  constructor
  ·intro h i x hx
   unfold scan at h
   cases e:g j y with
   | some r=>rw [e] at h;cases h
   | none =>
    rw [e] at h
    match i,hx with
    | 0,hx =>
     simp at hx
     subst hx
     exact e
    | i+1,hx =>
     have:=(scan_none (g:=g) (l:=l) (j:=j+1)).1 h i x (by simpa using hx)
     rwa [show j+1+i=j+(i+1) by omega] at this
  ·intro h
   unfold scan
   have h0:=h 0 y rfl
   rw [Nat.add_zero] at h0
   rw [h0]
   exact (scan_none (g:=g) (l:=l) (j:=j+1)).2 fun i x hx=>by
    have:=h (i+1) x (by simpa using hx)
    rwa [show j+(i+1)=j+1+i by omega] at this
theorem iter_scan {step:Nat→Option (Nat⊕(Unit⊕R))} {l:List α} (g:Nat→α→Option R) (h1:∀ i x,l[i]?=some x→step i=some (match g i x with | some r=>.inr (.inr r) | none=>.inl (i+1))) (h2:step l.length=some (.inr (.inl ()))) (hl:l.length≤100000000000000) :
  iter step fuel 0=some (match scan g 0 l with | some r=>.inr r | none=>.inl ()):=by
 have key:∀ (n i:Nat),i≤l.length→l.length-i<n→iter step n i=some (match scan g i (l.drop i) with | some r=>.inr r | none=>.inl ()):=by
  intro n
  induction n with
  | zero=>intro i _ h;omega
  | succ n ih =>
   intro i hi hn
   rcases Nat.lt_or_ge i l.length with h | h
   ·rw [List.drop_eq_getElem_cons h]
    unfold iter scan
    rw [h1 i _ (List.getElem?_eq_getElem h)]
    cases g i l[i] with
    | some r=>rfl
    | none=>exact ih (i+1) h (by omega)
   ·have e:i=l.length:=by omega
    subst e
    rw [List.drop_length]
    unfold iter scan
    rw [h2]
 exact key fuel 0 (Nat.zero_le _) (by have:=fuel_big;omega)
def foldi (f:A→Nat→α→A):A→Nat→List α→A
 | a,_,[]=>a
 | a,i,x::l=>foldi f (f a i x) (i+1) l
theorem iter_fold {step:A×Nat→Option ((A×Nat)⊕R)} {l:List α} (f:A→Nat→α→A) (fin:A→R) (Inv:A→Nat→Prop) (h1:∀ a i x,Inv a i→l[i]?=some x→step (a,i)=some (.inl (f a i x,i+1))∧Inv (f a i x) (i+1))
  (h2:∀ a,Inv a l.length→step (a,l.length)=some (.inr (fin a))) (hl:l.length≤100000000000000) {a0:A} (h0:Inv a0 0):iter step fuel (a0,0)=some (fin (foldi f a0 0 l))∧Inv (foldi f a0 0 l) l.length:=by
 have key:∀ (n i:Nat) (a:A),Inv a i→i≤l.length→l.length-i<n→iter step n (a,i)=some (fin (foldi f a i (l.drop i)))∧Inv (foldi f a i (l.drop i)) l.length:=by
  intro n
  induction n with
  | zero=>intro i _ _ _ h;omega
  | succ n ih =>
   intro i a hv hi hn
   rcases Nat.lt_or_ge i l.length with h | h
   ·rw [List.drop_eq_getElem_cons h]
    unfold iter foldi
    obtain ⟨e,hv'⟩:=h1 a i _ hv (List.getElem?_eq_getElem h)
    rw [e]
    exact ih (i+1) _ hv' h (by omega)
   ·have e:i=l.length:=by omega
    subst e
    rw [List.drop_length]
    unfold iter foldi
    rw [h2 a hv]
    exact ⟨rfl,hv⟩
 exact key fuel 0 a0 h0 (Nat.zero_le _) (by have:=fuel_big;omega)
theorem foldi_eq {f:A→α→A}:∀ (l:List α) (a:A) (i:Nat),foldi (fun a _ x=>f a x) a i l=l.foldl f a
 | [],_,_=>rfl
 | x::l,a,i=>by unfold foldi;exact foldi_eq l (f a x) (i+1)
end
end Go.Proofs.YtmcfpohmiabmpaaGreatDoor.Sym

/-
 The comparisons of words are what they say; they may be handed to a sort.
-/
namespace Go.Proofs.YtmcfpohmiabmpaaGreatDoor.Sym
open Go.RowKit
set_option maxRecDepth 100000
theorem cmp_Compare_int_eq (x y:Int):cmp_Compare_int x y=some (cmpI x y):=by
 unfold cmp_Compare_int cmp_isNaN_int cmpI
 by_cases h1:x<y
 ·simp [h1]
 ·by_cases h2:y<x<;>simp [h1,h2]
theorem slices_Compare_eq (s t:List Int) (hs:s.length≤100000000000000):slices_Compare_Sint_int s t=some (lexI s t):=by
 have key:=iter_post (step:=fun k=>slices_Compare_Sint_int.s2 s t k) (fun k=>k≤s.length∧k≤t.length∧lexI s t=lexI (s.drop k) (t.drop k)) (fun k=>s.length-k)
  (fun r=>Sum.elim (fun (_:Unit)=>cond (decide ((↑(List.length s):Int)<(↑(List.length t):Int))) (some (-1:Int)) (some 0)) some r=some (lexI s t)) (fun k ⟨h1,h2,h3⟩=>by
   unfold slices_Compare_Sint_int.s2
   rcases Nat.lt_or_ge k s.length with h | h
   ·have hx:=List.getElem?_eq_getElem h
    rw [dec_lt hx,cond_true,idxn_at hx]
    by_cases h4:t.length≤k
    ·right
     refine ⟨.inr 1,by simp [h4],?_⟩
     rw [h3,lexI_long h h4]
     rfl
    ·have hy:=List.getElem?_eq_getElem (show k<t.length by omega)
     have hst:=lexI_step hx hy
     have d4:decide ((↑(List.length t):Int)≤(↑k:Int))=false:=by simp;omega
     rw [d4,cond_false,idxn_at hy,cmp_Compare_int_eq]
     by_cases h5:cmpI s[k] t[k]=0
     ·left
      rw [if_pos h5] at hst
      exact ⟨k+1,by simp [h5],⟨by omega,by omega,by rw [h3,hst]⟩,by omega⟩
     ·right
      rw [if_neg h5] at hst
      exact ⟨.inr (cmpI s[k] t[k]),by simp [h5],by rw [h3,hst];rfl⟩
   ·right
    have e:k=s.length:=by omega
    subst e
    rw [dec_end,cond_false]
    refine ⟨.inl (),rfl,?_⟩
    rw [h3,lexI_end (Nat.le_refl _)]
    by_cases h4:s.length<t.length<;>simp [h4]) fuel 0 ⟨Nat.zero_le _,Nat.zero_le _,rfl⟩ (by have:=fuel_big;simp only [Nat.sub_zero];omega)
 obtain ⟨r,e,hq⟩:=key
 unfold slices_Compare_Sint_int
 rw [e]
 exact hq
theorem cmp_Or_two (x y:Int):cmp_Or_int [x,y]=some (if x≠0 then x else y):=by
 unfold cmp_Or_int
 have e:fuel=(fuel-3)+1+1+1:=by unfold fuel;omega
 rw [e]
 by_cases h1:x=0
 ·by_cases h2:y=0
  ·simp [iter,cmp_Or_int.s2,idxn,h1,h2]
  ·simp [iter,cmp_Or_int.s2,idxn,h1,h2]
 ·simp [iter,cmp_Or_int.s2,idxn,h1]
theorem word_Lex_eq (s t:List Int) (hs:s.length≤100000000000000):word_Lex s t=some (lexI s t):=by
 unfold word_Lex
 rw [slices_Compare_eq s t hs]
 rfl
theorem word_Compare_eq (s t:List Int) (hs:s.length≤100000000000000):word_Compare s t=some (cmpW s t):=by
 unfold word_Compare
 rw [slices_Compare_eq s t hs,cmp_Compare_int_eq]
 show (cmp_Or_int [cmpI s.length t.length,lexI s t]).bind some=_
 rw [cmp_Or_two]
 show some _=some _
 congr 1
 unfold cmpI cmpW
 by_cases h1:s.length<t.length
 ·simp [h1]
 ·by_cases h2:t.length<s.length
  ·simp [h1,h2]
  ·simp [h1,h2]
theorem cmpE_word_Compare:CmpE Tryz.prog 36 (fun x=>nL cI x) (fun x y=>word_Compare x y) :=
 ⟨fun args w=>run_enter rfl rfl rfl args w,cmpG_compare fun x y r hx h=>by rw [word_Compare_eq x y (by omega)] at h;injection h with h;exact h.symm⟩
end Go.Proofs.YtmcfpohmiabmpaaGreatDoor.Sym

/-
 What the basic functions on words come to: plain laws.
-/
namespace Go.Proofs.YtmcfpohmiabmpaaGreatDoor.Sym
set_option maxRecDepth 100000
section
variable {α β R:Type}
theorem get_at {l:List α} {i:Nat} (h:i<l.length):l[i]?=some l[i]:=List.getElem?_eq_getElem h
theorem iter_all2 [DecidableEq α] {a b:List α} {step:Nat→Option (Nat⊕(Unit⊕Bool))} (hlen:a.length=b.length) (h1:∀ i x y,a[i]?=some x→b[i]?=some y→step i=some (if x=y then .inl (i+1) else .inr (.inr false)))
  (h2:step a.length=some (.inr (.inl ()))) (hl:a.length≤100000000000000):(iter step fuel 0).bind (Sum.elim (fun _=>some true) some)=some (decide (a=b)):=by
 rw [iter_scan (l:=a) (fun i x=>if b[i]?=some x then none else some false) (fun i x hx=>?_) h2 hl]
 ·cases e:scan (fun i x=>if b[i]?=some x then none else some false) 0 a with
  | none =>
   have:=scan_none.1 e
   have hab:a=b:=by
    apply List.ext_getElem?
    intro i
    rcases Nat.lt_or_ge i a.length with h | h
    ·have h3:=this i _ (get_at h)
     rw [Nat.zero_add] at h3
     split at h3
     ·rename_i h4
      rw [get_at h,h4]
     ·cases h3
    ·rw [List.getElem?_eq_none h,List.getElem?_eq_none (by omega)]
   simp [hab]
  | some r =>
   have hne:a≠b:=fun hab=>by
    subst hab
    have:scan (fun i x=>if a[i]?=some x then none else some false) 0 a=none:=scan_none.2 fun i x hx=>by rw [Nat.zero_add,if_pos hx]
    rw [this] at e
    cases e
   have hr:r=false:=by
    have key:∀ (l:List α) (j:Nat),scan (fun i x=>if b[i]?=some x then none else some false) j l=some r→r=false:=by
     intro l
     induction l with
     | nil=>intro j h;cases h
     | cons x l ih =>
      intro j h
      unfold scan at h
      split at h
      ·rename_i r' h3
       injection h with h
       subst h
       split at h3
       ·cases h3
       ·injection h3 with h3
        exact h3.symm
      ·exact ih _ h
    exact key a 0 e
   subst hr
   simp [hne]
 ·have hi:=(List.getElem?_eq_some_iff.1 hx).1
  have hy:=get_at (l:=b) (i:=i) (by omega)
  rw [h1 i x _ hx hy]
  by_cases h:x=b[i]'(by omega)
  ·rw [if_pos h,hy,if_pos (by rw [h])]
  ·rw [if_neg h,hy,if_neg (fun h3=>h (by injection h3 with h3;exact h3.symm))]
end
def SmW (x:List Int):Prop:=x.length≤2000000
def SmL (l:List (List Int)):Prop:=l.length≤2000000∧∀ x∈l,SmW x
theorem R01_Size_eq (n:Int):R01_Size n=some (decide (1≤n∧n≤1024)):=by
 unfold R01_Size
 by_cases h1:1≤n<;>by_cases h2:n≤1024<;>simp [h1,h2]
theorem word_permitted_eq (n:Int):word_permitted n=some (decide (1≤n∧n≤1024)):=by
 unfold word_permitted
 by_cases h1:1≤n<;>by_cases h2:n≤1024<;>simp [h1,h2]
theorem scan_all {α R:Type} {p:α→Bool} {r:R}:∀ (l:List α) (j:Nat),scan (fun _ x=>if p x=true then none else some r) j l=if l.all p=true then none else some r
 | [],_=>rfl
 | x::l,j=>by
  unfold scan
  by_cases h:p x=true
  ·simp only [h,if_true,List.all_cons,Bool.true_and]
   exact scan_all l (j+1)
  ·simp [h]
theorem R01_Check_eq (w:List Int) (n:Int) (hl:SmW w):R01_Check w n=some (checkI w n):=by
 unfold R01_Check checkI
 rw [R01_Size_eq]
 by_cases h1:1≤n∧n≤1024
 ·rw [if_pos h1]
  simp only [Option.bind_some,h1,and_self,decide_true,Bool.not_true,cond_false]
  by_cases h2:1024<w.length
  ·rw [if_pos h2,show decide ((1024:Int)<(↑(List.length w):Int))=true from decide_eq_true (by omega),cond_true]
  ·rw [if_neg h2,show decide ((1024:Int)<(↑(List.length w):Int))=false from decide_eq_false (by omega),cond_false]
   have key:=iter_scan (step:=fun s=>R01_Check.s2 w n s) (l:=w) (fun _ x=>if decide (0≤x∧x<n)=true then none else some (1:Int)) (fun i x hx=>by
    simp only [R01_Check.s2]
    rw [dec_lt hx,cond_true,idxn_at hx,idxn_at hx]
    by_cases a1:x<0
    ·simp [a1,show ¬ (0≤x) by omega]
    ·by_cases a2:n≤x
     ·simp [a1,a2,show ¬ (x<n) by omega]
     ·simp [a1,a2,show 0≤x by omega,show x<n by omega]) (by
    simp only [R01_Check.s2]
    rw [dec_end]
    rfl) (by unfold SmW at hl;omega)
   rw [key,scan_all (p:=fun x=>decide (0≤x∧x<n))]
   by_cases h:(w.all fun x=>decide (0≤x∧x<n))=true
   ·rw [if_pos h,if_pos h];rfl
   ·rw [if_neg h,if_neg h];rfl
 ·rw [if_neg h1]
  simp [h1]
theorem word_Check_eq (w:List Int) (n:Int) (hl:SmW w):word_Check w n=some (checkI w n):=by
 unfold word_Check checkI slices_ContainsFunc_Sint_int_n1 slices_IndexFunc_Sint_int_n1
 rw [word_permitted_eq]
 by_cases h1:1≤n∧n≤1024
 ·rw [if_pos h1]
  simp only [Option.bind_some,h1,and_self,decide_true,Bool.not_true,cond_false]
  by_cases h2:1024<w.length
  ·rw [if_pos h2,show decide ((1024:Int)<(↑(List.length w):Int))=true from decide_eq_true (by omega),cond_true]
  ·rw [if_neg h2,show decide ((1024:Int)<(↑(List.length w):Int))=false from decide_eq_false (by omega),cond_false]
   have key:=iter_scan (step:=fun s=>slices_IndexFunc_Sint_int_n1.s2 w (fun u0=>word_Check_1 u0 n) s) (l:=w) (fun i x=>if decide (0≤x∧x<n)=true then none else some (i:Int)) (fun i x hx=>by
    simp only [slices_IndexFunc_Sint_int_n1.s2,word_Check_1]
    rw [dec_lt hx,cond_true,idxn_at hx]
    by_cases a1:x<0
    ·simp [a1,show ¬ (0≤x) by omega]
    ·by_cases a2:n≤x
     ·simp [a1,a2,show ¬ (x<n) by omega]
     ·simp [a1,a2,show 0≤x by omega,show x<n by omega]) (by
    simp only [slices_IndexFunc_Sint_int_n1.s2]
    rw [dec_end]
    rfl) (by unfold SmW at hl;omega)
   rw [key]
   cases e:scan (fun i x=>if decide (0≤x∧x<n)=true then none else some (i:Int)) 0 w with
   | none =>
    have h3:=scan_none.1 e
    have h:(w.all fun x=>decide (0≤x∧x<n))=true:=List.all_eq_true.2 fun x hx=>by
     obtain ⟨i,hi,rfl⟩:=List.mem_iff_getElem.1 hx
     have:=h3 i _ (get_at hi)
     split at this
     ·assumption
     ·cases this
    rw [if_pos h]
    simp
   | some r =>
    have h:¬ (w.all fun x=>decide (0≤x∧x<n))=true:=fun h=>by
     have:scan (fun i x=>if decide (0≤x∧x<n)=true then none else some (i:Int)) 0 w=none:=scan_none.2 fun i x hx=>if_pos (List.all_eq_true.1 h x (List.mem_of_getElem? hx))
     rw [this] at e
     cases e
    have hr:0≤r:=by
     have key:∀ (l:List Int) (j:Nat),scan (fun i x=>if decide (0≤x∧x<n)=true then none else some (i:Int)) j l=some r→0≤r:=by
      intro l
      induction l with
      | nil=>intro j h;cases h
      | cons x l ih =>
       intro j h
       unfold scan at h
       split at h
       ·rename_i r' h3
        injection h with h
        subst h
        split at h3
        ·cases h3
        ·injection h3 with h3
         omega
       ·exact ih _ h
     exact key w 0 e
    rw [if_neg h]
    simp [hr]
 ·rw [if_neg h1]
  simp [h1]
theorem R01_Common_eq (a b:List Int) (ha:SmW a):R01_Common a b=some (common a b:Int):=by
 unfold R01_Common
 rw [iter_eq (r:=common a b) (fun k=>k≤a.length∧common a b=common (a.drop k) (b.drop k)+k) (fun k=>a.length-k) (fun k ⟨h1,h2⟩=>?_) ⟨Nat.zero_le _,by simp⟩ (by have:=fuel_big;unfold SmW at ha;omega)]
 ·rfl
 ·simp only [R01_Common.s2]
  rcases Nat.lt_or_ge k a.length with h | h
  ·have hx:=get_at h
   rcases Nat.lt_or_ge k b.length with h' | h'
   ·have hy:=get_at h'
    rw [dec_lt hx,dec_lt hy,cond_true,cond_true,idxn_at hx,idxn_at hy]
    rw [List.drop_eq_getElem_cons h,List.drop_eq_getElem_cons h'] at h2
    by_cases e:a[k]=b[k]
    ·left
     unfold SmW at ha
     refine ⟨k+1,?_,⟨h,?_⟩,by omega⟩
     ·rw [chk_pos (by unfold inR;omega)]
      simp [e]
     ·rw [h2,e]
      simp [common]
      omega
    ·right
     simp only [common,e,if_false,Nat.zero_add] at h2
     simp [e,h2]
   ·right
    rw [dec_lt hx,cond_true,show decide ((↑k:Int)<(↑(List.length b):Int))=false by simp;omega]
    rw [common_end (Or.inr h'),Nat.zero_add] at h2
    simp [h2]
  ·right
   rw [show decide ((↑k:Int)<(↑(List.length a):Int))=false by simp;omega]
   rw [common_end (Or.inl h),Nat.zero_add] at h2
   simp [h2]
theorem R01_Same_eq (a b:List Int) (ha:SmW a):R01_Same a b=some (decide (a=b)):=by
 unfold R01_Same
 rw [R01_Common_eq a b ha]
 have h:=same_iff a b
 by_cases h1:a.length=b.length
 ·rw [show decide ((↑(List.length a):Int)=(↑(List.length b):Int))=true from decide_eq_true (by omega),cond_true]
  by_cases h2:common a b=a.length
  ·have:a=b:=h.1 ⟨h1,h2⟩
   subst this
   simp [common_self]
  ·have:a≠b:=fun e=>h2 (h.2 e).2
   simp only [Option.bind_some,this,decide_false]
   rw [decide_eq_false (by omega)]
 ·have:a≠b:=fun e=>h1 (by rw [e])
  rw [show decide ((↑(List.length a):Int)=(↑(List.length b):Int))=false from decide_eq_false (by omega),cond_false]
  simp [this]
theorem R01_Lex_eq (a b:List Int) (ha:SmW a):R01_Lex a b=some (lexI a b):=by
 unfold R01_Lex
 rw [R01_Common_eq a b ha]
 have hle:=common_le a b
 have hlc:=lexI_common a b
 rw [hlc]
 simp only [Option.bind_some]
 by_cases h1:common a b=a.length
 ·rw [show decide ((↑(common a b):Int)=↑a.length)=true from decide_eq_true (by omega),cond_true,cond_true]
  by_cases h2:common a b=b.length
  ·rw [show decide ((↑(common a b):Int)=↑b.length)=true from decide_eq_true (by omega),if_pos ⟨h1,h2⟩]
   rfl
  ·rw [show decide ((↑(common a b):Int)=↑b.length)=false from decide_eq_false (by omega),if_neg (fun h=>h2 h.2),if_pos (Or.inl h1)]
   rfl
 ·rw [show decide ((↑(common a b):Int)=↑a.length)=false from decide_eq_false (by omega),cond_false,cond_false,if_neg (fun h=>h1 h.1)]
  by_cases h2:common a b=b.length
  ·rw [show decide ((↑(common a b):Int)<(↑(List.length b):Int))=false from decide_eq_false (by omega),if_neg (fun h=>by omega)]
   rfl
  ·have hx:=get_at (l:=a) (i:=common a b) (by omega)
   have hy:=get_at (l:=b) (i:=common a b) (by omega)
   rw [show decide ((↑(common a b):Int)<(↑(List.length b):Int))=true from decide_eq_true (by omega),cond_true,idx_at rfl hx,idx_at rfl hy]
   rw [List.getD_eq_getElem?_getD,List.getD_eq_getElem?_getD,hx,hy]
   by_cases h3:a[common a b]'(by omega)<b[common a b]'(by omega)
   ·rw [if_pos (Or.inr ⟨by omega,h3⟩)]
    simp [h3]
   ·rw [if_neg (fun h=>by
     rcases h with h | ⟨_,h⟩
     ·omega
     ·exact h3 h)]
    simp [h3]
theorem R01_Compare_eq (a b:List Int) (ha:SmW a):R01_Compare a b=some (cmpW a b):=by
 unfold R01_Compare cmpW
 rw [R01_Lex_eq a b ha]
 by_cases h1:a.length<b.length
 ·rw [show decide ((↑(List.length a):Int)<(↑(List.length b):Int))=true from decide_eq_true (by omega),if_pos h1]
  rfl
 ·rw [show decide ((↑(List.length a):Int)<(↑(List.length b):Int))=false from decide_eq_false (by omega),if_neg h1,cond_false]
  by_cases h2:b.length<a.length
  ·rw [show decide ((↑(List.length b):Int)<(↑(List.length a):Int))=true from decide_eq_true (by omega),if_pos h2]
   rfl
  ·rw [show decide ((↑(List.length b):Int)<(↑(List.length a):Int))=false from decide_eq_false (by omega),if_neg h2]
   rfl
end Go.Proofs.YtmcfpohmiabmpaaGreatDoor.Sym

/-
 Tables: the first one, and what makes a table valid: the program's answer and the document's are one plain number.
-/
namespace Go.Proofs.YtmcfpohmiabmpaaGreatDoor.Sym
set_option maxRecDepth 100000
section
variable {κ ν:Type} [BEq κ]
theorem mget_mset_same {k:κ} {v:ν} (hb:∀ a b:κ,(a==b)=true↔a=b):∀ m:List (κ×ν),mget k (mset k v m)=some v
 | []=>by
  unfold mset mget
  rw [(hb k k).2 rfl]
 | p::m=>by
  unfold mset
  cases h:k==p.1 with
  | true =>
   show mget k ((k,v)::m)=_
   unfold mget
   rw [(hb k k).2 rfl]
  | false =>
   show mget k (p::mset k v m)=_
   unfold mget
   rw [h]
   exact mget_mset_same hb m
theorem mget_mset_ne {k k':κ} {v:ν} (hb:∀ a b:κ,(a==b)=true↔a=b) (hne:¬ k'=k):∀ m:List (κ×ν),mget k' (mset k v m)=mget k' m
 | []=>by
  have e:(k'==k)=false:=by
   cases e:k'==k with
   | true=>exact absurd ((hb _ _).1 e) hne
   | false=>rfl
  unfold mset mget
  simp only [e]
  rfl
 | p::m=>by
  unfold mset
  cases h:k==p.1 with
  | true =>
   have e1:k=p.1:=(hb _ _).1 h
   show mget k' ((k,v)::m)=mget k' (p::m)
   have e:(k'==k)=false:=by
    cases e:k'==k with
    | true=>exact absurd ((hb _ _).1 e) hne
    | false=>rfl
   unfold mget
   rw [← e1]
   simp only [e]
  | false =>
   show mget k' (p::mset k v m)=mget k' (p::m)
   unfold mget
   rw [mget_mset_ne hb hne m]
end
theorem ba_beq (a b:ByteArray):(a==b)=true↔a=b:=by
 cases a
 cases b
 show ByteArray.beq _ _=true↔_
 unfold ByteArray.beq
 simp
theorem keys_mget (l:List (List Int)) (w:List Int):∀ (m:List (ByteArray×Bool)),((mget (⟨(keyL w).toArray⟩:ByteArray) (l.foldl (fun m x=>mset ⟨(keyL x).toArray⟩ true m) m)).getD false)=(decide (w∈l)||(mget (⟨(keyL w).toArray⟩:ByteArray) m).getD false):=by
 induction l with
 | nil=>intro m;simp
 | cons x l ih =>
  intro m
  rw [List.foldl_cons,ih]
  by_cases h:w=x
  ·subst h
   rw [mget_mset_same ba_beq]
   simp
  ·have:¬ ((⟨(keyL w).toArray⟩:ByteArray)=⟨(keyL x).toArray⟩):=fun e=>h (keyL_inj (by
    injection e with e
    injection e))
   rw [mget_mset_ne ba_beq this]
   simp [h]
def SmT (t:T_api_Table):Prop:=inR t.Inputs∧SmL t.Prefixes∧SmL t.Suffixes∧∀ x∈t.Prefixes,∀ a∈x,inR a
end Go.Proofs.YtmcfpohmiabmpaaGreatDoor.Sym

/-
 Votes: the answer that occurs often enough first.
-/
namespace Go.Proofs.YtmcfpohmiabmpaaGreatDoor.Sym
set_option maxRecDepth 100000
abbrev bk (w:List Int):ByteArray:=⟨(keyL w).toArray⟩
def WrdOk (w:List Int):Prop:=w.length≤100000∧∀ x∈w,inR x
theorem nondet_key_eq {w:List Int} (h:WrdOk w):nondet_key w=some (bk w):=by
 have:=h.1
 unfold nondet_key
 rw [chk_pos h.2,chk_pos (by omega)]
end Go.Proofs.YtmcfpohmiabmpaaGreatDoor.Sym

/-
 The examples of the chapter, reckoned.
-/
namespace Go.Proofs.YtmcfpohmiabmpaaGreatDoor.Sym
set_option maxRecDepth 100000
end Go.Proofs.YtmcfpohmiabmpaaGreatDoor.Sym

/-
 Tables: the program's own checks, the first table, and the law of both.
-/
namespace Go.Proofs.YtmcfpohmiabmpaaGreatDoor.Sym
set_option maxRecDepth 100000
end Go.Proofs.YtmcfpohmiabmpaaGreatDoor.Sym

/-
 Sorted lists of words, duplicates struck: plain laws.
-/
namespace Go.Proofs.YtmcfpohmiabmpaaGreatDoor
structure TotalCmp (cf:List Int→List Int→Int):Prop where
 range:∀ a b,cf a b=-1∨cf a b=0∨cf a b=1
 zero:∀ a b,cf a b=0↔a=b
 swap:∀ a b,cf b a=- cf a b
 trans:∀ a b c,cf a b=-1→cf b c=-1→cf a c=-1
end Go.Proofs.YtmcfpohmiabmpaaGreatDoor

/-
 Prefixes, suffixes and maximal words: plain laws.
-/
namespace Go.Proofs.YtmcfpohmiabmpaaGreatDoor
def prefixes (x:List Int):List (List Int):=(List.range (x.length+1)).map x.take
def suffixes (x:List Int):List (List Int):=(List.range (x.length+1)).map x.drop
end Go.Proofs.YtmcfpohmiabmpaaGreatDoor

/-
 What the functions on lists of words come to: plain laws.
-/
namespace Go.Proofs.YtmcfpohmiabmpaaGreatDoor.Sym
set_option maxRecDepth 100000
theorem libclone_word {w:List Int} (h:SmW w):lib_Clone_int w=some w:=by
 unfold lib_Clone_int libClone
 exact chk_pos (by unfold SmW at h;unfold capOk;omega)
theorem sml_sort {l:List (List Int)} (h:SmL l):SmL (sortW l):=⟨Nat.le_trans (sortW_length l) h.1,fun x hx=>h.2 x ((mem_sortW l x).1 hx)⟩
theorem R02_place_eq {l:List (List Int)} {w:List Int} (hA:Asc l) (hl:SmL l):R02_place l w=some (↑(placeL l w):Int):=by
 have hl1:l.length≤2000000:=hl.1
 have hsp:=placeL_spec l w
 have hle:=placeL_le l w
 unfold R02_place
 rw [iter_eq (r:=placeL l w) (fun s=>s.1≤placeL l w∧placeL l w≤s.2∧s.2≤l.length) (fun s=>s.2-s.1) (fun s ⟨h1,h2,h3⟩=>by
  obtain ⟨lo,hi⟩:=s
  simp only at h1 h2 h3
  simp only [R02_place.s2]
  by_cases h4:lo<hi
  ·left
   have hx:=get_at (l:=l) (i:=(lo+hi) / 2) (by omega)
   rw [decide_eq_true (by omega),cond_true,chk_pos (by unfold inR;omega),chk_pos (by unfold inR;omega),idxn_at hx,R01_Compare_eq _ _ (hl.2 _ (List.getElem_mem _))]
   simp only [Option.bind_some]
   by_cases h5:cmpW (l[(lo+hi) / 2]'(by omega)) w<0
   ·refine ⟨((lo+hi) / 2+1,hi),by rw [decide_eq_true h5,cond_true,chk_pos (by unfold inR;omega)],⟨?_,h2,h3⟩,by simp only;omega⟩
    simp only
    rcases Nat.lt_or_ge ((lo+hi) / 2) (placeL l w) with h | h
    ·exact h
    ·exfalso
     have hp:=get_at (l:=l) (i:=placeL l w) (by omega)
     have hne:=hsp.2 _ hp
     have r1:=cmpW_range (l[(lo+hi) / 2]'(by omega)) w
     rcases Nat.lt_or_ge (placeL l w) ((lo+hi) / 2) with h' | h'
     ·have:=hA.get h' hp hx
      exact hne (cmpW_trans _ _ _ this (by omega))
     ·have e:placeL l w=(lo+hi) / 2:=by omega
      simp only [e] at hne
      omega
   ·refine ⟨(lo,(lo+hi) / 2),by rw [decide_eq_false h5,cond_false],⟨h1,?_,by simp only;omega⟩,by simp only;omega⟩
    simp only
    rcases Nat.lt_or_ge ((lo+hi) / 2) (placeL l w) with h | h
    ·exfalso
     have:=hsp.1 _ _ h hx
     omega
    ·exact h
  ·right
   rw [decide_eq_false (by omega),cond_false,show lo=placeL l w by omega]) (s:=(0,l.length)) ⟨Nat.zero_le _,hle,Nat.le_refl _⟩ (by have:=fuel_big;simp only;omega)]
 rfl
theorem R02_with_eq {l:List (List Int)} {w:List Int} (hA:Asc l) (hl:SmL l) (hw:SmW w):R02_with l w=some (insW l w):=by
 have hl1:l.length≤2000000:=hl.1
 have hw1:w.length≤2000000:=hw
 have hle:=placeL_le l w
 have hmp:=hA.mem_place w
 unfold R02_with
 rw [R02_place_eq hA hl]
 simp only [Option.bind_some]
 by_cases hm:w∈l
 ·have hx:=hmp.1 hm
  have hlt:=(List.getElem?_eq_some_iff.1 hx).1
  rw [decide_eq_true (show (↑(placeL l w):Int)<(↑(List.length l):Int) by omega),cond_true,idx_at rfl hx,R01_Same_eq _ _ hw]
  unfold insW
  rw [if_pos hm]
  simp
 ·have hc:(cond (decide ((↑(placeL l w):Int)<(↑(List.length l):Int))) (idx l (↑(placeL l w):Int) fun e59=>(R01_Same e59 w).bind fun c60=>some c60) (some false):Option Bool)=some false:=by
   by_cases hlt:placeL l w<l.length
   ·have hx:=get_at hlt
    rw [decide_eq_true (by omega),cond_true,idx_at rfl hx,R01_Same_eq _ _ (hl.2 _ (List.getElem_mem _))]
    have:¬ l[placeL l w]=w:=fun e=>hm (hmp.2 (by rw [hx,e]))
    simp [this]
   ·rw [decide_eq_false (by omega),cond_false]
  rw [hc]
  simp only [Option.bind_some,cond_false]
  have hlen:(l++[([]:List Int)]).length=l.length+1:=by simp
  rw [chk_pos (by unfold capOk;omega),chk_pos (by rw [hlen];unfold inR;omega)]
  have key:=iter_post (step:=fun (s:List (List Int)×Int)=>R02_with.s2 (↑(placeL l w):Int) s.1 s.2) (fun s=>∃ i:Nat,s.2=(i:Int)∧placeL l w≤i∧i≤l.length∧∃ z,s.1=stage l z i) (fun s=>s.2.toNat-placeL l w) (fun r=>∃ z,r=stage l z (placeL l w)) (fun s ⟨i,h1,h2,h3,z,h4⟩=>by
   obtain ⟨y,i'⟩:=s
   simp only at h1 h4
   subst h1 h4
   simp only [R02_with.s2]
   by_cases h5:placeL l w<i
   ·left
    have hx:=get_at (l:=l) (i:=i-1) (by omega)
    have e1:(stage l z i)[i-1]?=some (l[i-1]'(by omega)):=by rw [stage_before (by omega) h3];exact hx
    have e2:(stage l z i)[i]?=some z:=stage_at h3
    refine ⟨(stage l (l[i-1]'(by omega)) (i-1),↑(i-1:Nat)),?_,⟨i-1,rfl,by omega,by omega,_,rfl⟩,by simp only;omega⟩
    rw [decide_eq_true (by omega),cond_true,chk_pos (by unfold inR;omega),idx_at (i:=i-1) (by omega) e1,idx_at rfl e2,chk_pos (by unfold inR;omega),Int.toNat_natCast,stage_set h3]
    have h6:=stage_down (us:=l) (j:=i-1) hx
    rw [show i-1+1=i by omega] at h6
    rw [h6,show (↑i:Int)-1=((i-1:Nat):Int) by omega]
   ·right
    have e:i=placeL l w:=by omega
    subst e
    refine ⟨_,by rw [decide_eq_false (by omega),cond_false],z,rfl⟩) fuel (l++[[]],(↑(l++[([]:List Int)]).length:Int)-1) ⟨l.length,by simp only [hlen];omega,hle,Nat.le_refl _,[],(stage_end l []).symm⟩ (by have:=fuel_big;simp only [hlen];omega)
  obtain ⟨r,e,z,hz⟩:=key
  subst hz
  rw [e]
  simp only [Option.bind_some]
  have e2:(stage l z (placeL l w))[placeL l w]?=some z:=stage_at hle
  rw [chk_pos (by unfold capOk;simp;omega),idx_at rfl e2,Int.toNat_natCast,stage_set hle,List.nil_append]
  unfold insW
  rw [if_neg hm]
  rfl
theorem R02_Sorted_eq {l:List (List Int)} (hl:SmL l):R02_Sorted l=some (sortW l):=by
 have hl1:l.length≤2000000:=hl.1
 unfold R02_Sorted
 rw [iter_eq (r:=sortW l) (fun s=>s.2≤l.length∧s.1=sortW (l.take s.2)) (fun s=>l.length-s.2) (fun s ⟨h1,h2⟩=>by
  obtain ⟨y,i⟩:=s
  simp only at h1 h2
  subst h2
  simp only [R02_Sorted.s2]
  by_cases h3:i<l.length
  ·left
   have hx:=get_at h3
   have hsm:SmL (sortW (l.take i)):=sml_sort ⟨by rw [List.length_take];omega,fun x hx=>hl.2 x (List.mem_of_mem_take hx)⟩
   refine ⟨(sortW (l.take (i+1)),i+1),?_,⟨h3,rfl⟩,by simp only;omega⟩
   rw [dec_lt hx,cond_true,idxn_at hx,R02_with_eq (sortW_asc _) hsm (hl.2 _ (List.getElem_mem _)),take_step hx,sortW_snoc]
   rfl
  ·right
   have e:i=l.length:=by omega
   subst e
   rw [decide_eq_false (by omega),cond_false,List.take_length]) (s:=([],0)) ⟨Nat.zero_le _,by simp [sortW]⟩ (by have:=fuel_big;simp only;omega)]
 rfl
end Go.Proofs.YtmcfpohmiabmpaaGreatDoor.Sym

/-
 Tables that grow: the program's Prefix and Suffix are the document's. Plain laws.
-/
namespace Go.Proofs.YtmcfpohmiabmpaaGreatDoor.Sym
set_option maxRecDepth 100000
end Go.Proofs.YtmcfpohmiabmpaaGreatDoor.Sym

/-
 Observations: what makes them valid, and their answers. Plain laws.
-/
namespace Go.Proofs.YtmcfpohmiabmpaaGreatDoor.Sym
set_option maxRecDepth 100000
theorem R01_HasPrefix_eq (w p:List Int) (hw:SmW w):R01_HasPrefix w p=some (decide (p <+: w)):=by
 unfold R01_HasPrefix
 rw [R01_Common_eq w p hw,obind]
 congr 1
 exact decide_eq_decide.2 (by rw [← prefix_iff w p];omega)
theorem word_Common_eq (a b:List Int) (ha:SmW a):word_Common a b=some (common a b:Int):=by
 have ha':a.length≤2000000:=ha
 have hle:=common_le a b
 unfold word_Common
 have key:=iter_post (step:=fun k=>word_Common.s2 a b k) (fun k=>k≤a.length∧k≤b.length∧common a b=common (a.drop k) (b.drop k)+k) (fun k=>a.length-k) (fun r=>Sum.elim (fun (_:Unit)=>some (min (↑(List.length a):Int) (↑(List.length b):Int))) some r=some (common a b:Int)) (fun k ⟨h1,h2,h3⟩=>by
  simp only [word_Common.s2]
  by_cases h4:k<a.length∧k<b.length
  ·have hx:=get_at h4.1
   have hy:=get_at h4.2
   rw [decide_eq_true (show (↑k:Int)<min (↑(List.length a):Int) (↑(List.length b):Int) by omega),cond_true,idxn_at hx,idxn_at hy]
   rw [List.drop_eq_getElem_cons h4.1,List.drop_eq_getElem_cons h4.2] at h3
   by_cases e:a[k]=b[k]
   ·left
    refine ⟨k+1,by simp [e],⟨h4.1,h4.2,?_⟩,by omega⟩
    rw [h3,e]
    simp [common]
    omega
   ·right
    simp only [common,e,if_false,Nat.zero_add] at h3
    exact ⟨.inr (k:Int),by simp [e],by rw [h3];rfl⟩
  ·right
   rw [decide_eq_false (by omega),cond_false]
   refine ⟨.inl (),rfl,?_⟩
   rw [common_end (by omega),Nat.zero_add] at h3
   simp only [Sum.elim_inl]
   congr 1
   omega) fuel 0 ⟨Nat.zero_le _,Nat.zero_le _,by simp⟩ (by have:=fuel_big;omega)
 obtain ⟨r,e,hq⟩:=key
 rw [e]
 exact hq
theorem word_HasPrefix_eq (w p:List Int) (hw:SmW w):word_HasPrefix w p=some (decide (p <+: w)):=by
 unfold word_HasPrefix
 rw [word_Common_eq w p hw,obind]
 congr 1
 exact decide_eq_decide.2 (by rw [← prefix_iff w p];omega)
def PropT (n:Int) (t:T_api_Trace):Prop:=checkI t.In n=0∧t.Out.length=t.In.length∧∀ y∈t.Out,0≤y∧y≤1048576
def Agree (a b:T_api_Trace):Prop:=a.Out.take (common a.In b.In)=b.Out.take (common a.In b.In)
structure ObsOk (o:T_api_Obs):Prop where
 inp:1≤o.Inputs∧o.Inputs≤64
 num:o.Traces.length≤10000
 prop:∀ t∈o.Traces,PropT o.Inputs t∧t.In≠[]
 asc:∀ (i j:Nat) a b,i<j→o.Traces[i]?=some a→o.Traces[j]?=some b→cmpW a.In b.In=-1
 apart:∀ (i j:Nat) a b,i<j→o.Traces[i]?=some a→o.Traces[j]?=some b→¬ a.In <+: b.In∧Agree a b
end Go.Proofs.YtmcfpohmiabmpaaGreatDoor.Sym

/-
 Answers and rows: the program's finder answers as the document's observations do. Plain laws.
-/
namespace Go.Proofs.YtmcfpohmiabmpaaGreatDoor.Sym
set_option maxRecDepth 100000
def ansO (o:T_api_Obs) (w:List Int):Option (List Int) :=
 if w=[] then some [] else (o.Traces.find? fun t=>decide (w <+: t.In)).map fun t=>t.Out.take w.length
abbrev tw {α:Type} (x:Option (List α)):List α×Bool:=match x with | some r=>(r,true) | none=>([],false)
end Go.Proofs.YtmcfpohmiabmpaaGreatDoor.Sym

/-
 Rows, missing queries and maximal words: the program's are the document's. Plain laws.
-/
namespace Go.Proofs.YtmcfpohmiabmpaaGreatDoor.Sym
set_option maxRecDepth 100000
end Go.Proofs.YtmcfpohmiabmpaaGreatDoor.Sym

/-
 The missing queries of a table: the program's are the document's. Plain laws, and the law of TableNeeds.
-/
namespace Go.Proofs.YtmcfpohmiabmpaaGreatDoor.Sym
set_option maxRecDepth 100000
structure TabOk (t:T_api_Table):Prop where
 sm:SmT t
 n:t.Inputs≤4
 p:t.Prefixes.length≤80
 s:t.Suffixes.length≤12
 pw:∀ x∈t.Prefixes,x.length≤80
 sw:∀ x∈t.Suffixes,x.length≤30
end Go.Proofs.YtmcfpohmiabmpaaGreatDoor.Sym

/-
 The examples of the chapter on nondeterminism, reckoned.
-/
namespace Go.Proofs.YtmcfpohmiabmpaaGreatDoor.Sym
set_option maxRecDepth 100000
theorem awake18_true:L18_awake=some true:=by decide +kernel
end Go.Proofs.YtmcfpohmiabmpaaGreatDoor.Sym

/-
 Votes: what nondet.Vote and Distinct answer.
-/
namespace Go.Proofs.YtmcfpohmiabmpaaGreatDoor.Sym
set_option maxRecDepth 100000
end Go.Proofs.YtmcfpohmiabmpaaGreatDoor.Sym

/-
 Clashes: sorting and cutting groups.
-/
namespace Go.Proofs.YtmcfpohmiabmpaaGreatDoor.Sym
set_option maxRecDepth 100000
def dedupK (l:List Grp):List Grp:=l.foldl (fun acc x=>if acc.getLast?.map (·.1)=some x.1 then acc else acc++[x]) []
theorem dedupK_snoc (l:List Grp) (x:Grp):dedupK (l++[x])=if (dedupK l).getLast?.map (·.1)=some x.1 then dedupK l else dedupK l++[x]:=by
 unfold dedupK
 rw [List.foldl_append]
 rfl
theorem dedupK_foldl:∀ (l acc:List Grp),(l.foldl (fun acc x=>if acc.getLast?.map (·.1)=some x.1 then acc else acc++[x]) acc).getLast?.map (·.1)=if l=[] then acc.getLast?.map (·.1) else l.getLast?.map (·.1)
 | [],acc=>by rw [if_pos rfl];rfl
 | x::l,acc=>by
  have hx:(if acc.getLast?.map (·.1)=some x.1 then acc else acc++[x]).getLast?.map (·.1)=some x.1:=by
   split
   ·assumption
   ·simp
  rw [List.foldl_cons,dedupK_foldl l,if_neg (show ¬ x::l=[] by simp)]
  cases l with
  | nil=>rw [if_pos rfl,hx];rfl
  | cons y l =>
   rw [if_neg (show ¬ y::l=[] by simp),List.getLast?_cons_cons]
theorem dedupK_last (l:List Grp):(dedupK l).getLast?.map (·.1)=l.getLast?.map (·.1):=by
 unfold dedupK
 rw [dedupK_foldl]
 split
 ·rename_i h;rw [h]
 ·rfl
theorem dedupK_step {l:List Grp} {k:Nat} {x y:Grp} (hy:l[k]?=some y) (hx:l[k+1]?=some x) :
  dedupK (l.take (k+1+1))=if x.1=y.1 then dedupK (l.take (k+1)) else dedupK (l.take (k+1))++[x]:=by
 rw [take_step hx,dedupK_snoc,dedupK_last,take_step hy]
 simp only [List.getLast?_append,List.getLast?_singleton,Option.some_or,Option.map_some,Option.some.injEq]
 by_cases h:y.1=x.1
 ·rw [if_pos h,if_pos h.symm]
 ·rw [if_neg h,if_neg (fun e=>h e.symm)]
theorem dedupK_short {l:List Grp} (h:l.length≤1):dedupK l=l:=by
 match l,h with
 | [],_=>rfl
 | [x],_=>rfl
theorem dedupK_length (l:List Grp):(dedupK l).length≤l.length:=by
 have H:∀ (l acc:List Grp),(l.foldl (fun acc x=>if acc.getLast?.map (·.1)=some x.1 then acc else acc++[x]) acc).length≤acc.length+l.length:=by
  intro l
  induction l with
  | nil=>intro acc;exact Nat.le_refl _
  | cons x l ih =>
   intro acc
   rw [List.foldl_cons]
   have:=ih (if acc.getLast?.map (·.1)=some x.1 then acc else acc++[x])
   have h2:(if acc.getLast?.map (·.1)=some x.1 then acc else acc++[x]).length≤acc.length+1:=by
    split
    ·omega
    ·simp
   simp only [List.length_cons]
   omega
 simpa [dedupK] using H l []
theorem compactK_eq {q:Grp→Grp→Option Bool} {l:List Grp} (hl:l.length≤1000000000) (hq:∀ a∈l,∀ b∈l,q a b=some (decide (a.1=b.1))):slices_CompactFunc_S_nondet_group_nondet_group l q=some (dedupK l):=by
 unfold slices_CompactFunc_S_nondet_group_nondet_group
 by_cases h2:l.length<2
 ·rw [decide_eq_true (by omega),cond_true,dedupK_short (by omega)]
 rw [decide_eq_false (by omega),cond_false]
 have key:=iter_post (step:=fun k=>slices_CompactFunc_S_nondet_group_nondet_group.s20 l q k) (fun k=>1≤k∧k≤l.length∧dedupK (l.take k)=l.take k) (fun k=>l.length-k) (fun r=>Sum.elim (fun (_:Unit)=>some l) some r=some (dedupK l)) (fun k ⟨h1,h3,h4⟩=>by
  simp only [slices_CompactFunc_S_nondet_group_nondet_group.s20]
  by_cases h5:k<l.length
  ·have hx:=get_at h5
   have hp:=get_at (l:=l) (i:=k-1) (by omega)
   have hst:=dedupK_step (l:=l) (k:=k-1) (x:=l[k]) hp (by rw [show k-1+1=k by omega];exact hx)
   rw [show k-1+1=k by omega] at hst
   rw [dec_lt hx,cond_true,idxn_at hx,idx_at (i:=k-1) (by omega) hp,hq _ (List.getElem_mem _) _ (List.getElem_mem _)]
   simp only [Option.bind_some]
   by_cases h6:l[k].1=(l[k-1]'(by omega)).1
   ·right
    rw [if_pos h6] at hst
    rw [decide_eq_true h6,cond_true,chk_pos (by omega)]
    have inner:=iter_post (step:=fun (s:List Grp×Nat×Nat)=>slices_CompactFunc_S_nondet_group_nondet_group.s18 q k s.1 s.2.1 s.2.2) (fun s=>1≤s.2.2∧k+s.2.2≤l.length∧s.1.length=l.length∧s.2.1=(dedupK (l.take (k+s.2.2))).length∧s.2.1<k+s.2.2∧s.1.take s.2.1=dedupK (l.take (k+s.2.2))∧∀ j,s.2.1≤j→s.1[j]?=l[j]?) (fun s=>l.length-(k+s.2.2))
     (fun r=>r.2≤l.length∧r.1.length=l.length∧r.1.take r.2=dedupK l) (fun s ⟨g1,g2,g3,g4,g5,g6,g7⟩=>by
      obtain ⟨y,kk,t⟩:=s
      simp only at g1 g2 g3 g4 g5 g6 g7
      simp only [slices_CompactFunc_S_nondet_group_nondet_group.s18]
      by_cases g8:k+t<l.length
      ·left
       have gx:=get_at (l:=l) (i:=k+t) g8
       have gp:=get_at (l:=l) (i:=k+(t-1)) (by omega)
       have yx:y[k+t]?=some l[k+t]:=by rw [g7 _ (by omega)];exact gx
       have yp:y[k+(t-1)]?=some (l[k+(t-1)]'(by omega)):=by rw [g7 _ (by omega)];exact gp
       have hst2:=dedupK_step (l:=l) (k:=k+(t-1)) (x:=l[k+t]) gp (by rw [show k+(t-1)+1=k+t by omega];exact gx)
       rw [show k+(t-1)+1=k+t by omega] at hst2
       rw [decide_eq_true (show (↑t:Int)<(↑(List.length y-k):Int) by omega),cond_true,idxn_at yx,chk_pos (by omega),show Int.toNat ((↑t:Int)-1)=t-1 by omega,idxn_at yp,hq _ (List.getElem_mem _) _ (List.getElem_mem _)]
       simp only [Option.bind_some]
       by_cases g9:l[k+t].1=(l[k+(t-1)]'(by omega)).1
       ·rw [if_pos g9] at hst2
        refine ⟨(y,kk,t+1),by rw [decide_eq_true g9];rfl,⟨by simp only;omega,by simp only;omega,g3,?_,by simp only;omega,?_,g7⟩,by simp only;omega⟩
        ·simp only
         rw [show k+(t+1)=k+t+1 by omega,hst2]
         exact g4
        ·simp only
         rw [show k+(t+1)=k+t+1 by omega,hst2]
         exact g6
       ·rw [if_neg g9] at hst2
        have yk:=get_at (l:=y) (i:=kk) (by omega)
        refine ⟨(y.set kk l[k+t],kk+1,t+1),?_,⟨by simp only;omega,by simp only;omega,by simp only [List.length_set];exact g3,?_,by simp only;omega,?_,fun j hj=>?_⟩,by simp only;omega⟩
        ·rw [decide_eq_false g9]
         simp only [Bool.not_false,cond_true]
         rw [idxn_at yx,idxn_at yk,chk_pos (by unfold inR;omega)]
        ·simp only
         rw [show k+(t+1)=k+t+1 by omega,hst2,List.length_append,← g4]
         rfl
        ·simp only
         have e1:(y.set kk l[k+t])[kk]?=some l[k+t]:=by rw [List.getElem?_set];simp;omega
         rw [show k+(t+1)=k+t+1 by omega,hst2,take_step e1,List.take_set_of_le (Nat.le_refl _),g6]
        ·simp only at hj
         rw [List.getElem?_set_ne (by omega)]
         exact g7 j (by omega)
      ·right
       have e:k+t=l.length:=by omega
       refine ⟨(y,kk),?_,by simp only;omega,g3,?_⟩
       ·rw [decide_eq_false (by omega),cond_false]
       ·simp only
        rw [e,List.take_length] at g6
        exact g6) fuel (l,k,1) ⟨Nat.le_refl _,by simp only;omega,rfl,by simp only;rw [hst,h4,List.length_take];omega,by simp only;omega,by simp only;rw [hst,h4],fun j _=>rfl⟩ (by have:=fuel_big;simp only;omega)
    obtain ⟨⟨y,kk⟩,e,g1,g2,g3⟩:=inner
    simp only at g1 g2 g3
    refine ⟨.inr (dedupK l),?_,rfl⟩
    rw [e]
    simp only [Option.bind_some,slices_CompactFunc_S_nondet_group_nondet_group.k19]
    have e2:(List.take kk y++List.replicate (List.length y-kk) (([],[],[]):Grp)).length=l.length:=by
     rw [List.length_append,List.length_take,List.length_replicate]
     omega
    rw [chk_pos (by omega),chk_pos (by omega),chk_pos (by rw [e2];omega),List.take_append_of_le_length (by rw [List.length_take];omega),List.take_take,Nat.min_self,g3]
   ·left
    rw [if_neg h6] at hst
    refine ⟨k+1,by rw [decide_eq_false h6];rfl,⟨by omega,by omega,?_⟩,by omega⟩
    rw [hst,h4,take_step hx]
  ·right
   have e:k=l.length:=by omega
   subst e
   refine ⟨.inl (),?_,?_⟩
   ·rw [dec_end];rfl
   ·rw [List.take_length] at h4
    rw [h4]
    rfl) fuel 1 ⟨Nat.le_refl _,by omega,dedupK_short (by rw [List.length_take];omega)⟩ (by have:=fuel_big;omega)
 obtain ⟨r,e,hr⟩:=key
 rw [e]
 exact hr
def cmpGr (a b:Grp):Int:=if cmpW a.1 b.1≠0 then cmpW a.1 b.1 else lexI a.2.1 b.2.1
theorem cmpGr_range (a b:Grp):cmpGr a b=-1∨cmpGr a b=0∨cmpGr a b=1:=by
 unfold cmpGr
 split
 ·exact cmpW_range _ _
 ·exact lexI_range _ _
theorem cmpGr_zero (a b:Grp):cmpGr a b=0↔a.1=b.1∧a.2.1=b.2.1:=by
 unfold cmpGr
 have:=cmpW_zero a.1 b.1
 split
 ·rename_i h
  exact ⟨fun e=>absurd e h,fun e=>absurd (this.2 e.1) h⟩
 ·rename_i h
  have h:cmpW a.1 b.1=0:=by omega
  exact ⟨fun e=>⟨this.1 h,(lexI_zero _ _).1 e⟩,fun e=>(lexI_zero _ _).2 e.2⟩
theorem cmpGr_swap (a b:Grp):cmpGr b a=- cmpGr a b:=by
 unfold cmpGr
 have h1:=cmpW_swap a.1 b.1
 have h2:=lexI_swap a.2.1 b.2.1
 by_cases h:cmpW a.1 b.1=0
 ·rw [if_neg (by omega),if_neg (by omega)];exact h2
 ·rw [if_pos (by omega),if_pos (by omega)];exact h1
theorem cmpGr_trans (a b c:Grp) (h1:cmpGr a b=-1) (h2:cmpGr b c=-1):cmpGr a c=-1:=by
 unfold cmpGr at h1 h2 ⊢
 by_cases e1:cmpW a.1 b.1=0
 ·rw [if_neg (by omega)] at h1
  have e1':=(cmpW_zero _ _).1 e1
  rw [e1']
  by_cases e2:cmpW b.1 c.1=0
  ·rw [if_neg (by omega)] at h2 ⊢
   exact lexI_trans _ _ _ h1 h2
  ·rw [if_pos e2] at h2 ⊢
   exact h2
 ·rw [if_pos e1] at h1
  by_cases e2:cmpW b.1 c.1=0
  ·rw [← (cmpW_zero _ _).1 e2,if_pos e1]
   exact h1
  ·rw [if_pos e2] at h2
   have:=cmpW_trans _ _ _ h1 h2
   rw [if_pos (by omega)]
   exact this
theorem sortG_eq {f:Grp→Grp→Option Int} {l:List Grp} (hl:l.length≤1000000000) (hf:∀ a∈l,∀ b∈l,f a b=some (cmpGr a b)) (hk:∀ a∈l,∀ b∈l,a.1=b.1→a.2.1=b.2.1→a=b) :
  ∃ S,libSort l f=some S∧S.Perm l∧S.Pairwise (fun a b=>0≤cmpGr b a):=by
 have ht:totB f l=true:=by
  refine List.all_eq_true.2 fun a ha=>List.all_eq_true.2 fun b hb=>?_
  rw [hf a ha b hb,hf b hb a ha]
  simp only [Bool.and_eq_true]
  have hz:=cmpGr_zero a b
  have hs:=cmpGr_swap a b
  refine ⟨⟨⟨?_,?_⟩,?_⟩,List.all_eq_true.2 fun c hc=>?_⟩
  ·rw [beq_iff_eq]
   by_cases h:a=b
   ·have:cmpGr a b=0:=hz.2 ⟨by rw [h],by rw [h]⟩
    rw [decide_eq_true this,decide_eq_true h]
   ·have h2:¬ cmpGr a b=0:=fun e=>h (hk a ha b hb (hz.1 e).1 (hz.1 e).2)
    rw [decide_eq_false h2,decide_eq_false h]
  ·rw [beq_iff_eq]
   by_cases h:cmpGr a b<0
   ·rw [decide_eq_true h,decide_eq_true (by omega)]
   ·rw [decide_eq_false h,decide_eq_false (by omega)]
  ·have:=cmpGr_range a b
   exact decide_eq_true (by omega)
  ·rw [hf b hb c hc,hf a ha c hc]
   have r1:=cmpGr_range a b
   have r2:=cmpGr_range b c
   by_cases h1:cmpGr a b<0
   ·by_cases h2:cmpGr b c<0
    ·have:=cmpGr_trans a b c (by omega) (by omega)
     simp [h1,h2,this]
    ·simp [h1,h2]
   ·simp [h1]
 refine ⟨isortF f l,?_,isortF_perm f l,?_⟩
 ·unfold libSort
  rw [chk_pos hl,ht]
  rfl
 ·have h:=isortF_sorted (totB_iff ht)
  rw [List.pairwise_iff_getElem] at h ⊢
  intro i j hi hj hij
  have:=h i j hi hj hij
  have m1:=(isortF_perm f l).mem_iff.1 (List.getElem_mem hi)
  have m2:=(isortF_perm f l).mem_iff.1 (List.getElem_mem hj)
  unfold NGt cfv at this
  rw [hf _ m2 _ m1] at this
  simp only [Option.getD_some] at this
  omega
end Go.Proofs.YtmcfpohmiabmpaaGreatDoor.Sym

/-
 Clashes: the groups, and the clashes that come of them.
-/
namespace Go.Proofs.YtmcfpohmiabmpaaGreatDoor.Sym
set_option maxRecDepth 100000
theorem dedupK_ok:∀ {S:List Grp},S.Pairwise (fun a b=>0≤cmpGr b a)→(dedupK S).Pairwise (fun a b=>cmpW a.1 b.1=-1)∧(∀ d∈dedupK S,d∈S)∧∀ g∈S,∃ d∈dedupK S,d.1=g.1∧0≤cmpGr g d:=by
 intro S
 suffices H:∀ n (S:List Grp),S.length=n→S.Pairwise (fun a b=>0≤cmpGr b a)→(dedupK S).Pairwise (fun a b=>cmpW a.1 b.1=-1)∧(∀ d∈dedupK S,d∈S)∧∀ g∈S,∃ d∈dedupK S,d.1=g.1∧0≤cmpGr g d from H _ S rfl
 intro n
 induction n with
 | zero =>
  intro S hl _
  have:S=[]:=List.eq_nil_of_length_eq_zero hl
  subst this
  exact ⟨List.Pairwise.nil,fun d hd=>hd,fun g hg=>by cases hg⟩
 | succ n ih =>
  intro S hl hp
  obtain ⟨m,x,rfl⟩:∃ m x,S=m++[x]:=by
   have hne:S≠[]:=by intro e;rw [e] at hl;simp at hl
   exact ⟨S.dropLast,S.getLast hne,(List.dropLast_concat_getLast hne).symm⟩
  have hml:m.length=n:=by simpa using hl
  obtain ⟨hp1,_,hp3⟩:=List.pairwise_append.1 hp
  obtain ⟨h1,h2,h3⟩:=ih m hml hp1
  have hpx:∀ a∈m,0≤cmpGr x a:=fun a ha=>hp3 a ha x (by simp)
  have hself:0≤cmpGr x x:=by rw [(cmpGr_zero x x).2 ⟨rfl,rfl⟩];omega
  rw [dedupK_snoc]
  by_cases h:(dedupK m).getLast?.map (·.1)=some x.1
  ·rw [if_pos h]
   refine ⟨h1,fun d hd=>List.mem_append_left _ (h2 d hd),fun g hg=>?_⟩
   rcases List.mem_append.1 hg with hg | hg
   ·exact h3 g hg
   ·rw [List.mem_singleton.1 hg]
    cases hq:(dedupK m).getLast? with
    | none=>rw [hq] at h;cases h
    | some d =>
     rw [hq] at h
     have hd:d∈dedupK m:=List.mem_of_getLast? hq
     exact ⟨d,hd,by simpa using h,hpx d (h2 d hd)⟩
  ·rw [if_neg h]
   refine ⟨List.pairwise_append.2 ⟨h1,by simp,fun a ha b hb=>?_⟩,fun d hd=>?_,fun g hg=>?_⟩
   ·rw [List.mem_singleton.1 hb]
    have hne:dedupK m≠[]:=fun e=>by rw [e] at ha;cases ha
    have hlast:(dedupK m).getLast hne∈dedupK m:=List.getLast_mem hne
    have hlx:((dedupK m).getLast hne).1≠x.1:=fun e=>h (by rw [List.getLast?_eq_some_getLast hne];simp [e])
    have g1:=hpx _ (h2 _ hlast)
    have hsplit:dedupK m=(dedupK m).dropLast++[(dedupK m).getLast hne]:=(List.dropLast_concat_getLast hne).symm
    have g2:a=(dedupK m).getLast hne∨cmpW a.1 ((dedupK m).getLast hne).1=-1:=by
     rw [hsplit] at ha h1
     rcases List.mem_append.1 ha with ha | ha
     ·exact .inr ((List.pairwise_append.1 h1).2.2 a ha _ (by simp))
     ·exact .inl (List.mem_singleton.1 ha)
    generalize (dedupK m).getLast hne=z at *
    have hzx:cmpW z.1 x.1=-1:=by
     have r:=cmpW_range z.1 x.1
     have s:=cmpW_swap z.1 x.1
     have t:=cmpW_zero z.1 x.1
     unfold cmpGr at g1
     rcases r with r | r | r
     ·exact r
     ·exact absurd (t.1 r) hlx
     ·rw [if_pos (by omega)] at g1
      omega
    rcases g2 with rfl | g2
    ·exact hzx
    ·exact cmpW_trans _ _ _ g2 hzx
   ·rcases List.mem_append.1 hd with hd | hd
    ·exact List.mem_append_left _ (h2 d hd)
    ·exact List.mem_append_right _ hd
   ·rcases List.mem_append.1 hg with hg | hg
    ·obtain ⟨d,hd,h4⟩:=h3 g hg
     exact ⟨d,List.mem_append_left _ hd,h4⟩
    ·rw [List.mem_singleton.1 hg]
     exact ⟨x,List.mem_append_right _ (by simp),rfl,hself⟩
theorem Equal_eqN (a b:List Int) (hl:a.length≤100000000000000):slices_Equal_Sint_int a b=some (decide (a=b)):=by
 unfold slices_Equal_Sint_int
 by_cases hlen:a.length=b.length
 ·rw [decide_eq_false (by omega),cond_false]
  refine iter_all2 hlen (fun i x y hx hy=>?_) ?_ hl
  ·simp only [slices_Equal_Sint_int.s2]
   rw [dec_lt hx,cond_true,idxn_at hx,idxn_at hy]
   by_cases h:x=y<;>simp [h]
  ·simp only [slices_Equal_Sint_int.s2]
   rw [dec_end]
   rfl
 ·rw [decide_eq_true (by omega),cond_true]
  have:a≠b:=fun h=>hlen (by rw [h])
  simp [this]
def clG (g:Grp):T_api_Clash:=⟨g.1,(g.2.2[0]?).getD 0,(g.2.2[1]?).getD 0⟩
theorem rest_eq {F:List Grp} (hl:F.length≤1000000) (hw:∀ g∈F,g.1.length≤1000∧g.2.1.length≤1000∧g.2.2.length=2) (hk:∀ a∈F,∀ b∈F,a.1=b.1→a.2.1=b.2.1→a=b) :
  ∃ D:List Grp,nondet_rest F=some (D.map clG)∧D.Pairwise (fun a b=>cmpW a.1 b.1=-1)∧(∀ d∈D,d∈F)∧∀ g∈F,∃ d∈D,d.1=g.1∧0≤cmpGr g d:=by
 have hc:∀ a∈F,∀ b∈F,(fun u0 u1=>nondet_cmp u0 u1) a b=some (cmpGr a b):=fun a ha b hb=>by
  obtain ⟨g1,g2,_⟩:=hw a ha
  simp only [nondet_cmp,cmpGr]
  rw [word_Compare_eq _ _ (by omega),obind]
  by_cases h:cmpW a.1 b.1=0
  ·rw [decide_eq_false (by omega),cond_false,if_neg (by omega),word_Lex_eq _ _ (by omega)]
  ·rw [decide_eq_true h,cond_true,if_pos h]
 obtain ⟨S,e1,hp,hs⟩:=sortG_eq (by omega:F.length≤1000000000) hc hk
 obtain ⟨d1,d2,d3⟩:=dedupK_ok hs
 have hlen:=hp.length_eq
 have hdl:=dedupK_length S
 refine ⟨dedupK S,?_,d1,fun d hd=>hp.mem_iff.1 (d2 d hd),fun g hg=>d3 g (hp.mem_iff.2 hg)⟩
 unfold nondet_rest lib_SortFunc_groups
 rw [e1,obind,compactK_eq (by omega) (fun a ha b hb=>by
  obtain ⟨g1,_⟩:=hw a (hp.mem_iff.1 ha)
  unfold nondet_eq
  rw [Equal_eqN _ _ (by omega)]),obind]
 have key:=iter_post (step:=fun (s:List T_api_Clash×Nat)=>nondet_rest.s2 (dedupK S) s.1 s.2) (fun s=>s.2≤(dedupK S).length∧s.1=((dedupK S).map clG).take s.2) (fun s=>(dedupK S).length-s.2) (fun r=>r=(dedupK S).map clG) (fun ⟨y,i⟩ ⟨g1,g2⟩=>by
  simp only at g1 g2
  subst g2
  simp only [nondet_rest.s2]
  by_cases h:i<(dedupK S).length
  ·left
   have hx:=get_at h
   obtain ⟨w1,_,w3⟩:=hw _ (hp.mem_iff.1 (d2 _ (List.getElem_mem h)))
   have hc:((dedupK S).map clG)[i]?=some (clG (dedupK S)[i]):=by rw [List.getElem?_map,hx];rfl
   have hti:(((dedupK S).map clG).take i).length≤i:=by rw [List.length_take];omega
   have a0:((dedupK S)[i]).2.2[0]?=some (((dedupK S)[i]).2.2[0]'(by omega)):=List.getElem?_eq_getElem (by omega)
   have a1:((dedupK S)[i]).2.2[1]?=some (((dedupK S)[i]).2.2[1]'(by omega)):=List.getElem?_eq_getElem (by omega)
   refine ⟨(((dedupK S).map clG).take (i+1),i+1),?_,⟨h,rfl⟩,by simp only;omega⟩
   rw [dec_lt hx,cond_true,idxn_at hx,libclone_word (by unfold SmW;omega),obind,idxn_at a0,idxn_at a1,chk_pos (by unfold capOk;omega),take_step hc]
   unfold clG
   rw [a0,a1]
   rfl
  ·right
   have e:i=(dedupK S).length:=by omega
   subst e
   exact ⟨_,by rw [dec_end,cond_false],List.take_of_length_le (by simp)⟩) fuel ([],0) ⟨Nat.zero_le _,rfl⟩ (by have:=fuel_big;simp only;omega)
 obtain ⟨r,e2,rfl⟩:=key
 rw [e2,obind]
def sortI (xs:List Int):List Int:=xs.foldl (fun s x=>if x∈s then s else insI x s) []
theorem insI_mem' (x:Int):∀ (l:List Int) (y:Int),y∈insI x l↔y=x∨y∈l
 | [],y=>by simp [insI]
 | a::l,y=>by
  unfold insI
  split
  ·simp
  ·simp only [List.mem_cons,insI_mem' x l y]
   constructor
   ·rintro (h | h | h)
    ·exact .inr (.inl h)
    ·exact .inl h
    ·exact .inr (.inr h)
   ·rintro (h | h | h)
    ·exact .inr (.inl h)
    ·exact .inl h
    ·exact .inr (.inr h)
theorem insI_sorted' {x:Int}:∀ {l:List Int},l.Pairwise (·<·)→x∉l→(insI x l).Pairwise (·<·)
 | [],_,_=>by simp [insI]
 | a::l,h,hx=>by
  obtain ⟨h1,h2⟩:=List.pairwise_cons.1 h
  simp only [List.mem_cons,not_or] at hx
  unfold insI
  split
  ·rename_i hlt
   refine List.pairwise_cons.2 ⟨fun y hy=>?_,h⟩
   rcases List.mem_cons.1 hy with rfl | hy
   ·exact hlt
   ·have:=h1 y hy;omega
  ·rename_i hlt
   refine List.pairwise_cons.2 ⟨fun y hy=>?_,insI_sorted' h2 hx.2⟩
   rcases (insI_mem' x l y).1 hy with rfl | hy
   ·have:=hx.1;omega
   ·exact h1 y hy
theorem sortI_snoc (xs:List Int) (x:Int):sortI (xs++[x])=if x∈sortI xs then sortI xs else insI x (sortI xs):=by
 unfold sortI
 rw [List.foldl_append]
 rfl
theorem sortI_fold:∀ (xs s:List Int),s.Pairwise (·<·)→(xs.foldl (fun s x=>if x∈s then s else insI x s) s).Pairwise (·<·)∧∀ y,y∈xs.foldl (fun s x=>if x∈s then s else insI x s) s↔y∈xs∨y∈s
 | [],s,h=>⟨h,fun y=>by simp⟩
 | x::xs,s,h=>by
  rw [List.foldl_cons]
  have hs:(if x∈s then s else insI x s).Pairwise (·<·)∧∀ y,y∈(if x∈s then s else insI x s)↔y=x∨y∈s:=by
   split
   ·rename_i hx
    exact ⟨h,fun y=>⟨.inr,fun e=>e.elim (fun e=>by rw [e];exact hx) id⟩⟩
   ·rename_i hx
    exact ⟨insI_sorted' h hx,insI_mem' x s⟩
  obtain ⟨h1,h2⟩:=sortI_fold xs _ hs.1
  refine ⟨h1,fun y=>?_⟩
  rw [h2,hs.2,List.mem_cons]
  constructor
  ·rintro (h | h | h)
   ·exact .inl (.inr h)
   ·exact .inl (.inl h)
   ·exact .inr h
  ·rintro ((h | h) | h)
   ·exact .inr (.inl h)
   ·exact .inl h
   ·exact .inr (.inr h)
theorem sortI_asc (xs:List Int):(sortI xs).Pairwise (·<·):=(sortI_fold xs [] List.Pairwise.nil).1
theorem mem_sortI (xs:List Int) (y:Int):y∈sortI xs↔y∈xs:=by
 have:=(sortI_fold xs [] List.Pairwise.nil).2 y
 simpa [sortI] using this
theorem insI_take {x:Int}:∀ {n:Nat} {s:List Int},s.Pairwise (·<·)→x∉s.take n→(insI x (s.take n)).take n=(if x∈s then s else insI x s).take n
 | 0,_,_,_=>by simp
 | n+1,[],_,_=>by simp
 | n+1,a::s,h,hx=>by
  obtain ⟨h1,h2⟩:=List.pairwise_cons.1 h
  rw [List.take_succ_cons] at hx ⊢
  simp only [List.mem_cons,not_or] at hx
  by_cases hlt:x<a
  ·have hns:x∉a::s:=fun hm=>by
    rcases List.mem_cons.1 hm with e | e
    ·omega
    ·have:=h1 x e;omega
   rw [if_neg hns]
   unfold insI
   rw [if_pos hlt,if_pos hlt,List.take_succ_cons,List.take_succ_cons]
   congr 1
   cases n with
   | zero=>simp
   | succ n=>rw [List.take_succ_cons,List.take_succ_cons,List.take_take,Nat.min_eq_left (by omega)]
  ·have ih:=insI_take (n:=n) h2 hx.2
   have e1:(x∈a::s)↔x∈s:=by simp [hx.1]
   unfold insI
   rw [if_neg hlt,if_neg hlt,List.take_succ_cons,ih]
   by_cases hs:x∈s
   ·rw [if_pos hs,if_pos (e1.2 hs),List.take_succ_cons]
   ·rw [if_neg hs,if_neg (fun e=>hs (e1.1 e)),List.take_succ_cons]
theorem leastI_sort (xs:List Int) (x:Int):leastI ((sortI xs).take 2) x=(sortI (xs++[x])).take 2:=by
 rw [sortI_snoc]
 unfold leastI
 split
 ·rename_i h
  rw [if_pos (List.mem_of_mem_take h)]
 ·rename_i h
  exact insI_take (sortI_asc xs) h
end Go.Proofs.YtmcfpohmiabmpaaGreatDoor.Sym

/-
 Clashes: what the traces say of a word, and what the groups keep of it.
-/
namespace Go.Proofs.YtmcfpohmiabmpaaGreatDoor.Sym
set_option maxRecDepth 100000
def oneN (t:T_api_Trace) (n:Nat) (w b:List Int):List Int:=if w.length≤n∧w <+: t.In∧b <+: t.Out then [(t.Out[w.length-1]?).getD 0] else []
def stp (t:T_api_Trace):Nat:=min t.In.length t.Out.length
def gouts (l:List T_api_Trace) (w b:List Int):List Int:=l.flatMap fun t=>oneN t (stp t) w b
def rivl (l:List T_api_Trace) (w b:List Int):List Int:=sortI (gouts l w b)
def Fitl (w b:List Int):Prop:=b.length+1=w.length
theorem oneN_zero (t:T_api_Trace) {w b:List Int} (h:Fitl w b):oneN t 0 w b=[]:=by
 unfold oneN Fitl at *
 rw [if_neg (fun e=>by have:=e.1;omega)]
theorem oneN_succ {t:T_api_Trace} {i:Nat} (hi:i<stp t) {w b:List Int} (h:Fitl w b):oneN t (i+1) w b=oneN t i w b++(if w=t.In.take (i+1)∧b=t.Out.take i then [(t.Out[i]?).getD 0] else []):=by
 unfold Fitl at h
 unfold stp at hi
 unfold oneN
 by_cases h1:w.length≤i
 ·have hn:¬ (w=t.In.take (i+1)∧b=t.Out.take i):=fun e=>by
   have:=congrArg List.length e.1
   rw [List.length_take] at this
   omega
  rw [if_neg hn,List.append_nil]
  by_cases h2:w <+: t.In∧b <+: t.Out
  ·rw [if_pos ⟨by omega,h2⟩,if_pos ⟨h1,h2⟩]
  ·rw [if_neg (fun e=>h2 e.2),if_neg (fun e=>h2 e.2)]
 ·rw [if_neg (show ¬ (w.length≤i∧_) from fun e=>h1 e.1),List.nil_append]
  by_cases h2:w.length=i+1
  ·have e1:w <+: t.In↔w=t.In.take (i+1):=by rw [List.prefix_iff_eq_take,h2]
   have e2:b <+: t.Out↔b=t.Out.take i:=by rw [List.prefix_iff_eq_take,show b.length=i by omega]
   by_cases h3:w=t.In.take (i+1)∧b=t.Out.take i
   ·rw [if_pos h3,if_pos ⟨by omega,e1.2 h3.1,e2.2 h3.2⟩,show w.length-1=i by omega]
   ·rw [if_neg h3,if_neg (fun e=>h3 ⟨e1.1 e.2.1,e2.1 e.2.2⟩)]
  ·rw [if_neg (fun e=>by have:=e.1;omega),if_neg (fun e=>by
    have:=congrArg List.length e.1
    rw [List.length_take] at this
    omega)]
theorem gouts_snoc (l:List T_api_Trace) (t:T_api_Trace) (w b:List Int):gouts (l++[t]) w b=gouts l w b++oneN t (stp t) w b:=by
 unfold gouts
 rw [List.flatMap_append]
 simp
theorem gouts_mem {l:List T_api_Trace} {w b:List Int} {x:Int}:x∈gouts l w b↔∃ t∈l,w.length≤stp t∧w <+: t.In∧b <+: t.Out∧x=(t.Out[w.length-1]?).getD 0:=by
 unfold gouts
 rw [List.mem_flatMap]
 constructor
 ·rintro ⟨t,ht,hx⟩
  unfold oneN at hx
  split at hx
  ·rename_i h
   exact ⟨t,ht,h.1,h.2.1,h.2.2,List.mem_singleton.1 hx⟩
  ·cases hx
 ·rintro ⟨t,ht,h1,h2,h3,h4⟩
  refine ⟨t,ht,?_⟩
  unfold oneN
  rw [if_pos ⟨h1,h2,h3⟩,h4]
  exact List.mem_singleton.2 rfl
theorem rivl_ne {l:List T_api_Trace} {w b:List Int} (h:0<(rivl l w b).length):∃ t∈l,w.length≤stp t∧w <+: t.In∧b <+: t.Out:=by
 obtain ⟨x,hx⟩:=List.exists_mem_of_length_pos h
 obtain ⟨t,ht,h1,h2,h3,_⟩:=gouts_mem.1 ((mem_sortI _ x).1 hx)
 exact ⟨t,ht,h1,h2,h3⟩
structure GInv (o:List Int→List Int→List Int) (G:List Grp):Prop where
 nd:(G.map fun g=>(g.1,g.2.1)).Nodup
 ok:∀ g∈G,Fitl g.1 g.2.1∧o g.1 g.2.1≠[]∧g.2.2=(sortI (o g.1 g.2.1)).take 2
 all:∀ w b,Fitl w b→o w b≠[]→∃ g∈G,g.1=w∧g.2.1=b
theorem GInv.congr {o o':List Int→List Int→List Int} {G:List Grp} (I:GInv o G) (h:∀ w b,Fitl w b→o' w b=o w b):GInv o' G :=
 ⟨I.nd,fun g hg=>by
  obtain ⟨h1,h2,h3⟩:=I.ok g hg
  rw [h _ _ h1]
  exact ⟨h1,h2,h3⟩,fun w b hf hne=>I.all w b hf (by rw [← h w b hf];exact hne)⟩
theorem grpAdd_cases (w b:List Int) (x:Int):∀ G:List Grp,((∀ g∈G,¬ (g.1=w∧g.2.1=b))∧grpAdd G w b x=G++[(w,b,[x])])∨∃ G1 g G2,G=G1++g::G2∧g.1=w∧g.2.1=b∧grpAdd G w b x=G1++(w,b,leastI g.2.2 x)::G2
 | []=>.inl ⟨fun g hg=>(by cases hg),rfl⟩
 | g::G=>by
  by_cases h:g.1=w∧g.2.1=b
  ·refine .inr ⟨[],g,G,rfl,h.1,h.2,?_⟩
   unfold grpAdd
   rw [if_pos h,h.1,h.2]
   rfl
  ·have e:grpAdd (g::G) w b x=g::grpAdd G w b x:=by
    conv=>lhs;unfold grpAdd
    rw [if_neg h]
   rcases grpAdd_cases w b x G with ⟨h1,h2⟩ | ⟨G1,g',G2,h1,h2,h3,h4⟩
   ·refine .inl ⟨fun g' hg'=>?_,by rw [e,h2];rfl⟩
    rcases List.mem_cons.1 hg' with rfl | hg'
    ·exact h
    ·exact h1 g' hg'
   ·exact .inr ⟨g::G1,g',G2,by rw [h1];rfl,h2,h3,by rw [e,h4];rfl⟩
theorem GInv.add {o o':List Int→List Int→List Int} {G:List Grp} (I:GInv o G) {w0 b0:List Int} {x:Int} (hf0:Fitl w0 b0) (h:∀ w b,Fitl w b→o' w b=o w b++if w=w0∧b=b0 then [x] else []):GInv o' (grpAdd G w0 b0 x):=by
 have h0:o' w0 b0=o w0 b0++[x]:=by rw [h _ _ hf0,if_pos ⟨rfl,rfl⟩]
 have hn:∀ w b,Fitl w b→¬ (w=w0∧b=b0)→o' w b=o w b:=fun w b hf hne=>by rw [h _ _ hf,if_neg hne,List.append_nil]
 rcases grpAdd_cases w0 b0 x G with ⟨h1,h2⟩ | ⟨G1,g,G2,h1,h2,h3,h4⟩
 ·rw [h2]
  have he:o w0 b0=[]:=Classical.byContradiction fun hne=>by
   obtain ⟨g,hg,e1,e2⟩:=I.all w0 b0 hf0 hne
   exact h1 g hg ⟨e1,e2⟩
  refine ⟨?_,fun g hg=>?_,fun w b hf hne=>?_⟩
  ·rw [List.map_append,List.nodup_append]
   refine ⟨I.nd,by simp,fun p hp q hq e=>?_⟩
   obtain ⟨g,hg,rfl⟩:=List.mem_map.1 hp
   rw [List.map_cons,List.map_nil,List.mem_singleton] at hq
   rw [hq] at e
   injection e with e1 e2
   exact h1 g hg ⟨e1,e2⟩
  ·rcases List.mem_append.1 hg with hg | hg
   ·obtain ⟨k1,k2,k3⟩:=I.ok g hg
    rw [hn _ _ k1 (h1 g hg)]
    exact ⟨k1,k2,k3⟩
   ·rw [List.mem_singleton.1 hg]
    refine ⟨hf0,by simp only;rw [h0];simp,?_⟩
    simp only
    rw [h0,he]
    rfl
  ·by_cases hk:w=w0∧b=b0
   ·exact ⟨_,List.mem_append_right _ (List.mem_singleton.2 rfl),hk.1.symm,hk.2.symm⟩
   ·rw [hn _ _ hf hk] at hne
    obtain ⟨g,hg,e⟩:=I.all w b hf hne
    exact ⟨g,List.mem_append_left _ hg,e⟩
 ·rw [h4]
  subst h1
  have hother:∀ g'∈G1++G2,¬ (g'.1=w0∧g'.2.1=b0):=fun g' hg' e=>by
   have hnd:=I.nd
   rw [List.map_append,List.map_cons] at hnd
   have hp:=(List.perm_middle.nodup_iff).1 hnd
   obtain ⟨hp1,_⟩:=List.nodup_cons.1 hp
   rw [← List.map_append] at hp1
   exact hp1 (List.mem_map.2 ⟨g',hg',by rw [e.1,e.2,h2,h3]⟩)
  obtain ⟨k1,k2,k3⟩:=I.ok g (List.mem_append_right _ List.mem_cons_self)
  refine ⟨?_,fun g' hg'=>?_,fun w b hf hne=>?_⟩
  ·have:=I.nd
   simp only [List.map_append,List.map_cons,h2,h3] at this ⊢
   exact this
  ·by_cases hk:g'=(w0,b0,leastI g.2.2 x)
   ·subst hk
    refine ⟨hf0,by simp only;rw [h0];simp,?_⟩
    simp only
    rw [h0,← leastI_sort,k3,h2,h3]
   ·have hm:g'∈G1++G2:=by
     rcases List.mem_append.1 hg' with e | e
     ·exact List.mem_append_left _ e
     ·exact List.mem_append_right _ ((List.mem_cons.1 e).resolve_left hk)
    have hm2:g'∈G1++g::G2:=by
     rcases List.mem_append.1 hm with e | e
     ·exact List.mem_append_left _ e
     ·exact List.mem_append_right _ (List.mem_cons_of_mem _ e)
    obtain ⟨j1,j2,j3⟩:=I.ok g' hm2
    rw [hn _ _ j1 (hother g' hm)]
    exact ⟨j1,j2,j3⟩
  ·by_cases hk:w=w0∧b=b0
   ·exact ⟨_,List.mem_append_right _ List.mem_cons_self,hk.1.symm,hk.2.symm⟩
   ·rw [hn _ _ hf hk] at hne
    obtain ⟨g',hg',e⟩:=I.all w b hf hne
    rcases List.mem_append.1 hg' with e2 | e2
    ·exact ⟨g',List.mem_append_left _ e2,e⟩
    ·rcases List.mem_cons.1 e2 with rfl | e2
     ·exact absurd ⟨e.1.symm.trans h2,e.2.symm.trans h3⟩ hk
     ·exact ⟨g',List.mem_append_right _ (List.mem_cons_of_mem _ e2),e⟩
theorem grpA_inv {o:List Int→List Int→List Int} {G:List Grp} (I:GInv o G) (t:T_api_Trace):∀ n,n≤stp t→GInv (fun w b=>o w b++oneN t n w b) (grpA G t n)
 | 0,_=>I.congr fun w b hf=>by rw [oneN_zero t hf,List.append_nil]
 | n+1,hn=>by
  have ih:=grpA_inv I t n (by omega)
  have e:grpA G t (n+1)=grpAdd (grpA G t n) (t.In.take (n+1)) (t.Out.take n) ((t.Out[n]?).getD 0):=by
   unfold grpA
   rw [List.range_succ,List.foldl_append]
   rfl
  rw [e]
  unfold stp at hn
  exact ih.add (by unfold Fitl;rw [List.length_take,List.length_take];omega) fun w b hf=>by
   rw [oneN_succ (by unfold stp;omega) hf,List.append_assoc]
theorem grps_inv:∀ (ts l0:List T_api_Trace) (G:List Grp),GInv (gouts l0) G→GInv (gouts (l0++ts)) (ts.foldl grpT G)
 | [],l0,G,I=>by rw [List.append_nil];exact I
 | t::ts,l0,G,I=>by
  rw [List.foldl_cons]
  have h:=grps_inv ts (l0++[t]) (grpT G t) ((grpA_inv I t (stp t) (Nat.le_refl _)).congr fun w b _=>gouts_snoc l0 t w b)
  rw [List.append_assoc] at h
  exact h
theorem grpsN_inv (l:List T_api_Trace):GInv (gouts l) (grpsN l):=by
 have:=grps_inv l [] [] ⟨List.nodup_nil,fun g hg=>(by cases hg),fun w b _ h=>absurd rfl h⟩
 rw [List.nil_append] at this
 exact this
structure CSpec (l:List T_api_Trace) (C:List T_api_Clash):Prop where
 asc:C.Pairwise fun a b=>cmpW a.Word b.Word=-1
 all:∀ w b,Fitl w b→2≤(rivl l w b).length→∃ c∈C,c.Word=w
 one:∀ c∈C,∃ b r,Fitl c.Word b∧rivl l c.Word b=c.First::c.Second::r∧∀ b',Fitl c.Word b'→2≤(rivl l c.Word b').length→0≤lexI b' b
theorem asc_same {C:List T_api_Clash} (h:C.Pairwise fun a b=>cmpW a.Word b.Word=-1) {a b:T_api_Clash} (ha:a∈C) (hb:b∈C) (e:a.Word=b.Word):a=b:=by
 obtain ⟨i,hi,rfl⟩:=List.getElem_of_mem ha
 obtain ⟨j,hj,rfl⟩:=List.getElem_of_mem hb
 have hp:=List.pairwise_iff_getElem.1 h
 rcases Nat.lt_trichotomy i j with k | k | k
 ·have:=hp i j hi hj k
  rw [(cmpW_zero _ _).2 e] at this
  cases this
 ·subst k;rfl
 ·have:=hp j i hj hi k
  rw [(cmpW_zero _ _).2 e.symm] at this
  cases this
theorem map_inj_eq {α β:Type} {f:α→β}:∀ {l m:List α},l.map f=m.map f→(∀ a∈l,∀ b∈m,f a=f b→a=b)→l=m
 | [],[],_,_=>rfl
 | [],_::_,h,_=>by cases h
 | _::_,[],h,_=>by cases h
 | a::l,b::m,h,hi=>by
  rw [List.map_cons,List.map_cons] at h
  injection h with h1 h2
  rw [hi a List.mem_cons_self b List.mem_cons_self h1,map_inj_eq h2 fun x hx y hy=>hi x (List.mem_cons_of_mem _ hx) y (List.mem_cons_of_mem _ hy)]
theorem CSpec.word {l:List T_api_Trace} {C:List T_api_Clash} (H:CSpec l C) (w:List Int):w∈C.map (·.Word)↔∃ b,Fitl w b∧2≤(rivl l w b).length:=by
 constructor
 ·intro h
  obtain ⟨c,hc,rfl⟩:=List.mem_map.1 h
  obtain ⟨b,r,h1,h2,_⟩:=H.one c hc
  exact ⟨b,h1,by rw [h2];simp⟩
 ·rintro ⟨b,h1,h2⟩
  obtain ⟨c,hc,e⟩:=H.all w b h1 h2
  exact List.mem_map.2 ⟨c,hc,e⟩
theorem CSpec.uniq {l:List T_api_Trace} {C C':List T_api_Clash} (H:CSpec l C) (H':CSpec l C'):C=C':=by
 have hw:C.map (·.Word)=C'.map (·.Word):=asc_ext (List.pairwise_map.2 H.asc) (List.pairwise_map.2 H'.asc) fun w=>(H.word w).trans (H'.word w).symm
 refine map_inj_eq hw fun a ha b hb e=>?_
 obtain ⟨x,r,h1,h2,h3⟩:=H.one a ha
 obtain ⟨x',r',h1',h2',h3'⟩:=H'.one b hb
 rw [← e] at h1' h2' h3'
 have g1:=h3 x' h1' (by rw [h2'];simp)
 have g2:=h3' x h1 (by rw [h2];simp)
 have hs:=lexI_swap x x'
 have hx:x=x':=(lexI_zero _ _).1 (by omega)
 rw [← hx,h2] at h2'
 injection h2' with k1 k2
 injection k2 with k2 _
 cases a;cases b
 simp only at e k1 k2
 rw [e,k1,k2]
def TrSm (l:List T_api_Trace):Prop:=l.length≤1000∧∀ t∈l,t.In.length≤1000∧t.Out.length≤1000∧(∀ a∈t.In,inR a)∧∀ a∈t.Out,inR a
theorem grpAdd_lenN (w b:List Int) (x:Int):∀ l:List Grp,(grpAdd l w b x).length≤l.length+1
 | []=>by simp [grpAdd]
 | g::l=>by
  unfold grpAdd
  split
  ·simp
  ·simp only [List.length_cons]
   have:=grpAdd_lenN w b x l
   omega
theorem grpA_lenN (l:List Grp) (t:T_api_Trace) (n:Nat):(grpA l t n).length≤l.length+n:=by
 induction n with
 | zero=>exact Nat.le_refl _
 | succ n ih =>
  unfold grpA at ih ⊢
  rw [List.range_succ,List.foldl_append]
  have:=grpAdd_lenN (t.In.take (n+1)) (t.Out.take n) ((t.Out[n]?).getD 0) (List.foldl (fun g i=>grpAdd g (t.In.take (i+1)) (t.Out.take i) ((t.Out[i]?).getD 0)) l (List.range n))
  simp only [List.foldl_cons,List.foldl_nil]
  omega
theorem grps_lenN:∀ (ts:List T_api_Trace) (l:List Grp),(∀ t∈ts,t.In.length≤1000)→(ts.foldl grpT l).length≤l.length+1000*ts.length
 | [],l,_=>by simp
 | t::ts,l,h=>by
  rw [List.foldl_cons]
  have h1:=grps_lenN ts (grpT l t) fun x hx=>h x (List.mem_cons_of_mem _ hx)
  have h2:(grpT l t).length≤l.length+min t.In.length t.Out.length:=grpA_lenN l t (min t.In.length t.Out.length)
  have h3:=h t List.mem_cons_self
  simp only [List.length_cons]
  omega
theorem Clashes_p {l:List T_api_Trace} (H:TrSm l):∃ C,nondet_Clashes l=some C∧CSpec l C:=by
 have I:=grpsN_inv l
 have hgl:(grpsN l).length≤1000000:=by
  have:=grps_lenN l [] fun t ht=>(H.2 t ht).1
  have h2:=H.1
  simp only [List.length_nil] at this
  unfold grpsN
  omega
 have two:∀ g∈grpsN l,g.2.2.length=2↔2≤(rivl l g.1 g.2.1).length:=fun g hg=>by
  obtain ⟨_,_,h3⟩:=I.ok g hg
  rw [h3,List.length_take]
  unfold rivl
  omega
 have hF:∀ g,g∈(grpsN l).filter (fun g=>decide (g.2.2.length=2))↔g∈grpsN l∧g.2.2.length=2:=fun g=>by rw [List.mem_filter,decide_eq_true_iff]
 have hfl:=List.length_filter_le (fun g:Grp=>decide (g.2.2.length=2)) (grpsN l)
 have keyi:∀ a∈grpsN l,∀ b∈grpsN l,a.1=b.1→a.2.1=b.2.1→a=b:=fun a ha b hb e1 e2=>by
  obtain ⟨_,_,h3⟩:=I.ok a ha
  obtain ⟨_,_,h3'⟩:=I.ok b hb
  obtain ⟨a1,a2,a3⟩:=a
  obtain ⟨b1,b2,b3⟩:=b
  simp only at e1 e2 h3 h3'
  rw [e1,e2,h3,h3',e1,e2]
 obtain ⟨D,e1,d1,d2,d3⟩:=rest_eq (F:=(grpsN l).filter fun g=>decide (g.2.2.length=2)) (by omega) (fun g hg=>by
  obtain ⟨hg,h2⟩:=(hF g).1 hg
  obtain ⟨k1,k2,_⟩:=I.ok g hg
  obtain ⟨x,hx⟩:=List.exists_mem_of_ne_nil _ k2
  obtain ⟨t,ht,_,p1,p2,_⟩:=gouts_mem.1 hx
  have:=p1.length_le
  have:=p2.length_le
  have:=H.2 t ht
  exact ⟨by omega,by omega,h2⟩) fun a ha b hb=>keyi a ((hF a).1 ha).1 b ((hF b).1 hb).1
 refine ⟨D.map clG,?_,?_,fun w b hf h2=>?_,fun c hc=>?_⟩
 ·unfold nondet_Clashes
  have H':=H
  unfold TrSm at H'
  rw [chk_pos H',e1]
 ·exact List.pairwise_map.2 d1
 ·have hne:gouts l w b≠[]:=fun e=>by
   have:rivl l w b=[]:=by unfold rivl;rw [e];rfl
   rw [this] at h2
   simp at h2
  obtain ⟨g,hg,rfl,rfl⟩:=I.all w b hf hne
  obtain ⟨d,hd,e,_⟩:=d3 g ((hF g).2 ⟨hg,(two g hg).2 h2⟩)
  exact ⟨clG d,List.mem_map.2 ⟨d,hd,rfl⟩,e⟩
 ·obtain ⟨d,hd,rfl⟩:=List.mem_map.1 hc
  obtain ⟨hdG,hd2⟩:=(hF d).1 (d2 d hd)
  obtain ⟨k1,k2,k3⟩:=I.ok d hdG
  have hr:=(two d hdG).1 hd2
  obtain ⟨x,y,r,hxy⟩:∃ x y r,rivl l d.1 d.2.1=x::y::r:=by
   match hq:rivl l d.1 d.2.1 with
   | []=>rw [hq] at hr;simp at hr
   | [x]=>rw [hq] at hr;simp at hr
   | x::y::r=>exact ⟨x,y,r,rfl⟩
  have hle:d.2.2=[x,y]:=by
   rw [k3]
   show (rivl l d.1 d.2.1).take 2=_
   rw [hxy]
   rfl
  refine ⟨d.2.1,r,k1,?_,fun b' hf' h2'=>?_⟩
  ·show rivl l d.1 d.2.1=(d.2.2[0]?).getD 0::(d.2.2[1]?).getD 0::r
   rw [hle,hxy]
   rfl
  ·have hne:gouts l d.1 b'≠[]:=fun e=>by
    have h2':2≤(rivl l d.1 b').length:=h2'
    have:rivl l d.1 b'=[]:=by unfold rivl;rw [e];rfl
    rw [this] at h2'
    simp at h2'
   obtain ⟨g,hg,g1,g2⟩:=I.all d.1 b' hf' hne
   obtain ⟨d',hd',e,hm⟩:=d3 g ((hF g).2 ⟨hg,(two g hg).2 (by rw [g1,g2];exact h2')⟩)
   have hdd:d'=d:=by
    have:=asc_same (List.pairwise_map.2 d1:(D.map clG).Pairwise fun a b=>cmpW a.Word b.Word=-1) (List.mem_map.2 ⟨d',hd',rfl⟩) (List.mem_map.2 ⟨d,hd,rfl⟩) (e.trans g1)
    have hw:d'.1=d.1:=e.trans g1
    obtain ⟨i,hi,rfl⟩:=List.getElem_of_mem hd'
    obtain ⟨j,hj,rfl⟩:=List.getElem_of_mem hd
    have hp:=List.pairwise_iff_getElem.1 d1
    rcases Nat.lt_trichotomy i j with k | k | k
    ·have:=hp i j hi hj k
     rw [(cmpW_zero _ _).2 hw] at this
     cases this
    ·subst k;rfl
    ·have:=hp j i hj hi k
     rw [(cmpW_zero _ _).2 hw.symm] at this
     cases this
   rw [hdd] at hm
   unfold cmpGr at hm
   rw [(cmpW_zero _ _).2 g1,if_neg (by omega),g2] at hm
   exact hm
end Go.Proofs.YtmcfpohmiabmpaaGreatDoor.Sym

/-
 Clashes: the reference, and the law.
-/
namespace Go.Proofs.YtmcfpohmiabmpaaGreatDoor.Sym
set_option maxRecDepth 100000
theorem sortW_single (xs:List Int):sortW (xs.map fun x=>[x])=(sortI xs).map fun x=>[x]:=by
 refine asc_ext (sortW_asc _) ?_ fun w=>?_
 ·unfold Asc
  rw [List.pairwise_map]
  refine (sortI_asc xs).imp fun {a b} h=>?_
  simp [cmpW,lexI,h]
 ·rw [mem_sortW]
  simp only [List.mem_map,mem_sortI]
theorem gouts_len (l:List T_api_Trace) (w b:List Int):(gouts l w b).length≤l.length:=by
 have h1:∀ t n,(oneN t n w b).length≤1:=fun t n=>by
  unfold oneN
  split
  ·simp
  ·simp
 unfold gouts
 induction l with
 | nil=>simp
 | cons t l ih =>
  rw [List.flatMap_cons,List.length_append,List.length_cons]
  have:=h1 t (stp t)
  omega
theorem R18_rivals_eq {l:List T_api_Trace} (H:TrSm l) {w b:List Int} (hw:1≤w.length):R18_rivals l w b=some (rivl l w b):=by
 unfold R18_rivals
 have hl:=H.1
 have key1:=iter_post (step:=fun (s:List (List Int)×Nat)=>R18_rivals.s2 l w b s.1 s.2) (fun s=>s.2≤l.length∧s.1=(gouts (l.take s.2) w b).map fun x=>[x]) (fun s=>l.length-s.2) (fun r=>r=(gouts l w b).map fun x=>[x]) (fun ⟨y,i⟩ ⟨g1,g2⟩=>by
  simp only at g1 g2
  subst g2
  simp only [R18_rivals.s2]
  by_cases h:i<l.length
  ·left
   have hx:=get_at h
   obtain ⟨t1,t2,_⟩:=H.2 _ (List.getElem_mem h)
   have hol:=gouts_len (l.take i) w b
   rw [List.length_take] at hol
   refine ⟨((gouts (l.take (i+1)) w b).map fun x=>[x],i+1),?_,⟨h,rfl⟩,by simp only;omega⟩
   rw [dec_lt hx,cond_true,idxn_at hx,take_step hx,gouts_snoc]
   generalize l[i]=t at *
   unfold R18_steps
   rw [obind]
   have sel:(cond (decide ((↑(List.length w):Int)≤min (↑(List.length t.In):Int) (↑(List.length t.Out):Int))) (idxn l i fun e214=>(R01_HasPrefix e214.In w).bind fun c215=>cond (c215) (idxn l i fun e217=>(R01_HasPrefix e217.Out b).bind fun c218=>some c218) (some false)) (some false):Option Bool)=some (decide (w.length≤stp t∧w <+: t.In∧b <+: t.Out)):=by
    rw [idxn_at hx,R01_HasPrefix_eq _ _ (by unfold SmW;omega),obind,idxn_at hx,R01_HasPrefix_eq _ _ (by unfold SmW;omega),obind]
    unfold stp
    by_cases a1:w.length≤min t.In.length t.Out.length
    ·rw [decide_eq_true (by omega),cond_true]
     by_cases a2:w <+: t.In
     ·rw [decide_eq_true a2,cond_true]
      simp [a1,a2]
     ·rw [decide_eq_false a2,cond_false]
      simp [a2]
    ·rw [decide_eq_false (by omega),cond_false]
     simp [a1]
   rw [sel,obind]
   unfold oneN
   by_cases a:w.length≤stp t∧w <+: t.In∧b <+: t.Out
   ·have hlo:w.length-1<t.Out.length:=by have:=a.1;unfold stp at this;omega
    have ho:=List.getElem?_eq_getElem hlo
    rw [decide_eq_true a,cond_true,idxn_at hx,idx_at (i:=w.length-1) (by omega) ho,chk_pos (by rw [List.length_map];unfold capOk;omega),if_pos a,ho,List.map_append]
    rfl
   ·rw [decide_eq_false a,cond_false,if_neg a,List.append_nil]
  ·right
   have e:i=l.length:=by omega
   subst e
   exact ⟨_,by rw [dec_end,cond_false],by rw [List.take_length]⟩) fuel ([],0) ⟨Nat.zero_le _,rfl⟩ (by have:=fuel_big;simp only;omega)
 obtain ⟨r,e1,rfl⟩:=key1
 have hol:=gouts_len l w b
 rw [e1,obind,R02_Sorted_eq ⟨by rw [List.length_map];omega,fun x hx=>by
  obtain ⟨z,_,rfl⟩:=List.mem_map.1 hx
  unfold SmW
  simp⟩,obind,sortW_single]
 have hrl:(rivl l w b).length≤l.length:=by
  have:=sortW_length ((gouts l w b).map fun x=>[x])
  rw [sortW_single,List.length_map,List.length_map] at this
  exact Nat.le_trans this hol
 have key2:=iter_post (step:=fun (s:List Int×Nat)=>R18_rivals.s4 ((sortI (gouts l w b)).map fun x=>[x]) s.1 s.2) (fun s=>s.2≤(rivl l w b).length∧s.1=(rivl l w b).take s.2) (fun s=>(rivl l w b).length-s.2) (fun r=>r=rivl l w b) (fun ⟨y,i⟩ ⟨g1,g2⟩=>by
  simp only at g1 g2
  subst g2
  simp only [R18_rivals.s4]
  have hml:((sortI (gouts l w b)).map fun x=>[x]).length=(rivl l w b).length:=by rw [List.length_map];rfl
  by_cases h:i<(rivl l w b).length
  ·left
   have hx:=get_at h
   have hx2:((sortI (gouts l w b)).map fun x=>[x])[i]?=some [(rivl l w b)[i]]:=by rw [List.getElem?_map];unfold rivl at hx ⊢;rw [hx];rfl
   have hti:((rivl l w b).take i).length≤i:=by rw [List.length_take];omega
   refine ⟨((rivl l w b).take (i+1),i+1),?_,⟨h,rfl⟩,by simp only;omega⟩
   rw [dec_lt hx2,cond_true,idxn_at hx2,idxn_at (i:=0) (x:=(rivl l w b)[i]) rfl,chk_pos (by unfold capOk;omega),take_step hx]
  ·right
   have e:i=(rivl l w b).length:=by omega
   subst e
   exact ⟨_,by rw [← hml,dec_end,cond_false],List.take_length⟩) fuel ([],0) ⟨Nat.zero_le _,rfl⟩ (by have:=fuel_big;have:=hl;simp only;omega)
 obtain ⟨r,e2,rfl⟩:=key2
 rw [e2,obind]
def befW (t:T_api_Trace) (w:List Int):List Int:=t.Out.take (w.length-1)
def Shows (l:List T_api_Trace) (w:List Int) (t:T_api_Trace):Prop:=w.length≤stp t∧w <+: t.In∧2≤(rivl l w (befW t w)).length
def BestC (l:List T_api_Trace) (w:List Int) (l1:List T_api_Trace) (best wd:List Int) (x y:Int) (f:Bool):Prop :=
 (f=false→∀ t∈l1,¬ Shows l w t)∧(f=true→wd=w∧Fitl w best∧(∃ r,rivl l w best=x::y::r)∧∀ t∈l1,Shows l w t→0≤lexI (befW t w) best)
theorem R18_clash_r {l:List T_api_Trace} (H:TrSm l) {w:List Int} (hw:1≤w.length∧w.length≤1000):∃ best wd x y f,R18_clash l w=some (⟨wd,x,y⟩,f)∧BestC l w l best wd x y f:=by
 unfold R18_clash
 have key:=iter_post (step:=fun (s:List Int×List Int×Int×Int×Bool×Nat)=>R18_clash.s8 l w s.1 s.2.1 s.2.2.1 s.2.2.2.1 s.2.2.2.2.1 s.2.2.2.2.2)
  (fun s=>s.2.2.2.2.2≤l.length∧BestC l w (l.take s.2.2.2.2.2) s.1 s.2.1 s.2.2.1 s.2.2.2.1 s.2.2.2.2.1) (fun s=>l.length-s.2.2.2.2.2) (fun r=>∃ best,BestC l w l best r.1 r.2.1 r.2.2.1 r.2.2.2) (fun ⟨best,wd,x,y,f,i⟩ ⟨g1,g2⟩=>by
   simp only at g1 g2
   simp only [R18_clash.s8]
   by_cases h:i<l.length
   ·left
    have hx:=get_at h
    obtain ⟨t1,t2,_⟩:=H.2 _ (List.getElem_mem h)
    rw [dec_lt hx,cond_true,idxn_at hx,idxn_at hx,idxn_at hx]
    have hstep:=take_step hx
    generalize l[i]=t at *
    unfold R18_steps
    rw [obind,R01_HasPrefix_eq _ _ (by unfold SmW;omega),obind]
    have keep:¬ Shows l w t→BestC l w (l.take (i+1)) best wd x y f:=fun hns=>by
     rw [hstep]
     refine ⟨fun hf t' ht'=>?_,fun hf=>⟨(g2.2 hf).1,(g2.2 hf).2.1,(g2.2 hf).2.2.1,fun t' ht' hs=>?_⟩⟩
     ·rcases List.mem_append.1 ht' with ht' | ht'
      ·exact g2.1 hf t' ht'
      ·rw [List.mem_singleton.1 ht'];exact hns
     ·rcases List.mem_append.1 ht' with ht' | ht'
      ·exact (g2.2 hf).2.2.2 t' ht' hs
      ·rw [List.mem_singleton.1 ht'] at hs;exact absurd hs hns
    have sel:(cond (decide (min (↑(List.length t.In):Int) (↑(List.length t.Out):Int)<(↑(List.length w):Int))) (some true) (some (!(decide (w <+: t.In)))):Option Bool)=some (!(decide (w.length≤stp t∧w <+: t.In))):=by
     unfold stp
     by_cases a1:w.length≤min t.In.length t.Out.length
     ·rw [decide_eq_false (by omega),cond_false]
      simp [a1]
     ·rw [decide_eq_true (by omega),cond_true]
      simp [a1]
    rw [sel,obind]
    by_cases a:w.length≤stp t∧w <+: t.In
    ·have hst:=a.1
     unfold stp at hst
     have hfit:Fitl w (befW t w):=by unfold Fitl befW;rw [List.length_take];omega
     have hbl:(befW t w).length≤1000:=by unfold Fitl at hfit;omega
     rw [decide_eq_true a]
     simp only [Bool.not_true,cond_false]
     rw [chk_pos (by omega),show Int.toNat ((↑(List.length w):Int)-1)=w.length-1 by omega]
     rw [show List.take (w.length-1) t.Out=befW t w from rfl,R18_rivals_eq H hw.1,obind]
     by_cases a2:2≤(rivl l w (befW t w)).length
     ·obtain ⟨x',y',r',hr⟩:∃ x y r,rivl l w (befW t w)=x::y::r:=by
       match hq:rivl l w (befW t w) with
       | []=>rw [hq] at a2;simp at a2
       | [z]=>rw [hq] at a2;simp at a2
       | z::z'::r=>exact ⟨z,z',r,rfl⟩
      have hshow:Shows l w t:=⟨a.1,a.2,a2⟩
      rw [decide_eq_true (by omega),cond_true,hr,R01_Lex_eq _ _ (by unfold SmW;omega),obind]
      have take_new:(f=true→lexI (befW t w) best<0)→∃ s',((chk (capOk (List.length ([]:List Unit)+List.length w) 8) (idxn (x'::y'::r') 0 fun e598=>idxn (x'::y'::r') 1 fun e599=>some (befW t w,([]++w),e598,e599,true)):Option (List Int×List Int×Int×Int×Bool)).bind fun s=>R18_clash.k7 i s.1 s.2.1 s.2.2.1 s.2.2.2.1 s.2.2.2.2)=some (.inl s')∧(s'.2.2.2.2.2≤l.length∧BestC l w (l.take s'.2.2.2.2.2) s'.1 s'.2.1 s'.2.2.1 s'.2.2.2.1 s'.2.2.2.2.1)∧l.length-s'.2.2.2.2.2<l.length-i:=fun hlt=>by
       refine ⟨(befW t w,w,x',y',true,i+1),?_,⟨h,?_⟩,by simp only;omega⟩
       ·rw [chk_pos (by simp only [List.length_nil];unfold capOk;omega),idxn_at (i:=0) (x:=x') rfl,idxn_at (i:=1) (x:=y') rfl,obind]
        rfl
       ·simp only
        rw [hstep]
        refine ⟨fun hf=>(by cases hf),fun _=>⟨rfl,hfit,⟨r',hr⟩,fun t' ht' hs=>?_⟩⟩
        rcases List.mem_append.1 ht' with ht' | ht'
        ·cases hf:f with
         | false=>exact absurd hs (g2.1 hf t' ht')
         | true =>
          have k1:=(g2.2 hf).2.2.2 t' ht' hs
          have k2:=hlt hf
          have r1:=lexI_range (befW t w) best
          have r2:=lexI_range (befW t' w) best
          have r3:=lexI_range (befW t' w) (befW t w)
          rcases r3 with r3 | r3 | r3
          ·have:=lexI_trans _ _ _ r3 (show lexI (befW t w) best=-1 by omega)
           omega
          ·omega
          ·omega
        ·rw [List.mem_singleton.1 ht',(lexI_zero _ _).2 rfl]
         omega
      cases hf:f with
      | false =>
       simp only [Bool.not_false,cond_true]
       rw [obind,cond_true]
       exact take_new (fun e=>by rw [hf] at e;cases e)
      | true =>
       simp only [Bool.not_true,cond_false]
       rw [obind]
       by_cases a3:lexI (befW t w) best<0
       ·rw [decide_eq_true a3,cond_true]
        exact take_new fun _=>a3
       ·rw [decide_eq_false a3,cond_false]
        refine ⟨(best,wd,x,y,true,i+1),rfl,⟨h,?_⟩,by simp only;omega⟩
        simp only
        rw [hstep]
        refine ⟨fun e=>(by cases e),fun _=>⟨(g2.2 hf).1,(g2.2 hf).2.1,(g2.2 hf).2.2.1,fun t' ht' hs=>?_⟩⟩
        rcases List.mem_append.1 ht' with ht' | ht'
        ·exact (g2.2 hf).2.2.2 t' ht' hs
        ·rw [List.mem_singleton.1 ht']
         omega
     ·rw [decide_eq_false (by omega),cond_false,obind,cond_false]
      exact ⟨(best,wd,x,y,f,i+1),rfl,⟨h,keep fun hs=>a2 hs.2.2⟩,by simp only;omega⟩
    ·rw [decide_eq_false a]
     simp only [Bool.not_false,cond_true]
     exact ⟨(best,wd,x,y,f,i+1),rfl,⟨h,keep fun hs=>a ⟨hs.1,hs.2.1⟩⟩,by simp only;omega⟩
   ·right
    have e:i=l.length:=by omega
    subst e
    rw [List.take_length] at g2
    exact ⟨_,by rw [dec_end,cond_false],best,g2⟩) fuel ([],[],0,0,false,0) ⟨Nat.zero_le _,fun _ t ht=>by simp at ht,fun e=>by cases e⟩ (by have:=fuel_big;have:=H.1;simp only;omega)
 obtain ⟨⟨wd,x,y,f⟩,e1,best,hb⟩:=key
 rw [e1,obind]
 exact ⟨best,wd,x,y,f,rfl,hb⟩
def wordsT (t:T_api_Trace) (n:Nat):List (List Int):=(List.range n).map fun i=>t.In.take (i+1)
def wordsL (l:List T_api_Trace):List (List Int):=l.flatMap fun t=>wordsT t (stp t)
theorem wordsT_succ (t:T_api_Trace) (n:Nat):wordsT t (n+1)=wordsT t n++[t.In.take (n+1)]:=by
 unfold wordsT
 rw [List.range_succ,List.map_append]
 rfl
theorem wordsT_len (t:T_api_Trace) (n:Nat):(wordsT t n).length=n:=by unfold wordsT;simp
theorem mem_wordsL {l:List T_api_Trace} {w:List Int}:w∈wordsL l↔∃ t∈l,1≤w.length∧w.length≤stp t∧w <+: t.In:=by
 unfold wordsL wordsT
 simp only [List.mem_flatMap,List.mem_map,List.mem_range]
 constructor
 ·rintro ⟨t,ht,i,hi,rfl⟩
  have hi2:i<min t.In.length t.Out.length:=hi
  refine ⟨t,ht,?_,?_,List.take_prefix _ _⟩
  ·rw [List.length_take];omega
  ·rw [List.length_take];unfold stp;omega
 ·rintro ⟨t,ht,h1,h2,h3⟩
  exact ⟨t,ht,w.length-1,by omega,by rw [show w.length-1+1=w.length by omega];exact (List.prefix_iff_eq_take.1 h3).symm⟩
theorem wordsL_len:∀ {l:List T_api_Trace},(∀ t∈l,t.In.length≤1000)→(wordsL l).length≤1000*l.length
 | [],_=>by simp [wordsL]
 | t::l,h=>by
  have ih:=wordsL_len (l:=l) fun t ht=>h t (List.mem_cons_of_mem _ ht)
  have h1:=h t List.mem_cons_self
  have:wordsL (t::l)=wordsT t (stp t)++wordsL l:=by unfold wordsL;rw [List.flatMap_cons]
  rw [this,List.length_append,wordsT_len,List.length_cons]
  unfold stp
  omega
theorem R18_words {l:List T_api_Trace} (H:TrSm l):iter (fun (s:List (List Int)×Nat)=>R18_Clashes.s14 l s.1 s.2) fuel ([],0)=some (wordsL l):=by
 have key:=iter_post (step:=fun (s:List (List Int)×Nat)=>R18_Clashes.s14 l s.1 s.2) (fun s=>s.2≤l.length∧s.1=wordsL (l.take s.2)) (fun s=>l.length-s.2) (fun r=>r=wordsL l) (fun ⟨ys,i⟩ ⟨g1,g2⟩=>by
  simp only at g1 g2
  subst g2
  simp only [R18_Clashes.s14]
  by_cases h:i<l.length
  ·left
   have hx:=get_at h
   obtain ⟨t1,t2,_⟩:=H.2 _ (List.getElem_mem h)
   have hl:=H.1
   have hwl:=wordsL_len (l:=l.take i) fun t ht=>(H.2 t (List.mem_of_mem_take ht)).1
   rw [List.length_take] at hwl
   have inner:=iter_post (step:=fun (s:List (List Int)×Nat)=>R18_Clashes.s13 l i s.1 s.2) (fun s=>1≤s.2∧s.2≤stp l[i]+1∧s.1=wordsL (l.take i)++wordsT l[i] (s.2-1)) (fun s=>stp l[i]+2-s.2) (fun r=>r=wordsL (l.take i)++wordsT l[i] (stp l[i])) (fun ⟨zs,n⟩ ⟨k1,k2,k3⟩=>by
    simp only at k1 k2 k3
    subst k3
    simp only [R18_Clashes.s13]
    rw [idxn_at hx,idxn_at hx]
    generalize l[i]=t at *
    unfold R18_steps
    rw [obind]
    have hst:stp t=min t.In.length t.Out.length:=rfl
    by_cases hn:n≤stp t
    ·left
     obtain ⟨m,rfl⟩:∃ m,n=m+1:=⟨n-1,by omega⟩
     have hwt:=wordsT_len t (m+1-1)
     refine ⟨(wordsL (l.take i)++wordsT t (m+1),m+2),?_,⟨by simp only;omega,by simp only;omega,rfl⟩,by simp only;omega⟩
     rw [decide_eq_true (by omega),cond_true,chk_pos (by omega),chk_pos (by rw [List.length_append];unfold capOk;omega),chk_pos (by unfold inR;omega),wordsT_succ,← List.append_assoc]
     rfl
    ·right
     refine ⟨_,by rw [decide_eq_false (by omega),cond_false],?_⟩
     rw [show n-1=stp t by omega]) fuel (wordsL (l.take i),1) ⟨Nat.le_refl _,by simp only;omega,by simp [wordsT]⟩ (by have:=fuel_big;simp only;unfold stp;omega)
   obtain ⟨r,e,rfl⟩:=inner
   refine ⟨(wordsL (l.take (i+1)),i+1),?_,⟨h,rfl⟩,by simp only;omega⟩
   rw [dec_lt hx,cond_true,e,obind,take_step hx]
   congr 3
   unfold wordsL
   rw [List.flatMap_append]
   simp
  ·right
   have e:i=l.length:=by omega
   subst e
   exact ⟨_,by rw [dec_end,cond_false],by rw [List.take_length]⟩) fuel ([],0) ⟨Nat.zero_le _,rfl⟩ (by have:=fuel_big;have:=H.1;simp only;omega)
 obtain ⟨r,e,rfl⟩:=key
 exact e
theorem Clashes_r {l:List T_api_Trace} (H:TrSm l):∃ C,R18_Clashes l=some C∧CSpec l C:=by
 unfold R18_Clashes
 have hwl:=wordsL_len fun t ht=>(H.2 t ht).1
 have hl:=H.1
 have hml:∀ w∈wordsL l,1≤w.length∧w.length≤1000:=fun w hw=>by
  obtain ⟨t,ht,h1,h2,h3⟩:=mem_wordsL.1 hw
  have:=h3.length_le
  have:=(H.2 t ht).1
  exact ⟨h1,by omega⟩
 rw [R18_words H,obind,R02_Sorted_eq ⟨by omega,fun w hw=>by have:=(hml w hw).2;unfold SmW;omega⟩,obind]
 have hsl:=sortW_length (wordsL l)
 have hm:∀ w,w∈sortW (wordsL l)↔w∈wordsL l:=mem_sortW _
 have hasc:=sortW_asc (wordsL l)
 generalize hW:sortW (wordsL l)=W at *
 have key:=iter_post (step:=fun (s:List T_api_Clash×Nat)=>R18_Clashes.s16 l W s.1 s.2)
  (fun s=>s.2≤W.length∧s.1.length≤s.2∧(s.1.Pairwise fun a b=>cmpW a.Word b.Word=-1)∧(∀ c∈s.1,c.Word∈W.take s.2)∧(∀ w∈W.take s.2,∀ b,Fitl w b→2≤(rivl l w b).length→∃ c∈s.1,c.Word=w)∧∀ c∈s.1,∃ b r,Fitl c.Word b∧rivl l c.Word b=c.First::c.Second::r∧∀ b',Fitl c.Word b'→2≤(rivl l c.Word b').length→0≤lexI b' b)
  (fun s=>W.length-s.2) (fun C=>CSpec l C) (fun ⟨C,i⟩ ⟨g1,g0,g2,g3,g4,g5⟩=>by
   simp only at g1 g0 g2 g3 g4 g5
   simp only [R18_Clashes.s16]
   by_cases h:i<W.length
   ·left
    have hx:=get_at h
    have hw:=hml _ ((hm _).1 (List.getElem_mem h))
    obtain ⟨best,wd,x,y,f,e,hb⟩:=R18_clash_r H hw
    rw [dec_lt hx,cond_true,idxn_at hx,e,obind]
    -- a word's outputs before come of some trace
    have hsrc:∀ b,Fitl W[i] b→2≤(rivl l W[i] b).length→∃ t∈l,Shows l W[i] t∧b=befW t W[i]:=fun b hf h2=>by
     obtain ⟨t,ht,k1,k2,k3⟩:=rivl_ne (show 0<(rivl l W[i] b).length by omega)
     have hbb:b=befW t W[i]:=by
      unfold befW
      unfold Fitl at hf
      rw [show W[i].length-1=b.length by omega]
      exact List.prefix_iff_eq_take.1 k3
     exact ⟨t,ht,⟨k1,k2,by rw [← hbb];exact h2⟩,hbb⟩
    cases f with
    | false =>
     refine ⟨(C,i+1),by simp only [cond_false],⟨h,by simp only;omega,g2,fun c hc=>?_,fun w hw' b hf h2=>?_,g5⟩,by simp only;omega⟩
     ·simp only
      rw [take_step hx]
      exact List.mem_append_left _ (g3 c hc)
     ·simp only at hw'
      rw [take_step hx] at hw'
      rcases List.mem_append.1 hw' with hw' | hw'
      ·exact g4 w hw' b hf h2
      ·rw [List.mem_singleton.1 hw'] at hf h2
       obtain ⟨t,ht,hs,_⟩:=hsrc b hf h2
       exact absurd hs (hb.1 rfl t ht)
    | true =>
     obtain ⟨rfl,k1,⟨r,k2⟩,k3⟩:=hb.2 rfl
     refine ⟨(C++[⟨W[i],x,y⟩],i+1),?_,⟨h,by simp only [List.length_append,List.length_cons,List.length_nil];omega,?_,fun c hc=>?_,fun w hw' b hf h2=>?_,fun c hc=>?_⟩,by simp only;omega⟩
     ·simp only [cond_true]
      rw [chk_pos (by unfold capOk;omega)]
     ·simp only
      refine List.pairwise_append.2 ⟨g2,by simp,fun a ha b hb'=>?_⟩
      rw [List.mem_singleton.1 hb']
      obtain ⟨j,hj⟩:=List.getElem?_of_mem (g3 a ha)
      have hji:j<i:=by have:=(List.getElem?_eq_some_iff.1 hj).1;simp at this;omega
      have hja:W[j]?=some a.Word:=by rw [List.getElem?_take] at hj;rw [if_pos hji] at hj;exact hj
      have hjl:j<W.length:=by omega
      have hja':W[j]=a.Word:=by rw [List.getElem?_eq_getElem hjl] at hja;exact Option.some.inj hja
      have:=(List.pairwise_iff_getElem.1 hasc) j i hjl h hji
      rw [hja'] at this
      exact this
     ·simp only at hc ⊢
      rw [take_step hx]
      rcases List.mem_append.1 hc with hc | hc
      ·exact List.mem_append_left _ (g3 c hc)
      ·rw [List.mem_singleton.1 hc]
       exact List.mem_append_right _ (List.mem_singleton.2 rfl)
     ·simp only at hw' ⊢
      rw [take_step hx] at hw'
      rcases List.mem_append.1 hw' with hw' | hw'
      ·obtain ⟨c,hc,e⟩:=g4 w hw' b hf h2
       exact ⟨c,List.mem_append_left _ hc,e⟩
      ·exact ⟨_,List.mem_append_right _ (List.mem_singleton.2 rfl),(List.mem_singleton.1 hw').symm⟩
     ·simp only at hc
      rcases List.mem_append.1 hc with hc | hc
      ·exact g5 c hc
      ·rw [List.mem_singleton.1 hc]
       refine ⟨best,r,k1,k2,fun b' hf' h2'=>?_⟩
       obtain ⟨t,ht,hs,hbb⟩:=hsrc b' hf' h2'
       rw [hbb]
       exact k3 t ht hs
   ·right
    have e:i=W.length:=by omega
    subst e
    rw [List.take_length] at g4
    refine ⟨C,by rw [dec_end,cond_false],g2,fun w b hf h2=>?_,g5⟩
    obtain ⟨t,ht,p1,p2,_⟩:=rivl_ne (show 0<(rivl l w b).length by omega)
    exact g4 w ((hm w).2 (mem_wordsL.2 ⟨t,ht,by unfold Fitl at hf;omega,p1,p2⟩)) b hf h2) fuel ([],0) ⟨Nat.zero_le _,Nat.le_refl _,List.Pairwise.nil,fun c hc=>(by cases hc),fun w hw=>by simp at hw,fun c hc=>(by cases hc)⟩ (by have:=fuel_big;simp only;omega)
 obtain ⟨C,e,hC⟩:=key
 refine ⟨C,?_,hC⟩
 rw [e,obind]
theorem Clashes_eq {l:List T_api_Trace} (H:TrSm l):∃ C,nondet_Clashes l=some C∧R18_Clashes l=some C∧CSpec l C:=by
 obtain ⟨C,e1,h1⟩:=Clashes_p H
 obtain ⟨C',e2,h2⟩:=Clashes_r H
 exact ⟨C,e1,by rw [e2,h2.uniq h1],h1⟩
theorem few_r (l:List T_api_Trace):∃ b,L18_few l=some b∧(b=true→l.length≤16∧∀ t∈l,t.In.length≤16∧t.Out.length≤16):=by
 unfold L18_few
 have key:=iter_post (step:=fun s=>L18_few.s2 l s) (fun k=>k≤l.length∧k≤17∧∀ t∈l.take k,t.In.length≤16∧t.Out.length≤16) (fun k=>18-k)
  (fun r=>match r with | .inl ()=>l.length≤16→∀ t∈l,t.In.length≤16∧t.Out.length≤16 | .inr b=>b=false) (fun k ⟨g1,g2,g3⟩=>by
   simp only [L18_few.s2]
   by_cases h:k<l.length
   ·have hx:=get_at h
    rw [dec_lt hx,cond_true,obind]
    by_cases h2:k<17
    ·rw [decide_eq_true (by omega:(↑k:Int)<17),cond_true,idxn_at hx,idxn_at hx]
     have hst:=take_step hx
     generalize l[k]=t at *
     by_cases h3:16<t.In.length
     ·right
      exact ⟨.inr false,by rw [decide_eq_true (by omega),cond_true,obind,cond_true],rfl⟩
     ·rw [decide_eq_false (by omega),cond_false,obind]
      by_cases h4:16<t.Out.length
      ·right
       exact ⟨.inr false,by rw [decide_eq_true (by omega),cond_true],rfl⟩
      ·left
       refine ⟨k+1,by rw [decide_eq_false (by omega),cond_false,chk_pos (by unfold inR;omega)],⟨h,by omega,fun x hx'=>?_⟩,by omega⟩
       rw [hst] at hx'
       rcases List.mem_append.1 hx' with hx' | hx'
       ·exact g3 x hx'
       ·rw [List.mem_singleton.1 hx'];omega
    ·right
     exact ⟨.inl (),by rw [decide_eq_false (by omega:¬ (↑k:Int)<17),cond_false],fun h4=>by omega⟩
   ·right
    have e:k=l.length:=by omega
    subst e
    refine ⟨.inl (),by rw [dec_end,cond_false,obind,cond_false],fun _ x hx=>g3 x (by rw [List.take_length];exact hx)⟩) fuel 0 ⟨Nat.zero_le _,by omega,by simp⟩
 obtain ⟨r,e,hq⟩:=key (by have:=fuel_big;omega)
 rw [e,obind]
 cases r with
 | inl u =>
  have hq:l.length≤16→∀ t∈l,t.In.length≤16∧t.Out.length≤16:=hq
  refine ⟨_,rfl,fun hb=>?_⟩
  have:=of_decide_eq_true hb
  exact ⟨by omega,hq (by omega)⟩
 | inr b =>
  have hq:b=false:=hq
  exact ⟨_,rfl,fun hb=>by rw [hq] at hb;cases hb⟩
theorem nodup_len {α:Type} [DecidableEq α]:∀ {a b:List α},a.Nodup→(∀ x∈a,x∈b)→a.length≤b.length
 | [],_,_,_=>Nat.zero_le _
 | x::a,b,hn,h=>by
  obtain ⟨h1,h2⟩:=List.nodup_cons.1 hn
  have hx:=h x List.mem_cons_self
  have:=nodup_len (a:=a) (b:=b.erase x) h2 fun y hy=>(List.mem_erase_of_ne (fun e=>h1 (by rw [← e];exact hy))).2 (h y (List.mem_cons_of_mem _ hy))
  rw [List.length_erase_of_mem hx] at this
  have hp:=List.length_pos_of_mem hx
  rw [List.length_cons]
  omega
theorem CSpec.small {l:List T_api_Trace} (H:TrSm l) {C:List T_api_Clash} (hC:CSpec l C):(∀ c∈C,1≤c.Word.length∧c.Word.length≤1000∧c.Word∈wordsL l)∧C.length≤1000000:=by
 have h1:∀ c∈C,1≤c.Word.length∧c.Word.length≤1000∧c.Word∈wordsL l:=fun c hc=>by
  obtain ⟨b,r,k1,k2,_⟩:=hC.one c hc
  obtain ⟨t,ht,p1,p2,p3⟩:=rivl_ne (show 0<(rivl l c.Word b).length by rw [k2];simp)
  have:=p2.length_le
  have:=(H.2 t ht).1
  unfold Fitl at k1
  exact ⟨by omega,by omega,mem_wordsL.2 ⟨t,ht,by omega,p1,p2⟩⟩
 refine ⟨h1,?_⟩
 have hnd:(C.map (·.Word)).Nodup:=(List.pairwise_map.2 hC.asc:(C.map (·.Word)).Pairwise fun a b=>cmpW a b=-1).imp fun {a b} h e=>by
  rw [(cmpW_zero a b).2 e] at h
  cases h
 have hsub:∀ w∈C.map (·.Word),w∈wordsL l:=fun w hw=>by
  obtain ⟨c,hc,rfl⟩:=List.mem_map.1 hw
  exact (h1 c hc).2.2
 have hs:=nodup_len hnd hsub
 have hw:=wordsL_len fun t ht=>(H.2 t ht).1
 have:=H.1
 rw [List.length_map] at hs
 omega
end Go.Proofs.YtmcfpohmiabmpaaGreatDoor.Sym

/-
 Observations that grow: the program's Add is the document's, and keeps valid observations valid. Plain laws.
-/
namespace Go.Proofs.YtmcfpohmiabmpaaGreatDoor.Sym
set_option maxRecDepth 100000
theorem scan_idx {α:Type} {p:α→Bool}:∀ (l:List α) (j:Nat),scan (fun i x=>if p x=true then some (↑i:Int) else none) j l=if l.any p=true then some (↑(j+l.findIdx p):Int) else none
 | [],_=>rfl
 | x::l,j=>by
  unfold scan
  by_cases h:p x=true
  ·simp [h,List.findIdx_cons]
  ·have hf:p x=false:=by simpa using h
   rw [if_neg h]
   simp only
   rw [scan_idx l (j+1)]
   simp only [List.any_cons,hf,Bool.false_or,List.findIdx_cons,cond_false]
   split
   ·congr 2
    omega
   ·rfl
theorem find_idx {α:Type} {p:α→Bool}:∀ (l:List α),l.find? p=if l.any p=true then l[l.findIdx p]? else none
 | []=>rfl
 | x::l=>by
  by_cases h:p x=true
  ·simp [h,List.findIdx_cons]
  ·have hf:p x=false:=by simpa using h
   rw [List.find?_cons_of_neg (by simp [hf]),find_idx l]
   simp [hf,List.findIdx_cons]
theorem tindex_eq {l:List T_api_Trace} {f:T_api_Trace→Option Bool} {p:T_api_Trace→Bool} (hl:l.length≤100000000000000) (hf:∀ x∈l,f x=some (p x)) :
  slices_IndexFunc_Sapi_Trace_api_Trace_n1 l f=some (if l.any p=true then (↑(l.findIdx p):Int) else -1):=by
 unfold slices_IndexFunc_Sapi_Trace_api_Trace_n1
 have key:=iter_scan (step:=fun s=>slices_IndexFunc_Sapi_Trace_api_Trace_n1.s2 l f s) (l:=l) (fun i x=>if p x=true then some (↑i:Int) else none) (fun i x hx=>by
  simp only [slices_IndexFunc_Sapi_Trace_api_Trace_n1.s2]
  rw [dec_lt hx,cond_true,idxn_at hx,hf x (List.mem_of_getElem? hx),obind]
  cases p x<;>rfl) (by
  simp only [slices_IndexFunc_Sapi_Trace_api_Trace_n1.s2]
  rw [dec_end]
  rfl) hl
 rw [key,scan_idx,obind]
 by_cases h:l.any p=true
 ·rw [if_pos h,if_pos h,Nat.zero_add]
  rfl
 ·rw [if_neg h,if_neg h]
  rfl
theorem cindex_eq {l:List Int} {f:Int→Option Bool} {p:Int→Bool} (hl:l.length≤100000000000000) (hf:∀ x∈l,f x=some (p x)) :
  slices_ContainsFunc_Sint_int l f=some (l.any p):=by
 unfold slices_ContainsFunc_Sint_int slices_IndexFunc_Sint_int
 have key:=iter_scan (step:=fun s=>slices_IndexFunc_Sint_int.s2 l f s) (l:=l) (fun i x=>if p x=true then some (↑i:Int) else none) (fun i x hx=>by
  simp only [slices_IndexFunc_Sint_int.s2]
  rw [dec_lt hx,cond_true,idxn_at hx,hf x (List.mem_of_getElem? hx),obind]
  cases p x<;>rfl) (by
  simp only [slices_IndexFunc_Sint_int.s2]
  rw [dec_end]
  rfl) hl
 rw [key,scan_idx]
 by_cases h:l.any p=true
 ·rw [if_pos h,h]
  simp
 ·have h':l.any p=false:=by simpa using h
  rw [if_neg h,h']
  rfl
def propI (t:T_api_Trace) (n:Int):Int :=
 if checkI t.In n≠0 then checkI t.In n else if t.Out.length≠t.In.length then 1 else if (t.Out.all fun y=>decide (0≤y∧y≤1048576))=true then 0 else 2
theorem propI_zero {t:T_api_Trace} {n:Int}:propI t n=0↔PropT n t:=by
 unfold propI PropT
 by_cases h1:checkI t.In n=0
 ·rw [if_neg (by simpa using h1)]
  by_cases h2:t.Out.length=t.In.length
  ·rw [if_neg (by simpa using h2)]
   by_cases h3:(t.Out.all fun y=>decide (0≤y∧y≤1048576))=true
   ·rw [if_pos h3]
    exact ⟨fun _=>⟨h1,h2,fun y hy=>of_decide_eq_true (List.all_eq_true.1 h3 y hy)⟩,fun _=>rfl⟩
   ·rw [if_neg h3]
    exact ⟨fun h=>(by cases h),fun h=>absurd (List.all_eq_true.2 fun y hy=>decide_eq_true (h.2.2 y hy)) h3⟩
  ·rw [if_pos h2]
   exact ⟨fun h=>(by cases h),fun h=>absurd h.2.1 h2⟩
 ·rw [if_pos h1]
  exact ⟨fun h=>absurd h h1,fun h=>absurd h.1 h1⟩
theorem R16_Proper_eq (t:T_api_Trace) (n:Int) (h1:SmW t.In) (h2:SmW t.Out):R16_Proper t n=some (propI t n):=by
 unfold R16_Proper propI
 rw [R01_Check_eq _ _ h1,obind]
 by_cases g1:checkI t.In n=0
 ·rw [decide_eq_false (by simpa using g1),cond_false,if_neg (by simpa using g1)]
  by_cases g2:t.Out.length=t.In.length
  ·rw [decide_eq_false (by omega),cond_false,if_neg (by simpa using g2)]
   have key:=iter_scan (step:=fun s=>R16_Proper.s2 t s) (l:=t.Out) (fun _ y=>if decide (0≤y∧y≤1048576)=true then none else some (2:Int)) (fun i y hy=>by
    simp only [R16_Proper.s2]
    rw [dec_lt hy,cond_true,idxn_at hy,idxn_at hy]
    by_cases a1:y<0
    ·rw [decide_eq_true a1,cond_true,obind,cond_true,decide_eq_false (show ¬ (0≤y∧y≤1048576) by omega)];rfl
    ·by_cases a2:1048576<y
     ·rw [decide_eq_false a1,cond_false,decide_eq_true a2,obind,cond_true,decide_eq_false (show ¬ (0≤y∧y≤1048576) by omega)];rfl
     ·rw [decide_eq_false a1,cond_false,decide_eq_false a2,obind,cond_false,decide_eq_true (show (0≤y∧y≤1048576) by omega)];rfl) (by
    simp only [R16_Proper.s2]
    rw [dec_end]
    rfl) (by unfold SmW at h2;omega)
   rw [key,scan_all (p:=fun y=>decide (0≤y∧y≤1048576)),obind]
   by_cases h:(t.Out.all fun y=>decide (0≤y∧y≤1048576))=true
   ·rw [if_pos h,if_pos h]
    rfl
   ·rw [if_neg h,if_neg h]
    rfl
  ·rw [decide_eq_true (by omega),cond_true,if_pos g2]
 ·rw [decide_eq_true g1,cond_true,if_pos g1]
theorem observe_proper_eq (t:T_api_Trace) (n:Int) (h1:SmW t.In) (h2:SmW t.Out):observe_proper t n=some (propI t n):=by
 unfold observe_proper propI
 rw [word_Check_eq _ _ h1,obind]
 by_cases g1:checkI t.In n=0
 ·rw [decide_eq_false (by simpa using g1),cond_false,if_neg (by simpa using g1)]
  by_cases g2:t.Out.length=t.In.length
  ·rw [decide_eq_false (by omega),cond_false,if_neg (by simpa using g2)]
   rw [cindex_eq (p:=fun y=>!decide (0≤y∧y≤1048576)) (by unfold SmW at h2;omega) fun y _=>by
    unfold observe_proper_1
    by_cases a1:y<0
    ·rw [decide_eq_true a1,cond_true,obind,decide_eq_false (show ¬ (0≤y∧y≤1048576) by omega)];rfl
    ·by_cases a2:1048576<y
     ·rw [decide_eq_false a1,cond_false,decide_eq_true a2,obind,decide_eq_false (show ¬ (0≤y∧y≤1048576) by omega)];rfl
     ·rw [decide_eq_false a1,cond_false,decide_eq_false a2,obind,decide_eq_true (show (0≤y∧y≤1048576) by omega)];rfl,obind]
   by_cases h:(t.Out.all fun y=>decide (0≤y∧y≤1048576))=true
   ·have h':(t.Out.any fun y=>!decide (0≤y∧y≤1048576))=false:=by
     rw [List.any_eq_false]
     intro y hy
     have:=List.all_eq_true.1 h y hy
     simp only [this,Bool.not_true]
     exact Bool.false_ne_true
    rw [h',cond_false,if_pos h]
   ·have h':(t.Out.any fun y=>!decide (0≤y∧y≤1048576))=true:=by
     refine Classical.byContradiction fun hn=>h (List.all_eq_true.2 fun y hy=>?_)
     refine Classical.byContradiction fun hm=>hn (List.any_eq_true.2 ⟨y,hy,?_⟩)
     have:decide (0≤y∧y≤1048576)=false:=by simpa only [Bool.not_eq_true] using hm
     rw [this]
     rfl
    rw [h',cond_true,if_neg h]
  ·rw [decide_eq_true (by omega),cond_true,if_pos g2]
 ·rw [decide_eq_true g1,cond_true,if_pos g1]
theorem common_comm:∀ a b:List Int,common a b=common b a
 | [],[]=>rfl
 | [],_::_=>rfl
 | _::_,[]=>rfl
 | x::a,y::b=>by
  unfold common
  by_cases h:x=y
  ·rw [if_pos h,if_pos h.symm,common_comm a b]
  ·rw [if_neg h,if_neg fun e=>h e.symm]
theorem Agree.symm {a b:T_api_Trace} (h:Agree a b):Agree b a:=by
 unfold Agree at h ⊢
 rw [common_comm]
 exact h.symm
theorem common_eq_iff {x y:List Int} (h:x.length=y.length):common x y=y.length↔x=y:=by
 rw [prefix_iff]
 exact ⟨fun hp=>(hp.eq_of_length h.symm).symm,fun e=>e ▸ List.prefix_refl _⟩
theorem observe_differ_iff (a b:T_api_Trace) {n:Int} (ha:PropT n a) (hb:PropT n b) (h1:SmW a.In):∃ d,observe_differ a b=some d∧(0≤d↔¬ Agree a b):=by
 have h1':a.In.length≤2000000:=h1
 have hc:=common_le a.In b.In
 have la:=ha.2.1
 have lb:=hb.2.1
 unfold observe_differ
 rw [word_Common_eq _ _ h1,obind]
 have hm:min (min (↑(common a.In b.In):Int) (↑(List.length a.Out):Int)) (↑(List.length b.Out):Int)=↑(common a.In b.In):=by omega
 rw [hm,chk_pos (by omega),chk_pos (by omega),Int.toNat_natCast,word_Common_eq _ _ (by unfold SmW;rw [List.length_take];omega),obind]
 have l1:(a.Out.take (common a.In b.In)).length=common a.In b.In:=by rw [List.length_take];omega
 have l2:(b.Out.take (common a.In b.In)).length=common a.In b.In:=by rw [List.length_take];omega
 have hle:=common_le (a.Out.take (common a.In b.In)) (b.Out.take (common a.In b.In))
 have hiff:=common_eq_iff (x:=a.Out.take (common a.In b.In)) (y:=b.Out.take (common a.In b.In)) (by omega)
 by_cases h:common (a.Out.take (common a.In b.In)) (b.Out.take (common a.In b.In))<common a.In b.In
 ·rw [decide_eq_true (by omega),cond_true]
  exact ⟨_,rfl,fun _ hA=>by have:=hiff.2 hA;omega,fun _=>by omega⟩
 ·rw [decide_eq_false (by omega),cond_false]
  exact ⟨-1,rfl,fun h=>absurd h (by decide),fun hA=>absurd (hiff.1 (by omega)) hA⟩
def clashO (l:List T_api_Trace) (t:T_api_Trace):Prop:=∃ u∈l,¬ Agree u t
def insideO (l:List T_api_Trace) (w:List Int):Bool:=l.any fun u=>decide (w <+: u.In)
def insT:List T_api_Trace→T_api_Trace→List T_api_Trace
 | [],t=>[t]
 | x::r,t=>if cmpW t.In x.In=-1 then t::x::r else x::insT r t
def restT (l:List T_api_Trace) (t:T_api_Trace):List T_api_Trace:=l.filter fun u=>!decide (u.In <+: t.In)
def addL (l:List T_api_Trace) (t:T_api_Trace):List T_api_Trace:=if insideO l t.In=true∨t.In=[] then l else insT (restT l t) t
instance (a b:T_api_Trace):Decidable (Agree a b):=by unfold Agree;infer_instance
instance (l:List T_api_Trace) (t:T_api_Trace):Decidable (clashO l t):=by unfold clashO;infer_instance
def addO (o:T_api_Obs) (t:T_api_Trace):T_api_Obs×Int :=
 if propI t o.Inputs≠0 then (o,propI t o.Inputs) else if clashO o.Traces t then (o,13) else if 10000<(addL o.Traces t).length then (o,11) else (⟨o.Inputs,addL o.Traces t⟩,0)
theorem insT_length (l:List T_api_Trace) (t:T_api_Trace):(insT l t).length=l.length+1:=by
 induction l with
 | nil=>rfl
 | cons x r ih =>
  unfold insT
  split
  ·rfl
  ·simp [ih]
theorem restT_length (l:List T_api_Trace) (t:T_api_Trace):(restT l t).length≤l.length:=List.length_filter_le _ _
theorem addL_length (l:List T_api_Trace) (t:T_api_Trace):(addL l t).length≤l.length+1:=by
 unfold addL
 split
 ·omega
 ·rw [insT_length]
  have:=restT_length l t
  omega
theorem mem_insT {l:List T_api_Trace} {t x:T_api_Trace}:x∈insT l t↔x=t∨x∈l:=by
 induction l with
 | nil=>simp [insT]
 | cons y r ih =>
  unfold insT
  split
  ·simp
  ·simp only [List.mem_cons,ih]
   constructor
   ·rintro (h | h | h)
    ·exact .inr (.inl h)
    ·exact .inl h
    ·exact .inr (.inr h)
   ·rintro (h | h | h)
    ·exact .inr (.inl h)
    ·exact .inl h
    ·exact .inr (.inr h)
theorem insT_at:∀ {l:List T_api_Trace} {t:T_api_Trace} {k:Nat},k≤l.length→(∀ j x,j<k→l[j]?=some x→cmpW x.In t.In=-1)→(∀ x,l[k]?=some x→cmpW x.In t.In≠-1)→(∀ x∈l,x.In≠t.In)→insT l t=l.take k++[t]++l.drop k
 | [],t,k,hk,_,_,_=>by
  have:k=0:=by simpa using hk
  subst this
  rfl
 | x::r,t,0,_,_,h2,h3=>by
  have h4:=h2 x rfl
  have h5:=h3 x (by simp)
  have r1:=cmpW_range x.In t.In
  have z1:=cmpW_zero x.In t.In
  have s1:=cmpW_swap x.In t.In
  have h6:¬ cmpW x.In t.In=0:=fun e=>h5 (z1.1 e)
  unfold insT
  rw [if_pos (by omega)]
  rfl
 | x::r,t,k+1,hk,h1,h2,h3=>by
  have h4:=h1 0 x (Nat.succ_pos _) rfl
  have s1:=cmpW_swap x.In t.In
  unfold insT
  rw [if_neg (by omega),insT_at (k:=k) (by simpa using hk) (fun j y hj hy=>h1 (j+1) y (by omega) (by simpa using hy)) (fun y hy=>h2 y (by simpa using hy)) fun y hy=>h3 y (by simp [hy])]
  rfl
theorem insT_pair {S:T_api_Trace→T_api_Trace→Prop} {t:T_api_Trace}:∀ {l:List T_api_Trace},l.Pairwise S→(∀ x∈l,S x t∧S t x)→(insT l t).Pairwise S
 | [],_,_=>by simp [insT]
 | x::r,h,ht=>by
  unfold insT
  have hx:=List.pairwise_cons.1 h
  split
  ·exact List.pairwise_cons.2 ⟨fun y hy=>(ht y hy).2,h⟩
  ·refine List.pairwise_cons.2 ⟨fun y hy=>?_,insT_pair hx.2 fun y hy=>ht y (by simp [hy])⟩
   rcases mem_insT.1 hy with e | e
   ·subst e
    exact (ht x (by simp)).1
   ·exact hx.1 y e
theorem insT_asc {t:T_api_Trace}:∀ {l:List T_api_Trace},l.Pairwise (fun a b=>cmpW a.In b.In=-1)→(∀ x∈l,x.In≠t.In)→(insT l t).Pairwise (fun a b=>cmpW a.In b.In=-1)
 | [],_,_=>by simp [insT]
 | x::r,h,hn=>by
  unfold insT
  have hx:=List.pairwise_cons.1 h
  split
  ·rename_i h1
   refine List.pairwise_cons.2 ⟨fun y hy=>?_,h⟩
   rcases List.mem_cons.1 hy with e | e
   ·rw [e]
    exact h1
   ·exact cmpW_trans _ _ _ h1 (hx.1 y e)
  ·rename_i h1
   refine List.pairwise_cons.2 ⟨fun y hy=>?_,insT_asc hx.2 fun y hy=>hn y (by simp [hy])⟩
   rcases mem_insT.1 hy with e | e
   ·subst e
    have r1:=cmpW_range x.In y.In
    have z1:=cmpW_zero x.In y.In
    have s1:=cmpW_swap x.In y.In
    have h6:¬ cmpW x.In y.In=0:=fun e=>hn x (by simp) (z1.1 e)
    omega
   ·exact hx.1 y e
theorem ObsOk.pw {o:T_api_Obs} (hv:ObsOk o):o.Traces.Pairwise (fun a b=>cmpW a.In b.In=-1)∧o.Traces.Pairwise (fun a b=>¬ a.In <+: b.In∧Agree a b) :=
 ⟨List.pairwise_iff_getElem.2 fun i j hi hj hij=>hv.asc i j _ _ hij (get_at hi) (get_at hj),List.pairwise_iff_getElem.2 fun i j hi hj hij=>hv.apart i j _ _ hij (get_at hi) (get_at hj)⟩
theorem obsOk_of {o:T_api_Obs} (h1:1≤o.Inputs∧o.Inputs≤64) (h2:o.Traces.length≤10000) (h3:∀ t∈o.Traces,PropT o.Inputs t∧t.In≠[]) (h4:o.Traces.Pairwise (fun a b=>cmpW a.In b.In=-1)) (h5:o.Traces.Pairwise (fun a b=>¬ a.In <+: b.In∧Agree a b)):ObsOk o:=by
 refine ⟨h1,h2,h3,fun i j a b hij ha hb=>?_,fun i j a b hij ha hb=>?_⟩
 all_goals
  obtain ⟨hi,rfl⟩:=List.getElem?_eq_some_iff.1 ha
  obtain ⟨hj,rfl⟩:=List.getElem?_eq_some_iff.1 hb
 ·exact List.pairwise_iff_getElem.1 h4 i j hi hj hij
 ·exact List.pairwise_iff_getElem.1 h5 i j hi hj hij
theorem insideO_false {l:List T_api_Trace} {w:List Int} (h:¬ insideO l w=true):∀ u∈l,¬ w <+: u.In:=fun u hu hp=>h (List.any_eq_true.2 ⟨u,hu,decide_eq_true hp⟩)
theorem addO_ok {o:T_api_Obs} {t:T_api_Trace} (hv:ObsOk o):ObsOk (addO o t).1:=by
 unfold addO
 split
 ·exact hv
 rename_i hp
 have hp:PropT o.Inputs t:=propI_zero.1 (by simpa using hp)
 split
 ·exact hv
 rename_i hc
 split
 ·exact hv
 rename_i hn
 have hn:(addL o.Traces t).length≤10000:=by omega
 unfold addL at hn ⊢
 by_cases h:insideO o.Traces t.In=true∨t.In=[]
 ·rw [if_pos h]
  exact hv
 ·rw [if_neg h] at hn ⊢
  have h1:=insideO_false fun e=>h (.inl e)
  have h2:t.In≠[]:=fun e=>h (.inr e)
  have hsub:(restT o.Traces t).Sublist o.Traces:=List.filter_sublist
  have hrest:∀ x∈restT o.Traces t,x∈o.Traces∧¬ x.In <+: t.In:=fun x hx=>by
   have:=List.mem_filter.1 hx
   refine ⟨this.1,fun e=>?_⟩
   rw [decide_eq_true e] at this
   exact Bool.false_ne_true this.2
  have hag:∀ x∈o.Traces,Agree x t:=fun x hx=>Classical.byContradiction fun e=>hc ⟨x,hx,e⟩
  refine obsOk_of hv.inp hn (fun x hx=>?_) (insT_asc (hv.pw.1.sublist hsub) fun x hx e=>(hrest x hx).2 (e ▸ List.prefix_refl _)) (insT_pair (hv.pw.2.sublist hsub) fun x hx=>⟨⟨(hrest x hx).2,hag x (hrest x hx).1⟩,h1 x (hrest x hx).1,(hag x (hrest x hx).1).symm⟩)
  rcases mem_insT.1 hx with e | e
  ·rw [e]
   exact ⟨hp,h2⟩
  ·exact hv.prop x (hrest x e).1
end Go.Proofs.YtmcfpohmiabmpaaGreatDoor.Sym

/-
 Observations that grow: what the program's Add and the document's Add come to. Plain laws.
-/
namespace Go.Proofs.YtmcfpohmiabmpaaGreatDoor.Sym
set_option maxRecDepth 100000
def SmX (t:T_api_Trace):Prop:=SmW t.In∧SmW t.Out
def SmTr (l:List T_api_Trace):Prop:=l.length≤1200000∧∀ t∈l,SmX t
theorem capT {n:Nat} (h:n≤3000000):capOk n 48:=by unfold capOk;omega
theorem observe_copied_eq {t:T_api_Trace} (h:SmX t):observe_copied t=some t:=by
 unfold observe_copied
 rw [libclone_word h.1,obind,libclone_word h.2,obind]
theorem observe_owned_eq {l:List T_api_Trace} (h:SmTr l):observe_owned l=some l:=by
 have hl:=h.1
 unfold observe_owned
 rw [chk_pos ⟨by decide,by omega,by rw [show ((↑l.length:Int)+1).toNat=l.length+1 by omega];exact capT (by omega)⟩]
 have key:=iter_post (step:=fun (s:List T_api_Trace×Nat)=>observe_owned.s2 l s.1 s.2) (fun s=>s.2≤l.length∧s.1=l.take s.2) (fun s=>l.length-s.2) (fun r=>r=l) (fun ⟨y,i⟩ ⟨g1,g2⟩=>by
  simp only at g1 g2
  subst g2
  simp only [observe_owned.s2]
  by_cases g3:i<l.length
  ·left
   have hx:=get_at g3
   refine ⟨(l.take (i+1),i+1),?_,⟨g3,rfl⟩,by simp only;omega⟩
   rw [dec_lt hx,cond_true,idxn_at hx,observe_copied_eq (h.2 _ (List.getElem_mem _)),obind,chk_pos (capT (by rw [List.length_take];omega)),take_step hx]
  ·right
   have e:i=l.length:=by omega
   subst e
   exact ⟨l,by rw [dec_end,cond_false,List.take_length],rfl⟩) fuel ([],0) ⟨Nat.zero_le _,rfl⟩ (by have:=fuel_big;simp only;omega)
 obtain ⟨r,e,rfl⟩:=key
 rw [e,obind]
theorem tdelete_eq {l:List T_api_Trace} {f:T_api_Trace→Option Bool} {p:T_api_Trace→Bool} (hl:l.length≤100000000) (hf:∀ x∈l,f x=some (p x)) :
  slices_DeleteFunc_Sapi_Trace_api_Trace_n1 l f=some (l.filter fun x=>!p x):=by
 unfold slices_DeleteFunc_Sapi_Trace_api_Trace_n1
 rw [tindex_eq (by omega) hf,obind]
 by_cases h:l.any p=true
 ·rw [if_pos h,decide_eq_false (by omega),cond_false]
  have hi:l.findIdx p<l.length:=List.findIdx_lt_length_of_exists (by simpa using List.any_eq_true.1 h)
  have hx:=get_at hi
  have hpx:p l[l.findIdx p]=true:=List.findIdx_getElem
  have hbefore:∀ (k:Nat),k≤l.findIdx p→(l.take k).filter (fun x=>!p x)=l.take k:=fun k hk=>by
   refine List.filter_eq_self.2 fun x hx=>?_
   obtain ⟨j,hj,rfl⟩:=List.mem_iff_getElem.1 hx
   rw [List.length_take] at hj
   rw [List.getElem_take]
   have:=List.not_of_lt_findIdx (p:=p) (xs:=l) (i:=j) (by omega)
   have h9:p l[j]=false:=by simpa using this
   rw [h9]
   rfl
  rw [chk_pos (by unfold inR;omega)]
  have key:=iter_post (step:=fun (s:List T_api_Trace×Int×Int)=>slices_DeleteFunc_Sapi_Trace_api_Trace_n1.s2 f s.1 s.2.1 s.2.2)
   (fun s=>∃ i j:Nat,s.2.1=(i:Int)∧s.2.2=(j:Int)∧i<j∧j≤l.length∧s.1.length=l.length∧s.1.drop j=l.drop j∧s.1.take i=(l.take j).filter fun x=>!p x) (fun s=>(↑l.length-s.2.2).toNat)
   (fun r=>∃ i:Nat,r.2=(i:Int)∧i≤l.length∧0<l.length∧r.1.length=l.length∧r.1.take i=l.filter fun x=>!p x) (fun ⟨y,si,sj⟩ ⟨i,j,g1,g2,g3,g4,g5,g6,g7⟩=>by
    simp only at g1 g2 g5 g6 g7
    subst g1 g2
    simp only [slices_DeleteFunc_Sapi_Trace_api_Trace_n1.s2]
    by_cases g8:j<l.length
    ·left
     have hz:=get_at g8
     have hy:y[j]?=some l[j]:=by
      have h1:(y.drop j)[0]?=(l.drop j)[0]?:=by rw [g6]
      rw [List.getElem?_drop,List.getElem?_drop,Nat.add_zero,hz] at h1
      exact h1
     rw [decide_eq_true (by omega),cond_true,idx_at rfl hy,hf _ (List.getElem_mem _),obind]
     have hd:∀ u:List T_api_Trace,u.drop j=l.drop j→u.drop (j+1)=l.drop (j+1):=fun u hu=>by
      rw [← List.drop_drop,hu,List.drop_drop]
     cases hp:p l[j] with
     | false =>
      have hyi:=get_at (l:=y) (i:=i) (by omega)
      refine ⟨(y.set i l[j],((i+1:Nat):Int),((j+1:Nat):Int)),?_,⟨i+1,j+1,rfl,rfl,by omega,by omega,by simpa using g5,?_,?_⟩,by simp only;omega⟩
      ·rw [Bool.not_false,cond_true,idx_at rfl hyi,chk_pos (by unfold inR;omega),chk_pos (by unfold inR;omega)]
       simp
      ·rw [List.drop_set_of_lt (by omega)]
       exact hd y g6
      ·rw [take_step hz,List.filter_append,← g7]
       have hset:(y.set i l[j])[i]?=some l[j]:=by rw [List.getElem?_set_self (by omega)]
       rw [take_step hset,List.take_set_of_le (by omega)]
       simp [hp]
     | true =>
      refine ⟨(y,(i:Int),((j+1:Nat):Int)),?_,⟨i,j+1,rfl,rfl,by omega,by omega,g5,hd y g6,?_⟩,by simp only;omega⟩
      ·rw [Bool.not_true,cond_false,chk_pos (by unfold inR;omega)]
       simp
      ·rw [take_step hz,List.filter_append,← g7]
       simp [hp]
    ·right
     have e:j=l.length:=by omega
     subst e
     refine ⟨(y,(i:Int)),by rw [decide_eq_false (by omega),cond_false],i,rfl,by omega,by omega,g5,?_⟩
     rw [g7,List.take_length]) fuel (l,(↑(l.findIdx p):Int),(↑(l.findIdx p):Int)+1) ⟨l.findIdx p,l.findIdx p+1,rfl,by simp,by omega,hi,rfl,rfl,by
    rw [take_step hx,List.filter_append,hbefore _ (Nat.le_refl _)]
    simp [hpx]⟩ (by have:=fuel_big;simp only;omega)
  obtain ⟨⟨y,si⟩,e,i,g1,g2,g3,g4,g5⟩:=key
  simp only at g1 g4 g5
  subst g1
  rw [e,obind]
  simp only [slices_DeleteFunc_Sapi_Trace_api_Trace_n1.k3]
  have hlen:(List.take i y++List.replicate (y.length-i) (⟨[],[]⟩:T_api_Trace)).length=y.length:=by
   rw [List.length_append,List.length_take,List.length_replicate]
   omega
  rw [Int.toNat_natCast,hlen,chk_pos (by omega),chk_pos (by omega),chk_pos (by omega),List.take_append_of_le_length (by rw [List.length_take];omega),List.take_take,Nat.min_self,g5]
 ·have h':l.any p=false:=by simpa using h
  rw [if_neg h,decide_eq_true rfl,cond_true]
  congr 1
  refine (List.filter_eq_self.2 fun x hx=>?_).symm
  have:=List.any_eq_false.1 h' x hx
  simpa using this
theorem tsearch_eq {F:List T_api_Trace} {t:T_api_Trace} (hs:F.Pairwise fun a b=>cmpW a.In b.In=-1) (hl:F.length≤2000000) (hw:∀ x∈F,SmW x.In) :
  ∃ k:Nat,∃ b,slices_BinarySearchFunc_Sapi_Trace_api_Trace_api_Trace F t (fun u0 u1=>observe_order u0 u1)=some ((↑k:Int),b)∧k≤F.length∧(∀ j x,j<k→F[j]?=some x→cmpW x.In t.In=-1)∧∀ x,F[k]?=some x→cmpW x.In t.In≠-1:=by
 have hc:∀ x∈F,observe_order x t=some (cmpW x.In t.In):=fun x hx=>by
  unfold observe_order
  rw [word_Compare_eq _ _ (by have:=hw x hx;unfold SmW at this;omega),obind]
 have hlt:∀ {i j:Nat} {a b:T_api_Trace},i<j→F[i]?=some a→F[j]?=some b→cmpW a.In b.In=-1:=fun {i j a b} hij ha hb=>by
  obtain ⟨hi,rfl⟩:=List.getElem?_eq_some_iff.1 ha
  obtain ⟨hj,rfl⟩:=List.getElem?_eq_some_iff.1 hb
  exact List.pairwise_iff_getElem.1 hs i j hi hj hij
 have key:=iter_post (step:=fun (s:Int×Int)=>slices_BinarySearchFunc_Sapi_Trace_api_Trace_api_Trace.s2 F t (fun u0 u1=>observe_order u0 u1) s.1 s.2)
  (fun s=>∃ i j:Nat,s.1=(i:Int)∧s.2=(j:Int)∧i≤j∧j≤F.length∧(∀ k x,k<i→F[k]?=some x→cmpW x.In t.In=-1)∧∀ k x,j≤k→F[k]?=some x→cmpW x.In t.In≠-1) (fun s=>(s.2-s.1).toNat)
  (fun r=>∃ k:Nat,r=(k:Int)∧k≤F.length∧(∀ j x,j<k→F[j]?=some x→cmpW x.In t.In=-1)∧∀ x,F[k]?=some x→cmpW x.In t.In≠-1) (fun s ⟨i,j,g1,g2,g3,g4,g5,g6⟩=>by
   obtain ⟨si,sj⟩:=s
   simp only at g1 g2
   subst g1 g2
   simp only [slices_BinarySearchFunc_Sapi_Trace_api_Trace_api_Trace.s2]
   by_cases g7:i<j
   ·left
    have hmid:((↑i:Int)+↑j) / 2^1=((i+j) / 2:Nat):=by omega
    have hx:=get_at (l:=F) (i:=(i+j) / 2) (by omega)
    rw [decide_eq_true (by omega),cond_true,chk_pos (by unfold inR;omega),chk_pos (by omega),chk_pos (by omega),chk_pos (by unfold inR;omega),idx_at hmid hx,hc _ (List.getElem_mem _),obind]
    have r:=cmpW_range (F[(i+j) / 2]'(by omega)).In t.In
    by_cases g8:cmpW (F[(i+j) / 2]'(by omega)).In t.In<0
    ·refine ⟨(((i+j) / 2+1:Nat),(j:Int)),?_,⟨(i+j) / 2+1,j,rfl,rfl,by omega,g4,fun k x hk hx2=>?_,g6⟩,by simp only;omega⟩
     ·rw [decide_eq_true g8,cond_true,chk_pos (by unfold inR;omega),hmid]
      simp
     ·rcases Nat.lt_or_ge k ((i+j) / 2) with h | h
      ·exact cmpW_trans _ _ _ (hlt h hx2 hx) (by omega)
      ·have e:k=(i+j) / 2:=by omega
       subst e
       rw [hx] at hx2
       injection hx2 with hx2
       subst hx2
       omega
    ·refine ⟨((i:Int),(((i+j) / 2:Nat):Int)),?_,⟨i,(i+j) / 2,rfl,rfl,by omega,by omega,g5,fun k x hk hx2=>?_⟩,by simp only;omega⟩
     ·rw [decide_eq_false g8,cond_false,hmid]
     ·intro h9
      rcases Nat.lt_or_ge ((i+j) / 2) k with h | h
      ·have:=cmpW_trans _ _ _ (hlt h hx hx2) h9
       omega
      ·have e:k=(i+j) / 2:=by omega
       subst e
       rw [hx] at hx2
       injection hx2 with hx2
       subst hx2
       omega
   ·right
    have e:i=j:=by omega
    subst e
    refine ⟨(i:Int),by rw [decide_eq_false (by omega),cond_false],i,rfl,g4,g5,fun x hx2=>g6 i x (Nat.le_refl _) hx2⟩) fuel (0,(↑(List.length F):Int)) ⟨0,F.length,rfl,rfl,Nat.zero_le _,Nat.le_refl _,fun k x h=>by omega,fun k x h hx2=>by
    have:=(List.getElem?_eq_some_iff.1 hx2).1
    omega⟩ (by have:=fuel_big;simp only;omega)
 obtain ⟨r,e,k,hk,h1,h2,h3⟩:=key
 subst hk
 unfold slices_BinarySearchFunc_Sapi_Trace_api_Trace_api_Trace
 rw [e,obind]
 by_cases h4:k<F.length
 ·have hx:=get_at h4
  rw [decide_eq_true (by omega),cond_true,idx_at rfl hx,show (fun (u0:T_api_Trace) (u1:T_api_Trace)=>observe_order u0 u1) F[k] t=some (cmpW F[k].In t.In) from hc _ (List.getElem_mem _),obind,obind]
  exact ⟨k,_,rfl,h1,h2,h3⟩
 ·rw [decide_eq_false (by omega),cond_false,obind]
  exact ⟨k,_,rfl,h1,h2,h3⟩
theorem observe_add_eq {o:T_api_Obs} {t:T_api_Trace} (ho:SmTr o.Traces) (hv:ObsOk o) (ht:SmX t) (hp:PropT o.Inputs t) :
  observe_add o.Traces t=some (if clashO o.Traces t then ([],13) else if 10000<(addL o.Traces t).length then ([],11) else (addL o.Traces t,0)):=by
 have hl:=ho.1
 unfold observe_add
 have key:=iter_post (step:=fun (s:Bool×Nat)=>observe_add.s2 o.Traces t s.1 s.2) (fun s=>s.2≤o.Traces.length∧(∀ u∈o.Traces.take s.2,Agree u t)∧s.1=insideO (o.Traces.take s.2) t.In) (fun s=>o.Traces.length-s.2)
  (fun r=>match r with | .inl b=>¬ clashO o.Traces t∧b=insideO o.Traces t.In | .inr x=>clashO o.Traces t∧x=([],13)) (fun ⟨b,i⟩ ⟨g1,g2,g3⟩=>by
   simp only at g1 g2 g3
   simp only [observe_add.s2]
   by_cases g4:i<o.Traces.length
   ·have hx:=get_at g4
    have hxm:=List.getElem_mem g4
    obtain ⟨d,hd,hd2⟩:=observe_differ_iff o.Traces[i] t (hv.prop _ hxm).1 hp (ho.2 _ hxm).1
    rw [dec_lt hx,cond_true,idxn_at hx,hd,obind]
    by_cases g5:0≤d
    ·right
     exact ⟨.inr ([],13),by rw [decide_eq_true g5,cond_true],⟨_,hxm,hd2.1 g5⟩,rfl⟩
    ·left
     have hA:Agree o.Traces[i] t:=Classical.byContradiction fun e=>g5 (hd2.2 e)
     have hst:insideO (o.Traces.take (i+1)) t.In=(b||decide (t.In <+: o.Traces[i].In)):=by
      rw [take_step hx,g3]
      unfold insideO
      rw [List.any_append]
      simp
     refine ⟨(insideO (o.Traces.take (i+1)) t.In,i+1),?_,⟨g4,fun u hu=>?_,rfl⟩,by simp only;omega⟩
     ·rw [decide_eq_false g5,cond_false,hst]
      cases b with
      | true=>rfl
      | false =>
       rw [cond_false,word_HasPrefix_eq _ _ (ho.2 _ hxm).1,obind]
       rfl
     ·rw [take_step hx] at hu
      rcases List.mem_append.1 hu with h | h
      ·exact g2 u h
      ·rw [List.mem_singleton.1 h]
       exact hA
   ·right
    have e:i=o.Traces.length:=by omega
    subst e
    rw [List.take_length] at g2 g3
    exact ⟨.inl b,by rw [dec_end,cond_false],fun ⟨u,hu,h⟩=>h (g2 u hu),g3⟩) fuel (false,0) ⟨Nat.zero_le _,fun u hu=>by simp at hu,rfl⟩ (by have:=fuel_big;simp only;omega)
 obtain ⟨r,e,hq⟩:=key
 rw [e,obind]
 cases r with
 | inr x =>
  rw [if_pos hq.1,hq.2]
  rfl
 | inl b =>
  obtain ⟨h1,rfl⟩:=hq
  rw [if_neg h1]
  simp only [Sum.elim_inl]
  have hb:(cond (insideO o.Traces t.In) (some true) (some (decide ((↑(List.length t.In):Int)=0))):Option Bool)=some (decide (insideO o.Traces t.In=true∨t.In=[])):=by
   cases hi:insideO o.Traces t.In with
   | true=>rfl
   | false =>
    rw [cond_false]
    congr 1
    refine decide_eq_decide.2 ⟨fun h=>.inr (List.eq_nil_of_length_eq_zero (by omega)),fun h=>?_⟩
    rcases h with h | h
    ·cases h
    ·rw [h];rfl
  rw [hb,obind]
  by_cases h2:insideO o.Traces t.In=true∨t.In=[]
  ·have ha:addL o.Traces t=o.Traces:=if_pos h2
   have hn:=hv.num
   rw [decide_eq_true h2,cond_true,ha,if_neg (by omega)]
  ·have ha:addL o.Traces t=insT (restT o.Traces t) t:=if_neg h2
   rw [decide_eq_false h2,cond_false,tdelete_eq (p:=fun u=>decide (u.In <+: t.In)) (by omega) fun x hx=>by
    unfold observe_add_1
    rw [word_HasPrefix_eq _ _ ht.1,obind],obind]
   have hrl:=restT_length o.Traces t
   have hn:=hv.num
   have hil:=insT_length (restT o.Traces t) t
   rw [show (o.Traces.filter fun x=>!decide (x.In <+: t.In))=restT o.Traces t from rfl,ha]
   by_cases h3:(restT o.Traces t).length=10000
   ·rw [decide_eq_true (by omega),cond_true,if_pos (by omega)]
   ·rw [decide_eq_false (by omega),cond_false,if_neg (by omega)]
    have hsub:(restT o.Traces t).Sublist o.Traces:=List.filter_sublist
    have hne:∀ x∈restT o.Traces t,x.In≠t.In:=fun x hx e=>by
     have:=(List.mem_filter.1 hx).2
     rw [e,decide_eq_true (List.prefix_refl _)] at this
     exact Bool.false_ne_true this
    obtain ⟨k,b,e,k1,k2,k3⟩:=tsearch_eq (t:=t) (hv.pw.1.sublist hsub) (by omega) fun x hx=>(ho.2 x (hsub.subset hx)).1
    rw [e,obind,observe_copied_eq ht,obind]
    simp only
    unfold lib_Insert_traces
    rw [chk_pos ⟨by omega,by omega,rfl,by omega⟩,obind,Int.toNat_natCast,← insT_at k1 k2 k3 hne]
theorem observe_Add_eq {o:T_api_Obs} {t:T_api_Trace} (ho:SmTr o.Traces) (hv:ObsOk o) (ht:SmX t):observe_Add o t=some (addO o t):=by
 have hl:=ho.1
 unfold observe_Add observe_all addO
 rw [observe_owned_eq ho,obind,show fuel=2+(fuel-2) by unfold fuel;rfl]
 have h1:observe_all.s2 o [t] o.Traces 0=if propI t o.Inputs≠0 then some (.inr (.inr (o,propI t o.Inputs))) else if clashO o.Traces t then some (.inr (.inr (o,13))) else if 10000<(addL o.Traces t).length then some (.inr (.inr (o,11))) else some (.inl (addL o.Traces t,1)):=by
  unfold observe_all.s2
  rw [decide_eq_true (by simp),cond_true,idxn_at (x:=t) rfl,observe_proper_eq _ _ ht.1 ht.2,obind]
  by_cases g1:propI t o.Inputs=0
  ·rw [decide_eq_false (by simpa using g1),cond_false,if_neg (by simpa using g1),observe_add_eq ho hv ht (propI_zero.1 g1),obind]
   split
   ·rfl
   ·split
    ·rfl
    ·rfl
  ·rw [decide_eq_true g1,cond_true,if_pos g1]
 have h2:∀ l,observe_all.s2 o [t] l 1=some (.inr (.inl l)):=fun l=>by
  unfold observe_all.s2
  rw [decide_eq_false (by simp),cond_false]
 rw [Nat.add_comm 2 (fuel-2)]
 unfold iter
 rw [h1]
 by_cases g1:propI t o.Inputs≠0
 ·simp [g1]
 ·simp only [g1,if_false]
  by_cases g2:clashO o.Traces t
  ·simp [g2]
  ·simp only [g2,if_false]
   by_cases g3:10000<(addL o.Traces t).length
   ·simp [g3]
   ·simp only [g3,if_false]
    unfold iter
    rw [h2]
    simp
theorem observe_AnswerT_eq {o:T_api_Obs} {w:List Int} (ho:SmTr o.Traces) (hv:ObsOk o):observe_Answer o w=some (tw (ansO o w)):=by
 have hl:=ho.1
 unfold observe_Answer ansO
 by_cases h0:w=[]
 ·subst h0
  rfl
 ·have hwl:w.length≠0:=fun h=>h0 (List.eq_nil_of_length_eq_zero h)
  rw [if_neg h0,decide_eq_false (by omega),cond_false,tindex_eq (p:=fun u=>decide (w <+: u.In)) (by omega) fun x hx=>by
   unfold observe_Answer_1
   rw [word_HasPrefix_eq _ _ (ho.2 x hx).1,obind],obind,find_idx]
  by_cases h:(o.Traces.any fun u=>decide (w <+: u.In))=true
  ·rw [if_pos h,if_pos h,decide_eq_false (by omega),cond_false]
   have hi:o.Traces.findIdx (fun u=>decide (w <+: u.In))<o.Traces.length:=List.findIdx_lt_length_of_exists (by simpa using List.any_eq_true.1 h)
   have hx:=get_at hi
   have hpx:decide (w <+: (o.Traces[o.Traces.findIdx fun u=>decide (w <+: u.In)]).In)=true:=List.findIdx_getElem (p:=fun (u:T_api_Trace)=>decide (w <+: u.In))
   have hpx:=of_decide_eq_true hpx
   have hm:=List.getElem_mem hi
   have hP:=(hv.prop _ hm).1
   have hS:=ho.2 _ hm
   have hle:=hpx.length_le
   have hlo:=hP.2.1
   have hso:=hS.2
   unfold SmW at hso
   rw [idx_at rfl hx,hx]
   generalize o.Traces[o.Traces.findIdx fun u=>decide (w <+: u.In)]=u at hpx hP hS hle hlo hso
   rw [show min (↑w.length:Int) ↑u.Out.length=↑w.length by omega,chk_pos (by omega),Int.toNat_natCast,libclone_word (by unfold SmW;rw [List.length_take];omega),obind]
   rfl
  ·rw [if_neg h,if_neg h,decide_eq_true (by decide),cond_true]
   rfl
end Go.Proofs.YtmcfpohmiabmpaaGreatDoor.Sym

/-
 Observations are equal to themselves.
-/
namespace Go.Proofs.YtmcfpohmiabmpaaGreatDoor.Sym
set_option maxRecDepth 100000
end Go.Proofs.YtmcfpohmiabmpaaGreatDoor.Sym

/-
 Settled traces: what nondet.Settle and the reference answer.
-/
namespace Go.Proofs.YtmcfpohmiabmpaaGreatDoor.Sym
set_option maxRecDepth 100000
theorem mem_addLs {l:List T_api_Trace} {t x:T_api_Trace} (h:x∈addL l t):x=t∨x∈l:=by
 unfold addL at h
 split at h
 ·exact .inr h
 ·rcases mem_insT.1 h with h | h
  ·exact .inl h
  ·exact .inr (List.mem_filter.1 h).1
def addsO:T_api_Obs→List T_api_Trace→T_api_Obs×Int
 | o,[]=>(o,0)
 | o,t::l=>if (addO o t).2≠0 then (o,(addO o t).2) else addsO (addO o t).1 l
theorem addO_smx {o:T_api_Obs} {t:T_api_Trace} (ho:SmTr o.Traces) (hv:ObsOk o) (ht:SmX t):SmTr (addO o t).1.Traces:=by
 refine ⟨by have:=(addO_ok (t:=t) hv).num;omega,fun x hx=>?_⟩
 unfold addO at hx
 split at hx
 ·exact ho.2 x hx
 ·split at hx
  ·exact ho.2 x hx
  ·split at hx
   ·exact ho.2 x hx
   ·rcases mem_addLs hx with e | e
    ·rw [e];exact ht
    ·exact ho.2 x e
theorem addsO_ok:∀ (l:List T_api_Trace) (o:T_api_Obs),SmTr o.Traces→ObsOk o→(∀ t∈l,SmX t)→SmTr (addsO o l).1.Traces∧ObsOk (addsO o l).1
 | [],o,h1,h2,_=>⟨h1,h2⟩
 | t::l,o,h1,h2,h3=>by
  unfold addsO
  split
  ·exact ⟨h1,h2⟩
  ·exact addsO_ok l _ (addO_smx h1 h2 (h3 t List.mem_cons_self)) (addO_ok h2) fun x hx=>h3 x (List.mem_cons_of_mem _ hx)
def cutW (p:List Int→Bool) (w:List Int):Nat:=(List.range w.length).findIdx fun n=>p (w.take (n+1))
theorem cutW_le (p:List Int→Bool) (w:List Int):cutW p w≤w.length:=by
 unfold cutW
 exact Nat.le_trans List.findIdx_le_length (by simp)
theorem cutW_lt {p:List Int→Bool} {w:List Int} {j:Nat} (h:j<cutW p w):p (w.take (j+1))=false:=by
 unfold cutW at h
 have:=List.not_of_lt_findIdx h
 simpa using this
theorem cutW_at {p:List Int→Bool} {w:List Int} (h:cutW p w<w.length):p (w.take (cutW p w+1))=true:=by
 have h':(List.range w.length).findIdx (fun n=>p (w.take (n+1)))<(List.range w.length).length:=by simpa [cutW] using h
 have:=List.findIdx_getElem (w:=h')
 simpa [cutW] using this
theorem cut_iter {step:Nat→Option (Nat⊕Nat)} {p:List Int→Bool} {w:List Int} (h1:∀ n,n<w.length→step n=some (if p (w.take (n+1))=true then .inr n else .inl (n+1))) (h2:step w.length=some (.inr w.length)) (hl:w.length≤1000):iter step fuel 0=some (cutW p w):=by
 refine iter_eq (fun n=>n≤cutW p w) (fun n=>w.length-n) (fun n hn=>?_) (Nat.zero_le _) (by have:=fuel_big;omega)
 have hle:=cutW_le p w
 rcases Nat.lt_or_ge n (cutW p w) with h | h
 ·left
  exact ⟨n+1,by rw [h1 n (by omega),cutW_lt h,if_neg (by simp)],h,by omega⟩
 ·right
  have e:n=cutW p w:=by omega
  subst e
  rcases Nat.lt_or_ge (cutW p w) w.length with g | g
  ·rw [h1 _ g,if_pos (cutW_at g)]
  ·have e:cutW p w=w.length:=by omega
   rw [e,h2]
def cutT (p:List Int→Bool) (t:T_api_Trace):T_api_Trace:=⟨t.In.take (cutW p t.In),t.Out.take (cutW p t.In)⟩
def badW (C:List T_api_Clash) (w:List Int):Bool:=decide (w∈C.map (·.Word))
abbrev settG (n:Int) (_:Nat) (t:T_api_Trace):Option (T_api_Obs×List T_api_Clash×Int):=if propI t n≠0 then some (⟨0,[]⟩,[],propI t n) else none
def settR (l:List T_api_Trace) (n:Int) (C:List T_api_Clash):T_api_Obs×List T_api_Clash×Int :=
 if n<1∨64<n then (⟨0,[]⟩,[],2) else match scan (settG n) 0 l with
  | some r=>r
  | none=>if (addsO ⟨n,[]⟩ (l.map (cutT (badW C)))).2≠0 then (⟨0,[]⟩,[],(addsO ⟨n,[]⟩ (l.map (cutT (badW C)))).2) else ((addsO ⟨n,[]⟩ (l.map (cutT (badW C)))).1,C,0)
theorem new_ok {n:Int} (h:¬ (n<1∨64<n)):ObsOk ⟨n,[]⟩∧SmTr (⟨n,[]⟩:T_api_Obs).Traces :=
 ⟨obsOk_of ⟨by simp only;omega,by simp only;omega⟩ (by simp) (fun t ht=>by simp at ht) List.Pairwise.nil List.Pairwise.nil,by simp,fun t ht=>by simp at ht⟩
theorem observe_New_r (n:Int):observe_New n=some (if n<1∨64<n then (⟨0,[]⟩,2) else (⟨n,[]⟩,0)):=by
 unfold observe_New
 by_cases h1:n<1
 ·rw [decide_eq_true h1,cond_true,obind,cond_true,if_pos (.inl h1)]
 ·rw [decide_eq_false h1,cond_false,obind]
  by_cases h2:64<n
  ·rw [decide_eq_true h2,cond_true,if_pos (.inr h2)]
  ·rw [decide_eq_false h2,cond_false,if_neg (by omega)]
theorem nondet_proper_eq (t:T_api_Trace) (n:Int) (h1:SmW t.In) (h2:SmW t.Out):nondet_proper t n=some (propI t n):=by
 rw [← observe_proper_eq t n h1 h2]
 rfl
theorem TrSm.x {l:List T_api_Trace} (H:TrSm l) {t:T_api_Trace} (h:t∈l):SmX t:=by
 have:=H.2 t h
 exact ⟨by unfold SmW;omega,by unfold SmW;omega⟩
theorem cutT_x {t:T_api_Trace} (p:List Int→Bool) (h:SmX t):SmX (cutT p t):=by
 obtain ⟨h1,h2⟩:=h
 unfold SmW at h1 h2
 exact ⟨by unfold SmW cutT;simp only [List.length_take];omega,by unfold SmW cutT;simp only [List.length_take];omega⟩
theorem bad_map {C:List T_api_Clash} (w:List Int):(mget (bk w) (C.foldl (fun (m:List (ByteArray×Bool)) c=>mset (bk c.Word) true m) [])).getD false=badW C w:=by
 have e:∀ (C:List T_api_Clash) (m:List (ByteArray×Bool)),C.foldl (fun (m:List (ByteArray×Bool)) c=>mset (bk c.Word) true m) m=(C.map (·.Word)).foldl (fun m x=>mset ⟨(keyL x).toArray⟩ true m) m:=fun C=>by
  induction C with
  | nil=>intro m;rfl
  | cons c C ih=>intro m;exact ih _
 rw [e]
 have:=keys_mget (C.map (·.Word)) w []
 rw [this]
 unfold badW
 simp [mget]
theorem nondet_Settle_eq {l:List T_api_Trace} (H:TrSm l) {C:List T_api_Clash} (hC:nondet_Clashes l=some C) (hc:∀ c∈C,WrdOk c.Word) (hcl:C.length≤1000000) (n:Int):nondet_Settle l n=some (settR l n C):=by
 unfold nondet_Settle settR
 rw [observe_New_r,obind]
 by_cases hn:n<1∨64<n
 ·rw [if_pos hn,if_pos hn]
  rfl
 ·rw [if_neg hn,if_neg hn]
  simp only [ne_eq,not_true_eq_false,decide_false,cond_false]
  have hl:=H.1
  rw [iter_scan (l:=l) (settG n) (fun i t ht=>by
   simp only [nondet_Settle.s2]
   have hx:=H.x (List.mem_of_getElem? ht)
   rw [dec_lt ht,cond_true,idxn_at ht,nondet_proper_eq t n hx.1 hx.2,obind]
   by_cases e:propI t n≠0
   ·have eg:settG n i t=some (⟨0,[]⟩,[],propI t n):=if_pos e
    rw [decide_eq_true e,cond_true,eg]
   ·have eg:settG n i t=none:=if_neg e
    rw [decide_eq_false e,cond_false,eg]) (by simp only [nondet_Settle.s2];rw [dec_end,cond_false]) (by omega),obind]
  cases hs:scan (settG n) 0 l with
  | some r=>rfl
  | none =>
   have hp:∀ t∈l,propI t n=0:=fun t ht=>by
    obtain ⟨i,hi⟩:=List.getElem?_of_mem ht
    have:=scan_none.1 hs i t hi
    unfold settG at this
    exact Classical.byContradiction fun e=>by rw [if_pos e] at this;cases this
   simp only [Sum.elim_inl]
   rw [hC,obind,(iter_fold (l:=C) (fun (m:List (ByteArray×Bool)) _ c=>mset (bk c.Word) true m) (fun m=>m) (fun _ _=>True) (fun m i c _ hi=>⟨by
    simp only [nondet_Settle.s4]
    rw [dec_lt hi,cond_true,idxn_at hi,nondet_key_eq (hc _ (List.mem_of_getElem? hi)),obind],trivial⟩) (fun m _=>by simp only [nondet_Settle.s4];rw [dec_end,cond_false]) (by omega) trivial).1,obind,foldi_eq]
   generalize hM:C.foldl (fun (m:List (ByteArray×Bool)) c=>mset (bk c.Word) true m) []=M
   have hg:∀ w,(mget (bk w) M).getD false=badW C w:=fun w=>by rw [← hM,bad_map]
   have key:∀ (k i:Nat) (p:T_api_Obs),SmTr p.Traces→ObsOk p→i≤l.length→l.length-i<k→iter (fun (s:Int×List T_api_Trace×Nat)=>nondet_Settle.s18 l M s.1 s.2.1 s.2.2) k (p.Inputs,p.Traces,i)=some (if (addsO p ((l.drop i).map (cutT (badW C)))).2≠0 then .inr (⟨0,[]⟩,[],(addsO p ((l.drop i).map (cutT (badW C)))).2) else .inl ((addsO p ((l.drop i).map (cutT (badW C)))).1.Inputs,(addsO p ((l.drop i).map (cutT (badW C)))).1.Traces)):=by
    intro k
    induction k with
    | zero=>intro i p _ _ _ h;omega
    | succ k ih =>
     intro i p g1 g2 hi hk
     unfold iter
     simp only [nondet_Settle.s18]
     rcases Nat.lt_or_ge i l.length with h | h
     ·have hx:=get_at h
      have hm:=List.getElem_mem h
      have hsm:=H.2 _ hm
      have hle:=cutW_le (badW C) l[i].In
      have hol:l[i].Out.length=l[i].In.length:=(propI_zero.1 (hp _ hm)).2.1
      have ha:observe_Add (⟨p.Inputs,p.Traces⟩:T_api_Obs) (⟨l[i].In.take (cutW (badW C) l[i].In),l[i].Out.take (cutW (badW C) l[i].In)⟩:T_api_Trace)=some (addO p (cutT (badW C) l[i])):=observe_Add_eq (o:=p) g1 g2 (cutT_x _ (H.x hm))
      rw [dec_lt hx,cond_true,idxn_at hx,cut_iter (p:=badW C) (w:=l[i].In) (fun j hj=>by
       simp only [nondet_Settle.s17]
       rw [decide_eq_true (by omega),cond_true,chk_pos (by omega),nondet_key_eq ⟨by rw [List.length_take];omega,fun a ha=>hsm.2.2.1 a (List.mem_of_mem_take ha)⟩,obind,hg]
       cases badW C (l[i].In.take (j+1))
       ·simp only [Bool.not_false]
        rw [obind,cond_true,chk_pos (by unfold inR;omega)]
        rfl
       ·simp only [Bool.not_true]
        rw [obind,cond_false]
        rfl) (by
       simp only [nondet_Settle.s17]
       rw [decide_eq_false (by omega),cond_false,obind,cond_false]) hsm.1,obind,chk_pos (by omega),chk_pos (by omega),ha,obind,List.drop_eq_getElem_cons h,List.map_cons]
      unfold addsO
      by_cases e:(addO p (cutT (badW C) l[i])).2≠0
      ·rw [decide_eq_true e,cond_true,if_pos e,if_pos e]
      ·rw [decide_eq_false e,cond_false,if_neg e]
       exact ih (i+1) (addO p (cutT (badW C) l[i])).1 (addO_smx g1 g2 (cutT_x _ (H.x hm))) (addO_ok g2) h (by omega)
     ·have e:i=l.length:=by omega
      subst e
      rw [dec_end,cond_false,List.drop_length]
      rfl
   have:=key fuel 0 ⟨n,[]⟩ (new_ok hn).2 (new_ok hn).1 (Nat.zero_le _) (by have:=fuel_big;omega)
   rw [List.drop_zero] at this
   rw [this,obind]
   by_cases e:(addsO ⟨n,[]⟩ (l.map (cutT (badW C)))).2≠0
   ·rw [if_pos e,if_pos e]
    rfl
   ·rw [if_neg e,if_neg e]
    rfl
theorem CSpec.wrd {l:List T_api_Trace} (H:TrSm l) {C:List T_api_Clash} (hC:CSpec l C):(∀ c∈C,WrdOk c.Word)∧C.length≤1000000:=by
 obtain ⟨s1,s2⟩:=hC.small H
 refine ⟨fun c hc=>⟨by have:=(s1 c hc).2.1;omega,fun a ha=>?_⟩,s2⟩
 obtain ⟨t,ht,_,_,hp⟩:=mem_wordsL.1 (s1 c hc).2.2
 exact (H.2 t ht).2.2.1 a (hp.subset ha)
theorem settR_sm {l:List T_api_Trace} (H:TrSm l) {C:List T_api_Clash} (hC:CSpec l C) (n:Int):SmTr (settR l n C).1.Traces∧(∀ c∈(settR l n C).2.1,SmW c.Word)∧(settR l n C).2.1.length≤2000000:=by
 obtain ⟨s1,s2⟩:=hC.small H
 have h0:SmTr (⟨0,[]⟩:T_api_Obs).Traces:=⟨by simp,fun t ht=>by simp at ht⟩
 unfold settR
 by_cases hn:n<1∨64<n
 ·rw [if_pos hn]
  exact ⟨h0,fun c hc=>by simp at hc,by simp⟩
 ·rw [if_neg hn]
  cases hs:scan (settG n) 0 l with
  | some r =>
   have:∀ (l:List T_api_Trace) (j:Nat),scan (settG n) j l=some r→r=(⟨0,[]⟩,[],r.2.2):=by
    intro l
    induction l with
    | nil=>intro j h;cases h
    | cons t l ih =>
     intro j h
     unfold scan at h
     by_cases e:propI t n≠0
     ·have eg:settG n j t=some (⟨0,[]⟩,[],propI t n):=if_pos e
      rw [eg] at h
      simp only [Option.some.injEq] at h
      subst h
      rfl
     ·have eg:settG n j t=none:=if_neg e
      rw [eg] at h
      exact ih _ h
   have e1:=this l 0 hs
   simp only
   rw [e1]
   exact ⟨h0,fun c hc=>by simp at hc,by simp⟩
  | none =>
   simp only
   split
   ·exact ⟨h0,fun c hc=>by simp at hc,by simp⟩
   ·refine ⟨(addsO_ok _ _ (new_ok hn).2 (new_ok hn).1 fun t ht=>?_).1,fun c hc=>by have:=(s1 c hc).2.1;unfold SmW;omega,by simp only;omega⟩
    obtain ⟨x,hx,rfl⟩:=List.mem_map.1 ht
    exact cutT_x _ (H.x hx)
theorem few_sm {l:List T_api_Trace} (hin:∀ t∈l,(∀ a∈t.In,inR a)∧∀ a∈t.Out,inR a) (h1:l.length≤16) (h2:∀ t∈l,t.In.length≤16∧t.Out.length≤16):TrSm l:=⟨by omega,fun t ht=>by
 have:=h2 t ht
 exact ⟨by omega,by omega,hin t ht⟩⟩
end Go.Proofs.YtmcfpohmiabmpaaGreatDoor.Sym

/-
 Settled traces contradict nothing: the plain laws of NondetContradictions and NondetCertain.
-/
namespace Go.Proofs.YtmcfpohmiabmpaaGreatDoor.Sym
set_option maxRecDepth 100000
theorem commonN_pre:∀ {u a b:List Int},u <+: a→u <+: b→u.length≤common a b
 | [],_,_,_,_=>Nat.zero_le _
 | x::u,a,b,⟨ra,ha⟩,⟨rb,hb⟩=>by
  subst ha
  subst hb
  have:=commonN_pre (List.prefix_append u ra) (List.prefix_append u rb)
  simp only [List.cons_append]
  unfold common
  rw [if_pos rfl]
  simp only [List.length_cons]
  omega
theorem commonN_take:∀ (a b:List Int),a.take (common a b)=b.take (common a b)
 | [],b=>by simp [common]
 | _::_,[]=>by simp [common]
 | x::a,y::b=>by
  unfold common
  by_cases h:x=y
  ·rw [if_pos h,h,List.take_succ_cons,List.take_succ_cons,commonN_take a b]
  ·rw [if_neg h]
   rfl
def AgP (a b:T_api_Trace):Prop:=∀ m,m<a.In.length→m<b.In.length→a.In.take (m+1)=b.In.take (m+1)→a.Out[m]?=b.Out[m]?
theorem AgP.symm {a b:T_api_Trace} (h:AgP a b):AgP b a:=fun m h1 h2 he=>(h m h2 h1 he.symm).symm
theorem take_ne:∀ (n:Nat) (x y:List Int),n≤x.length→n≤y.length→x.take n≠y.take n→∃ m,m<n∧x.take m=y.take m∧(x[m]?).getD 0≠(y[m]?).getD 0
 | 0,_,_,_,_,h=>absurd rfl h
 | n+1,x,y,h1,h2,h=>by
  by_cases e:x.take n=y.take n
  ·refine ⟨n,by omega,e,fun e2=>h ?_⟩
   have hx:x[n]?=some x[n]:=List.getElem?_eq_getElem (by omega)
   have hy:y[n]?=some y[n]:=List.getElem?_eq_getElem (by omega)
   rw [take_step hx,take_step hy,e]
   rw [hx,hy] at e2
   simp only [Option.getD_some] at e2
   rw [e2]
  ·obtain ⟨m,g1,g2,g3⟩:=take_ne n x y (by omega) (by omega) e
   exact ⟨m,by omega,g2,g3⟩
abbrev Same2 (t:T_api_Trace):Prop:=t.Out.length=t.In.length
theorem two_of {l:List Int} {x y:Int} (hx:x∈l) (hy:y∈l) (h:x≠y):2≤l.length:=by
 match l,hx,hy with
 | [a],hx,hy=>exact absurd ((List.mem_singleton.1 hx).trans (List.mem_singleton.1 hy).symm) h
 | a::b::r,_,_=>simp
theorem clash_of {l:List T_api_Trace} {C:List T_api_Clash} (hC:CSpec l C) {t u:T_api_Trace} (ht:t∈l) (hu:u∈l) {m:Nat} (h1:m<stp t) (h2:m<stp u) (hi:t.In.take (m+1)=u.In.take (m+1)) (ho:t.Out.take m=u.Out.take m) (hd:(t.Out[m]?).getD 0≠(u.Out[m]?).getD 0):badW C (t.In.take (m+1))=true:=by
 unfold stp at h1 h2
 have hlen:(t.In.take (m+1)).length=m+1:=by rw [List.length_take];omega
 have hb:(t.Out.take m).length=m:=by rw [List.length_take];omega
 have hx:(t.Out[m]?).getD 0∈gouts l (t.In.take (m+1)) (t.Out.take m):=gouts_mem.2 ⟨t,ht,by unfold stp;omega,List.take_prefix _ _,List.take_prefix _ _,by rw [hlen];rfl⟩
 have hy:(u.Out[m]?).getD 0∈gouts l (t.In.take (m+1)) (t.Out.take m):=gouts_mem.2 ⟨u,hu,by unfold stp;omega,by rw [hi];exact List.take_prefix _ _,by rw [ho];exact List.take_prefix _ _,by rw [hlen];rfl⟩
 obtain ⟨c,hc,e⟩:=hC.all (t.In.take (m+1)) (t.Out.take m) (by unfold Fitl;omega) (two_of ((mem_sortI _ _).2 hx) ((mem_sortI _ _).2 hy) hd)
 unfold badW
 exact decide_eq_true (by rw [← e];exact List.mem_map_of_mem hc)
theorem of_clash {l:List T_api_Trace} {C:List T_api_Clash} (hC:CSpec l C) {c:T_api_Clash} (hc:c∈C):c.First<c.Second∧1≤c.Word.length∧∃ t∈l,∃ u∈l,c.Word.length≤stp t∧c.Word.length≤stp u∧c.Word <+: t.In∧c.Word <+: u.In∧t.Out[c.Word.length-1]?≠u.Out[c.Word.length-1]?:=by
 obtain ⟨b,r,k1,k2,_⟩:=hC.one c hc
 have ha:=sortI_asc (gouts l c.Word b)
 have k2':sortI (gouts l c.Word b)=c.First::c.Second::r:=k2
 rw [k2'] at ha
 have hlt:c.First<c.Second:=(List.pairwise_cons.1 ha).1 _ List.mem_cons_self
 obtain ⟨t,ht,t1,t2,_,t3⟩:=gouts_mem.1 ((mem_sortI (gouts l c.Word b) c.First).1 (by rw [k2'];exact List.mem_cons_self))
 obtain ⟨u,hu,u1,u2,_,u3⟩:=gouts_mem.1 ((mem_sortI (gouts l c.Word b) c.Second).1 (by rw [k2'];exact List.mem_cons_of_mem _ List.mem_cons_self))
 unfold Fitl at k1
 exact ⟨hlt,by omega,t,ht,u,hu,t1,u1,t2,u2,fun e=>by rw [t3,u3,e] at hlt;omega⟩
theorem cut_agree {l:List T_api_Trace} {C:List T_api_Clash} (hC:CSpec l C) {t u:T_api_Trace} (ht:t∈l) (hu:u∈l) (st:Same2 t) (su:Same2 u):Agree (cutT (badW C) t) (cutT (badW C) u):=by
 refine Classical.byContradiction fun h=>?_
 have hle:=common_le (t.In.take (cutW (badW C) t.In)) (u.In.take (cutW (badW C) u.In))
 have h1:=cutW_le (badW C) t.In
 have h2:=cutW_le (badW C) u.In
 have hcm:=commonN_take (t.In.take (cutW (badW C) t.In)) (u.In.take (cutW (badW C) u.In))
 simp only [List.length_take] at hle
 unfold Agree cutT at h
 simp only at h
 obtain ⟨m,g1,g2,g3⟩:=take_ne _ _ _ (by rw [List.length_take];omega) (by rw [List.length_take];omega) h
 simp only [List.take_take] at g2 hcm
 have hm1:m<cutW (badW C) t.In:=by omega
 have hm2:m<cutW (badW C) u.In:=by omega
 rw [show min m (cutW (badW C) t.In)=m by omega,show min m (cutW (badW C) u.In)=m by omega] at g2
 rw [List.getElem?_take,List.getElem?_take,if_pos hm1,if_pos hm2] at g3
 have hi:t.In.take (m+1)=u.In.take (m+1):=by
  have:=congrArg (fun l=>l.take (m+1)) hcm
  simp only [List.take_take] at this
  rwa [show min (m+1) (min (common (t.In.take (cutW (badW C) t.In)) (u.In.take (cutW (badW C) u.In))) (cutW (badW C) t.In))=m+1 by omega,show min (m+1) (min (common (t.In.take (cutW (badW C) t.In)) (u.In.take (cutW (badW C) u.In))) (cutW (badW C) u.In))=m+1 by omega] at this
 have:=clash_of hC ht hu (m:=m) (by unfold stp;omega) (by unfold stp;omega) hi g2 g3
 rw [cutW_lt hm1] at this
 cases this
theorem addL_cover {l:List T_api_Trace} {t:T_api_Trace}:(t.In=[]∨∃ x∈addL l t,t.In <+: x.In)∧∀ y∈l,∃ x∈addL l t,y.In <+: x.In:=by
 unfold addL
 by_cases h:insideO l t.In=true∨t.In=[]
 ·rw [if_pos h]
  refine ⟨h.elim (fun h=>?_) .inl,fun y hy=>⟨y,hy,List.prefix_refl _⟩⟩
  obtain ⟨u,hu,hp⟩:=List.any_eq_true.1 h
  exact .inr ⟨u,hu,of_decide_eq_true hp⟩
 ·rw [if_neg h]
  refine ⟨.inr ⟨t,mem_insT.2 (.inl rfl),List.prefix_refl _⟩,fun y hy=>?_⟩
  by_cases e:y.In <+: t.In
  ·exact ⟨t,mem_insT.2 (.inl rfl),e⟩
  ·exact ⟨y,mem_insT.2 (.inr (List.mem_filter.2 ⟨hy,by simp [e]⟩)),List.prefix_refl _⟩
theorem addO_fine {o:T_api_Obs} {t:T_api_Trace} (h1:∀ x∈o.Traces,Agree x t) (h2:propI t o.Inputs=0) (h3:o.Traces.length+1≤10000):addO o t=(⟨o.Inputs,addL o.Traces t⟩,0):=by
 unfold addO
 have h4:=addL_length o.Traces t
 rw [if_neg (by rw [h2];simp),if_neg (fun ⟨u,hu,e⟩=>e (h1 u hu)),if_neg (by omega)]
structure AddsOk (o:T_api_Obs) (l:List T_api_Trace):Prop where
 err:(addsO o l).2=0
 inp:(addsO o l).1.Inputs=o.Inputs
 len:(addsO o l).1.Traces.length≤o.Traces.length+l.length
 mem:∀ x∈(addsO o l).1.Traces,x∈o.Traces∨x∈l
 cov:∀ t∈l,t.In=[]∨∃ x∈(addsO o l).1.Traces,t.In <+: x.In
 old:∀ t∈o.Traces,∃ x∈(addsO o l).1.Traces,t.In <+: x.In
theorem addsO_fine:∀ (l:List T_api_Trace) (o:T_api_Obs),(∀ x∈o.Traces,∀ t∈l,Agree x t)→(∀ x∈l,∀ t∈l,Agree x t)→(∀ t∈l,propI t o.Inputs=0)→o.Traces.length+l.length≤10000→AddsOk o l
 | [],o,_,_,_,_=>⟨rfl,rfl,Nat.le_refl _,fun x hx=>.inl hx,fun t ht=>by simp at ht,fun t ht=>⟨t,ht,List.prefix_refl _⟩⟩
 | t::l,o,h1,h2,h3,h4=>by
  rw [List.length_cons] at h4
  have e:=addO_fine (fun x hx=>h1 x hx t List.mem_cons_self) (h3 t List.mem_cons_self) (by omega)
  have hal:=addL_length o.Traces t
  have ih:=addsO_fine l ⟨o.Inputs,addL o.Traces t⟩ (fun x hx u hu=>by
   rcases mem_addLs hx with e | e
   ·rw [e];exact h2 t List.mem_cons_self u (List.mem_cons_of_mem _ hu)
   ·exact h1 x e u (List.mem_cons_of_mem _ hu)) (fun x hx u hu=>h2 x (List.mem_cons_of_mem _ hx) u (List.mem_cons_of_mem _ hu)) (fun u hu=>h3 u (List.mem_cons_of_mem _ hu)) (by simp only;omega)
  have hs:addsO o (t::l)=addsO ⟨o.Inputs,addL o.Traces t⟩ l:=by
   conv=>lhs;unfold addsO
   rw [e]
   simp
  have hcov:=addL_cover (l:=o.Traces) (t:=t)
  refine ⟨by rw [hs];exact ih.err,by rw [hs];exact ih.inp,?_,fun x hx=>?_,fun u hu=>?_,fun u hu=>?_⟩
  ·rw [hs]
   have:=ih.len
   simp only at this
   rw [List.length_cons]
   omega
  ·rw [hs] at hx
   rcases ih.mem x hx with g | g
   ·rcases mem_addLs g with g | g
    ·exact .inr (by rw [g];exact List.mem_cons_self)
    ·exact .inl g
   ·exact .inr (List.mem_cons_of_mem _ g)
  ·rw [hs]
   rcases List.mem_cons.1 hu with rfl | hu
   ·rcases hcov.1 with g | ⟨x,hx,hp⟩
    ·exact .inl g
    ·obtain ⟨y,hy,hq⟩:=ih.old x hx
     exact .inr ⟨y,hy,hp.trans hq⟩
   ·exact ih.cov u hu
  ·rw [hs]
   obtain ⟨x,hx,hp⟩:=hcov.2 u hu
   obtain ⟨y,hy,hq⟩:=ih.old x hx
   exact ⟨y,hy,hp.trans hq⟩
theorem checkI_take {w:List Int} {n:Int} (h:checkI w n=0) (k:Nat):checkI (w.take k) n=0:=by
 unfold checkI at h ⊢
 split at h
 ·rename_i g1
  rw [if_pos g1]
  split at h
  ·cases h
  ·rename_i g2
   rw [if_neg (by rw [List.length_take];omega)]
   split at h
   ·rename_i g3
    rw [if_pos (List.all_eq_true.2 fun a ha=>List.all_eq_true.1 g3 a (List.mem_of_mem_take ha))]
   ·cases h
 ·cases h
theorem sett_fine {l:List T_api_Trace} {C:List T_api_Clash} (hC:CSpec l C) (hp:∀ t∈l,propI t 2=0) (hl:l.length≤1000):settR l 2 C=((addsO ⟨2,[]⟩ (l.map (cutT (badW C)))).1,C,0)∧AddsOk ⟨2,[]⟩ (l.map (cutT (badW C))):=by
 have hs:scan (settG 2) 0 l=none:=scan_none.2 fun i t ht=>if_neg (by rw [hp t (List.mem_of_getElem? ht)];simp)
 have hA:AddsOk ⟨2,[]⟩ (l.map (cutT (badW C))):=addsO_fine _ _ (fun x hx=>by simp at hx) (fun x hx y hy=>by
  obtain ⟨t,ht,rfl⟩:=List.mem_map.1 hx
  obtain ⟨u,hu,rfl⟩:=List.mem_map.1 hy
  exact cut_agree hC ht hu (propI_zero.1 (hp t ht)).2.1 (propI_zero.1 (hp u hu)).2.1) (fun x hx=>by
  obtain ⟨t,ht,rfl⟩:=List.mem_map.1 hx
  obtain ⟨p1,p2,p3⟩:=propI_zero.1 (hp t ht)
  have hle:=cutW_le (badW C) t.In
  refine propI_zero.2 ⟨?_,by unfold cutT;simp only [List.length_take];omega,fun y hy=>p3 y (List.mem_of_mem_take hy)⟩
  exact checkI_take p1 _) (by rw [List.length_map];simp only [List.length_nil];omega)
 refine ⟨?_,hA⟩
 unfold settR
 rw [if_neg (by omega),hs]
 simp only
 rw [if_neg (by rw [hA.err];simp)]
end Go.Proofs.YtmcfpohmiabmpaaGreatDoor.Sym

/-
 The plain law of NondetCertain.
-/
namespace Go.Proofs.YtmcfpohmiabmpaaGreatDoor.Sym
set_option maxRecDepth 100000
theorem R17_Great_r {l:List T_api_Trace} (h1:l.length≤30) (h2:∀ t∈l,t.In.length≤40∧t.Out.length≤40):R17_Great l=some false:=by
 unfold R17_Great
 have key:=iter_post (step:=fun s=>R17_Great.s2 l s) (fun k=>k≤l.length) (fun k=>l.length-k) (fun r=>r=.inl ()) (fun k g1=>by
  simp only [R17_Great.s2]
  by_cases h:k<l.length
  ·left
   have hx:=get_at h
   have:=h2 _ (List.getElem_mem h)
   refine ⟨k+1,?_,h,by omega⟩
   rw [dec_lt hx,cond_true,obind,decide_eq_true (by omega),cond_true,idxn_at hx,idxn_at hx,decide_eq_false (by omega),cond_false,obind,decide_eq_false (by omega),cond_false,chk_pos (by unfold inR;omega)]
  ·right
   have e:k=l.length:=by omega
   subst e
   exact ⟨_,by rw [dec_end,cond_false,obind,cond_false],rfl⟩) fuel 0 (Nat.zero_le _) (by have:=fuel_big;omega)
 obtain ⟨r,e,rfl⟩:=key
 rw [e,obind]
 simp only [Sum.elim_inl]
 rw [decide_eq_false (by omega)]
theorem sett_ans {l:List T_api_Trace} {C:List T_api_Clash} (hC:CSpec l C) (hp:∀ t∈l,propI t 2=0) (A:AddsOk ⟨2,[]⟩ (l.map (cutT (badW C)))) {t:T_api_Trace} (ht:t∈l) :
  ansO (addsO ⟨2,[]⟩ (l.map (cutT (badW C)))).1 (t.In.take (cutW (badW C) t.In))=some (t.Out.take (cutW (badW C) t.In)):=by
 generalize hO:(addsO ⟨2,[]⟩ (l.map (cutT (badW C)))).1=o at *
 have hle:=cutW_le (badW C) t.In
 have st:=(propI_zero.1 (hp t ht)).2.1
 unfold ansO
 by_cases e:t.In.take (cutW (badW C) t.In)=[]
 ·rw [if_pos e]
  have h0:cutW (badW C) t.In=0:=by
   have:=congrArg List.length e
   rw [List.length_take] at this
   simp only [List.length_nil] at this
   omega
  rw [h0]
  rfl
 ·rw [if_neg e]
  rcases A.cov (cutT (badW C) t) (List.mem_map_of_mem ht) with g | ⟨x,hx,hpx⟩
  ·exact absurd g e
  ·rw [hO] at hx
   cases hf:o.Traces.find? fun u=>decide (t.In.take (cutW (badW C) t.In) <+: u.In) with
   | none =>
    have:=List.find?_eq_none.1 hf x hx
    exact absurd (decide_eq_true hpx) this
   | some y =>
    have hy:=List.mem_of_find?_eq_some hf
    have hpy:t.In.take (cutW (badW C) t.In) <+: y.In:=by
     have:=List.find?_some hf
     exact of_decide_eq_true this
    rw [← hO] at hy
    rcases A.mem y hy with g | g
    ·simp at g
    ·obtain ⟨u,hu,rfl⟩:=List.mem_map.1 g
     have ha:=cut_agree hC hu ht (propI_zero.1 (hp u hu)).2.1 st
     unfold Agree at ha
     have hc:common (cutT (badW C) u).In (cutT (badW C) t).In=(t.In.take (cutW (badW C) t.In)).length:=by
      have h1:=commonN_pre (a:=(cutT (badW C) u).In) (b:=(cutT (badW C) t).In) hpy (List.prefix_refl _)
      have h2:=(common_le (cutT (badW C) u).In (cutT (badW C) t).In).2
      have h3:(cutT (badW C) t).In.length=(t.In.take (cutW (badW C) t.In)).length:=rfl
      omega
     rw [hc] at ha
     rw [Option.map_some,ha]
     unfold cutT
     simp only
     rw [List.length_take,List.take_take,show min (min (cutW (badW C) t.In) t.In.length) (cutW (badW C) t.In)=cutW (badW C) t.In by omega]
theorem plain_Certain {l:List T_api_Trace} (hin:∀ t∈l,(∀ a∈t.In,inR a)∧∀ a∈t.Out,inR a):L18_NondetCertain l=some true:=by
 unfold L18_NondetCertain
 obtain ⟨b,e,hb⟩:=few_r l
 rw [e,obind]
 cases b with
 | false =>
  simp only [Bool.not_false,cond_true]
  rw [awake18_true]
  rfl
 | true =>
  obtain ⟨h1,h2⟩:=hb rfl
  have H:=few_sm hin h1 h2
  simp only [Bool.not_true,cond_false]
  rw [iter_scan (l:=l) (fun _ t=>if propI t 2≠0 then some true else none) (fun i t ht=>by
   simp only [L18_NondetCertain.s2]
   have hX:=H.x (List.mem_of_getElem? ht)
   rw [dec_lt ht,cond_true,idxn_at ht,R16_Proper_eq t 2 hX.1 hX.2,obind]
   by_cases e:propI t 2≠0
   ·rw [decide_eq_true e,cond_true,if_pos e,awake18_true]
    rfl
   ·rw [decide_eq_false e,cond_false,if_neg e]) (by simp only [L18_NondetCertain.s2];rw [dec_end,cond_false]) (by omega),obind]
  cases hs:scan (fun _ (t:T_api_Trace)=>if propI t 2≠0 then some true else none) 0 l with
  | some r =>
   have:∀ (l:List T_api_Trace) (j:Nat),scan (fun _ (t:T_api_Trace)=>if propI t 2≠0 then some true else none) j l=some r→r=true:=by
    intro l
    induction l with
    | nil=>intro j h;cases h
    | cons t l ih =>
     intro j h
     unfold scan at h
     by_cases e:propI t 2≠0
     ·rw [if_pos e] at h
      simp only [Option.some.injEq] at h
      exact h.symm
     ·rw [if_neg e] at h
      exact ih _ h
   rw [this l 0 hs]
   rfl
  | none =>
   have hp:∀ t∈l,propI t 2=0:=fun t ht=>by
    obtain ⟨i,hi⟩:=List.getElem?_of_mem ht
    have:=scan_none.1 hs i t hi
    exact Classical.byContradiction fun e=>by rw [if_pos e] at this;cases this
   simp only [Sum.elim_inl]
   obtain ⟨C,c1,c2,hC⟩:=Clashes_eq H
   obtain ⟨w1,w2⟩:=hC.wrd H
   obtain ⟨f1,A⟩:=sett_fine hC hp (by omega)
   obtain ⟨s1,s2,s3⟩:=settR_sm H hC 2
   have hans:=fun t (ht:t∈l)=>sett_ans hC hp A ht
   have hok:=(addsO_ok (l.map (cutT (badW C))) ⟨2,[]⟩ (new_ok (by omega)).2 (new_ok (by omega)).1 fun t ht=>by
    obtain ⟨x,hx,rfl⟩:=List.mem_map.1 ht
    exact cutT_x _ (H.x hx)).2
   rw [nondet_Settle_eq H c1 w1 w2,obind]
   rw [f1] at s1 ⊢
   have hmem:∀ x∈(addsO ⟨2,[]⟩ (l.map (cutT (badW C)))).1.Traces,∃ t∈l,x=cutT (badW C) t:=fun x hx=>by
    rcases A.mem x hx with g | g
    ·simp at g
    ·obtain ⟨t,ht,e⟩:=List.mem_map.1 g
     exact ⟨t,ht,e.symm⟩
   have hlen:=A.len
   generalize (addsO ⟨2,[]⟩ (l.map (cutT (badW C)))).1=o at *
   simp only [List.length_nil,List.length_map,Nat.zero_add] at hlen
   simp only [ne_eq,not_true_eq_false,decide_false,cond_false]
   rw [R17_Great_r (by omega) fun x hx=>by
    obtain ⟨t,ht,rfl⟩:=hmem x hx
    have:=h2 t ht
    unfold cutT
    simp only [List.length_take]
    omega]
   simp only [Option.bind_some,cond_false]
   have k1:=iter_post (step:=fun s=>L18_NondetCertain.s16 (o,C,0) s) (fun k=>k≤C.length) (fun k=>C.length-k) (fun r=>r=.inl ()) (fun k g1=>by
    simp only [L18_NondetCertain.s16]
    by_cases h:k<C.length
    ·left
     have hx:=get_at h
     have hm:=List.getElem_mem h
     obtain ⟨q1,q2,_⟩:=of_clash hC hm
     have hsw:SmW C[k].Word:=by have:=(w1 _ hm).1;unfold SmW;omega
     refine ⟨k+1,?_,h,by omega⟩
     rw [dec_lt hx,cond_true,idxn_at hx,decide_eq_false (by omega),cond_false,idxn_at hx,idxn_at hx,decide_eq_false (by omega),cond_false]
     have hprev:(cond (decide (0<(↑k:Int))) (idx C ((↑k:Int)-1) fun e481=>idxn C k fun e482=>(R01_Compare e481.Word e482.Word).bind fun c483=>some (decide (0≤c483))) (some false):Option Bool)=some false:=by
      by_cases g:0<k
      ·have hy:=get_at (show k-1<C.length by omega)
       rw [decide_eq_true (by omega),cond_true,idx_at (i:=k-1) (by omega) hy,idxn_at hx,R01_Compare_eq _ _ (by have:=(w1 _ (List.getElem_mem (show k-1<C.length by omega))).1;unfold SmW;omega),obind,(List.pairwise_iff_getElem.1 hC.asc) (k-1) k (by omega) h (by omega)]
       rfl
      ·rw [decide_eq_false (by omega),cond_false]
     rw [hprev,obind,cond_false]
     rw [iter_scan (l:=o.Traces) (fun _ _=>(none:Option (Nat⊕(Unit⊕Bool)))) (fun j x hj=>by
      simp only [L18_NondetCertain.s15]
      obtain ⟨t,ht,rfl⟩:=hmem x (List.mem_of_getElem? hj)
      have hle:=cutW_le (badW C) t.In
      have htl:=h2 t ht
      rw [dec_lt hj,cond_true,idxn_at hj,idxn_at hx,R01_HasPrefix_eq _ _ (by unfold SmW cutT;simp only [List.length_take];omega),obind,decide_eq_false (fun hpf=>by
       have hpl:=hpf.length_le
       unfold cutT at hpf hpl
       simp only [List.length_take] at hpf hpl
       have hw:C[k].Word=t.In.take (C[k].Word.length-1+1):=by
        rw [show C[k].Word.length-1+1=C[k].Word.length by omega]
        exact List.prefix_iff_eq_take.1 (hpf.trans (List.take_prefix _ _))
       have hf:=cutW_lt (p:=badW C) (w:=t.In) (j:=C[k].Word.length-1) (by omega)
       rw [← hw] at hf
       have ht':badW C C[k].Word=true:=decide_eq_true (List.mem_map_of_mem hm)
       rw [ht'] at hf
       cases hf),cond_false]) (by simp only [L18_NondetCertain.s15];rw [dec_end,cond_false]) (by omega),obind]
     have:∀ (l:List T_api_Trace) (j:Nat),scan (fun _ _=>(none:Option (Nat⊕(Unit⊕Bool)))) j l=none:=by
      intro l
      induction l with
      | nil=>intro j;rfl
      | cons t l ih=>intro j;exact ih _
     rw [this]
     rfl
    ·right
     have e:k=C.length:=by omega
     subst e
     exact ⟨_,by rw [dec_end,cond_false],rfl⟩) fuel 0 (Nat.zero_le _) (by have:=fuel_big;omega)
   obtain ⟨r,e,rfl⟩:=k1
   rw [e]
   simp only [Option.bind_some,Sum.elim_inl]
   have k2:=iter_post (step:=fun s=>L18_NondetCertain.s30 l (o,C,0) s) (fun k=>k≤l.length) (fun k=>l.length-k) (fun r=>r=.inl ()) (fun i g1=>by
    simp only [L18_NondetCertain.s30]
    by_cases h:i<l.length
    ·left
     have hx:=get_at h
     have hm:=List.getElem_mem h
     have hle:=cutW_le (badW C) l[i].In
     have hL:=h2 _ hm
     have st:l[i].Out.length=l[i].In.length:=(propI_zero.1 (hp _ hm)).2.1
     refine ⟨i+1,?_,h,by omega⟩
     have kn:=iter_post (step:=fun (s:Int×Nat)=>L18_NondetCertain.s29 l (o,C,0) i s.1 s.2) (fun s=>s.2≤C.length∧(∃ n:Nat,s.1=↑n∧cutW (badW C) l[i].In≤n∧n≤l[i].In.length∧∀ c∈C.take s.2,c.Word <+: l[i].In→n+1≤c.Word.length)) (fun s=>C.length-s.2) (fun r=>r=(↑(cutW (badW C) l[i].In):Int)) (fun ⟨n',k⟩ ⟨g1,n,gn,g2,g3,g4⟩=>by
      simp only at g1 gn g2 g3 g4
      subst gn
      simp only [L18_NondetCertain.s29]
      by_cases h:k<C.length
      ·left
       have hy:=get_at h
       have hmc:=List.getElem_mem h
       obtain ⟨_,q2,_⟩:=of_clash hC hmc
       have hcl:=(w1 _ hmc).1
       rw [dec_lt hy,cond_true,idxn_at hx,idxn_at hy,R01_HasPrefix_eq _ _ (by unfold SmW;omega),obind]
       by_cases g:C[k].Word <+: l[i].In
       ·refine ⟨(↑(min n (C[k].Word.length-1)),k+1),?_,⟨h,min n (C[k].Word.length-1),rfl,?_,by omega,fun c hc hpc=>?_⟩,by simp only;omega⟩
        ·rw [decide_eq_true g,cond_true,idxn_at hy,chk_pos (by unfold inR;omega),show min (↑n:Int) ((↑C[k].Word.length:Int)-1)=↑(min n (C[k].Word.length-1)) by omega]
        ·have hge:cutW (badW C) l[i].In≤C[k].Word.length-1:=by
          refine Nat.le_of_not_lt fun hlt=>?_
          have hf:=cutW_lt hlt
          rw [show C[k].Word.length-1+1=C[k].Word.length by omega,← List.prefix_iff_eq_take.1 g] at hf
          have ht':badW C C[k].Word=true:=decide_eq_true (List.mem_map_of_mem hmc)
          rw [ht'] at hf
          cases hf
         omega
        ·simp only at hc
         rw [take_step hy] at hc
         rcases List.mem_append.1 hc with hc | hc
         ·have:=g4 c hc hpc
          omega
         ·rw [List.mem_singleton.1 hc]
          omega
       ·refine ⟨(↑n,k+1),?_,⟨h,n,rfl,g2,g3,fun c hc hpc=>?_⟩,by simp only;omega⟩
        ·rw [decide_eq_false g,cond_false]
        ·simp only at hc
         rw [take_step hy] at hc
         rcases List.mem_append.1 hc with hc | hc
         ·exact g4 c hc hpc
         ·rw [List.mem_singleton.1 hc] at hpc
          exact absurd hpc g
      ·right
       have e:k=C.length:=by omega
       subst e
       rw [List.take_length] at g4
       refine ⟨_,by rw [dec_end,cond_false],?_⟩
       rcases Nat.lt_or_ge (cutW (badW C) l[i].In) l[i].In.length with g | g
       ·have hb:=of_decide_eq_true (cutW_at g)
        obtain ⟨c,hc,e⟩:=List.mem_map.1 hb
        have:=g4 c hc (by rw [e];exact List.take_prefix _ _)
        rw [e,List.length_take] at this
        omega
       ·omega) fuel (↑l[i].In.length,0) ⟨Nat.zero_le _,_,rfl,hle,Nat.le_refl _,fun c hc=>by simp at hc⟩ (by have:=fuel_big;simp only;omega)
     obtain ⟨r,e,rfl⟩:=kn
     rw [dec_lt hx,cond_true,idxn_at hx,e,obind,idxn_at hx,chk_pos (by omega),Int.toNat_natCast,observe_AnswerT_eq s1 hok,obind,hans _ hm]
     simp only [Bool.not_true,cond_false]
     rw [idxn_at hx,chk_pos (by omega),R01_Same_eq _ _ (by unfold SmW;rw [List.length_take];omega),obind,decide_eq_true rfl]
     rfl
    ·right
     have e:i=l.length:=by omega
     subst e
     exact ⟨_,by rw [dec_end,cond_false],rfl⟩) fuel 0 (Nat.zero_le _) (by have:=fuel_big;omega)
   obtain ⟨r,e,rfl⟩:=k2
   rw [e]
   simp only [Option.bind_some,Sum.elim_inl]
   rw [awake18_true]
   rfl
end Go.Proofs.YtmcfpohmiabmpaaGreatDoor.Sym

/-
 The law of NondetCertain, for arguments within the bound.
-/
namespace Go.Proofs.YtmcfpohmiabmpaaGreatDoor.Sym
theorem law_L18_NondetCertain (x0:List T_api_Trace) (k0:okL ok_api_Trace x0) (_:szL sz_api_Trace x0≤1048576):L18_NondetCertain x0=some true :=
 plain_Certain fun t ht=>⟨(k0 t ht).1,(k0 t ht).2⟩
end Go.Proofs.YtmcfpohmiabmpaaGreatDoor.Sym

/-
 The plain reading: structs behind pointers; a map that one goes through; parts of the code that are shown by hand.
-/
namespace Go.Proofs.YtmcfpohmiabmpaaGreatDoor.Sym
open Go.RowKit
open Go.ChangeMaps (setBlock)
abbrev Ge:=Nat×List IV×List (List IV)
theorem fpv_bag {v:Value} (h:blkOf v=none) (l:List Ge) (rows:List Value):fpv v ((l.map fun g=>pv g.1)++rows)=l.map (·.1)++rows.filterMap blkOf:=by
 have h1:∀ l:List Ge,(l.map fun g=>pv g.1).filterMap blkOf=l.map (·.1):=fun l=>by
  induction l with
  | nil=>rfl
  | cons g l ih=>rw [List.map_cons,List.filterMap_cons,ih];rfl
 unfold fpv
 rw [List.filterMap_cons,h]
 simp only
 rw [List.filterMap_append,h1]
theorem perm_bag (A B C D:List Nat) (x:Nat) (Y:List Nat):((A++x::B)++(C++(Y++D))).Perm (x::(Y++((A++B)++(C++D)))):=by
 refine (List.perm_middle.append_right _).trans (.cons x ?_)
 exact ((List.perm_append_comm_assoc C Y D).append_left (A++B)).trans (List.perm_append_comm_assoc (A++B) Y (C++D))
theorem bag_perm {v:Value} (h:blkOf v=none) (l1 l2:List Ge) (g:Ge) (r1 r2:List Value) (row:Value) :
  (fpv v (((l1++g::l2).map fun g=>pv g.1)++(r1++row::r2))).Perm (g.1::((blkOf row).toList++fpv v (((l1++l2).map fun g=>pv g.1)++(r1++r2)))):=by
 rw [fpv_bag h,fpv_bag h]
 have h2:(row::r2).filterMap blkOf=(blkOf row).toList++r2.filterMap blkOf:=by
  rw [List.filterMap_cons]
  cases blkOf row<;>rfl
 simp only [List.map_append,List.map_cons,List.filterMap_append,h2]
 exact perm_bag _ _ _ _ _ _
def takeB (σ:St) (o p q:Nat) (t e:TypeId) (k n:Nat) (l:List Ge) (g:Ge):List (Loc×Ct) :=
 (.ign o,.n (σ.ig o+1))::(.knd o,.kd (.bag t e k l (some g.1)))::(.cel o 0,.av (.own p (σ.gn p+1) 0))::(.gen p,.n (σ.gn p+1))::(.knd p,.kd (.box t (n+1)))::(.gen q,.n (σ.gn q+1))::(.knd q,.kd (.row e k g.2.2)) ::
  celWr p 0 (g.2.1.map AV.im++[.osl q (σ.gn q+1)])
theorem takeB_eqs (σ:St) {o p q:Nat} (hop:o≠p) (hoq:o≠q) (hpq:p≠q) (t e:TypeId) (k n:Nat) (l:List Ge) (g:Ge) :
  (∀ x,(app σ (takeB σ o p q t e k n l g)).kd x=if x=q then .row e k g.2.2 else if x=p then .box t (n+1) else if x=o then .bag t e k l (some g.1) else σ.kd x) ∧
  (∀ x,(app σ (takeB σ o p q t e k n l g)).gn x=if x=q then σ.gn q+1 else if x=p then σ.gn p+1 else σ.gn x) ∧
  (∀ x,(app σ (takeB σ o p q t e k n l g)).ig x=if x=o then σ.ig o+1 else σ.ig x) ∧
  (∀ x,(app σ (takeB σ o p q t e k n l g)).av x=σ.av x) ∧
  (∀ x i,(app σ (takeB σ o p q t e k n l g)).ce x i=if x=p∧0≤i∧i<0+(g.2.1.map AV.im++[AV.osl q (σ.gn q+1)]).length then (g.2.1.map AV.im++[AV.osl q (σ.gn q+1)]).getD (i-0) (.im .any) else if x=o∧i=0 then .own p (σ.gn p+1) 0 else σ.ce x i):=by
 unfold takeB
 simp only [app_cons]
 refine ⟨fun x=>?_,fun x=>?_,fun x=>?_,fun x=>?_,fun x i=>?_⟩
 ·rw [celWr_kd];simp only [kd_knd,kd_gen,kd_cel,kd_ign]
 ·rw [celWr_gn];simp only [gn_knd,gn_gen,gn_cel,gn_ign]
 ·rw [celWr_ig];simp only [ig_knd,ig_gen,ig_cel,ig_ign]
 ·rw [celWr_av];simp only [av_knd,av_gen,av_cel,av_ign]
 ·rw [celWr_ce];simp only [ce_knd,ce_gen,ce_cel,ce_ign]
theorem split_rows {l1 l2:List Ge} {g:Ge} {rows:List Value} (h:rows.length=(l1++g::l2).length):∃ r1 row r2,rows=r1++row::r2∧r1.length=l1.length:=by
 have hlt:l1.length<rows.length:=by rw [h];simp
 exact ⟨rows.take l1.length,rows[l1.length],rows.drop (l1.length+1),by rw [List.getElem_cons_drop hlt,List.take_append_drop],by simp;omega⟩
theorem ents_out {w:World} {S:Nat→Prop} {t e:TypeId} {k:Nat} {l1 l2:List Ge} {g:Ge} {r1 r2:List Value} {row:Value} (hr:r1.length=l1.length)
  (h:∀ (i:Nat) g' row',(l1++g::l2)[i]?=some g'→(r1++row::r2)[i]?=some row'→EntOk w S t e k g' row') :
  EntOk w S t e k g row∧∀ (i:Nat) g' row',(l1++l2)[i]?=some g'→(r1++r2)[i]?=some row'→EntOk w S t e k g' row':=by
 refine ⟨h l1.length g row (by simp) (by rw [← hr];simp),fun i g' row' h1 h2=>?_⟩
 by_cases hi:i<l1.length
 ·rw [List.getElem?_append_left hi] at h1
  rw [List.getElem?_append_left (by omega)] at h2
  exact h i g' row' (by rw [List.getElem?_append_left hi];exact h1) (by rw [List.getElem?_append_left (by omega)];exact h2)
 ·rw [List.getElem?_append_right (by omega)] at h1 h2
  refine h (i+1) g' row' ?_ ?_
  ·rw [List.getElem?_append_right (by omega),show i+1-l1.length=(i-l1.length)+1 by omega,List.getElem?_cons_succ];exact h1
  ·rw [List.getElem?_append_right (by omega),show i+1-r1.length=(i-r1.length)+1 by omega,List.getElem?_cons_succ];exact h2
theorem ents_in {w:World} {S:Nat→Prop} {t e:TypeId} {k:Nat} {l1 l2:List Ge} {g:Ge} {r1 r2:List Value} {row:Value} (hr:r1.length=l1.length) (hg:EntOk w S t e k g row)
  (h:∀ (i:Nat) g' row',(l1++l2)[i]?=some g'→(r1++r2)[i]?=some row'→EntOk w S t e k g' row') :
  ∀ (i:Nat) g' row',(l1++g::l2)[i]?=some g'→(r1++row::r2)[i]?=some row'→EntOk w S t e k g' row':=fun i g' row' h1 h2=>by
 by_cases hi:i<l1.length
 ·rw [List.getElem?_append_left hi] at h1
  rw [List.getElem?_append_left (by omega)] at h2
  exact h i g' row' (by rw [List.getElem?_append_left hi];exact h1) (by rw [List.getElem?_append_left (by omega)];exact h2)
 ·rw [List.getElem?_append_right (by omega)] at h1 h2
  cases hj:i-l1.length with
  | zero =>
   rw [hj] at h1
   rw [show i-r1.length=0 by omega] at h2
   simp only [List.getElem?_cons_zero,Option.some.injEq] at h1 h2
   rw [← h1,← h2]
   exact hg
  | succ j =>
   rw [hj,List.getElem?_cons_succ] at h1
   rw [show i-r1.length=j+1 by omega,List.getElem?_cons_succ] at h2
   refine h (i-1) g' row' ?_ ?_
   ·rw [List.getElem?_append_right (by omega),show i-1-l1.length=j by omega];exact h1
   ·rw [List.getElem?_append_right (by omega),show i-1-r1.length=j by omega];exact h2
theorem Ent.take {σ:St} {o p q n k:Nat} {t e:TypeId} {l1 l2:List Ge} {g:Ge} (hk:σ.kd o=.bag t e k (l1++g::l2) none) (hp:σ.kd p=.dead) (hq:σ.kd q=.dead) (hpq:p≠q) (hn:g.2.1.length=n):Ent σ (app σ (takeB σ o p q t e k n (l1++l2) g)):=by
 rintro B a w ⟨ρ,hs⟩
 have hop:o≠p:=fun e=>by rw [e,hp] at hk;cases hk
 have hoq:o≠q:=fun e=>by rw [e,hq] at hk;cases hk
 obtain ⟨ekd,egn,eig,eav,ece⟩:=takeB_eqs σ hop hoq hpq t e k n (l1++l2) g
 generalize hσ':app σ (takeB σ o p q t e k n (l1++l2) g)=σ' at ekd egn eig eav ece
 have ho:=hs.obs o
 rw [hk] at ho
 obtain ⟨⟨h0,h1,rows,h2,h3,h4⟩,_⟩:=ho
 obtain ⟨r1,row,r2,rfl,hr⟩:=split_rows h2
 obtain ⟨⟨us,e2,e3,e4,e5,e6⟩,h4'⟩:=ents_out hr h4
 have hperm:=bag_perm h0 l1 l2 g r1 r2 row
 rw [h3] at h1
 have hnd:=hperm.nodup_iff.1 h1
 have howo:∀ b,Owns σ ρ o b↔b∈fpv (ρ o) (((l1++g::l2).map fun g=>pv g.1)++(r1++row::r2)):=fun b=>by unfold Owns;rw [hk,h3];rfl
 obtain ⟨hnd1,hnd2⟩:=List.nodup_cons.1 hnd
 have hnd3:=List.nodup_append.1 hnd2
 let ρ':Ly:=⟨fun x=>if x=q then row else if x=p then pv g.1 else ρ x,fun x=>if x=o then ((l1++l2).map fun g=>pv g.1)++(r1++r2) else ρ.inn x,fun x=>if x=o then ρ.ig o+1 else ρ.ig x⟩
 have fo:∀ b,Owns σ' ρ' o b↔b∈fpv (ρ o) (((l1++l2).map fun g=>pv g.1)++(r1++r2)):=fun b=>by
  unfold Owns
  rw [ekd,if_neg hoq,if_neg hop,if_pos rfl]
  simp only [ρ',if_neg hoq,if_neg hop,if_pos]
  exact Iff.rfl
 have fp:∀ b,Owns σ' ρ' p b↔b=g.1:=fun b=>by
  unfold Owns
  rw [ekd,if_neg hpq,if_pos rfl]
  simp only [ρ',if_neg hpq,if_pos]
  simp [fpk,blkOf]
 have fq:∀ b,Owns σ' ρ' q b↔b∈(blkOf row).toList:=fun b=>by
  unfold Owns
  rw [ekd,if_pos rfl]
  simp only [ρ',if_pos]
  exact Iff.rfl
 have old:∀ b,(b=g.1∨b∈(blkOf row).toList∨b∈fpv (ρ o) (((l1++l2).map fun g=>pv g.1)++(r1++r2)))→Owns σ ρ o b:=fun b hb=>by
  rw [howo]
  refine hperm.mem_iff.2 ?_
  rcases hb with rfl | hb | hb
  ·exact List.mem_cons_self
  ·exact List.mem_cons_of_mem _ (List.mem_append_left _ hb)
  ·exact List.mem_cons_of_mem _ (List.mem_append_right _ hb)
 refine ⟨ρ',(hs.step (σ':=σ') (ρ':=ρ') (w':=w) (fun x=>x=o∨x=p∨x=q) eav (fun x hx=>?_) (fun x hx=>?_) (fun x=>?_) (Belo.refl _ _ _) (fun x b hx hb=>.inr ⟨o,.inl rfl,?_⟩) (fun x y b hx hy hbx hby=>?_) fun hI hA x hx=>?_).1⟩
 ·have n1:x≠o:=fun e=>hx (.inl e)
  have n2:x≠p:=fun e=>hx (.inr (.inl e))
  have n3:x≠q:=fun e=>hx (.inr (.inr e))
  refine ⟨by rw [ekd,if_neg n3,if_neg n2,if_neg n1],by rw [egn,if_neg n3,if_neg n2],fun i=>by rw [ece,if_neg (fun e=>n2 e.1),if_neg (fun e=>n1 e.1)],by simp only [ρ',if_neg n3,if_neg n2],by simp only [ρ',if_neg n1],by simp only [ρ',if_neg n1]⟩
 ·rcases hx with rfl | rfl | rfl
  ·refine ⟨⟨by rw [egn,if_neg hoq,if_neg hop];exact Nat.le_refl _,fun _=>by simp only [ρ',if_neg hoq,if_neg hop]⟩,by simp only [ρ',if_pos];omega,fun e=>?_⟩
   simp only [ρ',if_pos] at e
   omega
  ·refine ⟨⟨by rw [egn,if_neg hpq,if_pos rfl];omega,fun e=>by rw [egn,if_neg hpq,if_pos rfl] at e;omega⟩,by simp only [ρ',if_neg (Ne.symm hop)];exact Nat.le_refl _,fun _=>by simp only [ρ',if_neg (Ne.symm hop)]⟩
  ·refine ⟨⟨by rw [egn,if_pos rfl];omega,fun e=>by rw [egn,if_pos rfl] at e;omega⟩,by simp only [ρ',if_neg (Ne.symm hoq)];exact Nat.le_refl _,fun _=>by simp only [ρ',if_neg (Ne.symm hoq)]⟩
 ·rw [eig]
  simp only [ρ']
  by_cases e:x=o
  ·rw [if_pos e,if_pos e,hs.igs]
  ·rw [if_neg e,if_neg e,hs.igs]
 ·rcases hx with rfl | rfl | rfl
  ·exact old b (.inr (.inr ((fo b).1 hb)))
  ·exact old b (.inl ((fp b).1 hb))
  ·exact old b (.inr (.inl ((fq b).1 hb)))
 ·have key1:∀ b,b=g.1→b∈(blkOf row).toList→False:=fun b e hb=>hnd1 (by rw [← e];exact List.mem_append_left _ hb)
  have key2:∀ b,b=g.1→b∈fpv (ρ o) (((l1++l2).map fun g=>pv g.1)++(r1++r2))→False:=fun b e hb=>hnd1 (by rw [← e];exact List.mem_append_right _ hb)
  have key3:∀ b,b∈(blkOf row).toList→b∈fpv (ρ o) (((l1++l2).map fun g=>pv g.1)++(r1++r2))→False:=fun b h1 h2=>hnd3.2.2 b h1 b h2 rfl
  rcases hx with rfl | rfl | rfl
  ·rcases hy with rfl | rfl | rfl
   ·rfl
   ·exact (key2 b ((fp b).1 hby) ((fo b).1 hbx)).elim
   ·exact (key3 b ((fq b).1 hby) ((fo b).1 hbx)).elim
  ·rcases hy with rfl | rfl | rfl
   ·exact (key2 b ((fp b).1 hbx) ((fo b).1 hby)).elim
   ·rfl
   ·exact (key1 b ((fp b).1 hbx) ((fq b).1 hby)).elim
  ·rcases hy with rfl | rfl | rfl
   ·exact (key3 b ((fq b).1 hbx) ((fo b).1 hby)).elim
   ·exact (key1 b ((fp b).1 hby) ((fq b).1 hbx)).elim
   ·rfl
 ·rcases hx with rfl | rfl | rfl
  ·rw [ekd,if_neg hoq,if_neg hop,if_pos rfl]
   show BagOk w _ (ρ' x) (ρ'.inn x) t e k (l1++l2)∧∀ p',some g.1=some p'→_
   simp only [ρ',if_neg hoq,if_neg hop,if_pos]
   refine ⟨⟨h0,hnd3.2.1,r1++r2,?_,rfl,fun i g' row' hg' hr'=>(h4' i g' row' hg' hr').mono (fun _ _=>rfl) hI⟩,fun p' e=>?_⟩
   ·simp only [List.length_append,List.length_cons] at h2 ⊢
    omega
   ·injection e with e
    subst e
    rw [ece,if_neg (fun e=>hop e.1),if_pos ⟨rfl,rfl⟩]
    refine .own _ _ _ _ rfl (Nat.le_of_eq ?_) fun _=>⟨g.1,?_,rfl⟩
    ·rw [egn,if_neg hpq,if_pos rfl]
    ·simp only [if_neg hpq,if_pos]
  ·rw [ekd,if_neg hpq,if_pos rfl]
   refine ⟨g.1,us++[row],by simp only [ρ',if_neg hpq,if_pos],e2,by simp [e3,hn],fun u hu=>?_,fun i u hu=>?_⟩
   ·rcases List.mem_append.1 hu with hu | hu
    ·exact e4 u hu
    ·rw [List.mem_singleton.1 hu]
     exact HoldOk.one (inn:=[]) (k:=.row e k g.2.2) e6
   ·have hi:i<(us++[row]).length:=(List.getElem?_eq_some_iff.1 hu).1
    have hl:(us++[row]).length=(g.2.1.map AV.im++[AV.osl q (σ.gn q+1)]).length:=by simp [e3]
    rw [ece,if_pos ⟨rfl,Nat.zero_le _,by omega⟩,Nat.sub_zero]
    by_cases hiu:i<us.length
    ·rw [List.getElem?_append_left hiu] at hu
     have hg1:g.2.1[i]?=some (g.2.1[i]'(by omega)):=List.getElem?_eq_getElem (by omega)
     have:(g.2.1.map AV.im++[AV.osl q (σ.gn q+1)]).getD i (.im .any)=.im (g.2.1[i]'(by omega)):=by
      rw [List.getD_eq_getElem?_getD,List.getElem?_append_left (by simp;omega),List.getElem?_map,hg1]
      rfl
     rw [this]
     exact .im _ _ (hI _ _ (e5 i u _ hu hg1))
    ·have hie:i=us.length:=by simp at hi;omega
     subst hie
     rw [List.getElem?_append_right (Nat.le_refl _),Nat.sub_self] at hu
     simp only [List.getElem?_cons_zero,Option.some.injEq] at hu
     subst hu
     have:(g.2.1.map AV.im++[AV.osl q (σ.gn q+1)]).getD us.length (.im .any)=.osl q (σ.gn q+1):=by
      rw [List.getD_eq_getElem?_getD,List.getElem?_append_right (by simp [e3])]
      simp [e3]
     rw [this]
     refine .osl _ _ _ (HoldOk.one (inn:=[]) (k:=.row e k g.2.2) e6) (Nat.le_of_eq ?_) fun _=>?_
     ·rw [egn,if_pos rfl]
     ·simp only [ρ',if_pos]
  ·rw [ekd,if_pos rfl]
   show RowOk w _ (ρ' x) e k g.2.2
   simp only [ρ',if_pos]
   exact e6.mono (fun _ _=>rfl) hI
theorem Ent.own1 {σ:St} {o p g s t e k v:Nat} {l:List Ge} (hk:σ.kd o=.bag t e k l (some v)) (hc:σ.ce o 0=.own p g 0) (hv:σ.av s=.im (.val (pv v))):Ent σ (upd σ (.tmp s) (.av (.own p g 0))):=by
 rintro B a w ⟨ρ,hs⟩
 have ho:=hs.obs o
 rw [hk] at ho
 have h2:=ho.2 v rfl
 rw [hc] at h2
 have h1:=hs.tms s
 rw [hv] at h1
 refine ⟨ρ,hs.say s ?_⟩
 have h1:=h1.im_inv
 generalize a.tmps.getD s undef=u at h1 ⊢
 cases h1 with
 | val _=>exact h2
def putB (σ:St) (o p q:Nat) (t e:TypeId) (k:Nat) (l:List Ge):List (Loc×Ct) :=
 [(.ign o,.n (σ.ig o+1)),(.knd o,.kd (.bag t e k l none)),(.knd p,.kd .dead),(.knd q,.kd .dead)]
theorem Ent.giveB {σ:St} {o p q gp gq n k v:Nat} {t e:TypeId} {l1 l2:List Ge} {xs:List IV} {es:List (List IV)} (hk:σ.kd o=.bag t e k (l1++l2) (some v)) (hc:σ.ce o 0=.own p gp 0) (hgp:σ.gn p=gp) (hp:σ.kd p=.box t (n+1)) (hn:xs.length=n)
  (hx:∀ (i:Nat) x,xs[i]?=some x→σ.ce p i=.im x) (hq1:σ.ce p n=.osl q gq) (hgq:σ.gn q=gq) (hq:σ.kd q=.row e k es):Ent σ (app σ (putB σ o p q t e k (l1++(v,xs,es)::l2))):=by
 rintro B a w ⟨ρ,hs⟩
 have hop:o≠p:=fun e=>by rw [e,hp] at hk;cases hk
 have hoq:o≠q:=fun e=>by rw [e,hq] at hk;cases hk
 have hpq:p≠q:=fun e=>by rw [e,hq] at hp;cases hp
 have ho:=hs.obs o
 rw [hk] at ho
 obtain ⟨⟨h0,h1,rows,h2,h3,h4⟩,h5⟩:=ho
 have h5:=h5 v rfl
 rw [hc] at h5
 have hrp:ρ p=pv v:=by
  cases h5 with
  | own _ _ _ _ _ _ hh =>
   obtain ⟨b,h6,h7⟩:=hh hgp
   rw [h6,← h7]
 have hbx:=hs.obs p
 rw [hp] at hbx
 obtain ⟨b,us0,b1,b2,b3,b4,b5⟩:=hbx
 rw [hrp] at b1
 simp only [Value.pointer.injEq,Option.some.injEq,Addr.mk.injEq,and_true] at b1
 subst b1
 obtain ⟨us,u,rfl⟩:∃ us u,us0=us++[u]:=⟨us0.dropLast,us0.getLast (by intro e;rw [e] at b3;simp at b3),(List.dropLast_concat_getLast _).symm⟩
 have hul:us.length=n:=by simpa using b3
 have hu:u=ρ q:=by
  have h6:=b5 n u (by rw [← hul];simp)
  rw [hq1] at h6
  cases h6 with
  | osl _ _ _ _ _ hh=>exact hh hgq
 subst hu
 have hrow:=hs.obs q
 rw [hq] at hrow
 obtain ⟨r1,r2,hr0,hr⟩:∃ r1 r2,rows=r1++r2∧r1.length=l1.length:=⟨rows.take l1.length,rows.drop l1.length,(List.take_append_drop _ _).symm,by simp at h2;simp;omega⟩
 subst hr0
 have hg:EntOk w (Imm B σ ρ w) t e k (v,xs,es) (ρ q):=⟨us,b2,by rw [hul,hn],fun u hu=>b4 u (List.mem_append_left _ hu),fun i u x hu hx'=>by
  have h6:=b5 i u (by rw [List.getElem?_append_left (List.getElem?_eq_some_iff.1 hu).1];exact hu)
  rw [hx i x hx'] at h6
  exact h6.im_inv,hrow⟩
 have hperm:=bag_perm h0 l1 l2 (v,xs,es) r1 r2 (ρ q)
 have fo:∀ b,Owns σ ρ o b↔b∈fpv (ρ o) (((l1++l2).map fun g=>pv g.1)++(r1++r2)):=fun b=>by unfold Owns;rw [hk,h3];rfl
 have fp:∀ b,Owns σ ρ p b↔b=v:=fun b=>by unfold Owns;rw [hp,hrp];simp [fpk,blkOf]
 have fq:∀ b,Owns σ ρ q b↔b∈(blkOf (ρ q)).toList:=fun b=>by unfold Owns;rw [hq];exact Iff.rfl
 let σ':=app σ (putB σ o p q t e k (l1++(v,xs,es)::l2))
 let ρ':Ly:=⟨ρ,fun x=>if x=o then ((l1++(v,xs,es)::l2).map fun g=>pv g.1)++(r1++ρ q::r2) else ρ.inn x,fun x=>if x=o then ρ.ig o+1 else ρ.ig x⟩
 have ekd:∀ x,σ'.kd x=if x=q then .dead else if x=p then .dead else if x=o then .bag t e k (l1++(v,xs,es)::l2) none else σ.kd x:=fun x=>by
  simp only [σ',putB,app_cons,app_nil,kd_knd,kd_ign]
 have egn:∀ x,σ'.gn x=σ.gn x:=fun x=>by simp only [σ',putB,app_cons,app_nil,gn_knd,gn_ign]
 have eig:∀ x,σ'.ig x=if x=o then σ.ig o+1 else σ.ig x:=fun x=>by simp only [σ',putB,app_cons,app_nil,ig_knd,ig_ign]
 have eav:∀ x,σ'.av x=σ.av x:=fun x=>by simp only [σ',putB,app_cons,app_nil,av_knd,av_ign]
 have ece:∀ x i,σ'.ce x i=σ.ce x i:=fun x i=>by simp only [σ',putB,app_cons,app_nil,ce_knd,ce_ign]
 have hnew:∀ b,Owns σ' ρ' o b→b=v∨b∈(blkOf (ρ q)).toList∨b∈fpv (ρ o) (((l1++l2).map fun g=>pv g.1)++(r1++r2)):=fun b hb=>by
  unfold Owns at hb
  rw [ekd,if_neg hoq,if_neg hop,if_pos rfl] at hb
  simp only [ρ',if_pos] at hb
  have hb:=hperm.mem_iff.1 hb
  rcases List.mem_cons.1 hb with hb | hb
  ·exact .inl hb
  ·exact .inr (List.mem_append.1 hb)
 have hdead:∀ x b,x=p∨x=q→¬ Owns σ' ρ' x b:=fun x b hx ho=>by
  refine ho.lv ?_
  rw [ekd]
  rcases hx with rfl | rfl
  ·rw [if_neg hpq,if_pos rfl]
  ·rw [if_pos rfl]
 refine ⟨ρ',(hs.step (σ':=σ') (ρ':=ρ') (w':=w) (fun x=>x=o∨x=p∨x=q) eav (fun x hx=>?_) (fun x hx=>?_) (fun x=>?_) (Belo.refl _ _ _) (fun x b hx hb=>.inr ?_) (fun x y b hx hy hbx hby=>?_) fun hI hA x hx=>?_).1⟩
 ·have n1:x≠o:=fun e=>hx (.inl e)
  have n2:x≠p:=fun e=>hx (.inr (.inl e))
  have n3:x≠q:=fun e=>hx (.inr (.inr e))
  exact ⟨by rw [ekd,if_neg n3,if_neg n2,if_neg n1],egn x,fun i=>ece x i,rfl,by simp only [ρ',if_neg n1],by simp only [ρ',if_neg n1]⟩
 ·refine ⟨⟨by rw [egn];exact Nat.le_refl _,fun _=>rfl⟩,?_⟩
  by_cases e:x=o
  ·subst e
   refine ⟨by simp only [ρ',if_pos];omega,fun e=>?_⟩
   simp only [ρ',if_pos] at e
   omega
  ·exact ⟨by simp only [ρ',if_neg e];exact Nat.le_refl _,fun _=>by simp only [ρ',if_neg e]⟩
 ·rw [eig]
  simp only [ρ']
  by_cases e:x=o
  ·rw [if_pos e,if_pos e,hs.igs]
  ·rw [if_neg e,if_neg e,hs.igs]
 ·by_cases hxo:x=o
  ·subst hxo
   rcases hnew b hb with h6 | h6 | h6
   ·exact ⟨p,.inr (.inl rfl),(fp b).2 h6⟩
   ·exact ⟨q,.inr (.inr rfl),(fq b).2 h6⟩
   ·exact ⟨x,.inl rfl,(fo b).2 h6⟩
  ·exact (hdead x b (hx.resolve_left hxo) hb).elim
 ·by_cases hxo:x=o
  ·by_cases hyo:y=o
   ·rw [hxo,hyo]
   ·exact (hdead y b (hy.resolve_left hyo) hby).elim
  ·exact (hdead x b (hx.resolve_left hxo) hbx).elim
 ·by_cases hxo:x=o
  ·subst hxo
   rw [ekd,if_neg hoq,if_neg hop,if_pos rfl]
   show BagOk w _ (ρ' x) (ρ'.inn x) t e k (l1++(v,xs,es)::l2)∧∀ p',none=some p'→_
   simp only [ρ',if_pos]
   refine ⟨⟨h0,hperm.nodup_iff.2 ?_,r1++ρ q::r2,?_,rfl,ents_in hr (hg.mono (fun _ _=>rfl) hI) fun i g' row' hg' hr'=>(h4 i g' row' hg' hr').mono (fun _ _=>rfl) hI⟩,fun p' e=>by cases e⟩
   ·refine List.nodup_cons.2 ⟨fun hm=>?_,List.nodup_append.2 ⟨by cases blkOf (ρ q)<;>simp,by rw [← h3];exact h1,fun b hb c hc e=>?_⟩⟩
    ·rcases List.mem_append.1 hm with hm | hm
     ·exact hpq (hs.dis p q v ((fp v).2 rfl) ((fq v).2 hm))
     ·exact hop (hs.dis p x v ((fp v).2 rfl) ((fo v).2 hm)).symm
    ·subst e
     exact hoq (hs.dis q x b ((fq b).2 hb) ((fo b).2 hc)).symm
   ·simp only [List.length_append,List.length_cons] at h2 ⊢
    omega
  ·have:σ'.kd x=.dead:=by
    rw [ekd]
    rcases hx.resolve_left hxo with rfl | rfl
    ·rw [if_neg hpq,if_pos rfl]
    ·rw [if_pos rfl]
   rw [this]
   trivial
theorem Sat.join {B:Base} {σ:St} {a:Act} {w:World} {o p g s k m:Nat} {t t' e:TypeId} {l:List Ge} (h:Sat B σ a w) (hk:σ.kd o=.bag t e k l none) (hv:σ.av s=.own p g 0) (hg:σ.gn p=g) (hp:σ.kd p=.box t' m) :
  ∃ v:Nat,Sat B (app σ [(.knd o,.kd (.bag t e k l (some v))),(.cel o 0,.av (.own p g 0)),(.tmp s,.av (.im (.val (pv v))))]) a w:=by
 obtain ⟨ρ,hs⟩:=h
 have h1:=hs.tms s
 rw [hv] at h1
 obtain ⟨v,hval,hrp⟩:∃ v,a.tmps.getD s undef=pv v∧ρ p=pv v:=by
  generalize a.tmps.getD s undef=u at h1
  cases h1 with
  | own _ _ _ _ _ _ hh =>
   obtain ⟨b,h2,h3⟩:=hh hg
   exact ⟨b,h3,h2⟩
 have ho:=hs.obs o
 rw [hk] at ho
 have hop:o≠p:=fun e=>by rw [e,hp] at hk;cases hk
 let σ1:=app σ [(.knd o,.kd (.bag t e k l (some v))),(.cel o 0,.av (.own p g 0))]
 have ekd:∀ x,σ1.kd x=if x=o then .bag t e k l (some v) else σ.kd x:=fun x=>by simp only [σ1,app_cons,app_nil,kd_knd,kd_cel]
 have egn:∀ x,σ1.gn x=σ.gn x:=fun x=>by simp only [σ1,app_cons,app_nil,gn_knd,gn_cel]
 have eig:∀ x,σ1.ig x=σ.ig x:=fun x=>by simp only [σ1,app_cons,app_nil,ig_knd,ig_cel]
 have eav:∀ x,σ1.av x=σ.av x:=fun x=>by simp only [σ1,app_cons,app_nil,av_knd,av_cel]
 have ece:∀ x i,σ1.ce x i=if x=o∧i=0 then .own p g 0 else σ.ce x i:=fun x i=>by simp only [σ1,app_cons,app_nil,ce_knd,ce_cel]
 have how:∀ x b,Owns σ1 ρ x b→Owns σ ρ x b:=fun x b hb=>by
  unfold Owns at hb ⊢
  rw [ekd] at hb
  by_cases e:x=o
  ·subst e
   rw [if_pos rfl] at hb
   rw [hk]
   exact hb
  ·rw [if_neg e] at hb
   exact hb
 have h5:=(hs.step (σ':=σ1) (ρ':=ρ) (w':=w) (fun x=>x=o) eav (fun x hx=>⟨by rw [ekd,if_neg hx],egn x,fun i=>by rw [ece,if_neg (fun e=>hx e.1)],rfl,rfl,rfl⟩)
  (fun x _=>⟨⟨by rw [egn];exact Nat.le_refl _,fun _=>rfl⟩,Nat.le_refl _,fun _=>rfl⟩) (fun x=>by rw [eig];exact hs.igs x) (Belo.refl _ _ _) (fun x b hx hb=>.inr ⟨x,hx,how x b hb⟩) (fun x y b hx hy _ _=>hx.trans hy.symm) fun hI hA x hx=>by
   subst hx
   rw [ekd,if_pos rfl]
   refine ⟨BagOk.mono ho.1 (fun _ _=>rfl) hI,fun p' e=>?_⟩
   injection e with e
   subst e
   rw [ece,if_pos ⟨rfl,rfl⟩]
   exact .own _ _ _ _ rfl (by rw [egn,hg];exact Nat.le_refl _) fun _=>⟨v,hrp,rfl⟩).1
 refine ⟨v,ρ,?_⟩
 have h6:=h5.say s (v:=.im (.val (pv v))) (by rw [hval];exact .im _ _ (.val _))
 exact h6
end Go.Proofs.YtmcfpohmiabmpaaGreatDoor.Sym

/-
 The plain reading: a range over a map, in whatever order; code of which some regions are shown by hand.
-/
namespace Go.Proofs.YtmcfpohmiabmpaaGreatDoor.Sym
open Go.RowKit Go.ChangeMaps
def refG (g:Ge):IV:=.ref (g.2.1++[.sl g.2.2])
def hOp (P:Program) (o:Oper) (K:St→Prop) (σ:St):Prop :=
 match o.op,o.dst with
 | .range t x,some d=>∃ (m g ob k:Nat) (t' e:TypeId) (l:List Ge) (lm:List (Value×Value)),(mapTy P t).isSome∧evA σ x=.osl m g∧σ.gn m=g∧σ.kd m=.map lm∧σ.kd ob=.bag t' e k l none∧lm.map (·.2)=l.map (fun g=>pv g.1) ∧
   K (app σ [(.knd ob,.kd .dead),(.ign m,.n (σ.ig m+1)),(.knd m,.kd (.mapI (l.map refG) none)),(.tmp d,.av (.sub m (σ.ig m+1) 0))])
 | .next x false,some d=>∃ (m g:Nat) (left:List IV) (c:Option IV),evA σ x=.sub m g 0∧σ.ig m=g∧σ.kd m=.mapI left c ∧
   (left=[]→K (app σ [(.tmp d,.av (.tup [vB false]))]))∧∀ (i:Nat) y,left[i]?=some y→K (app σ [(.knd m,.kd (.mapI (left.eraseIdx i) (some y))),(.tmp d,.av (.tup [vB true,.im .any,.im .any]))])
 | .entry x,some d=>∃ (m g:Nat) (left:List IV) (y:IV),evA σ x=.sub m g 0∧σ.ig m=g∧σ.kd m=.mapI left (some y)∧K (app σ [(.tmp d,.av (.tup [.im .any,.im y]))])
 | _,_=>False
theorem exists_rd {A C:Type} {N:Type} [DecidableEq N] (f:A→N) (d:C):∀ (la:List A) (bs:List C),(la.map f).Nodup→la.length=bs.length→∃ rd:A→C,la.map rd=bs
 | [],[],_,_=>⟨fun _=>d,rfl⟩
 | a::la,b::bs,h,hl=>by
  rw [List.map_cons,List.nodup_cons] at h
  obtain ⟨rd,hr⟩:=exists_rd f d la bs h.2 (by simpa using hl)
  refine ⟨fun x=>if f x=f a then b else rd x,?_⟩
  rw [List.map_cons,if_pos rfl,← hr]
  congr 1
  refine List.map_congr_left fun x hx=>?_
  rw [if_neg fun e=>h.1 (by rw [← e];exact List.mem_map.2 ⟨x,hx,rfl⟩)]
 | [],_::_,_,hl=>by simp at hl
 | _::_,[],_,hl=>by simp at hl
theorem map_erase {A C:Type} (f:A→C):∀ (l:List A) (i:Nat),(l.map f).eraseIdx i=(l.eraseIdx i).map f
 | [],i=>rfl
 | x::l,0=>rfl
 | x::l,i+1=>by rw [List.map_cons,List.eraseIdx_cons_succ,List.eraseIdx_cons_succ,map_erase f l i];rfl
theorem filter_erase {A:Type} {f:A→Nat}:∀ {l:List A} {i:Nat} {e:A},(l.map f).Nodup→l[i]?=some e→l.filter (fun x=>!(f x==f e))=l.eraseIdx i
 | [],i,e,_,h=>by simp at h
 | x::l,0,e,hn,h=>by
  rw [List.map_cons,List.nodup_cons] at hn
  simp only [List.getElem?_cons_zero,Option.some.injEq] at h
  subst h
  rw [List.filter_cons,if_neg (by simp),List.eraseIdx_cons_zero]
  refine List.filter_eq_self.2 fun y hy=>?_
  simp only [Bool.not_eq_true',beq_eq_false_iff_ne]
  exact fun e=>hn.1 (by rw [← e];exact List.mem_map.2 ⟨y,hy,rfl⟩)
 | x::l,i+1,e,hn,h=>by
  rw [List.map_cons,List.nodup_cons] at hn
  rw [List.getElem?_cons_succ] at h
  have hne:f x≠f e:=fun h1=>hn.1 (by rw [h1];exact List.mem_map.2 ⟨e,List.mem_of_getElem? h,rfl⟩)
  rw [List.filter_cons,if_pos (by simp [hne]),List.eraseIdx_cons_succ,filter_erase hn.2 h]
section
variable {P:Program} {B:Base} {σ:St} {a:Act} {w:World}
theorem SatR.put1 {ρ:Ly} (h:SatR B σ a w ρ) {o:Oper} {d:Tmp} (hdst:o.dst=some d) (hd:dstOk B.n o=true) {u:Value} {v:AV} (hv:RepA w (Imm B σ ρ w) ρ σ.gn u v):SatR B (upd σ (.tmp d) (.av v)) (a.put o.dst u) w ρ:=by
 rw [hdst]
 exact h.put (d:=some d) (fun t e=>by injection e with e;subst e;exact dst_some hd hdst) hv
theorem sub_inv {ρ:Ly} (hs:SatR B σ a w ρ) {x:Operand} {m g:Nat} {u:Value} (hx:evA σ x=.sub m g 0) (hg:σ.ig m=g) (hi:ρ.inn m=[u]):a.eval x=u:=by
 have h1:=evA_ok hs x
 rw [hx] at h1
 generalize a.eval x=v at h1
 cases h1 with
 | sub _ _ _ _ _ _ hh =>
  have:=hh ((hs.igs m).trans hg)
  rw [hi] at this
  simpa using this.symm
theorem hOp_ok {o:Oper} {K:St→Prop} (h:hOp P o K σ) (hd:dstOk B.n o=true) (hs:Sat B σ a w) {K':Act→World→Prop} {Q:Exit→Act→World→Prop} (hK:∀ σ' a' w',K σ'→Sat B σ' a' w'→K' a' w'):o.wp P a w K' Q:=by
 obtain ⟨ρ,hs⟩:=hs
 unfold hOp at h
 split at h
 ·rename_i t x d hop hdst
  obtain ⟨m,g,ob,k,t',e,l,lm,hmt,hx,hg,hkm,hkb,hll,h⟩:=h
  obtain ⟨⟨kt,et⟩,hmt⟩:=Option.isSome_iff_exists.1 hmt
  have hund:=mapTy_spec hmt
  have hom:=hs.obs m
  rw [hkm] at hom
  obtain ⟨b,clock,es,e1,e2,e3,est⟩:=hom
  have hob:=hs.obs ob
  rw [hkb] at hob
  obtain ⟨⟨b0,b1,rows,b2,b3,b4⟩,_⟩:=hob
  have hxv:a.eval x=.map (some b):=by
   have h1:=evA_ok hs x
   rw [hx] at h1
   generalize a.eval x=v at h1
   cases h1 with
   | osl _ _ _ _ _ hh=>rw [hh hg,e1]
  obtain ⟨rd,hrd⟩:=exists_rd (fun x:MapEntry=>x.born) IV.any es.toList (l.map refG) est.2 (by
   have:=congrArg List.length hll
   rw [← e3] at this
   simpa using this)
  have hne:m≠ob:=fun e=>by rw [e,hkb] at hkm;cases hkm
  have hobl:∀ c,Owns σ ρ ob c→Imm B (app σ (fwr [(ob,0)])) ρ w c:=fun c hc=>kill_blk hs (b:=ob) hc (by simp)
  have hI1:=(hs.kills [(ob,0)]).2
  have hs1:=(hs.kills [(ob,0)]).1
  have hrefs:∀ (i:Nat) g,l[i]?=some g→RepI w (Imm B (app σ (fwr [(ob,0)])) ρ w) (pv g.1) (refG g):=fun i g hgi=>by
   have hlt:i<rows.length:=by rw [b2];exact (List.getElem?_eq_some_iff.1 hgi).1
   have hri:rows[i]?=some rows[i]:=List.getElem?_eq_getElem hlt
   obtain ⟨us,c2,c3,c4,c5,c6⟩:=b4 i g _ hgi hri
   have hin:∀ c,c∈fpv (ρ ob) (ρ.inn ob)→Owns σ ρ ob c:=fun c hc=>by unfold Owns;rw [hkb];exact hc
   have hb1:Imm B (app σ (fwr [(ob,0)])) ρ w g.1:=hobl _ (hin _ (List.mem_filterMap.2 ⟨pv g.1,List.mem_cons_of_mem _ (by rw [b3];exact List.mem_append_left _ (List.mem_map.2 ⟨g,List.mem_of_getElem? hgi,rfl⟩)),rfl⟩))
   refine .ref g.1 0 (us++[rows[i]]) _ hb1 (by simp [c3]) (fun u hu=>?_) (fun j u hu=>?_) fun j u y hu hy=>?_
   ·rcases List.mem_append.1 hu with hu | hu
    ·exact c4 u hu
    ·rw [List.mem_singleton.1 hu]
     exact HoldOk.one (inn:=[]) (k:=.row e k g.2.2) c6
   ·unfold World.cell?
    rw [c2]
    simpa using hu
   ·by_cases hj:j<us.length
    ·rw [List.getElem?_append_left hj] at hu
     rw [List.getElem?_append_left (by omega)] at hy
     exact hI1 _ _ (c5 j u y hu hy)
    ·have hjl:=(List.getElem?_eq_some_iff.1 hu).1
     simp at hjl
     have hje:j=us.length:=by omega
     subst hje
     rw [List.getElem?_append_right (Nat.le_refl _),Nat.sub_self] at hu
     rw [List.getElem?_append_right (by omega),c3,Nat.sub_self] at hy
     simp only [List.getElem?_cons_zero,Option.some.injEq] at hu hy
     subst hu hy
     exact RowOk.repI c6 (fun c hc=>⟨hobl _ (hin _ (List.mem_filterMap.2 ⟨rows[i],List.mem_cons_of_mem _ (by rw [b3];exact List.mem_append_right _ (List.mem_of_getElem? hri)),hc⟩)),rfl⟩) hI1
  have run:(execOp a.eval o).run P w=.ok (.value (.pointer (some ⟨w.heap.size,0,none⟩))) (w.alloc (.mapIter (some b) clock #[] clock)):=by
   simp only [execOp,hop,hxv,Sem.run_bind,run_range_map w t kt et b es clock hund e2,Result.andThen_ok,Sem.run_pure]
  unfold Oper.wp
  rw [run,Oper.upon_value]
  have hbl:b<w.heap.size:=(Array.getElem?_eq_some_iff.1 e2).1
  let w':=w.alloc (.mapIter (some b) clock #[] clock)
  let σ1:=app σ (fwr [(ob,0)])
  let σ2:=app σ1 [(.ign m,.n (σ.ig m+1)),(.knd m,.kd (.mapI (l.map refG) none))]
  let ρ2:Ly:=⟨ρ,fun x=>if x=m then [.pointer (some ⟨w.heap.size,0,none⟩)] else ρ.inn x,fun x=>if x=m then ρ.ig m+1 else ρ.ig x⟩
  have ekd:∀ x,σ2.kd x=if x=m then .mapI (l.map refG) none else σ1.kd x:=fun x=>by simp only [σ2,app_cons,app_nil,kd_knd,kd_ign]
  have eig:∀ x,σ2.ig x=if x=m then σ.ig m+1 else σ1.ig x:=fun x=>by simp only [σ2,app_cons,app_nil,ig_knd,ig_ign]
  have hk1:σ1.kd m=.map lm:=by
   show (app σ (fwr [(ob,0)])).kd m=_
   rw [fwr_kd,if_neg (by simpa using hne)]
   exact hkm
  have hg1:∀ x,σ1.ig x=σ.ig x:=fun x=>by show (app σ (fwr [(ob,0)])).ig x=_;rw [fwr_ig]
  have how1:∀ c,Owns σ1 ρ m c↔c=b:=fun c=>by unfold Owns;rw [hk1,e1];simp [fpk,blkOf]
  have how2:∀ c,Owns σ2 ρ2 m c→c=b∨c=w.heap.size:=fun c hc=>by
   unfold Owns at hc
   rw [ekd,if_pos rfl] at hc
   simp only [ρ2,if_pos] at hc
   simpa [fpk,fpv,e1,blkOf] using hc
  have hst:=(hs1.step (σ':=σ2) (ρ':=ρ2) (w':=w') (fun x=>x=m) (fun t=>by simp only [σ2,app_cons,app_nil,av_knd,av_ign];rfl)
   (fun x hx=>⟨by rw [ekd,if_neg hx],by simp only [σ2,app_cons,app_nil,gn_knd,gn_ign];rfl,fun i=>by simp only [σ2,app_cons,app_nil,ce_knd,ce_ign];rfl,rfl,by simp only [ρ2,if_neg hx],by simp only [ρ2,if_neg hx]⟩)
   (fun x hx=>by
    subst hx
    refine ⟨⟨by simp only [σ2,app_cons,app_nil,gn_knd,gn_ign];exact Nat.le_refl _,fun _=>rfl⟩,by simp only [ρ2,if_pos];omega,fun e=>?_⟩
    simp only [ρ2,if_pos] at e
    omega)
   (fun x=>by
    rw [eig]
    simp only [ρ2]
    by_cases e:x=m
    ·rw [if_pos e,if_pos e,hs.igs]
    ·rw [if_neg e,if_neg e,hs1.igs])
   (.of ((Below.refl _ _).alloc (Nat.le_refl _) _)) (fun x c hx hc=>by
    subst hx
    rcases how2 c hc with e | e
    ·exact .inr ⟨x,rfl,(how1 c).2 e⟩
    ·exact .inl (by omega)) (fun x y c hx hy _ _=>hx.trans hy.symm) fun hI hA x hx=>by
   subst hx
   rw [ekd,if_pos rfl]
   refine ⟨b,w.heap.size,clock,clock,clock,es,#[],rd,e1,by simp only [ρ2,if_pos],by omega,?_,heap_alloc_new w _,est.1,Nat.le_refl _,Nat.le_refl _,est.2,fun y hy=>?_,?_,fun y e=>by cases e⟩
   ·rw [← e2]
    exact heap_alloc_old _ _ hbl
   ·obtain ⟨i,hi⟩:=List.getElem?_of_mem hy
    have h1:lm[i]?=some (y.key,y.val):=by rw [← e3,List.getElem?_map,hi];rfl
    have h2:(l.map fun g=>pv g.1)[i]?=some y.val:=by rw [← hll,List.getElem?_map,h1];rfl
    have h3:(l.map refG)[i]?=some (rd y):=by rw [← hrd,List.getElem?_map,hi];rfl
    rw [List.getElem?_map] at h2 h3
    cases hgi:l[i]? with
    | none=>rw [hgi] at h2;cases h2
    | some g' =>
     rw [hgi] at h2 h3
     simp only [Option.map_some,Option.some.injEq] at h2 h3
     rw [← h2,← h3]
     exact hI _ _ (hrefs i g' hgi)
   ·rw [← hrd]
    congr 1
    exact (List.filter_eq_self.2 fun y _=>by simp).symm).1
  refine hK _ _ _ h ⟨ρ2,?_⟩
  have hput:=hst.put1 (o:=o) (d:=d) hdst hd (u:=.pointer (some ⟨w.heap.size,0,none⟩)) (v:=.sub m (σ.ig m+1) 0) (.sub _ _ _ _ rfl (by simp only [ρ2,if_pos,hs.igs];exact Nat.le_refl _) fun _=>by simp [ρ2])
  exact hput
 ·rename_i x d hop hdst
  obtain ⟨m,g,left,c,hx,hg,hkm,hk0,hk1⟩:=h
  have hom:=hs.obs m
  rw [hkm] at hom
  obtain ⟨b,r,clock,since,c0,es,seen,rd,e1,e2,e3,e4,e5,e6,e7,e8,e9,e10,e11,e12⟩:=hom
  have hxv:=sub_inv hs hx hg e2
  unfold Oper.wp
  rcases run_next_at (P:=P) w o.type r b since c0 seen es clock e5 e4 e6 e7 with ⟨h0,hrun⟩ | ⟨e,he,w1,hal,hrun⟩
  ·have run:(execOp a.eval o).run P w=.ok (.value (.tuple #[.bool false])) w:=by
    simp only [execOp,hop,hxv,Sem.run_bind,hrun,Result.andThen_ok,Sem.run_pure]
   rw [run,Oper.upon_value]
   have hl:left=[]:=by
    rw [e11,List.map_eq_nil_iff]
    apply List.eq_nil_of_length_eq_zero
    rw [← h0]
    unfold leftOf
    rw [← Array.length_toList,Array.toList_filter]
   refine hK _ _ _ (hk0 hl) ⟨ρ,hs.put1 hdst hd (v:=.tup [vB false]) (.tup [.bool false] _ rfl fun j u y hu hy=>?_)⟩
   match j with
   | 0=>simp at hu hy;rw [← hu,← hy];exact vB_rep _
   | j+1=>simp at hu
  ·obtain ⟨hem,hes⟩:=mem_left he
   have run:(execOp a.eval o).run P w=.ok (.value (.tuple #[.bool true,e.key,e.val])) (setBlock w1 r (.mapIter (some b) since (seen.push e.born) clock)):=by
    simp only [execOp,hop,hxv,Sem.run_bind,hrun,Result.andThen_ok,Sem.run_pure]
   rw [run,Oper.upon_value]
   have hr1:w1.heap[r]?=some (.mapIter (some b) since seen c0):=by rcases hal with rfl | rfl<;>exact e5
   have hw1:w1.heap=w.heap:=by rcases hal with rfl | rfl<;>rfl
   obtain ⟨i,hi⟩:=List.getElem?_of_mem (show e∈es.toList.filter (fun x=>!seen.contains x.born) from List.mem_filter.2 ⟨hem,by rw [hes];rfl⟩)
   have hly:left[i]?=some (rd e):=by rw [e11,List.getElem?_map,hi];rfl
   have hler:left.eraseIdx i=(es.toList.filter fun x=>!(seen.push e.born).contains x.born).map rd:=by
    rw [e11,map_erase,← filter_erase (f:=fun x:MapEntry=>x.born) (((List.filter_sublist).map _).nodup e9) hi,List.filter_filter]
    congr 1
    refine List.filter_congr fun x _=>?_
    rw [contains_push]
    cases seen.contains x.born<;>cases (x.born==e.born)<;>rfl
   let w2:=setBlock w1 r (.mapIter (some b) since (seen.push e.born) clock)
   have hset0:=MapKept.heap_set (o':=.mapIter (some b) since (seen.push e.born) clock) hr1
   have hset:∀ j,j≠r→w2.heap[j]?=w.heap[j]?:=fun j hj=>by rw [← hw1];exact hset0.2 j hj
   let σ2:=app σ [(.knd m,.kd (.mapI (left.eraseIdx i) (some (rd e))))]
   have ekd:∀ x,σ2.kd x=if x=m then .mapI (left.eraseIdx i) (some (rd e)) else σ.kd x:=fun x=>by simp only [σ2,app_cons,app_nil,kd_knd]
   have how:∀ x c,Owns σ2 ρ x c→Owns σ ρ x c:=fun x c hc=>by
    unfold Owns at hc ⊢
    rw [ekd] at hc
    by_cases ex:x=m
    ·subst ex
     rw [if_pos rfl] at hc
     rw [hkm]
     exact hc
    ·rw [if_neg ex] at hc
     exact hc
   have hrm:Owns σ ρ m r:=by
    unfold Owns
    rw [hkm]
    show r∈fpv (ρ m) (ρ.inn m)
    rw [e1,e2]
    simp [fpv,blkOf]
   have hst:=(hs.step (σ':=σ2) (ρ':=ρ) (w':=w2) (fun x=>x=m) (fun t=>by simp only [σ2,app_cons,app_nil,av_knd])
    (fun x hx=>⟨by rw [ekd,if_neg hx],by simp only [σ2,app_cons,app_nil,gn_knd],fun i=>by simp only [σ2,app_cons,app_nil,ce_knd],rfl,rfl,rfl⟩)
    (fun x _=>⟨⟨by simp only [σ2,app_cons,app_nil,gn_knd];exact Nat.le_refl _,fun _=>rfl⟩,Nat.le_refl _,fun _=>rfl⟩) (fun x=>by simp only [σ2,app_cons,app_nil,ig_knd];exact hs.igs x)
    ⟨by rcases hal with rfl | rfl<;>rfl,by rcases hal with rfl | rfl<;>rfl,by rcases hal with rfl | rfl<;>rfl,by rcases hal with rfl | rfl<;>simp [w2,setBlock],fun j _ hj=>hset j fun ej=>hj ⟨m,rfl,by rw [ej];exact hrm⟩⟩
    (fun x c hx hc=>.inr ⟨x,hx,how x c hc⟩) (fun x y c hx hy _ _=>hx.trans hy.symm) fun hI hA x hx=>by
    subst hx
    rw [ekd,if_pos rfl]
    exact ⟨b,r,clock,since,clock,es,seen.push e.born,rd,e1,e2,e3,(hset b (Ne.symm e3)).trans e4,hset0.1,e6,e8,e8,e9,fun y hy=>hI _ _ (e10 y hy),hler,fun y ey=>by
     injection ey with ey
     exact ⟨rfl,seen,e,rfl,hem,ey⟩⟩).1
   refine hK _ _ _ (hk1 i _ hly) ⟨ρ,?_⟩
   exact hst.put1 hdst hd (v:=.tup [vB true,.im .any,.im .any]) (.tup [.bool true,e.key,e.val] _ rfl fun j u y hu hy=>by
    match j with
    | 0=>simp at hu hy;rw [← hu,← hy];exact vB_rep _
    | 1=>simp at hu hy;rw [← hy];exact .im _ _ (.any _)
    | 2=>simp at hu hy;rw [← hy];exact .im _ _ (.any _)
    | j+3=>simp at hu)
 ·rename_i x d hop hdst
  obtain ⟨m,g,left,y,hx,hg,hkm,h⟩:=h
  have hom:=hs.obs m
  rw [hkm] at hom
  obtain ⟨b,r,clock,since,c0,es,seen,rd,e1,e2,e3,e4,e5,e6,e7,e8,e9,e10,e11,e12⟩:=hom
  obtain ⟨ec,s0,e,es0,eem,erd⟩:=e12 y rfl
  have hxv:=sub_inv hs hx hg e2
  rw [ec,es0] at e5
  have run:(execOp a.eval o).run P w=.ok (.value (.tuple #[e.key,e.val])) w:=by
   simp only [execOp,hop,hxv,Sem.run_bind,run_entry_at (P:=P) w r b since s0 es clock e e5 e4 eem e9,Result.andThen_ok,Sem.run_pure]
  unfold Oper.wp
  rw [run,Oper.upon_value]
  refine hK _ _ _ h ⟨ρ,hs.put1 hdst hd (v:=.tup [.im .any,.im y]) (.tup [e.key,e.val] _ rfl fun j u z hu hz=>?_)⟩
  match j with
  | 0=>simp at hu hz;rw [← hz];exact .im _ _ (.any _)
  | 1=>simp at hu hz;rw [← hu,← hz,← erd];exact .im _ _ (e10 e eem)
  | j+2=>simp at hu
 ·exact h.elim
def hOps (P:Program) (C:FuncId→List Arg→Rs→Prop) (n:Nat) (own:List Nat) (ops:List Oper) (sp:Nat):Nat→List Oper→St→(St→Prop)→Prop
 | _,[],σ,K=>K σ
 | i,o::l,σ,K=>match Nat.beq i sp with
  | true=>Chk (o.guard.isNone&&dstOk n o) (hOp P o (fun σ'=>hOps P C n own ops sp (i+1) l σ' K) σ)
  | false=>aGuard P C n own ops o σ fun fx=>frcF fx σ fun _ σ'=>hOps P C n own ops sp (i+1) l σ' K
end
section
variable {P:Program} {B:Base} {ops:Array Oper}
theorem hOps_ok {C:FuncId→List Arg→Rs→Prop} (hC:∀ g xs r,C g xs r→SpX P g xs r) {own:List Nat} {sp:Nat} {K:St→Prop} {Q:Exit→Act→World→Prop} (hQ:∀ σ' a' w',K σ'→Sat B σ' a' w'→Q .normal a' w'):∀ (l:List Oper) (i:Nat) (σ:St),(∀ j,l[j]?=ops[i+j]?) →
  hOps P C B.n own ops.toList sp i l σ K→∀ {a:Act} {w:World},Sat B σ a w→wpOps P ops Q (List.range' i l.length) a w
 | [],i,σ,_,h,a,w,hs=>hQ σ a w h hs
 | o::l,i,σ,hl,h,a,w,hs=>by
  have ho:ops[i]?=some o:=by simpa using (hl 0).symm
  have hl':∀ j,l[j]?=ops[i+1+j]?:=fun j=>by have:=hl (j+1);rw [List.getElem?_cons_succ] at this;rw [this];congr 1;omega
  rw [List.length_cons,List.range'_succ,wpOps_cons]
  unfold hOps at h
  split at h
  ·obtain ⟨hc,h⟩:=h.ok
   rw [Bool.and_eq_true] at hc
   refine wanted_wp ho ?_
   rw [if_pos (by unfold Region.wanted;rw [Option.isNone_iff_eq_none.1 hc.1])]
   exact hOp_ok h hc.2 hs fun σ' a' w' hk hs'=>hOps_ok hC hQ l (i+1) σ' hl' hk hs'
  ·obtain ⟨fx,h2,he⟩:=aGuard_ok (B:=B) hC h
   rw [frcF_eq] at h2
   exact wanted_wp ho (he σ (fun _ _=>rfl) a w hs _ Q fun a' w' hs'=>hOps_ok hC hQ l (i+1) _ hl' h2 hs')
def EntX (σ:St) (S:St→Prop):Prop:=∀ B a w,Sat B σ a w→∃ σ1,S σ1∧Sat B σ1 a w
inductive Rh (P:Program) (n:Nat) (own:List Nat):Code→(Exit→St→Prop)→St→Prop
 | ops (id:Nat) (os:Array Oper) (sp:Nat) (K:Exit→St→Prop) (σ:St) (h:hOps P (SpX P) n own os.toList sp 0 os.toList σ (K .normal)):Rh P n own (.region id os false) K σ
 | pre (id:Nat) (os:Array Oper) (draw:Bool) (K:Exit→St→Prop) (σ:St) (S:St→Prop) (hx:EntX σ S) (h:∀ σ1,S σ1→aOps P (SpX P) n own os.toList os.toList [] σ1 fun fs σ'=>Chk (!draw||drawOk os.toList fs) (K .normal σ')):Rh P n own (.region id os draw) K σ
theorem Rh_ok (hm:P.follows .mixedOrders=true) {own:List Nat} {c:Code} {K:Exit→St→Prop} {σ:St} (h:Rh P B.n own c K σ) {a:Act} {w:World} (hs:Sat B σ a w) {Q:Exit→Act→World→Prop} (hQ:∀ e σ' a' w',K e σ'→Sat B σ' a' w'→Q e a' w'):c.wp P Q a w:=by
 cases h with
 | ops id os sp _ _ h =>
  refine wp_region ?_
  have:=hOps_ok (B:=B) (ops:=os) (C:=SpX P) (fun _ _ _ h=>h) (hQ .normal) os.toList 0 σ (fun j=>by simp) h hs
  rw [← List.range_eq_range'] at this
  simpa using this
 | pre id os draw _ _ S hx h =>
  obtain ⟨σ1,h1,hs1⟩:=hx B a w hs
  exact aRegion_ok hm (C:=SpX P) (fun _ _ _ h=>h) (h σ1 h1) hs1 hQ
def aCodeH (P:Program) (C:FuncId→List Arg→Rs→Prop) (n:Nat) (own:List Nat) (hs:List Nat):Code→(Exit→St→Prop)→St→Prop
 | .skip,K,σ=>K .normal σ
 | .region id ops draw,K,σ=>match memB id hs with
  | true=>Rh P n own (.region id ops draw) K σ
  | false=>aOps P C n own ops.toList ops.toList [] σ fun fs σ'=>Chk (!draw||drawOk ops.toList fs) (K .normal σ')
 | .seq a b,K,σ=>match one a with
  | true=>aCodeH P C n own hs a (fun e σ'=>match e with | .normal=>aCodeH P C n own hs b K σ' | e=>K e σ') σ
  | false=>Cut (fun J=>aCodeH P C n own hs a (fun e σ'=>match e with | .normal=>J σ' | e=>K e σ') σ) fun σ'=>aCodeH P C n own hs b K σ'
 | .cond c a b,K,σ=>match asBool (evA σ c) with
  | some t=>Both t (aCodeH P C n own hs a K σ) (aCodeH P C n own hs b K σ)
  | none=>False
 | .block id body,K,σ=>match oneB id body with
  | true=>aCodeH P C n own hs body (fun e σ'=>match e with | .exit j=>if j=id then K .normal σ' else K (.exit j) σ' | e=>K e σ') σ
  | false=>Cut (fun J=>aCodeH P C n own hs body (fun e σ'=>match e with | .normal=>J σ' | .exit j=>if j=id then J σ' else K (.exit j) σ' | e=>K e σ') σ) fun σ'=>K .normal σ'
 | .loop body,K,σ=>Loops (fun K' σ'=>aCodeH P C n own hs body K' σ') K σ
 | .exit id,K,σ=>K (.exit id) σ
 | .ret,K,σ=>K .ret σ
 | _,_,_=>False
theorem aCodeH_ok (hm:P.follows .mixedOrders=true) {own hs:List Nat}:∀ (c:Code) (K:Exit→St→Prop) (σ:St),aCodeH P (SpX P) B.n own hs c K σ→∀ a w,Sat B σ a w→∀ Q:Exit→Act→World→Prop,
  (∀ e σ' a' w',K e σ'→Sat B σ' a' w'→Q e a' w')→c.wp P Q a w
 | .skip,K,σ,h,a,w,hs,Q,hQ=>wp_skip (hQ .normal σ a w h hs)
 | .region id ops draw,K,σ,h,a,w,hs,Q,hQ=>by
  simp only [aCodeH] at h
  split at h
  ·exact Rh_ok hm h hs hQ
  ·exact aRegion_ok hm (C:=SpX P) (fun _ _ _ h=>h) (id:=id) h hs hQ
 | .seq x y,K,σ,h,a,w,hs,Q,hQ=>by
  simp only [aCodeH] at h
  split at h
  case h_2 =>
   obtain ⟨Post,h1,h2⟩:=h.out
   refine wp_seq (aCodeH_ok hm x _ σ h1 a w hs _ fun e σ' a' w' hk hs'=>?_)
   cases e with
   | normal =>
    obtain ⟨σ1,he,hp⟩:=hk
    obtain ⟨φ,hφ,h3⟩:=h2 σ1 hp
    have hb2:=he B a' w' hs'
    exact aCodeH_ok hm y K σ1 (h3 (hφ B a' w' hb2)) a' w' hb2 Q hQ
   | exit id=>exact hQ _ σ' a' w' hk hs'
   | goto l=>exact hQ _ σ' a' w' hk hs'
   | ret=>exact hQ _ σ' a' w' hk hs'
   | panic ch=>exact hQ _ σ' a' w' hk hs'
   | outgrown=>exact hQ _ σ' a' w' hk hs'
  refine wp_seq (aCodeH_ok hm x _ σ h a w hs _ fun e σ' a' w' hk hs'=>?_)
  cases e with
  | normal=>exact aCodeH_ok hm y K σ' hk a' w' hs' Q hQ
  | exit id=>exact hQ _ σ' a' w' hk hs'
  | goto l=>exact hQ _ σ' a' w' hk hs'
  | ret=>exact hQ _ σ' a' w' hk hs'
  | panic ch=>exact hQ _ σ' a' w' hk hs'
  | outgrown=>exact hQ _ σ' a' w' hk hs'
 | .cond c x y,K,σ,h,a,w,hs,Q,hQ=>by
  simp only [aCodeH] at h
  split at h
  ·rename_i t ht
   obtain ⟨h1,h2⟩:=h.out
   have hc:a.eval c=.bool t:=by
    obtain ⟨ρ,hs⟩:=hs
    exact asBool_inv ht (evA_ok hs c)
   cases ht':t with
   | true=>exact wp_cond_true (hc.trans (by rw [ht'])) (aCodeH_ok hm x K σ (h1 ht') a w hs Q hQ)
   | false=>exact wp_cond_false (hc.trans (by rw [ht'])) (aCodeH_ok hm y K σ (h2 ht') a w hs Q hQ)
  ·exact h.elim
 | .block id body,K,σ,h,a,w,hs,Q,hQ=>by
  simp only [aCodeH] at h
  split at h
  case h_2 =>
   obtain ⟨Post,h1,h2⟩:=h.out
   have fin:∀ σ' a' w',(∃ σ1,Ent σ' σ1∧Post σ1)→Sat B σ' a' w'→Q .normal a' w':=fun σ' a' w' ⟨σ1,he,hp⟩ hs'=>by
    obtain ⟨φ,hφ,h3⟩:=h2 σ1 hp
    have hb2:=he B a' w' hs'
    exact hQ _ σ1 a' w' (h3 (hφ B a' w' hb2)) hb2
   refine wp_block (aCodeH_ok hm body _ σ h1 a w hs _ fun e σ' a' w' hk hs'=>?_)
   cases e with
   | exit j =>
    simp only at hk
    show (if j=id then Q .normal a' w' else Q (.exit j) a' w')
    by_cases e:j=id
    ·rw [if_pos e] at hk ⊢;exact fin σ' a' w' hk hs'
    ·rw [if_neg e] at hk ⊢;exact hQ _ σ' a' w' hk hs'
   | normal=>exact fin σ' a' w' hk hs'
   | goto l=>exact hQ _ σ' a' w' hk hs'
   | ret=>exact hQ _ σ' a' w' hk hs'
   | panic ch=>exact hQ _ σ' a' w' hk hs'
   | outgrown=>exact hQ _ σ' a' w' hk hs'
  refine wp_block (aCodeH_ok hm body _ σ h a w hs _ fun e σ' a' w' hk hs'=>?_)
  cases e with
  | exit j =>
   simp only at hk
   show (if j=id then Q .normal a' w' else Q (.exit j) a' w')
   by_cases e:j=id
   ·rw [if_pos e] at hk ⊢;exact hQ _ σ' a' w' hk hs'
   ·rw [if_neg e] at hk ⊢;exact hQ _ σ' a' w' hk hs'
  | normal=>exact hQ _ σ' a' w' hk hs'
  | goto l=>exact hQ _ σ' a' w' hk hs'
  | ret=>exact hQ _ σ' a' w' hk hs'
  | panic ch=>exact hQ _ σ' a' w' hk hs'
  | outgrown=>exact hQ _ σ' a' w' hk hs'
 | .loop body,K,σ,h,a,w,hs,Q,hQ=>loop_ok (B:=B) h (fun K' σ h a w hs Q hQ=>aCodeH_ok hm body K' σ h a w hs Q hQ) hs hQ
 | .exit id,K,σ,h,a,w,hs,Q,hQ=>wp_exit (hQ _ σ a w h hs)
 | .ret,K,σ,h,a,w,hs,Q,hQ=>wp_ret (hQ _ σ a w h hs)
 | .scope _,_,_,h,_,_,_,_,_=>h.elim
 | .label _,_,_,h,_,_,_,_,_=>h.elim
 | .rangeFunc _ _ _ _,_,_,h,_,_,_,_,_=>h.elim
 | .goto _,_,_,h,_,_,_,_,_=>h.elim
 | .refuse _,_,_,h,_,_,_,_,_=>h.elim
theorem sp_ofH {f:FuncId} {fn:Func} {c:Code} {xs:List Arg} {r:Rs} (hm:P.follows .mixedOrders=true) (own hs:List Nat) (hf:P.funcs[f]?=some fn) (hname:(fn.name=="runtime.NumGoroutine")=false) (hb:fn.body=some c)
  (hn:xs.length≤fn.ntmps) (hok:entOk xs=true) (h:OkAs xs→frcW (entW xs) 0 sig0 fun _ σ=>aCodeH P (SpX P) fn.ntmps own hs c (retK P fn.results.toList xs r) σ):Sp P f xs r:=by
 refine ⟨fun args w=>run_enter hf hname hb args w,fun w S vs F hS hrep hnd hF=>?_⟩
 have h:=h (oks_of hrep)
 rw [frcW_eq] at h
 have hlen:=hrep.len
 refine calls_of_wp hf hb (aCodeH_ok (B:=⟨w,S,fn.ntmps,fun b=>b∈F,fun _=>False,lentL xs vs,[]⟩) hm c _ _ h _ _ (st0_sat w S hrep hnd hF hS fn.ntmps (by rw [hlen];exact hn) hok) _ fun e σ' a' w' hk hs'=>?_)
 have fin:RetOk P fn.results.toList xs σ' r→a'.defers=[]∧∃ v,(results fn a'.tmps).run P w'=.ok v w'∧∃ (v':Value) (F':List Nat),Ending.returned v=.returned v'∧Belo (fun b=>b∈F) w.heap.size w w' ∧
   ResOk w' (fun b=>(S b∨w.heap.size≤b∨b∈F)∧b<w'.heap.size∧b∉F') v' (bxVs vs xs) r F'∧F'.Nodup∧∀ b∈F',(w.heap.size≤b∨b∈F)∧b<w'.heap.size:=fun hk=>by
  obtain ⟨v,F',hv,hres,h1,h2⟩:=results_ok (vs0:=vs) hk hs' hlen fun j v hv=>hv
  obtain ⟨ρ,hs'⟩:=hs'
  exact ⟨hs'.dfr,v,hv,v,F',rfl,hs'.bel,hres,h1,h2⟩
 cases e with
 | ret=>exact fin hk
 | normal=>exact fin hk
 | exit id=>exact hk.elim
 | goto l=>exact hk.elim
 | panic ch=>exact hk.elim
 | outgrown=>exact hk.elim
end
def JoinX {A:Type} (st:A→St) (φ:A→Prop) (σ:St):Prop:=∃ σ1,Ent σ σ1∧∃ x,φ x∧σ1=st x
theorem JoinX.mk {A:Type} {st:A→St} {φ:A→Prop} {σ:St} (x:A) (h:φ x) (e:Ent σ (st x)):JoinX st φ σ:=⟨st x,e,x,h,rfl⟩
attribute [irreducible] JoinX
theorem Cut.mkX {A:Type} (st:A→St) (φ:A→Prop) {body:(St→Prop)→Prop} {rest:St→Prop} (h:body (JoinX st φ)) (k:∀ x,φ x→rest (st x)):Cut body rest:=by
 unfold Cut
 unfold JoinX at h
 exact ⟨fun σ=>∃ x,φ x∧σ=st x,h,fun σ ⟨x,h1,h2⟩=>⟨True,Holds.true_ _,fun _=>by rw [h2];exact k x h1⟩⟩
def NxtX {A:Type} (st:A→St) (φ:A→Prop) (μ:A→Nat) (n:Nat) (σ:St):Prop:=∃ m',m'<n∧∃ x,μ x=m'∧φ x∧Ent σ (st x)
theorem NxtX.mk {A:Type} {st:A→St} {φ:A→Prop} {μ:A→Nat} {n:Nat} {σ:St} (x:A) (hm:μ x<n) (h:φ x) (e:Ent σ (st x)):NxtX st φ μ n σ:=⟨_,hm,x,rfl,h,e⟩
theorem Loops.mkX {A:Type} (st:A→St) (φ:A→Prop) (μ:A→Nat) {body:(Exit→St→Prop)→St→Prop} {K:Exit→St→Prop} {σ:St} (x0:A) (h0:φ x0) (e0:Ent σ (st x0))
  (hb:∀ x,φ x→body (fun e σ'=>match e with | .normal=>NxtX st φ μ (μ x) σ' | e=>K e σ') (st x)):Loops body K σ:=by
 unfold Loops
 refine ⟨fun m σ=>∃ x,μ x=m∧φ x∧Ent σ (st x),μ x0,⟨x0,rfl,h0,e0⟩,?_⟩
 rintro m σ ⟨x,rfl,hx,he⟩
 exact ⟨st x,True,he,Holds.true_ _,fun _=>hb x hx⟩
attribute [irreducible] NxtX
end Go.Proofs.YtmcfpohmiabmpaaGreatDoor.Sym

/-
 Groups of traces in a map: what a look shows.
-/
namespace Go.Proofs.YtmcfpohmiabmpaaGreatDoor.Sym
set_option maxRecDepth 100000
theorem keyC_char:∀ (w:List Int),∀ c∈keyL w,c≠47
 | [],c,h=>by cases h
 | a::w,c,h=>by
  simp only [keyL] at h
  rcases List.mem_append.1 h with h | h
  ·intro e
   subst e
   unfold enc36 at h
   split at h
   ·rcases List.mem_cons.1 h with h | h
    ·cases h
    ·have:=digs_char _ _ h
     revert this
     decide
   ·have:=digs_char _ _ h
    revert this
    decide
  ·rcases List.mem_cons.1 h with h | h
   ·subst h;decide
   ·exact keyC_char w c h
theorem cut_at:∀ {a b c d:List UInt8},(∀ x∈a,x≠47)→(∀ x∈c,x≠47)→a++47::b=c++47::d→a=c∧b=d
 | [],b,[],d,_,_,h=>by simpa using h
 | [],b,y::c,d,_,h2,h=>by
  simp only [List.nil_append,List.cons_append,List.cons.injEq] at h
  exact absurd h.1.symm (h2 y (by simp))
 | x::a,b,[],d,h1,_,h=>by
  simp only [List.nil_append,List.cons_append,List.cons.injEq] at h
  exact absurd h.1 (h1 x (by simp))
 | x::a,b,y::c,d,h1,h2,h=>by
  simp only [List.cons_append,List.cons.injEq] at h
  obtain ⟨e1,e2⟩:=cut_at (fun z hz=>h1 z (List.mem_cons_of_mem _ hz)) (fun z hz=>h2 z (List.mem_cons_of_mem _ hz)) h.2
  exact ⟨by rw [h.1,e1],e2⟩
def kq (w b:List Int):ByteArray:=(⟨(keyL w).toArray⟩++⟨#[47]⟩:ByteArray)++⟨(keyL b).toArray⟩
theorem kq_eq (w b:List Int):kq w b=⟨(keyL w++47::keyL b).toArray⟩:=by
 unfold kq
 apply ByteArray.ext
 apply Array.ext'
 simp
theorem kq_inj {w b w' b':List Int} (h:kq w b=kq w' b'):w=w'∧b=b':=by
 rw [kq_eq,kq_eq] at h
 have h:=congrArg (fun x:ByteArray=>x.data.toList) h
 simp only at h
 obtain ⟨h1,h2⟩:=cut_at (keyC_char w) (keyC_char w') h
 exact ⟨keyL_inj h1,keyL_inj h2⟩
theorem ba_beq' (a b:ByteArray):(a==b)=decide (a=b):=by
 by_cases h:a=b
 ·rw [decide_eq_true h,h,ba_rfl]
 ·rw [decide_eq_false h]
  cases e:a==b with
  | false=>rfl
  | true=>exact absurd (ba_eq e) h
theorem kq_beq {w b w' b':List Int}:(kq w b==kq w' b')=decide (w'=w∧b'=b):=by
 rw [ba_beq']
 exact decide_eq_decide.2 ⟨fun e=>⟨(kq_inj e).1.symm,(kq_inj e).2.symm⟩,fun e=>by rw [e.1,e.2]⟩
abbrev Xg:Type:=Grp×Nat
def mpX (X:List Xg):List (ByteArray×Nat):=X.map fun x=>(kq x.1.1 x.1.2.1,x.2)
def gE (g:Grp) (p:Nat):Ge:=(p,[nL cI g.1,nL cI g.2.1],g.2.2.map cI)
def bgX (X:List Xg):List Ge:=X.map fun x=>gE x.1 x.2
theorem bgX_mid (X1 X2:List Xg) (x:Xg):bgX (X1++x::X2)=bgX X1++gE x.1 x.2::bgX X2:=by
 unfold bgX
 rw [List.map_append,List.map_cons]
theorem mpX_mid (X1 X2:List Xg) (g g':Grp) (p:Nat) (h1:g'.1=g.1) (h2:g'.2.1=g.2.1):mpX (X1++(g,p)::X2)=mpX (X1++(g',p)::X2):=by
 unfold mpX
 simp only [List.map_append,List.map_cons,h1,h2]
theorem mpX_snoc (X:List Xg) (g:Grp) (p:Nat):mpX X++[(kq g.1 g.2.1,p)]=mpX (X++[(g,p)]):=by unfold mpX;rw [List.map_append];rfl
theorem mpX_ptr (X:List Xg):(mapV wS pv (mpX X)).map (·.2)=(bgX X).map fun g=>pv g.1:=by
 unfold mapV mpX bgX gE
 simp only [List.map_map]
 rfl
theorem grps_look (w b:List Int):∀ X:List Xg,(mget (kq w b) (mpX X)=none∧(∀ p:Nat,mset (kq w b) p (mpX X)=mpX X++[(kq w b,p)])∧∀ y,grpAdd (X.map (·.1)) w b y=X.map (·.1)++[(w,b,[y])]) ∨
  ∃ X1 g p X2,X=X1++(g,p)::X2∧g.1=w∧g.2.1=b∧mget (kq w b) (mpX X)=some p∧∀ y,grpAdd (X.map (·.1)) w b y=(X1++((w,b,leastI g.2.2 y),p)::X2).map (·.1)
 | []=>.inl ⟨rfl,fun _=>rfl,fun _=>rfl⟩
 | (g,p)::X=>by
  by_cases h:g.1=w∧g.2.1=b
  ·refine .inr ⟨[],g,p,X,rfl,h.1,h.2,?_,fun y=>?_⟩
   ·show (match kq w b==kq g.1 g.2.1 with | true=>some p | false=>mget (kq w b) (mpX X))=some p
    rw [kq_beq,decide_eq_true h]
   ·show (if g.1=w∧g.2.1=b then (g.1,g.2.1,leastI g.2.2 y)::X.map (·.1) else g::grpAdd (X.map (·.1)) w b y)=_
    rw [if_pos h,h.1,h.2]
    rfl
  ·have hk:(kq w b==kq g.1 g.2.1)=false:=by rw [kq_beq,decide_eq_false h]
   have e1:mget (kq w b) (mpX ((g,p)::X))=mget (kq w b) (mpX X):=by
    show (match kq w b==kq g.1 g.2.1 with | true=>some p | false=>mget (kq w b) (mpX X))=_
    rw [hk]
   have e2:∀ y,grpAdd (((g,p)::X).map (·.1)) w b y=g::grpAdd (X.map (·.1)) w b y:=fun y=>by
    show (if g.1=w∧g.2.1=b then (g.1,g.2.1,leastI g.2.2 y)::X.map (·.1) else g::grpAdd (X.map (·.1)) w b y)=_
    rw [if_neg h]
   rcases grps_look w b X with ⟨h1,h2,h3⟩ | ⟨X1,g',p',X2,h1,h2,h3,h4,h5⟩
   ·refine .inl ⟨e1.trans h1,fun q=>?_,fun y=>by rw [e2,h3];rfl⟩
    show (match kq w b==kq g.1 g.2.1 with | true=>(kq w b,q)::mpX X | false=>(kq g.1 g.2.1,p)::mset (kq w b) q (mpX X))=_
    rw [hk,h2]
    rfl
   ·exact .inr ⟨(g,p)::X1,g',p',X2,by rw [h1];rfl,h2,h3,e1.trans h4,fun y=>by rw [e2,h5];rfl⟩
def LOk (l:List Int):Prop:=l.length≤2∧l.Pairwise (·<·)
def XOk (X:List Xg):Prop:=∀ x∈X,LOk x.1.2.2
theorem XOk.mid {X1 X2:List Xg} {x:Xg} (h:XOk (X1++x::X2)) {x':Xg} (hx:LOk x'.1.2.2):XOk (X1++x'::X2):=fun y hy=>by
 rcases List.mem_append.1 hy with hy | hy
 ·exact h y (List.mem_append_left _ hy)
 ·rcases List.mem_cons.1 hy with rfl | hy
  ·exact hx
  ·exact h y (List.mem_append_right _ (List.mem_cons_of_mem _ hy))
theorem grpA_succ (l:List Grp) (t:T_api_Trace) (n:Nat):grpA l t (n+1)=grpAdd (grpA l t n) (t.In.take (n+1)) (t.Out.take n) ((t.Out[n]?).getD 0):=by
 unfold grpA
 rw [List.range_succ,List.foldl_append]
 rfl
theorem grps_succ (l:List T_api_Trace) (i:Nat) (t:T_api_Trace) (h:l[i]?=some t):grpsN (l.take (i+1))=grpT (grpsN (l.take i)) t:=by
 unfold grpsN
 rw [List.take_add_one,h,List.foldl_append]
 rfl
theorem insI_mem (x:Int):∀ (l:List Int) (y:Int),y∈insI x l↔y=x∨y∈l
 | [],y=>by simp [insI]
 | a::l,y=>by
  unfold insI
  split
  ·simp
  ·simp only [List.mem_cons,insI_mem x l y]
   constructor
   ·rintro (h | h | h)
    ·exact .inr (.inl h)
    ·exact .inl h
    ·exact .inr (.inr h)
   ·rintro (h | h | h)
    ·exact .inr (.inl h)
    ·exact .inl h
    ·exact .inr (.inr h)
theorem insI_sorted {x:Int}:∀ {l:List Int},l.Pairwise (·<·)→x∉l→(insI x l).Pairwise (·<·)
 | [],_,_=>by simp [insI]
 | a::l,h,hx=>by
  obtain ⟨h1,h2⟩:=List.pairwise_cons.1 h
  simp only [List.mem_cons,not_or] at hx
  unfold insI
  split
  ·rename_i hlt
   refine List.pairwise_cons.2 ⟨fun y hy=>?_,h⟩
   rcases List.mem_cons.1 hy with rfl | hy
   ·exact hlt
   ·have:=h1 y hy;omega
  ·rename_i hlt
   refine List.pairwise_cons.2 ⟨fun y hy=>?_,insI_sorted h2 hx.2⟩
   rcases (insI_mem x l y).1 hy with rfl | hy
   ·have:=hx.1;omega
   ·exact h1 y hy
theorem leastI_ok {l:List Int} (h:LOk l) (x:Int):LOk (leastI l x):=by
 unfold leastI
 split
 ·exact h
 ·rename_i hx
  exact ⟨by simp;omega,(insI_sorted h.2 hx).sublist (List.take_sublist _ _)⟩
theorem totB_perm {α:Type} [DecidableEq α] {f:α→α→Option Int} {l l':List α} (h:l.Perm l'):totB f l=totB f l':=by
 unfold totB
 simp only [h.all_eq]
theorem libSort_perm {α:Type} [DecidableEq α] {f:α→α→Option Int} {l l':List α} (h:l.Perm l'):libSort l f=libSort l' f:=by
 unfold libSort
 rw [h.length_eq,totB_perm h]
 cases ht:totB f l' with
 | false=>rfl
 | true =>
  have T':=totB_iff ht
  have T:=totB_iff ((totB_perm h).trans ht)
  rw [sorted_uniq (T.sub fun x hx=>(isortF_perm f l).mem_iff.1 hx) ((isortF_perm f l).trans (h.trans (isortF_perm f l').symm)) (isortF_sorted T) (isortF_sorted T')]
theorem erase_perm {α:Type}:∀ {l:List α} {k:Nat} {x:α},l[k]?=some x→l.Perm (x::l.eraseIdx k)
 | [],k,x,h=>by simp at h
 | y::l,0,x,h=>by
  simp only [List.getElem?_cons_zero,Option.some.injEq] at h
  subst h
  exact .refl _
 | y::l,k+1,x,h=>by
  rw [List.getElem?_cons_succ] at h
  rw [List.eraseIdx_cons_succ]
  exact ((erase_perm h).cons y).trans (.swap x y _)
theorem grpAdd_len (w b:List Int) (x:Int):∀ l:List Grp,(grpAdd l w b x).length≤l.length+1
 | []=>by simp [grpAdd]
 | g::l=>by
  unfold grpAdd
  split
  ·simp
  ·simp only [List.length_cons]
   have:=grpAdd_len w b x l
   omega
theorem grpA_len (l:List Grp) (t:T_api_Trace) (n:Nat):(grpA l t n).length≤l.length+n:=by
 induction n with
 | zero=>exact Nat.le_refl _
 | succ n ih =>
  rw [grpA_succ]
  have:=grpAdd_len (t.In.take (n+1)) (t.Out.take n) ((t.Out[n]?).getD 0) (grpA l t n)
  omega
theorem grps_len:∀ (ts:List T_api_Trace) (l:List Grp),(∀ t∈ts,t.In.length≤1000)→(ts.foldl grpT l).length≤l.length+1000*ts.length
 | [],l,_=>by simp
 | t::ts,l,h=>by
  rw [List.foldl_cons]
  have h1:=grps_len ts (grpT l t) fun x hx=>h x (List.mem_cons_of_mem _ hx)
  have h2:=grpA_len l t (min t.In.length t.Out.length)
  have h3:=h t List.mem_cons_self
  have h4:(grpT l t).length≤l.length+min t.In.length t.Out.length:=h2
  simp only [List.length_cons]
  omega
end Go.Proofs.YtmcfpohmiabmpaaGreatDoor.Sym

/-
 The sort at pointers to groups, and the comparison that it is handed.
-/
namespace Go.Proofs.YtmcfpohmiabmpaaGreatDoor.Sym
open Go.RowKit Go.Sort
set_option maxRecDepth 100000
theorem sortC_groups:SortC Tryz.prog 41 1 one1:=by
 refine ⟨fun p cap fv w=>AnyF.slices_SortFunc_none { Tryz.sortG with } p cap fv w,?_⟩
 intro E _ enc cf g blk cap d w hk h1 hO eg hcmp hH hblk hsz
 have e1:∀ m (dk:Array E),putRow (fun x=>one1 (enc x)) (Sort.ahead w m) blk 0 dk=putRow id (Sort.ahead w m) blk 0 (Go.Sort.flatK enc 1 dk):=fun m dk=>by rw [flat_one1 hk,putRow_map]
 have hone:OneCell fun x=>one1 (enc x):=fun x=>by
  have h2:=hk x
  have h3:=h1 x
  match h:enc x,h2 with
  | [v],_ =>
   show (one1 (enc x)).oneCell'=true
   rw [h] at h3 ⊢
   exact h3 v (by simp)
 refine (Any.slices_SortFunc Tryz.sortG (fun x=>one1 (enc x)) hone cf hO g #[] blk 0 cap d w eg (fun m os dk hs x y=>?_) (holds_map (by rw [← flat_one1 hk];exact hH)) hblk hsz).mono ?_
 ·have:=hcmp m os dk hs x y
  unfold sortWorld
  rw [e1]
  simpa using this
 ·rintro e w' ⟨he,d',n,os,hp,hs,hw⟩
  exact ⟨he,d',n,os,hp,hs,by rw [hw];unfold sortWorld;rw [e1]⟩
theorem rep_ref3 {w:World} {S:Nat→Prop} {u:Value} {x y z:IV} (h:RepI w S u (.ref [x,y,z])):∃ (b o:Nat) (p q r:Value),u=.pointer (some ⟨b,o,none⟩)∧w.cell? ⟨b,o,none⟩=some p∧w.cell? ⟨b,o+1,none⟩=some q∧RepI w S p x∧RepI w S q y:=by
 generalize hz:IV.ref [x,y,z]=v at h
 cases h with
 | ref b o us cs hS hl h1 hu hr =>
  injection hz with hz
  subst hz
  match us,hl with
  | [p,q,r],_=>exact ⟨b,o,p,q,r,rfl,hu 0 p rfl,hu 1 q rfl,hr 0 p x rfl rfl,hr 1 q y rfl rfl⟩
 | _=>cases hz
set_option maxHeartbeats 1000000 in
theorem cmp1_any {A A' B B':Option Addr} {n c m c' p q p' q' b o b' o':Nat} {xs ys xs' ys':List Int} {w:World} (hx:RowOf w IsInt A n c xs) (hy:RowOf w IsInt B m c' ys) (hx':RowOf w IsInt A' p q xs') (hy':RowOf w IsInt B' p' q' ys')
  (h1:w.cell? ⟨b,o,none⟩=some (.slice A n c)) (h2:w.cell? ⟨b',o',none⟩=some (.slice B m c')) (h3:w.cell? ⟨b,o+1,none⟩=some (.slice A' p q)) (h4:w.cell? ⟨b',o'+1,none⟩=some (.slice B' p' q')) {r:Int} (hr:(cmpW xs ys≠0∧r=cmpW xs ys)∨(cmpW xs ys=0∧r=lexI xs' ys')) :
  Calls Tryz.prog 42 #[.pointer (some ⟨b,o,none⟩),.pointer (some ⟨b',o',none⟩)] w fun e w'=>e=.returned (.int .i64 r)∧∃ q os,w'=Sort.grow (w.drewN q) os:=by
 have k1:Keeps w w.drew:=fun _ _ h=>h
 rcases hr with ⟨h0,rfl⟩ | ⟨h0,rfl⟩
 ·have d3:(cmpW xs ys != 0)=true:=by simp [h0]
  clear h0
  go_enter Tryz.func42,Tryz.ntmps42
  go_wp2
  go_still_tail 8,(by kernel_rfl)
  change wpList _ _ _ _ _ w.drew
  go_wp2_with (go_at_call 36;refine (wordCompare_any (hx.kept k1) (hy.kept k1)).mono ?_;rintro e w' ⟨rfl,rfl⟩)
  go_ret
  exact ⟨rfl,1,_,Sort.alloc_eq_grow (w.drewN 1) (.cells #[.int .i64 (cmpI xs.length ys.length),.int .i64 (lexI xs ys)] 3)⟩
 ·have d3:(cmpW xs ys != 0)=false:=by simp [h0]
  clear h0
  have kx:∀ o'',Keeps w ((w.alloc o'').drew).drew:=fun o''=>(grown_keeps (World.grownBy_alloc w o'' none)).trans fun _ _ h=>h
  have g3:∀ o'',((w.alloc o'').drew).cell? ⟨b,o+1,none⟩=some (.slice A' p q):=fun o''=>kx o'' _ _ h3
  have g4:∀ o'',((w.alloc o'').drew).cell? ⟨b',o'+1,none⟩=some (.slice B' p' q'):=fun o''=>kx o'' _ _ h4
  go_enter Tryz.func42,Tryz.ntmps42
  go_wp2
  go_still_tail 8,(by kernel_rfl)
  change wpList _ _ _ _ _ w.drew
  go_wp2_with (go_at_call 36;refine (wordCompare_any (hx.kept k1) (hy.kept k1)).mono ?_;rintro e w' ⟨rfl,rfl⟩)
  generalize hW:((w.alloc _).drew)=W
  have g3':=g3 (.cells #[.int .i64 (cmpI xs.length ys.length),.int .i64 (lexI xs ys)] 3)
  have g4':=g4 (.cells #[.int .i64 (cmpI xs.length ys.length),.int .i64 (lexI xs ys)] 3)
  have kx':=kx (.cells #[.int .i64 (cmpI xs.length ys.length),.int .i64 (lexI xs ys)] 3)
  rw [hW] at g3' g4' kx'
  go_still_tail 8,(by kernel_rfl)
  change wpList _ _ _ _ _ W.drew
  go_wp2_with (go_at_call 43;refine (wordLex_any (hx'.kept kx') (hy'.kept kx')).mono ?_;rintro e w' ⟨rfl,rfl⟩)
  go_ret
  exact ⟨rfl,2,_,by rw [← hW];exact Sort.alloc_eq_grow (w.drewN 2) (.cells #[.int .i64 (cmpI xs.length ys.length),.int .i64 (lexI xs ys)] 3)⟩
theorem cmpG_groups {f:Grp→Grp→Option Int} (hf:∀ g h r,f g h=some r→g.1.length≤17592186044416→g.2.1.length≤17592186044416→(cmpW g.1 h.1≠0∧r=cmpW g.1 h.1)∨(cmpW g.1 h.1=0∧r=lexI g.2.1 h.2.1)):CmpG Tryz.prog 42 vG f:=by
 intro W S u u' x y r h hu hu'
 have hr:=hf x y r h
 obtain ⟨b,o,p,q,s,rfl,a1,a2,a3,a4⟩:=rep_ref3 hu
 obtain ⟨b',o',p',q',s',rfl,b1,b2,b3,b4⟩:=rep_ref3 hu'
 obtain ⟨A,n,c,rfl,h1⟩:=rowOf_ints a3
 obtain ⟨A',n',c',rfl,h2⟩:=rowOf_ints a4
 obtain ⟨D,m,d,rfl,h3⟩:=rowOf_ints b3
 obtain ⟨D',m',d',rfl,h4⟩:=rowOf_ints b4
 exact cmp1_any h1 h3 h2 h4 a1 b1 a2 b2 (hr (by rw [h1.len];exact h1.small) (by rw [h2.len];exact h2.small))
theorem sp_bitsLen (n:Nat) (h:n<2^62):Sp Tryz.prog 62 [.im (.val (.int .u64 n))] (.im (nI (Lib.bitLen n:Nat))):=by
 refine ⟨fun args w=>run_enter rfl rfl rfl args w,fun w S vs F hS hv hn hF=>?_⟩
 match vs,hv with
 | [v],⟨F1,F2,⟨h3,e1⟩,h4,e2⟩ =>
  have h4:F2=[]:=h4
  subst e1 h4 e2
  have hv:v=.int .u64 n:=by
   generalize hz:IV.val (.int .u64 n)=z at h3
   cases h3 with
   | val _=>injection hz with hz;exact hz.symm
   | _=>cases hz
  subst hv
  have hb:=Any.bits_Len (SlLaysF0.n15.bits (P:=Tryz.prog) (ρ:=Tryz.sortW_ren) { Tryz.sortW with }) (n:Int) w (by omega) (by omega)
  refine Calls.mono hb ?_
  rintro e w' ⟨rfl,rfl⟩
  exact ⟨_,[],rfl,.refl _ _ _,⟨[_],[],[],rfl,⟨[],[],⟨.val _,rfl⟩,rfl,rfl⟩,rfl,rfl⟩,List.nodup_nil,fun b hb=>by simp at hb⟩
end Go.Proofs.YtmcfpohmiabmpaaGreatDoor.Sym

/-
 The comparisons of words, and what the groups of traces want.
-/
namespace Go.Proofs.YtmcfpohmiabmpaaGreatDoor.Sym
end Go.Proofs.YtmcfpohmiabmpaaGreatDoor.Sym
