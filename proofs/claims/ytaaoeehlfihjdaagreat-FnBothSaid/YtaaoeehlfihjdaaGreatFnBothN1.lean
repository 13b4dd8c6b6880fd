/- Native programs of the functions, written by gen.py. -/
import Derived.Test.YtaaoeehlfihjdaaGreatT0
import Derived.Test.YtaaoeehlfihjdaaGreatU29
namespace Go.VE
noncomputable section
set_option linter.unusedVariables false
set_option linter.unusedSimpArgs false
set_option maxRecDepth 100000
abbrev OR:Type:=Option Res
abbrev TL:Type:=List dTxn
abbrev VL:Type:=List vak
abbrev RL:Type:=List vb6
abbrev WL:Type:=List vbt
abbrev q0T:Type:=((List TL)×Int×(List TL)×Int×Int)
abbrev q1T:Type:=((List TL)×Int×Int×TL)
abbrev q2T:Type:=(RL×Int×Int×Int×ByteArray×ByteArray)
abbrev q3T:Type:=(TL×Int×Bool×TL×Int×Int)
abbrev q4T:Type:=(TL×Int×Int×TL)
abbrev q5T:Type:=(TL×Int×Int×Int×TL×Int×Int×Int×Int×RL×WL×Bool×ByteArray)
abbrev q6T:Type:=(TL×Int×Int×Int×ByteArray)
abbrev q7T:Type:=(TL×Int×Int×Int×Int×Bool×ByteArray)
abbrev q8T:Type:=(TL×Int×Int×Int×Int×Int×Int×Int×RL×WL×Bool×ByteArray×TL)
abbrev q9T:Type:=(TL×Int×Int×Int×Int×Int×Int×Int×RL×WL×Bool×ByteArray×Int×Int×Int×Int×RL×WL×Bool×ByteArray)
abbrev q10T:Type:=(TL×Int×Int×Int×Int×Int×Int×Int×RL×WL×Bool×ByteArray)
abbrev q11T:Type:=(TL×Int×Int×Int×Int×Int×Int×Int×Bool×ByteArray)
abbrev q12T:Type:=(TL×Int×Int×Int×Int)
abbrev q13T:Type:=(VL×TL×TL×Int×Int×Int×Int×Int×Int×RL×WL×Bool×ByteArray×Int×Int×Int×Int×Int×Int×Int×Int×Bool×ByteArray×VL×TL×TL×RL×WL)
abbrev q14T:Type:=(VL×VL)
abbrev q15T:Type:=(VL×Bool×VL×Int×Int)
abbrev q16T:Type:=(VL×ByteArray×Int×Int×VL×Int×Int)
abbrev q17T:Type:=(VL×Int×VL×Int×Int×VL)
abbrev q18T:Type:=(VL×Int×VL×Int×Int×Bool×ByteArray×ByteArray×Bool×Int×VL)
abbrev q19T:Type:=(VL×Int×Int×Int×ByteArray×ByteArray×Bool×Int)
abbrev q20T:Type:=(WL×Bool×RL×Int×Int×WL×Int×Int×ByteArray×ByteArray)
abbrev q21T:Type:=(WL×Bool×RL×Int×Int)
abbrev q22T:Type:=(WL×Bool×WL×Int×Int×WL×Int×Int×ByteArray×ByteArray×Bool)
abbrev q23T:Type:=(WL×Bool×WL×Int×Int)
abbrev q24T:Type:=(WL×Int×Int×Int×ByteArray)
abbrev q25T:Type:=(Bool×RL×Int×Int×Int×Int×Int×Int×RL×WL×Bool×ByteArray)
abbrev q26T:Type:=(Bool×TL×Int×Int×VL×TL×TL×Int×Int×TL)
abbrev q27T:Type:=(Bool×TL×Int×Int×VL×TL×TL×Int×Int)
abbrev q28T:Type:=(Bool×TL×Int×Int×Int×Int×RL×WL×Bool×ByteArray)
abbrev q29T:Type:=(Bool×VL×TL×TL×Int×Int×TL)
abbrev q30T:Type:=(Bool×VL×TL×TL×Int×Int)
abbrev q31T:Type:=(Bool×VL×Int×Int×VL×TL×TL×Int×Int)
abbrev q32T:Type:=(Bool×ByteArray×ByteArray×Bool×Int)
abbrev q33T:Type:=(Bool×Int×Int×Int×Int×RL×WL×Bool×ByteArray×TL×Int×Int×Int×Int×RL×WL×Bool×ByteArray)
abbrev q34T:Type:=(Bool×Int×Int×Int×Int×RL×WL×Bool×ByteArray×TL)
abbrev q35T:Type:=(Bool×Int×Int×Int×Int×RL×WL×Bool×ByteArray×ByteArray×ByteArray×Bool×Int×Int×Int×Int×Bool×ByteArray×Int×Int×Int×Int×Bool×ByteArray×RL×WL×RL×WL)
abbrev q36T:Type:=(Bool×Int×Int×Int×Int×RL×WL×Bool×ByteArray×ByteArray×ByteArray×Bool×Int×Int×Int×Int×Bool×ByteArray×Int×Int×Int×Int×Bool×ByteArray×RL×WL)
abbrev q37T:Type:=(Bool×Int×Int×Int×Int×RL×WL×Bool×ByteArray×ByteArray×ByteArray×Int×Int×Int×Int×Bool×ByteArray×Int×Int×Int×Int×Bool×ByteArray×RL×WL×RL×WL)
abbrev q38T:Type:=(Bool×Int×Int×Int×Int×RL×WL×Bool×ByteArray×ByteArray×ByteArray×Int×Int×Int×Int×Bool×ByteArray×Int×Int×Int×Int×Bool×ByteArray×RL×WL)
abbrev q39T:Type:=(Bool×Int×Int×Int×Int×RL×WL×Bool×ByteArray×Int×Int×Int×Int×RL×WL×Bool×ByteArray)
abbrev q40T:Type:=(Bool×Int×Int×Int×Int×RL×WL×Bool×ByteArray)
abbrev q41T:Type:=(Bool×Int×Int×Int×Int×Bool×ByteArray)
abbrev q42T:Type:=(Bool×Int×Int×Int×Int×Int×VL×TL×TL×TL)
abbrev q43T:Type:=(Bool×Int×Int×Int×Int×Int×Int×VL×TL×TL×TL)
abbrev q44T:Type:=(ByteArray×Int×Int×Int×VL)
abbrev q45T:Type:=(ByteArray×Int×Int×Int×Int×RL×WL×Bool×ByteArray×Int×Int×Int×Int×Int×Int×Int×Int×Bool×ByteArray×VL×TL×TL×VL×TL×TL×RL×WL)
abbrev q46T:Type:=(ByteArray×Int×Int×Int×Int×RL×WL×Bool×ByteArray×Int×Int×Int×Int×Int×Int×Int×Int×Bool×ByteArray×VL×TL×TL)
abbrev q47T:Type:=(Int×(List Int)×Int×Int×(List Int))
abbrev q48T:Type:=(Int×TL×Int×Int×Int×Int×RL×WL×Bool×ByteArray)
abbrev q49T:Type:=(Int×TL×Int×Int)
abbrev q50T:Type:=(Int×WL×Int×Int×VL)
abbrev q51T:Type:=(Int×ByteArray×ByteArray×Bool×WL)
abbrev q52T:Type:=(Int×ByteArray×ByteArray×Bool×Int)
abbrev q53T:Type:=(Int×ByteArray×Int×Int×Int×VL×TL×TL×Int×Int×TL×Int×Int×Int×Int×Int×Int×Int×Bool×ByteArray×ByteArray×Bool×Int×Int×VL×TL×TL×TL×RL×WL)
abbrev q54T:Type:=(Int×Int×VL×TL×TL×TL)
abbrev q55T:Type:=(Int×Int×VL×TL×TL×Int×Int×TL×Int×Int×Int×Int×VL×TL×TL×TL×VL×TL×TL×TL)
abbrev q56T:Type:=(Int×Int×VL×TL×TL×Int×Int×TL×Int×Int×Int×Int×VL×TL×TL×TL)
abbrev q57T:Type:=(Int×Int×VL×TL×TL)
abbrev q58T:Type:=(Int×Int×ByteArray×Bool×Int×VL×TL×TL×TL)
abbrev q59T:Type:=(Int×Int×Int×(List Int)×Int×Int×(List Int)×(List ByteArray)×VL×TL×TL×TL)
abbrev q60T:Type:=(Int×Int×Int×VL×TL×TL×TL)
abbrev q61T:Type:=(Int×Int×Int×VL×VL)
abbrev q62T:Type:=(Int×Int×Int×Int×(List Int)×Int×Int×(List Int)×VL×TL×TL×TL)
abbrev q63T:Type:=(Int×Int×Int×Int×VL×TL×TL×TL)
abbrev q64T:Type:=(Int×Int×Int×Int×Bool×ByteArray×RL×WL)
abbrev q65T:Type:=(Int×Int×Int×Int×Bool×ByteArray×TL)
abbrev q66T:Type:=(Int×Int×Int×Int×Bool×ByteArray×Bool×RL×WL)
abbrev q67T:Type:=(Int×Int×Int×Int×Bool×ByteArray×Int×Int×Int×Int×Int×Int×Int×Int×Bool×ByteArray×VL×TL×TL×VL×TL×TL×RL×WL)
abbrev q68T:Type:=(Int×Int×Int×Int×Bool×ByteArray×Int×Int×Int×Int×Int×Int×Int×Int×Bool×ByteArray×VL×TL×TL)
abbrev q69T:Type:=(Int×Int×Int×Int×Int×RL×WL×Bool×ByteArray×TL)
abbrev q70T:Type:=(Int×Int×Int×Int×Int×RL×WL×Bool×ByteArray×Int×Int×Int×Int×RL×WL×Bool×ByteArray)
abbrev q71T:Type:=(Int×Int×Int×Int×Int×RL×WL×Bool×ByteArray)
abbrev q72T:Type:=(Int×Int×Int×Int×Int×Bool×ByteArray)
abbrev q73T:Type:=(Int×Int×Int×Int×Int×Int×RL×WL×Bool×ByteArray)
abbrev q74T:Type:=(Int×Int×Int×Int×Int×Int×VL×TL×TL×TL)
abbrev q75T:Type:=(Int×Int×Int×Int×Int×Int×Bool×ByteArray×Int×Int×Int×Int×Int×Int×Int×Int×Bool×ByteArray×TL×VL×TL×TL×VL×TL×RL×WL)
abbrev q76T:Type:=(Int×Int×Int×Int×Int×Int×Int×Bool×ByteArray×ByteArray×Bool×Int×Int×Int×VL×TL×TL×TL×RL×WL)
def wok (a0:(List Int))(k:Bool→OR):OR:=
 k (decide ((a0.length:Int)>(1048576:Int)))
def v76:=shut wok
theorem wjh:v76=wok:=vac _
instance n89n_p (a0:(List Int)):ParC (v76 a0):=by rw [wjh];unfold wok;(try dsimp only);infer_instance
def vfe (x:((List Int)×Int×Int))(k:((List Int)×Int×Int)→OR):OR:=
 if 0≤x.2.2∧x.2.2<(x.1.length:Int)then
 k (x.1,(IntKind.wrap .i64 (BitVec.ofInt (IntKind.bits .i64) (IntKind.wrap .i64 ((IntKind.wrap .i64 ((IntKind.wrap .i64 (x.2.1*(131:Int)))+(IntKind.wrap .i64 (rd (Ty.zero (.int .u8)) x.1 x.2.2))))+7)) &&& BitVec.ofInt (IntKind.bits .i64) (1073741823:Int)).toNat),(IntKind.wrap .i64 (x.2.2+1)))
 else none
instance n129n_jp6000001 (x:((List Int)×Int×Int)):ParC (vfe x):=by unfold vfe;(try dsimp only);infer_instance
def vmk (x:((List Int)×Int×Int))(k:((List Int)×Int×Int)⊕((List Int)×Int×Int)→OR):OR:=
 bif (decide (x.2.2<(x.1.length:Int)))then
 bif (decide (x.2.2<4000))then
 vfe (x.1,x.2.1,x.2.2) (fun z2=>
 k (.inl (z2.1,z2.2.1,z2.2.2)))
 else
 k (.inr (x.1,x.2.1,x.2.2))
 else
 k (.inr (x.1,x.2.1,x.2.2))
instance n129n_bp0 (x:((List Int)×Int×Int)):ParC (vmk x):=by unfold vmk;(try dsimp only);infer_instance
def v3y (a0:(List Int))(k:((List Int)×Int×Int)→OR):OR:=
 vad vmk Fuel (a0,(IntKind.wrap .i64 ((77601:Int)+(a0.length:Int))),0) (fun z1=>
 k (z1.1,0,z1.2.1))
def vyl:=shut v3y
theorem wbk:vyl=v3y:=vac _
instance n129n_p (a0:(List Int)):ParC (vyl a0):=by rw [wbk];unfold v3y;(try dsimp only);infer_instance
def v3a (a0:(List Int))(a1:Int)(a2:Int)(k:(Int×(List Int)×Int×Int)→OR):OR:=
 bif (decide (a1<(a0.length:Int)))then
 if 0≤a1∧a1<(a0.length:Int)then
 k ((IntKind.wrap .i64 (BitVec.ofInt (IntKind.bits .i64) (IntKind.wrap .i64 ((IntKind.wrap .i64 (BitVec.ofInt (IntKind.bits .i64) (IntKind.wrap .i64 (BitVec.ofInt (IntKind.bits .i64) ((IntKind.wrap .i64 ((IntKind.wrap .i64 (a2*(6364136223846793005:Int)))+1442695040888963407)).fdiv (2^(min (33:Int).toNat (IntKind.bits .i64)))) ^^^ BitVec.ofInt (IntKind.bits .i64) ((IntKind.wrap .i64 ((IntKind.wrap .i64 (a2*(6364136223846793005:Int)))+1442695040888963407)).fdiv (2^(min (45:Int).toNat (IntKind.bits .i64))))).toNat) &&& BitVec.ofInt (IntKind.bits .i64) (255:Int)).toNat)+(IntKind.wrap .i64 (rd (Ty.zero (.int .u8)) a0 a1)))) &&& BitVec.ofInt (IntKind.bits .i64) (255:Int)).toNat),a0,(IntKind.wrap .i64 (a1+1)),(IntKind.wrap .i64 ((IntKind.wrap .i64 (a2*(6364136223846793005:Int)))+1442695040888963407)))
 else none
 else
 k ((IntKind.wrap .i64 (BitVec.ofInt (IntKind.bits .i64) (IntKind.wrap .i64 (BitVec.ofInt (IntKind.bits .i64) ((IntKind.wrap .i64 ((IntKind.wrap .i64 (a2*(6364136223846793005:Int)))+1442695040888963407)).fdiv (2^(min (33:Int).toNat (IntKind.bits .i64)))) ^^^ BitVec.ofInt (IntKind.bits .i64) ((IntKind.wrap .i64 ((IntKind.wrap .i64 (a2*(6364136223846793005:Int)))+1442695040888963407)).fdiv (2^(min (45:Int).toNat (IntKind.bits .i64))))).toNat) &&& BitVec.ofInt (IntKind.bits .i64) (255:Int)).toNat),a0,a1,(IntKind.wrap .i64 ((IntKind.wrap .i64 (a2*(6364136223846793005:Int)))+1442695040888963407)))
def vkm:=shut v3a
theorem v8l:vkm=v3a:=vac _
instance n128n_p (a0:(List Int))(a1:Int)(a2:Int):ParC (vkm a0 a1 a2):=by rw [v8l];unfold v3a;(try dsimp only);infer_instance
def v4t (a0:Int)(a1:(List Int))(a2:Int)(a3:Int)(k:(Int×(List Int)×Int×Int)→OR):OR:=
 bif (decide (a0≤0))then
 k (0,a1,a2,a3)
 else
 bif (decide (a0≤256))then
 vkm a1 a2 a3 (fun y1=>
 if a0=0 then none else
 k ((y1.1.tmod a0),y1.2.1,y1.2.2.1,y1.2.2.2))
 else
 vkm a1 a2 a3 (fun y2=>
 vkm y2.2.1 y2.2.2.1 y2.2.2.2 (fun y3=>
 vkm y3.2.1 y3.2.2.1 y3.2.2.2 (fun y4=>
 vkm y4.2.1 y4.2.2.1 y4.2.2.2 (fun y5=>
 if a0=0 then none else
 k (((IntKind.wrap .i64 ((IntKind.wrap .i64 ((IntKind.wrap .i64 ((IntKind.wrap .i64 (y2.1*(16777216:Int)))+(IntKind.wrap .i64 (y3.1*(65536:Int)))))+(IntKind.wrap .i64 (y4.1*(256:Int)))))+y5.1)).tmod a0),y5.2.1,y5.2.2.1,y5.2.2.2)))))
def vvh:=shut v4t
theorem waj:vvh=v4t:=vac _
instance n127n_p (a0:Int)(a1:(List Int))(a2:Int)(a3:Int):ParC (vvh a0 a1 a2 a3):=by rw [waj];unfold v4t;(try dsimp only);infer_instance
def vl8 (x:q47T)(k:q47T⊕q47T→OR):OR:=
 bif (decide (x.1<12))then
 vvh (10000:Int) x.2.1 x.2.2.1 x.2.2.2.1 (fun y4=>
 if x.2.2.2.2.length+[y4.1].length≤VE.maxLen then
 k (.inl ((IntKind.wrap .i64 (x.1+1)),y4.2.1,y4.2.2.1,y4.2.2.2,(x.2.2.2.2++[y4.1])))
 else none)
 else
 k (.inr (x.1,x.2.1,x.2.2.1,x.2.2.2.1,x.2.2.2.2))
instance n126n_bp0 (x:q47T):ParC (vl8 x):=by unfold vl8;(try dsimp only);infer_instance
def v4y (a0:(List Int))(k:(List Int)→OR):OR:=
 vyl a0 (fun y1=>
 vkm y1.1 y1.2.1 y1.2.2 (fun y2=>
 vad vl8 Fuel (0,y2.2.1,y2.2.2.1,y2.2.2.2,([]:List Int)) (fun z3=>
 k z3.2.2.2.2)))
def vwu:=shut v4y
theorem v9e:vwu=v4y:=vac _
instance n126n_p (a0:(List Int)):ParC (vwu a0):=by rw [v9e];unfold v4y;(try dsimp only);infer_instance
def wne  (k:(Int×Int)→OR):OR:=
 k (0,1)
def v68:=shut wne
theorem wjg:v68=wne:=vac _
instance n05n_p  : ParC (v68 ):=by rw [wjg];unfold wne;(try dsimp only);infer_instance
def we9  (k:(Int×Int)→OR):OR:=
 v68  (fun y1=>
 k (y1.1,y1.2))
def v7r:=shut we9
theorem wkj:v7r=we9:=vac _
instance n17n_p  : ParC (v7r ):=by rw [wkj];unfold we9;(try dsimp only);infer_instance
def wb6 (a0:dTxn)(k:q64T→OR):OR:=
 if a0.2.2.2.2.1.length≤VE.maxLen then
 if a0.2.2.2.2.2.1.length≤VE.maxLen then
 k (a0.1,a0.2.1,a0.2.2.1,a0.2.2.2.1,a0.2.2.2.2.2.2.1,a0.2.2.2.2.2.2.2,a0.2.2.2.2.1,a0.2.2.2.2.2.1)
 else none
 else none
def vhc:=shut wb6
theorem wnb:vhc=wb6:=vac _
instance n63n_p (a0:dTxn):ParC (vhc a0):=by rw [wnb];unfold wb6;(try dsimp only);infer_instance
def vof (x:q4T)(k:q4T⊕q4T→OR):OR:=
 bif (decide (x.2.2.1<x.2.1))then
 if 0≤x.2.2.1∧x.2.2.1<(x.1.length:Int)then
 vhc (rd (Ty.zero tTxn) x.1 x.2.2.1) (fun y2=>
 let y2h:=y2.2.2.2.2
 if x.2.2.2.length+[(y2.1,(y2.2.1,(y2.2.2.1,(y2.2.2.2.1,(y2h.2.2.1,(y2h.2.2.2,(y2h.1,y2h.2.1)))))))].length≤VE.maxLen then
 k (.inl (x.1,x.2.1,(IntKind.wrap .i64 (x.2.2.1+(1:Int))),(x.2.2.2++[(y2.1,(y2.2.1,(y2.2.2.1,(y2.2.2.2.1,(y2h.2.2.1,(y2h.2.2.2,(y2h.1,y2h.2.1)))))))])))
 else none)
 else none
 else
 k (.inr (x.1,x.2.1,x.2.2.1,x.2.2.2))
instance n64n_bp0 (x:q4T):ParC (vof x):=by unfold vof;(try dsimp only);infer_instance
def wcz (a0:TL)(k:TL→OR):OR:=
 vad vof Fuel (a0,(a0.length:Int),0,([]:List dTxn)) (fun z1=>
 k z1.2.2.2)
def vtx:=shut wcz
theorem wnp:vtx=wcz:=vac _
instance n64n_p (a0:TL):ParC (vtx a0):=by rw [wnp];unfold wcz;(try dsimp only);infer_instance
def v6b (a0:vh8)(k:q57T→OR):OR:=
 if a0.1.length≤VE.maxLen then
 vtx a0.2.1 (fun y1=>
 vtx a0.2.2.1 (fun y2=>
 k (a0.2.2.2.1,a0.2.2.2.2,a0.1,y1,y2)))
 else none
def vqj:=shut v6b
theorem wd0:vqj=v6b:=vac _
instance n61n_p (a0:vh8):ParC (vqj a0):=by rw [wd0];unfold v6b;(try dsimp only);infer_instance
def we0 (a0:vbs)(k:q54T→OR):OR:=
 vqj a0.1 (fun y1=>
 vtx a0.2 (fun y2=>
 k (y1.1,y1.2.1,y1.2.2.1,y1.2.2.2.1,y1.2.2.2.2,y2)))
def vm7:=shut we0
theorem wnh:vm7=we0:=vac _
instance n62n_p (a0:vbs):ParC (vm7 a0):=by rw [wnh];unfold we0;(try dsimp only);infer_instance
def wej (a0:Int)(a1:Int)(a2:Int)(k:Bool→OR):OR:=
 bif (decide (a0≥a1))then
 k (decide (a0≤a2))
 else
 k false
def ve4:=shut wej
theorem wky:ve4=wej:=vac _
instance n85n_p (a0:Int)(a1:Int)(a2:Int):ParC (ve4 a0 a1 a2):=by rw [wky];unfold wej;(try dsimp only);infer_instance
def vob (x:(ByteArray×Bool×Int))(k:(ByteArray×Bool×Int)⊕((ByteArray×Bool×Int)⊕(ByteArray×Bool×Int))→OR):OR:=
 bif (decide (x.2.2<(x.1.size:Int)))then
 if 0≤x.2.2∧x.2.2<(x.1.size:Int)then
 bif (decide ((bt x.1 x.2.2)<(97:Int)))then
 k (.inr (.inl (x.1,false,x.2.2)))
 else
 if 0≤x.2.2∧x.2.2<(x.1.size:Int)then
 bif (decide ((bt x.1 x.2.2)>(122:Int)))then
 k (.inr (.inl (x.1,false,x.2.2)))
 else
 k (.inl (x.1,x.2.1,(IntKind.wrap .i64 (x.2.2+1))))
 else none
 else none
 else
 k (.inr (.inr (x.1,x.2.1,x.2.2)))
instance n24n_bp0 (x:(ByteArray×Bool×Int)):ParC (vob x):=by unfold vob;(try dsimp only);infer_instance
def wfk (a0:ByteArray)(k:Bool→OR):OR:=
 vad vob Fuel (a0,false,0) (Sum.elim (fun z1=>
 k z1.2.1) (fun z2=>
 ve4 (z2.1.size:Int) (1:Int) (3:Int) (fun y3=>
 k y3)))
def vj1:=shut wfk
theorem wkz:vj1=wfk:=vac _
instance n24n_p (a0:ByteArray):ParC (vj1 a0):=by rw [wkz];unfold wfk;(try dsimp only);infer_instance
def wff (a0:ByteArray)(k:Bool→OR):OR:=
 k (!(va3 a0 a0))
def v6v:=shut wff
theorem woz:v6v=wff:=vac _
instance n03n_p (a0:ByteArray):ParC (v6v a0):=by rw [woz];unfold wff;(try dsimp only);infer_instance
def wca (a0:ByteArray)(a1:ByteArray)(k:Int→OR):OR:=
 v6v a0 (fun y1=>
 v6v a1 (fun y2=>
 bif y1 then
 bif y2 then
 k (0:Int)
 else
 k (-1:Int)
 else
 bif y2 then
 k (1:Int)
 else
 bif (vaf a0 a1)then
 k (-1:Int)
 else
 bif (!((vaf a0 a1)||(va3 a0 a1)))then
 k (1:Int)
 else
 k (0:Int)))
def v7x:=shut wca
theorem wlc:v7x=wca:=vac _
instance n01n_p (a0:ByteArray)(a1:ByteArray):ParC (v7x a0 a1):=by rw [wlc];unfold wca;(try dsimp only);infer_instance
def wbq (a0:Int)(k:Bool→OR):OR:=
 k (a0 != a0)
def v6g:=shut wbq
theorem wn2:v6g=wbq:=vac _
instance n02n_p (a0:Int):ParC (v6g a0):=by rw [wn2];unfold wbq;(try dsimp only);infer_instance
def wb0 (a0:Int)(a1:Int)(k:Int→OR):OR:=
 v6g a0 (fun y1=>
 v6g a1 (fun y2=>
 bif y1 then
 bif y2 then
 k (0:Int)
 else
 k (-1:Int)
 else
 bif y2 then
 k (1:Int)
 else
 bif (decide (a0<a1))then
 k (-1:Int)
 else
 bif (decide (a0>a1))then
 k (1:Int)
 else
 k (0:Int)))
def v6j:=shut wb0
theorem wmq:v6j=wb0:=vac _
instance n00n_p (a0:Int)(a1:Int):ParC (v6j a0 a1):=by rw [wmq];unfold wb0;(try dsimp only);infer_instance
def wcu (a0:vak)(a1:vak)(k:Int→OR):OR:=
 v7x a0.1 a1.1 (fun y1=>
 bif (y1 != (0:Int))then
 k y1
 else
 v6j a0.2.2.2 a1.2.2.2 (fun y2=>
 k y2))
def vqx:=shut wcu
theorem wn3:vqx=wcu:=vac _
instance n60n_p (a0:vak)(a1:vak):ParC (vqx a0 a1):=by rw [wn3];unfold wcu;(try dsimp only);infer_instance
def vm4 (x:q15T)(k:q15T⊕(q15T⊕q15T)→OR):OR:=
 let xh:=x.2.2.2.2
 let t0:=(rd (Ty.zero tVersion) x.2.2.1 xh)
 let t1:=(x.1,false,x.2.2.1,x.2.2.2.1,xh)
 let t2:=(x.1,x.2.1,x.2.2.1,x.2.2.2.1,(IntKind.wrap .i64 (xh+(1:Int))))
 let t3:=(IntKind.wrap .i64 (xh-(1:Int)))
 bif (decide (xh<x.2.2.2.1))then
 if 0≤xh∧xh<(x.2.2.1.length:Int)then
 vj1 (t0.1) (fun y3=>
 bif (!y3)then
 k (.inr (.inl t1))
 else
 bif (decide ((t0.2.1.size:Int)>(12:Int)))then
 k (.inr (.inl t1))
 else
 bif t0.2.2.1 then
 bif (!(va3 (t0.2.1) (⟨#[]⟩:ByteArray)))then
 k (.inr (.inl t1))
 else
 ve4 (t0.2.2.2) (1:Int) (9999:Int) (fun y4=>
 bif (!y4)then
 k (.inr (.inl t1))
 else
 bif (decide (xh>0))then
 if 0≤t3∧t3<(x.1.length:Int)then
 vqx (rd (Ty.zero tVersion) x.1 t3) t0 (fun y5=>
 bif (decide (y5≥0))then
 k (.inr (.inl t1))
 else
 k (.inl t2))
 else none
 else
 k (.inl t2))
 else
 ve4 (t0.2.2.2) (1:Int) (9999:Int) (fun y6=>
 bif (!y6)then
 k (.inr (.inl t1))
 else
 bif (decide (xh>0))then
 if 0≤t3∧t3<(x.1.length:Int)then
 vqx (rd (Ty.zero tVersion) x.1 t3) t0 (fun y7=>
 bif (decide (y7≥0))then
 k (.inr (.inl t1))
 else
 k (.inl t2))
 else none
 else
 k (.inl t2)))
 else none
 else
 k (.inr (.inr (x.1,x.2.1,x.2.2.1,x.2.2.2.1,xh)))
instance n56n_bp0 (x:q15T):ParC (vm4 x):=by unfold vm4;(try dsimp only);exact⟨(var (vc9 ((n24n_p _).p.bind fun _=>(var (vag _) (var (vag _) (var (var (vag _) ((n85n_p ..).p.bind fun _=>(var (vag _) (var (vc9 ((n60n_p ..).p.bind fun _=>(var (vag _) (vag _))) va5) (vag _))))) ((n85n_p ..).p.bind fun _=>(var (vag _) (var (vc9 ((n60n_p ..).p.bind fun _=>(var (vag _) (vag _))) va5) (vag _)))))))) va5) (vag _))⟩
def wcn (a0:VL)(k:Bool→OR):OR:=
 vad vm4 Fuel (a0,false,a0,(a0.length:Int),0) (Sum.elim (fun z1=>
 k z1.2.1) (fun z2=>
 k (decide ((z2.1.length:Int)≤(120:Int)))))
def vw3:=shut wcn
theorem wll:vw3=wcn:=vac _
instance n56n_p (a0:VL):ParC (vw3 a0):=by rw [wll];unfold wcn;(try dsimp only);infer_instance
def wd7 (a0:vb6)(k:Bool→OR):OR:=
 vj1 a0.1 (fun y1=>
 bif y1 then
 vj1 a0.2 (fun y2=>
 bif y2 then
 k ((vaf a0.1 a0.2)||(va3 a0.1 a0.2))
 else
 k false)
 else
 k false)
def vtz:=shut wd7
theorem wj5:vtz=wd7:=vac _
instance n39n_p (a0:vb6):ParC (vtz a0):=by rw [wj5];unfold wd7;(try dsimp only);infer_instance
def wb1 (a0:vbt)(k:Bool→OR):OR:=
 vj1 a0.1 (fun y1=>
 bif y1 then
 bif (decide ((a0.2.1.size:Int)≤(12:Int)))then
 bif (!a0.2.2)then
 k true
 else
 k (va3 a0.2.1 (⟨#[]⟩:ByteArray))
 else
 k false
 else
 k false)
def vru:=shut wb1
theorem wle:vru=wb1:=vac _
instance n58n_p (a0:vbt):ParC (vru a0):=by rw [wle];unfold wb1;(try dsimp only);infer_instance
def vmu (x:q23T)(k:q23T⊕(q23T⊕q23T)→OR):OR:=
 let xh:=x.2.2.2.2
 bif (decide (xh<x.2.2.2.1))then
 if 0≤xh∧xh<(x.2.2.1.length:Int)then
 vru (rd (Ty.zero tWrite) x.2.2.1 xh) (fun y3=>
 bif (!y3)then
 k (.inr (.inl (x.1,false,x.2.2.1,x.2.2.2.1,xh)))
 else
 bif (decide (xh>0))then
 if 0≤(IntKind.wrap .i64 (xh-1))∧(IntKind.wrap .i64 (xh-1))<(x.1.length:Int)then
 bif (!(vaf ((rd (Ty.zero tWrite) x.1 (IntKind.wrap .i64 (xh-1))).1) ((rd (Ty.zero tWrite) x.2.2.1 xh).1)))then
 k (.inr (.inl (x.1,false,x.2.2.1,x.2.2.2.1,xh)))
 else
 k (.inl (x.1,x.2.1,x.2.2.1,x.2.2.2.1,(IntKind.wrap .i64 (xh+1))))
 else none
 else
 k (.inl (x.1,x.2.1,x.2.2.1,x.2.2.2.1,(IntKind.wrap .i64 (xh+1)))))
 else none
 else
 k (.inr (.inr (x.1,x.2.1,x.2.2.1,x.2.2.2.1,xh)))
instance n59n_bp0 (x:q23T):ParC (vmu x):=by unfold vmu;(try dsimp only);infer_instance
def wc3 (a0:WL)(k:Bool→OR):OR:=
 vad vmu Fuel (a0,false,a0,(a0.length:Int),0) (Sum.elim (fun z1=>
 k z1.2.1) (fun z2=>
 k (decide ((z2.1.length:Int)≤(8:Int)))))
def vwh:=shut wc3
theorem wld:vwh=wc3:=vac _
instance n59n_p (a0:WL):ParC (vwh a0):=by rw [wld];unfold wc3;(try dsimp only);infer_instance
def vdg (x:q40T)(k:q40T→OR):OR:=
 let xh:=x.2.2.2.2
 let xi:=xh.2.2.2.2
 bif (x.2.2.1==(2:Int))then
 vj1 xi (fun y15=>
 bif y15 then
 k (true,x.2.1,x.2.2.1,x.2.2.2.1,xh.1,xh.2.1,xh.2.2.1,xh.2.2.2.1,xi)
 else
 bif (x.2.2.1 != (2:Int))then
 k ((va3 xi (⟨#[]⟩:ByteArray)),x.2.1,x.2.2.1,x.2.2.2.1,xh.1,xh.2.1,xh.2.2.1,xh.2.2.2.1,xi)
 else
 k (false,x.2.1,x.2.2.1,x.2.2.2.1,xh.1,xh.2.1,xh.2.2.1,xh.2.2.2.1,xi))
 else
 bif (x.2.2.1 != (2:Int))then
 k ((va3 xi (⟨#[]⟩:ByteArray)),x.2.1,x.2.2.1,x.2.2.2.1,xh.1,xh.2.1,xh.2.2.1,xh.2.2.2.1,xi)
 else
 k (false,x.2.1,x.2.2.1,x.2.2.2.1,xh.1,xh.2.1,xh.2.2.1,xh.2.2.2.1,xi)
instance n55n_jp5000011 (x:q40T):ParC (vdg x):=by unfold vdg;(try dsimp only);infer_instance
def vd8 (x:q40T)(k:q40T→OR):OR:=
 let xh:=x.2.2.2.2
 let t0:=(x.1,x.2.1,x.2.2.1,x.2.2.2.1,xh.1,xh.2.1,xh.2.2.1,xh.2.2.2.1,xh.2.2.2.2)
 let t1:=(false,x.2.1,x.2.2.1,x.2.2.2.1,xh.1,xh.2.1,xh.2.2.1,xh.2.2.2.1,xh.2.2.2.2)
 bif (x.2.2.1==(3:Int))then
 ve4 xh.1 (IntKind.wrap .i64 (x.2.2.2.1+1)) (9999:Int) (fun y10=>
 bif (!y10)then
 k t1
 else
 bif (x.2.2.1 != (3:Int))then
 bif (xh.1 != (0:Int))then
 k t1
 else
 vdg t0 (fun z11=>
 let z11h:=z11.2.2.2.2
 k (z11.1,z11.2.1,z11.2.2.1,z11.2.2.2.1,z11h.1,z11h.2.1,z11h.2.2.1,z11h.2.2.2.1,z11h.2.2.2.2))
 else
 vdg t0 (fun z12=>
 let z12h:=z12.2.2.2.2
 k (z12.1,z12.2.1,z12.2.2.1,z12.2.2.2.1,z12h.1,z12h.2.1,z12h.2.2.1,z12h.2.2.2.1,z12h.2.2.2.2)))
 else
 bif (x.2.2.1 != (3:Int))then
 bif (xh.1 != (0:Int))then
 k t1
 else
 vdg t0 (fun z13=>
 let z13h:=z13.2.2.2.2
 k (z13.1,z13.2.1,z13.2.2.1,z13.2.2.2.1,z13h.1,z13h.2.1,z13h.2.2.1,z13h.2.2.2.1,z13h.2.2.2.2))
 else
 vdg t0 (fun z14=>
 let z14h:=z14.2.2.2.2
 k (z14.1,z14.2.1,z14.2.2.1,z14.2.2.2.1,z14h.1,z14h.2.1,z14h.2.2.1,z14h.2.2.2.1,z14h.2.2.2.2))
instance n55n_jp5000009 (x:q40T):ParC (vd8 x):=by unfold vd8;(try dsimp only);exact⟨(var ((n85n_p ..).p.bind fun _=>(var (vag _) (var (var (vag _) ((n55n_jp5000011 _).p.bind fun _=>(vag _))) ((n55n_jp5000011 _).p.bind fun _=>(vag _))))) (var (var (vag _) ((n55n_jp5000011 _).p.bind fun _=>(vag _))) ((n55n_jp5000011 _).p.bind fun _=>(vag _))))⟩
def vnz (x:q25T)(k:q25T⊕(q25T⊕q25T)→OR):OR:=
 let xh:=x.2.2.2.2
 let xi:=xh.2.2.2.2
 bif (decide (x.2.2.2.1<x.2.2.1))then
 if 0≤x.2.2.2.1∧x.2.2.2.1<(x.2.1.length:Int)then
 vtz (rd (Ty.zero tRange) x.2.1 x.2.2.2.1) (fun y9=>
 bif (!y9)then
 k (.inr (.inl (false,x.2.1,x.2.2.1,x.2.2.2.1,xh.1,xh.2.1,xh.2.2.1,xh.2.2.2.1,xi.1,xi.2.1,xi.2.2.1,xi.2.2.2)))
 else
 k (.inl (x.1,x.2.1,x.2.2.1,(IntKind.wrap .i64 (x.2.2.2.1+1)),xh.1,xh.2.1,xh.2.2.1,xh.2.2.2.1,xi.1,xi.2.1,xi.2.2.1,xi.2.2.2)))
 else none
 else
 k (.inr (.inr (x.1,x.2.1,x.2.2.1,x.2.2.2.1,xh.1,xh.2.1,xh.2.2.1,xh.2.2.2.1,xi.1,xi.2.1,xi.2.2.1,xi.2.2.2)))
instance n55n_bp0 (x:q25T):ParC (vnz x):=by unfold vnz;(try dsimp only);infer_instance
def wb5 (a0:dTxn)(k:Bool→OR):OR:=
 vad vnz Fuel (false,a0.2.2.2.2.1,(a0.2.2.2.2.1.length:Int),0,a0.1,a0.2.1,a0.2.2.1,a0.2.2.2.1,a0.2.2.2.2.1,a0.2.2.2.2.2.1,a0.2.2.2.2.2.2.1,a0.2.2.2.2.2.2.2) (Sum.elim (fun z1=>
 k z1.1) (fun z2=>
 let z2h:=z2.2.2.2.2
 let z2i:=z2h.2.2.2.2
 ve4 z2h.1 (1:Int) (9999:Int) (fun y3=>
 bif (!y3)then
 k false
 else
 ve4 z2h.2.1 (1:Int) (3:Int) (fun y4=>
 bif (!y4)then
 k false
 else
 ve4 z2h.2.2.1 (0:Int) (9999:Int) (fun y5=>
 bif (!y5)then
 k false
 else
 bif (decide ((z2i.1.length:Int)>(8:Int)))then
 k false
 else
 vwh z2i.2.1 (fun y6=>
 bif (!y6)then
 k false
 else
 bif z2i.2.2.1 then
 bif (z2h.2.1==(1:Int))then
 k false
 else
 vd8 (z2.1,z2h.1,z2h.2.1,z2h.2.2.1,z2h.2.2.2.1,z2i.1,z2i.2.1,z2i.2.2.1,z2i.2.2.2) (fun z7=>
 k z7.1)
 else
 vd8 (z2.1,z2h.1,z2h.2.1,z2h.2.2.1,z2h.2.2.2.1,z2i.1,z2i.2.1,z2i.2.2.1,z2i.2.2.2) (fun z8=>
 k z8.1)))))))
def vhk:=shut wb5
theorem won:vhk=wb5:=vac _
instance n55n_p (a0:dTxn):ParC (vhk a0):=by rw [won];unfold wb5;(try dsimp only);exact⟨((vew (fun x=>(n55n_bp0 x).p) _ _).bind2 (fun _=>(vag _)) (fun _=>((n85n_p ..).p.bind fun _=>(var (vag _) ((n85n_p ..).p.bind fun _=>(var (vag _) ((n85n_p ..).p.bind fun _=>(var (vag _) (var (vag _) ((n59n_p _).p.bind fun _=>(var (vag _) (var (var (vag _) ((n55n_jp5000009 _).p.bind fun _=>(vag _))) ((n55n_jp5000009 _).p.bind fun _=>(vag _))))))))))))))⟩
def wl1 (a0:dTxn)(k:Bool→OR):OR:=
 k (a0.2.1==(3:Int))
def vo4:=shut wl1
theorem wlw:vo4=wl1:=vac _
instance n68n_p (a0:dTxn):ParC (vo4 a0):=by rw [wlw];unfold wl1;(try dsimp only);infer_instance
def wn0 (a0:dTxn)(k:Bool→OR):OR:=
 k (a0.2.1==(2:Int))
def vla:=shut wn0
theorem wiw:vla=wn0:=vac _
instance n69n_p (a0:dTxn):ParC (vla a0):=by rw [wiw];unfold wn0;(try dsimp only);infer_instance
def v28 (a0:Int)(k:(TL⊕TL)→OR):OR:=
 bif (decide (a0<0))then
 none
 else
 bif (decide ((IntKind.wrap .i64 (a0-(IntKind.wrap .i64 ((0:Int)-0))))>(0:Int)))then
 if 0≤(0:Int)∧(0:Int)≤(0:Int)∧(0:Int)≤0 then
 if 0≤(IntKind.wrap .i64 (a0-(IntKind.wrap .i64 ((0:Int)-0))))∧(IntKind.wrap .i64 (a0-(IntKind.wrap .i64 ((0:Int)-0))))≤(VE.maxLen:Int)then
 if 0≤(0:Int)∧(0:Int)≤((List.replicate (IntKind.wrap .i64 (a0-(IntKind.wrap .i64 ((0:Int)-0)))).toNat (Ty.zero tTxn)).length:Int)then
 k (.inl ((List.replicate (IntKind.wrap .i64 (a0-(IntKind.wrap .i64 ((0:Int)-0)))).toNat (Ty.zero tTxn)).take (0:Int).toNat))
 else none
 else none
 else none
 else
 k (.inr ([]:List dTxn))
def vsy:=shut v28
theorem waa:vsy=v28:=vac _
instance n105n_p (a0:Int):ParC (vsy a0):=by rw [waa];unfold v28;(try dsimp only);infer_instance
def vn9 (x:q0T)(k:q0T⊕q0T→OR):OR:=
 let xh:=x.2.2.2.2
 bif (decide (xh<x.2.2.2.1))then
 if 0≤xh∧xh<(x.2.2.1.length:Int)then
 bif (decide ((IntKind.wrap .i64 (x.2.1+((rd (Ty.zero (.slice tTxn)) x.2.2.1 xh).length:Int)))<(0:Int)))then
 none
 else
 k (.inl (x.1,(IntKind.wrap .i64 (x.2.1+((rd (Ty.zero (.slice tTxn)) x.2.2.1 xh).length:Int))),x.2.2.1,x.2.2.2.1,(IntKind.wrap .i64 (xh+1))))
 else none
 else
 k (.inr (x.1,x.2.1,x.2.2.1,x.2.2.2.1,xh))
instance n90n_bp0 (x:q0T):ParC (vn9 x):=by unfold vn9;(try dsimp only);infer_instance
def vfr (x:(q1T⊕q1T))(k:(q1T⊕q1T)⊕(q1T⊕q1T)→OR):OR:=
 (Sum.elim (fun x=>
 bif (decide (x.2.2.1<x.2.1))then
 if 0≤x.2.2.1∧x.2.2.1<(x.1.length:Int)then
 if x.2.2.2.length+(rd (Ty.zero (.slice tTxn)) x.1 x.2.2.1).length≤VE.maxLen then
 k (.inl (.inl (x.1,x.2.1,(IntKind.wrap .i64 (x.2.2.1+1)),(x.2.2.2++(rd (Ty.zero (.slice tTxn)) x.1 x.2.2.1)))))
 else none
 else none
 else
 k (.inr (.inl (x.1,x.2.1,x.2.2.1,x.2.2.2)))) (fun x=>
 bif (decide (x.2.2.1<x.2.1))then
 if 0≤x.2.2.1∧x.2.2.1<(x.1.length:Int)then
 if x.2.2.2.length+(rd (Ty.zero (.slice tTxn)) x.1 x.2.2.1).length≤VE.maxLen then
 k (.inl (.inl (x.1,x.2.1,(IntKind.wrap .i64 (x.2.2.1+1)),(x.2.2.2++(rd (Ty.zero (.slice tTxn)) x.1 x.2.2.1)))))
 else none
 else none
 else
 k (.inr (.inr (x.1,x.2.1,x.2.2.1,x.2.2.2))))) x
instance n90n_bp2 (x:(q1T⊕q1T)):ParC (vfr x):=by
 unfold vfr
 rcases x with x|x
 ·simp only [Sum.elim_inl]
  infer_instance
 ·simp only [Sum.elim_inr]
  (try dsimp only)
  infer_instance
def wd1 (a0:(List TL))(k:(TL⊕TL)→OR):OR:=
 vad vn9 Fuel (a0,0,a0,(a0.length:Int),0) (fun z1=>
 vsy z1.2.1 (Sum.elim (fun y2=>
 vad vfr Fuel (.inl (z1.1,(z1.1.length:Int),0,y2)) (Sum.elim (fun z3=>
 k (.inl z3.2.2.2)) (fun z4=>
 k (.inr z4.2.2.2)))) (fun y5=>
 vad vfr Fuel (.inr (z1.1,(z1.1.length:Int),0,y5)) (Sum.elim (fun z6=>
 k (.inl z6.2.2.2)) (fun z7=>
 k (.inr z7.2.2.2))))))
def vmn:=shut wd1
theorem wm8:vmn=wd1:=vac _
instance n90n_p (a0:(List TL)):ParC (vmn a0):=by rw [wm8];unfold wd1;(try dsimp only);exact⟨((vew (fun x=>(n90n_bp0 x).p) _ _).bind fun _=>((n105n_p _).p.bind2 (fun _=>((vew (fun x=>(n90n_bp2 x).p) _ _).bind2 (fun _=>(vag _)) (fun _=>(vag _)))) (fun _=>((vew (fun x=>(n90n_bp2 x).p) _ _).bind2 (fun _=>(vag _)) (fun _=>(vag _))))))⟩
def wks (a0:dTxn)(a1:Int)(a2:Int)(a3:Int)(a4:Int)(a5:RL)(a6:WL)(a7:Bool)(a8:ByteArray)(k:q40T→OR):OR:=
 k ((a0.1==a1),a1,a2,a3,a4,a5,a6,a7,a8)
def v0x:=shut wks
theorem wnz:v0x=wks:=vac _
instance n67n_p (a0:dTxn)(a1:Int)(a2:Int)(a3:Int)(a4:Int)(a5:RL)(a6:WL)(a7:Bool)(a8:ByteArray):ParC (v0x a0 a1 a2 a3 a4 a5 a6 a7 a8):=by rw [wnz];unfold wks;(try dsimp only);infer_instance
def vjj (x:q10T)(k:q10T⊕(q10T⊕q10T)→OR):OR:=
 let xh:=x.2.2.2.2
 let xi:=xh.2.2.2.2
 bif (decide (x.2.2.2.1<x.2.2.1))then
 if 0≤x.2.2.2.1∧x.2.2.2.1<(x.1.length:Int)then
 v0x (rd (Ty.zero tTxn) x.1 x.2.2.2.1) xh.1 xh.2.1 xh.2.2.1 xh.2.2.2.1 xi.1 xi.2.1 xi.2.2.1 xi.2.2.2 (fun y3=>
 let y3h:=y3.2.2.2.2
 bif y3.1 then
 k (.inr (.inl (x.1,x.2.2.2.1,x.2.2.1,x.2.2.2.1,y3.2.1,y3.2.2.1,y3.2.2.2.1,y3h.1,y3h.2.1,y3h.2.2.1,y3h.2.2.2.1,y3h.2.2.2.2)))
 else
 k (.inl (x.1,x.2.1,x.2.2.1,(IntKind.wrap .i64 (x.2.2.2.1+1)),y3.2.1,y3.2.2.1,y3.2.2.2.1,y3h.1,y3h.2.1,y3h.2.2.1,y3h.2.2.2.1,y3h.2.2.2.2)))
 else none
 else
 k (.inr (.inr (x.1,x.2.1,x.2.2.1,x.2.2.2.1,xh.1,xh.2.1,xh.2.2.1,xh.2.2.2.1,xi.1,xi.2.1,xi.2.2.1,xi.2.2.2)))
instance n119n_bp0 (x:q10T):ParC (vjj x):=by unfold vjj;(try dsimp only);infer_instance
def v3q (a0:TL)(a1:Int)(a2:Int)(a3:Int)(a4:Int)(a5:RL)(a6:WL)(a7:Bool)(a8:ByteArray)(k:q71T→OR):OR:=
 vad vjj Fuel (a0,0,(a0.length:Int),0,a1,a2,a3,a4,a5,a6,a7,a8) (Sum.elim (fun z1=>
 let z1h:=z1.2.2.2.2
 k (z1.2.1,z1h.1,z1h.2.1,z1h.2.2.1,z1h.2.2.2.1,z1h.2.2.2.2.1,z1h.2.2.2.2.2.1,z1h.2.2.2.2.2.2.1,z1h.2.2.2.2.2.2.2)) (fun z2=>
 let z2h:=z2.2.2.2.2
 k ((-1:Int),z2h.1,z2h.2.1,z2h.2.2.1,z2h.2.2.2.1,z2h.2.2.2.2.1,z2h.2.2.2.2.2.1,z2h.2.2.2.2.2.2.1,z2h.2.2.2.2.2.2.2)))
def vu3:=shut v3q
theorem wah:vu3=v3q:=vac _
instance n119n_p (a0:TL)(a1:Int)(a2:Int)(a3:Int)(a4:Int)(a5:RL)(a6:WL)(a7:Bool)(a8:ByteArray):ParC (vu3 a0 a1 a2 a3 a4 a5 a6 a7 a8):=by rw [wah];unfold v3q;(try dsimp only);infer_instance
def v5l (a0:TL)(a1:Int)(a2:Int)(a3:Int)(a4:Int)(a5:RL)(a6:WL)(a7:Bool)(a8:ByteArray)(k:q40T→OR):OR:=
 vu3 a0 a1 a2 a3 a4 a5 a6 a7 a8 (fun y1=>
 let y1h:=y1.2.2.2.2
 k ((decide (y1.1≥0)),y1.2.1,y1.2.2.1,y1.2.2.2.1,y1h.1,y1h.2.1,y1h.2.2.1,y1h.2.2.2.1,y1h.2.2.2.2))
def v4f:=shut v5l
theorem v91:v4f=v5l:=vac _
instance n100n_p (a0:TL)(a1:Int)(a2:Int)(a3:Int)(a4:Int)(a5:RL)(a6:WL)(a7:Bool)(a8:ByteArray):ParC (v4f a0 a1 a2 a3 a4 a5 a6 a7 a8):=by rw [v91];unfold v5l;(try dsimp only);infer_instance
def wbx (a0:TL)(a1:Int)(a2:Int)(a3:Int)(a4:Int)(a5:RL)(a6:WL)(a7:Bool)(a8:ByteArray)(k:q40T→OR):OR:=
 v4f a0 a1 a2 a3 a4 a5 a6 a7 a8 (fun y1=>
 let y1h:=y1.2.2.2.2
 k (y1.1,y1.2.1,y1.2.2.1,y1.2.2.2.1,y1h.1,y1h.2.1,y1h.2.2.1,y1h.2.2.2.1,y1h.2.2.2.2))
def v2m:=shut wbx
theorem wp4:v2m=wbx:=vac _
instance n84n_p (a0:TL)(a1:Int)(a2:Int)(a3:Int)(a4:Int)(a5:RL)(a6:WL)(a7:Bool)(a8:ByteArray):ParC (v2m a0 a1 a2 a3 a4 a5 a6 a7 a8):=by rw [wp4];unfold wbx;(try dsimp only);infer_instance
def vm0 (x:q3T)(k:q3T⊕(q3T⊕q3T)→OR):OR:=
 let xh:=x.2.2.2.2
 let t0:=(rd (Ty.zero tTxn) x.2.2.2.1 xh.2)
 bif (decide (xh.2<xh.1))then
 if 0≤xh.2∧xh.2<(x.2.2.2.1.length:Int)then
 bif (decide (t0.1≥x.2.1))then
 k (.inr (.inl (x.1,x.2.1,false,x.2.2.2.1,xh.1,xh.2)))
 else
 if 0≤(0:Int)∧(0:Int)≤xh.2∧xh.2≤(x.1.length:Int)then
 v2m ((x.1.take xh.2.toNat).drop (0:Int).toNat) (t0.1) (t0.2.1) (t0.2.2.1) (t0.2.2.2.1) (t0.2.2.2.2.1) (t0.2.2.2.2.2.1) (t0.2.2.2.2.2.2.1) (t0.2.2.2.2.2.2.2) (fun y3=>
 bif y3.1 then
 k (.inr (.inl (x.1,x.2.1,false,x.2.2.2.1,xh.1,xh.2)))
 else
 k (.inl (x.1,x.2.1,x.2.2.1,x.2.2.2.1,xh.1,(IntKind.wrap .i64 (xh.2+1)))))
 else none
 else none
 else
 k (.inr (.inr (x.1,x.2.1,x.2.2.1,x.2.2.2.1,xh.1,xh.2)))
instance n66n_bp0 (x:q3T):ParC (vm0 x):=by unfold vm0;(try dsimp only);infer_instance
def wc1 (a0:TL)(a1:Int)(k:Bool→OR):OR:=
 vad vm0 Fuel (a0,a1,false,a0,(a0.length:Int),0) (Sum.elim (fun z1=>
 k z1.2.2.1) (fun _=>
 k true))
def vlj:=shut wc1
theorem wj8:vlj=wc1:=vac _
instance n66n_p (a0:TL)(a1:Int):ParC (vlj a0 a1):=by rw [wj8];unfold wc1;(try dsimp only);infer_instance
def vms (x:q31T)(k:q31T⊕(q31T⊕q31T)→OR):OR:=
 let xh:=x.2.2.2.2
 bif (decide (x.2.2.2.1<x.2.2.1))then
 if 0≤x.2.2.2.1∧x.2.2.2.1<(x.2.1.length:Int)then
 bif (decide ((rd (Ty.zero tVersion) x.2.1 x.2.2.2.1).2.2.2>xh.2.2.2.1))then
 k (.inr (.inl (false,x.2.1,x.2.2.1,x.2.2.2.1,xh.1,xh.2.1,xh.2.2.1,xh.2.2.2.1,xh.2.2.2.2)))
 else
 k (.inl (x.1,x.2.1,x.2.2.1,(IntKind.wrap .i64 (x.2.2.2.1+1)),xh.1,xh.2.1,xh.2.2.1,xh.2.2.2.1,xh.2.2.2.2))
 else none
 else
 k (.inr (.inr (x.1,x.2.1,x.2.2.1,x.2.2.2.1,xh.1,xh.2.1,xh.2.2.1,xh.2.2.2.1,xh.2.2.2.2)))
instance n06n_bp0 (x:q31T):ParC (vms x):=by unfold vms;(try dsimp only);infer_instance
def vnu (x:q27T)(k:q27T⊕(q27T⊕q27T)→OR):OR:=
 let xh:=x.2.2.2.2
 let t0:=(false,x.2.1,x.2.2.1,x.2.2.2.1,xh.1,xh.2.1,xh.2.2.1,xh.2.2.2.1,xh.2.2.2.2)
 let t1:=(x.1,x.2.1,x.2.2.1,(IntKind.wrap .i64 (x.2.2.2.1+(1:Int))),xh.1,xh.2.1,xh.2.2.1,xh.2.2.2.1,xh.2.2.2.2)
 let t2:=(rd (Ty.zero tTxn) x.2.1 x.2.2.2.1)
 bif (decide (x.2.2.2.1<x.2.2.1))then
 if 0≤x.2.2.2.1∧x.2.2.2.1<(x.2.1.length:Int)then
 vhk t2 (fun y5=>
 bif (!y5)then
 k (.inr (.inl t0))
 else
 vo4 t2 (fun y6=>
 bif (!y6)then
 k (.inr (.inl t0))
 else
 bif (decide (t2.2.2.2.1>xh.2.2.2.1))then
 k (.inr (.inl t0))
 else
 bif (decide (x.2.2.2.1>0))then
 if 0≤(IntKind.wrap .i64 (x.2.2.2.1-1))∧(IntKind.wrap .i64 (x.2.2.2.1-1))<(xh.2.1.length:Int)then
 bif (decide ((rd (Ty.zero tTxn) xh.2.1 (IntKind.wrap .i64 (x.2.2.2.1-1))).2.2.2.1≥t2.2.2.2.1))then
 k (.inr (.inl t0))
 else
 k (.inl t1)
 else none
 else
 k (.inl t1)))
 else none
 else
 k (.inr (.inr (x.1,x.2.1,x.2.2.1,x.2.2.2.1,xh.1,xh.2.1,xh.2.2.1,xh.2.2.2.1,xh.2.2.2.2)))
instance n06n_bp2 (x:q27T):ParC (vnu x):=by unfold vnu;(try dsimp only);infer_instance
def vnc (x:q27T)(k:q27T⊕(q27T⊕q27T)→OR):OR:=
 let xh:=x.2.2.2.2
 let t0:=(false,x.2.1,x.2.2.1,x.2.2.2.1,xh.1,xh.2.1,xh.2.2.1,xh.2.2.2.1,xh.2.2.2.2)
 let t1:=(x.1,x.2.1,x.2.2.1,(IntKind.wrap .i64 (x.2.2.2.1+(1:Int))),xh.1,xh.2.1,xh.2.2.1,xh.2.2.2.1,xh.2.2.2.2)
 let t2:=(rd (Ty.zero tTxn) x.2.1 x.2.2.2.1)
 bif (decide (x.2.2.2.1<x.2.2.1))then
 if 0≤x.2.2.2.1∧x.2.2.2.1<(x.2.1.length:Int)then
 vhk t2 (fun y7=>
 bif (!y7)then
 k (.inr (.inl t0))
 else
 vla t2 (fun y8=>
 bif (!y8)then
 k (.inr (.inl t0))
 else
 bif (decide (t2.2.2.1>xh.2.2.2.1))then
 k (.inr (.inl t0))
 else
 bif (decide (x.2.2.2.1>0))then
 if 0≤(IntKind.wrap .i64 (x.2.2.2.1-1))∧(IntKind.wrap .i64 (x.2.2.2.1-1))<(xh.2.2.1.length:Int)then
 bif (!(vaf ((rd (Ty.zero tTxn) xh.2.2.1 (IntKind.wrap .i64 (x.2.2.2.1-1))).2.2.2.2.2.2.2) (t2.2.2.2.2.2.2.2)))then
 k (.inr (.inl t0))
 else
 k (.inl t1)
 else none
 else
 k (.inl t1)))
 else none
 else
 k (.inr (.inr (x.1,x.2.1,x.2.2.1,x.2.2.2.1,xh.1,xh.2.1,xh.2.2.1,xh.2.2.2.1,xh.2.2.2.2)))
instance n06n_bp4 (x:q27T):ParC (vnc x):=by unfold vnc;(try dsimp only);infer_instance
def vey (x:q30T)(k:q30T→OR):OR:=
 vad vms Fuel (x.1,x.2.1,(x.2.1.length:Int),0,x.2.1,x.2.2.1,x.2.2.2.1,x.2.2.2.2.1,x.2.2.2.2.2) (Sum.elim (fun z9=>
 let z9h:=z9.2.2.2.2
 k (z9.1,z9h.1,z9h.2.1,z9h.2.2.1,z9h.2.2.2.1,z9h.2.2.2.2)) (fun z10=>
 let z10h:=z10.2.2.2.2
 vad vnu Fuel (z10.1,z10h.2.1,(z10h.2.1.length:Int),0,z10h.1,z10h.2.1,z10h.2.2.1,z10h.2.2.2.1,z10h.2.2.2.2) (Sum.elim (fun z11=>
 let z11h:=z11.2.2.2.2
 k (z11.1,z11h.1,z11h.2.1,z11h.2.2.1,z11h.2.2.2.1,z11h.2.2.2.2)) (fun z12=>
 let z12h:=z12.2.2.2.2
 vad vnc Fuel (z12.1,z12h.2.2.1,(z12h.2.2.1.length:Int),0,z12h.1,z12h.2.1,z12h.2.2.1,z12h.2.2.2.1,z12h.2.2.2.2) (Sum.elim (fun z13=>
 let z13h:=z13.2.2.2.2
 k (z13.1,z13h.1,z13h.2.1,z13h.2.2.1,z13h.2.2.2.1,z13h.2.2.2.2)) (fun z14=>
 let z14h:=z14.2.2.2.2
 vmn [z14h.2.1,z14h.2.2.1] (Sum.elim (fun y15=>
 vlj y15 z14h.2.2.2.2 (fun y16=>
 k (y16,z14h.1,z14h.2.1,z14h.2.2.1,z14h.2.2.2.1,z14h.2.2.2.2))) (fun y17=>
 vlj y17 z14h.2.2.2.2 (fun y18=>
 k (y18,z14h.1,z14h.2.1,z14h.2.2.1,z14h.2.2.2.1,z14h.2.2.2.2))))))))))
instance n06n_jp5000003 (x:q30T):ParC (vey x):=by unfold vey;(try dsimp only);exact⟨((vew (fun x=>(n06n_bp0 x).p) _ _).bind2 (fun _=>(vag _)) (fun _=>((vew (fun x=>(n06n_bp2 x).p) _ _).bind2 (fun _=>(vag _)) (fun _=>((vew (fun x=>(n06n_bp4 x).p) _ _).bind2 (fun _=>(vag _)) (fun _=>((n90n_p _).p.bind2 (fun _=>((n66n_p ..).p.bind fun _=>(vag _))) (fun _=>((n66n_p ..).p.bind fun _=>(vag _))))))))))⟩
def wb7 (a0:vh8)(k:Bool→OR):OR:=
 vw3 a0.1 (fun y1=>
 bif (!y1)then
 k false
 else
 bif (decide ((a0.2.1.length:Int)>(12:Int)))then
 k false
 else
 bif (decide ((a0.2.2.1.length:Int)>(3:Int)))then
 k false
 else
 ve4 a0.2.2.2.1 (0:Int) (9999:Int) (fun y2=>
 bif (!y2)then
 k false
 else
 ve4 a0.2.2.2.2 (1:Int) (9999:Int) (fun y3=>
 bif (!y3)then
 k false
 else
 vey (false,a0.1,a0.2.1,a0.2.2.1,a0.2.2.2.1,a0.2.2.2.2) (fun z4=>
 k z4.1))))
def vv5:=shut wb7
theorem wkh:vv5=wb7:=vac _
instance n06n_p (a0:vh8):ParC (vv5 a0):=by rw [wkh];unfold wb7;(try dsimp only);infer_instance
def vnk (x:q26T)(k:q26T⊕(q26T⊕q26T)→OR):OR:=
 let xh:=x.2.2.2.2
 let xi:=xh.2.2.2.2
 let t0:=(false,x.2.1,x.2.2.1,x.2.2.2.1,xh.1,xh.2.1,xh.2.2.1,xh.2.2.2.1,xi.1,xi.2)
 let t1:=(x.1,x.2.1,x.2.2.1,(IntKind.wrap .i64 (x.2.2.2.1+(1:Int))),xh.1,xh.2.1,xh.2.2.1,xh.2.2.2.1,xi.1,xi.2)
 let t2:=(rd (Ty.zero tTxn) x.2.1 x.2.2.2.1)
 bif (decide (x.2.2.2.1<x.2.2.1))then
 if 0≤x.2.2.2.1∧x.2.2.2.1<(x.2.1.length:Int)then
 vhk t2 (fun y8=>
 bif (!y8)then
 k (.inr (.inl t0))
 else
 bif (t2.2.1 != (1:Int))then
 k (.inr (.inl t0))
 else
 bif (decide (t2.2.2.1>xh.2.2.2.1))then
 k (.inr (.inl t0))
 else
 bif (decide (x.2.2.2.1>0))then
 if 0≤(IntKind.wrap .i64 (x.2.2.2.1-1))∧(IntKind.wrap .i64 (x.2.2.2.1-1))<(xi.2.length:Int)then
 bif (decide ((rd (Ty.zero tTxn) xi.2 (IntKind.wrap .i64 (x.2.2.2.1-1))).1≥t2.1))then
 k (.inr (.inl t0))
 else
 k (.inl t1)
 else none
 else
 k (.inl t1))
 else none
 else
 k (.inr (.inr (x.1,x.2.1,x.2.2.1,x.2.2.2.1,xh.1,xh.2.1,xh.2.2.1,xh.2.2.2.1,xi.1,xi.2)))
instance n18n_bp0 (x:q26T):ParC (vnk x):=by unfold vnk;(try dsimp only);infer_instance
def vd3 (x:q29T)(k:q29T→OR):OR:=
 let xh:=x.2.2.2.2
 vad vnk Fuel (x.1,xh.2.2,(xh.2.2.length:Int),0,x.2.1,x.2.2.1,x.2.2.2.1,xh.1,xh.2.1,xh.2.2) (Sum.elim (fun z9=>
 let z9h:=z9.2.2.2.2
 k (z9.1,z9h.1,z9h.2.1,z9h.2.2.1,z9h.2.2.2.1,z9h.2.2.2.2.1,z9h.2.2.2.2.2)) (fun z10=>
 let z10h:=z10.2.2.2.2
 k (true,z10h.1,z10h.2.1,z10h.2.2.1,z10h.2.2.2.1,z10h.2.2.2.2.1,z10h.2.2.2.2.2)))
instance n18n_jp5000003 (x:q29T):ParC (vd3 x):=by unfold vd3;(try dsimp only);infer_instance
def weh (a0:vbs)(k:Bool→OR):OR:=
 vv5 a0.1 (fun y1=>
 bif (!y1)then
 k false
 else
 bif (decide ((a0.2.length:Int)>(4:Int)))then
 k false
 else
 vmn [a0.1.2.1,a0.1.2.2.1,a0.2] (Sum.elim (fun y2=>
 vlj y2 a0.1.2.2.2.2 (fun y3=>
 bif (!y3)then
 k false
 else
 vd3 (false,a0.1.1,a0.1.2.1,a0.1.2.2.1,a0.1.2.2.2.1,a0.1.2.2.2.2,a0.2) (fun z4=>
 k z4.1))) (fun y5=>
 vlj y5 a0.1.2.2.2.2 (fun y6=>
 bif (!y6)then
 k false
 else
 vd3 (false,a0.1.1,a0.1.2.1,a0.1.2.2.1,a0.1.2.2.2.1,a0.1.2.2.2.2,a0.2) (fun z7=>
 k z7.1)))))
def vuc:=shut weh
theorem wox:vuc=weh:=vac _
instance n18n_p (a0:vbs):ParC (vuc a0):=by rw [wox];unfold weh;(try dsimp only);exact⟨((n06n_p _).p.bind fun _=>(var (vag _) (var (vag _) ((n90n_p _).p.bind2 (fun _=>((n66n_p ..).p.bind fun _=>(var (vag _) ((n18n_jp5000003 _).p.bind fun _=>(vag _))))) (fun _=>((n66n_p ..).p.bind fun _=>(var (vag _) ((n18n_jp5000003 _).p.bind fun _=>(vag _)))))))))⟩
def vgu (x:q55T)(k:q56T→OR):OR:=
 let xh:=x.2.2.2.2
 let xi:=xh.2.2.2.2
 let xj:=xi.2.2.2.2
 let xk:=xj.2.2.2.2
 if xk.2.2.2.length+[(xh.2.2.1,((1:Int),(xh.2.1,((0:Int),(([]:List vb6),(([]:List vbt),(false,(⟨#[]⟩:ByteArray))))))))].length≤VE.maxLen then
 k (xh.2.2.1,(0:Int),x.2.2.1,x.2.2.2.1,xh.1,xh.2.1,xh.2.2.1,xh.2.2.2.1,xi.2.2.1,(IntKind.wrap .i64 (xi.2.2.2.1+(1:Int))),xi.2.2.1,(IntKind.wrap .i64 (xi.2.2.2.1+(1:Int))),xk.1,xk.2.1,xk.2.2.1,(xk.2.2.2++[(xh.2.2.1,((1:Int),(xh.2.1,((0:Int),(([]:List vb6),(([]:List vbt),(false,(⟨#[]⟩:ByteArray))))))))]))
 else none
instance n07n_jp5000004 (x:q55T):ParC (vgu x):=by unfold vgu;(try dsimp only);infer_instance
def wex (a0:vbs)(k:q63T→OR):OR:=
 vm7 a0 (fun y1=>
 let y1h:=y1.2.2.2.2
 vuc a0 (fun y2=>
 bif (!y2)then
 k (y1.1,y1.2.1,0,3,y1.2.2.1,y1.2.2.2.1,y1h.1,y1h.2)
 else
 bif ((a0.2.length:Int)==(4:Int))then
 k (y1.1,y1.2.1,0,3,y1.2.2.1,y1.2.2.2.1,y1h.1,y1h.2)
 else
 bif (a0.1.2.2.2.2==(9999:Int))then
 k (y1.1,y1.2.1,0,3,y1.2.2.1,y1.2.2.2.1,y1h.1,y1h.2)
 else
 vgu (0,0,a0.1.1,a0.1.2.1,a0.1.2.2.1,a0.1.2.2.2.1,a0.1.2.2.2.2,a0.2,0,0,y1.1,y1.2.1,([]:List vak),([]:List dTxn),([]:List dTxn),([]:List dTxn),y1.2.2.1,y1.2.2.2.1,y1h.1,y1h.2) (fun z3=>
 let z3h:=z3.2.2.2.2
 let z3i:=z3h.2.2.2.2
 k (z3i.1,z3i.2.1,z3.1,z3.2.1,z3i.2.2.2.2.1,z3i.2.2.2.2.2.1,z3i.2.2.2.2.2.2.1,z3i.2.2.2.2.2.2.2))))
def vub:=shut wex
theorem wp7:vub=wex:=vac _
instance n07n_p (a0:vbs):ParC (vub a0):=by rw [wp7];unfold wex;(try dsimp only);infer_instance
def wjw (a0:dTxn)(a1:Int)(k:(Bool×Int)→OR):OR:=
 k ((a0.1==a1),a1)
def v2b:=shut wjw
theorem wk2:v2b=wjw:=vac _
instance n30n_p (a0:dTxn)(a1:Int):ParC (v2b a0 a1):=by rw [wk2];unfold wjw;(try dsimp only);infer_instance
def vi5 (x:q12T)(k:q12T⊕(q12T⊕q12T)→OR):OR:=
 bif (decide (x.2.2.2.1<x.2.2.1))then
 if 0≤x.2.2.2.1∧x.2.2.2.1<(x.1.length:Int)then
 v2b (rd (Ty.zero tTxn) x.1 x.2.2.2.1) x.2.2.2.2 (fun y3=>
 bif y3.1 then
 k (.inr (.inl (x.1,x.2.2.2.1,x.2.2.1,x.2.2.2.1,y3.2)))
 else
 k (.inl (x.1,x.2.1,x.2.2.1,(IntKind.wrap .i64 (x.2.2.2.1+1)),y3.2)))
 else none
 else
 k (.inr (.inr (x.1,x.2.1,x.2.2.1,x.2.2.2.1,x.2.2.2.2)))
instance n111n_bp0 (x:q12T):ParC (vi5 x):=by unfold vi5;(try dsimp only);infer_instance
def v4s (a0:TL)(a1:Int)(k:(Int×Int)→OR):OR:=
 vad vi5 Fuel (a0,0,(a0.length:Int),0,a1) (Sum.elim (fun z1=>
 k (z1.2.1,z1.2.2.2.2)) (fun z2=>
 k ((-1:Int),z2.2.2.2.2)))
def vve:=shut v4s
theorem v95:vve=v4s:=vac _
instance n111n_p (a0:TL)(a1:Int):ParC (vve a0 a1):=by rw [v95];unfold v4s;(try dsimp only);infer_instance
def wdm (a0:vbs)(a1:Int)(k:Int→OR):OR:=
 vve a0.2 a1 (fun y1=>
 k y1.1)
def vo9:=shut wdm
theorem woy:vo9=wdm:=vac _
instance n29n_p (a0:vbs)(a1:Int):ParC (vo9 a0 a1):=by rw [woy];unfold wdm;(try dsimp only);infer_instance
def vjm (x:q2T)(k:q2T⊕(q2T⊕q2T)→OR):OR:=
 let xh:=x.2.2.2.2
 bif (decide (x.2.2.2.1<x.2.2.1))then
 if 0≤x.2.2.2.1∧x.2.2.2.1<(x.1.length:Int)then
 bif (Ty.eqB tRange xh (rd (Ty.zero tRange) x.1 x.2.2.2.1))then
 k (.inr (.inl (x.1,x.2.2.2.1,x.2.2.1,x.2.2.2.1,xh.1,xh.2)))
 else
 k (.inl (x.1,x.2.1,x.2.2.1,(IntKind.wrap .i64 (x.2.2.2.1+1)),xh.1,xh.2))
 else none
 else
 k (.inr (.inr (x.1,x.2.1,x.2.2.1,x.2.2.2.1,xh.1,xh.2)))
instance n123n_bp0 (x:q2T):ParC (vjm x):=by unfold vjm;(try dsimp only);infer_instance
def v3o (a0:RL)(a1:vb6)(k:Int→OR):OR:=
 vad vjm Fuel (a0,0,(a0.length:Int),0,a1.1,a1.2) (Sum.elim (fun z1=>
 k z1.2.1) (fun _=>
 k (-1:Int)))
def vyh:=shut v3o
theorem wbh:vyh=v3o:=vac _
instance n123n_p (a0:RL)(a1:vb6):ParC (vyh a0 a1):=by rw [wbh];unfold v3o;(try dsimp only);infer_instance
def v4o (a0:RL)(a1:vb6)(k:Bool→OR):OR:=
 vyh a0 a1 (fun y1=>
 k (decide (y1≥0)))
def vsm:=shut v4o
theorem wai:vsm=v4o:=vac _
instance n101n_p (a0:RL)(a1:vb6):ParC (vsm a0 a1):=by rw [wai];unfold v4o;(try dsimp only);infer_instance
def ves (x:q37T)(k:q38T→OR):OR:=
 let xh:=x.2.2.2.2
 let xi:=xh.2.2.2.2
 let xj:=xi.2.2.2.2
 let xk:=xj.2.2.2.2
 let xl:=xk.2.2.2.2
 let xm:=xl.2.2.2.2
 let t0:=(xi.2.1,xi.2.2.1)
 vsm xh.2.1 t0 (fun y5=>
 bif y5 then
 k (true,x.2.1,x.2.2.1,x.2.2.2.1,xh.1,xh.2.1,xh.2.2.1,xh.2.2.2.1,xi.1,xi.2.1,xi.2.2.1,xk.2.1,xk.2.2.1,xk.2.2.2.1,xl.1,xl.2.1,xl.2.2.1,xk.2.1,xk.2.2.1,xk.2.2.2.1,xl.1,xl.2.1,xl.2.2.1,xm.2.1,xm.2.2)
 else
 bif ((xh.2.1.length:Int)==(8:Int))then
 k (false,x.2.1,x.2.2.1,x.2.2.2.1,xh.1,xh.2.1,xh.2.2.1,xh.2.2.2.1,xi.1,xi.2.1,xi.2.2.1,xk.2.1,xk.2.2.1,xk.2.2.2.1,xl.1,xl.2.1,xl.2.2.1,xk.2.1,xk.2.2.1,xk.2.2.2.1,xl.1,xl.2.1,xl.2.2.1,xm.2.1,xm.2.2)
 else
 if xm.2.1.length+[t0].length≤VE.maxLen then
 k (true,x.2.1,x.2.2.1,x.2.2.2.1,xh.1,xh.2.1,xh.2.2.1,xh.2.2.2.1,xi.1,xi.2.1,xi.2.2.1,xk.2.1,xk.2.2.1,xk.2.2.2.1,xl.1,xl.2.1,xl.2.2.1,xk.2.1,xk.2.2.1,xk.2.2.2.1,xl.1,xl.2.1,xl.2.2.1,(xm.2.1++[t0]),xm.2.2)
 else none)
instance n40n_jp5000004 (x:q37T):ParC (ves x):=by unfold ves;(try dsimp only);infer_instance
def wek (a0:dTxn)(a1:vb6)(k:q66T→OR):OR:=
 vhc a0 (fun y1=>
 let y1h:=y1.2.2.2.2
 vhk a0 (fun y2=>
 bif (!y2)then
 k (y1.1,y1.2.1,y1.2.2.1,y1.2.2.2.1,y1h.1,y1h.2.1,false,y1h.2.2.1,y1h.2.2.2)
 else
 bif (a0.2.1 != (1:Int))then
 k (y1.1,y1.2.1,y1.2.2.1,y1.2.2.2.1,y1h.1,y1h.2.1,false,y1h.2.2.1,y1h.2.2.2)
 else
 vtz a1 (fun y3=>
 bif (!y3)then
 k (y1.1,y1.2.1,y1.2.2.1,y1.2.2.2.1,y1h.1,y1h.2.1,false,y1h.2.2.1,y1h.2.2.2)
 else
 ves (false,a0.1,a0.2.1,a0.2.2.1,a0.2.2.2.1,a0.2.2.2.2.1,a0.2.2.2.2.2.1,a0.2.2.2.2.2.2.1,a0.2.2.2.2.2.2.2,a1.1,a1.2,0,0,0,0,false,(⟨#[]⟩:ByteArray),y1.1,y1.2.1,y1.2.2.1,y1.2.2.2.1,y1h.1,y1h.2.1,([]:List vb6),([]:List vbt),y1h.2.2.1,y1h.2.2.2) (fun z4=>
 let z4h:=z4.2.2.2.2
 let z4i:=z4h.2.2.2.2
 let z4j:=z4i.2.2.2.2
 k (z4i.2.2.2.1,z4j.1,z4j.2.1,z4j.2.2.1,z4j.2.2.2.1,z4j.2.2.2.2.1,z4.1,z4j.2.2.2.2.2.2.2.2.2.2.2.1,z4j.2.2.2.2.2.2.2.2.2.2.2.2)))))
def v0v:=shut wek
theorem wl9:v0v=wek:=vac _
instance n40n_p (a0:dTxn)(a1:vb6):ParC (v0v a0 a1):=by rw [wl9];unfold wek;(try dsimp only);infer_instance
def weo (a0:vbs)(a1:Int)(a2:vb6)(a3:Bool)(k:q63T→OR):OR:=
 vm7 a0 (fun y1=>
 let y1h:=y1.2.2.2.2
 vo9 a0 a1 (fun y2=>
 bif (decide (y2<0))then
 k (y1.1,y1.2.1,y2,1,y1.2.2.1,y1.2.2.2.1,y1h.1,y1h.2)
 else
 bif (!a3)then
 k (y1.1,y1.2.1,y2,2,y1.2.2.1,y1.2.2.2.1,y1h.1,y1h.2)
 else
 if 0≤y2∧y2<(a0.2.length:Int)then
 v0v (rd (Ty.zero tTxn) a0.2 y2) a2 (fun y3=>
 let y3h:=y3.2.2.2.2
 bif (!y3h.2.2.1)then
 k (y1.1,y1.2.1,y2,3,y1.2.2.1,y1.2.2.2.1,y1h.1,y1h.2)
 else
 if 0≤y2∧y2<(y1h.2.length:Int)then
 k (y1.1,y1.2.1,y2,0,y1.2.2.1,y1.2.2.2.1,y1h.1,(y1h.2.set y2.toNat (y3.1,(y3.2.1,(y3.2.2.1,(y3.2.2.2.1,(y3h.2.2.2.1,(y3h.2.2.2.2,(y3h.1,y3h.2.1)))))))))
 else none)
 else none))
def wfi:=shut weo
theorem wi7:wfi=weo:=vac _
instance n74n_p (a0:vbs)(a1:Int)(a2:vb6)(a3:Bool):ParC (wfi a0 a1 a2 a3):=by rw [wi7];unfold weo;(try dsimp only);infer_instance
def wm1 (a0:vbt)(a1:ByteArray)(k:(Bool×ByteArray)→OR):OR:=
 k ((va3 a0.1 a1),a1)
def v2d:=shut wm1
theorem wpv:v2d=wm1:=vac _
instance n72n_p (a0:vbt)(a1:ByteArray):ParC (v2d a0 a1):=by rw [wpv];unfold wm1;(try dsimp only);infer_instance
def vj2 (x:q24T)(k:q24T⊕(q24T⊕q24T)→OR):OR:=
 bif (decide (x.2.2.2.1<x.2.2.1))then
 if 0≤x.2.2.2.1∧x.2.2.2.1<(x.1.length:Int)then
 v2d (rd (Ty.zero tWrite) x.1 x.2.2.2.1) x.2.2.2.2 (fun y3=>
 bif y3.1 then
 k (.inr (.inl (x.1,x.2.2.2.1,x.2.2.1,x.2.2.2.1,y3.2)))
 else
 k (.inl (x.1,x.2.1,x.2.2.1,(IntKind.wrap .i64 (x.2.2.2.1+1)),y3.2)))
 else none
 else
 k (.inr (.inr (x.1,x.2.1,x.2.2.1,x.2.2.2.1,x.2.2.2.2)))
instance n122n_bp0 (x:q24T):ParC (vj2 x):=by unfold vj2;(try dsimp only);infer_instance
def v5r (a0:WL)(a1:ByteArray)(k:(Int×ByteArray)→OR):OR:=
 vad vj2 Fuel (a0,0,(a0.length:Int),0,a1) (Sum.elim (fun z1=>
 k (z1.2.1,z1.2.2.2.2)) (fun z2=>
 k ((-1:Int),z2.2.2.2.2)))
def vyi:=shut v5r
theorem waf:vyi=v5r:=vac _
instance n122n_p (a0:WL)(a1:ByteArray):ParC (vyi a0 a1):=by rw [waf];unfold v5r;(try dsimp only);infer_instance
def wep (a0:dTxn)(a1:ByteArray)(k:Int→OR):OR:=
 vyi a0.2.2.2.2.2.1 a1 (fun y1=>
 k y1.1)
def wcj:=shut wep
theorem wir:wcj=wep:=vac _
instance n71n_p (a0:dTxn)(a1:ByteArray):ParC (wcj a0 a1):=by rw [wir];unfold wep;(try dsimp only);infer_instance
def vn6 (x:q16T)(k:q16T⊕q16T→OR):OR:=
 let xh:=x.2.2.2.2
 let t0:=(x.1,x.2.1,x.2.2.1,x.2.2.2.1,xh.1,xh.2.1,(IntKind.wrap .i64 (xh.2.2+(1:Int))))
 bif (decide (xh.2.2<xh.2.1))then
 if 0≤xh.2.2∧xh.2.2<(xh.1.length:Int)then
 bif (va3 ((rd (Ty.zero tVersion) xh.1 xh.2.2).1) x.2.1)then
 bif (decide ((rd (Ty.zero tVersion) xh.1 xh.2.2).2.2.2≤x.2.2.1))then
 bif (decide (x.2.2.2.1<0))then
 k (.inl (x.1,x.2.1,x.2.2.1,xh.2.2,xh.1,xh.2.1,(IntKind.wrap .i64 (xh.2.2+1))))
 else
 if 0≤x.2.2.2.1∧x.2.2.2.1<(x.1.length:Int)then
 bif (decide ((rd (Ty.zero tVersion) xh.1 xh.2.2).2.2.2>(rd (Ty.zero tVersion) x.1 x.2.2.2.1).2.2.2))then
 k (.inl (x.1,x.2.1,x.2.2.1,xh.2.2,xh.1,xh.2.1,(IntKind.wrap .i64 (xh.2.2+1))))
 else
 k (.inl t0)
 else none
 else
 k (.inl t0)
 else
 k (.inl t0)
 else none
 else
 k (.inr (x.1,x.2.1,x.2.2.1,x.2.2.2.1,xh.1,xh.2.1,xh.2.2))
instance n70n_bp0 (x:q16T):ParC (vn6 x):=by unfold vn6;(try dsimp only);infer_instance
def wes (a0:VL)(a1:ByteArray)(a2:Int)(k:Int→OR):OR:=
 vad vn6 Fuel (a0,a1,a2,(-1:Int),a0,(a0.length:Int),0) (fun z1=>
 k z1.2.2.2.1)
def vtm:=shut wes
theorem wol:vtm=wes:=vac _
instance n70n_p (a0:VL)(a1:ByteArray)(a2:Int):ParC (vtm a0 a1 a2):=by rw [wol];unfold wes;(try dsimp only);infer_instance
def we3 (a0:VL)(a1:ByteArray)(a2:Int)(k:(ByteArray×Bool)→OR):OR:=
 vtm a0 a1 a2 (fun y1=>
 bif (decide (y1<0))then
 k ((⟨#[]⟩:ByteArray),false)
 else
 if 0≤y1∧y1<(a0.length:Int)then
 bif (rd (Ty.zero tVersion) a0 y1).2.2.1 then
 k ((⟨#[]⟩:ByteArray),false)
 else
 if 0≤y1∧y1<(a0.length:Int)then
 k ((rd (Ty.zero tVersion) a0 y1).2.1,true)
 else none
 else none)
def v7z:=shut we3
theorem wnm:v7z=we3:=vac _
instance n47n_p (a0:VL)(a1:ByteArray)(a2:Int):ParC (v7z a0 a1 a2):=by rw [wnm];unfold we3;(try dsimp only);infer_instance
def wco (a0:dTxn)(a1:VL)(a2:ByteArray)(k:(ByteArray×Bool)→OR):OR:=
 wcj a0 a2 (fun y1=>
 bif (decide (y1≥0))then
 if 0≤y1∧y1<(a0.2.2.2.2.2.1.length:Int)then
 bif (rd (Ty.zero tWrite) a0.2.2.2.2.2.1 y1).2.2 then
 k ((⟨#[]⟩:ByteArray),false)
 else
 if 0≤y1∧y1<(a0.2.2.2.2.2.1.length:Int)then
 k ((rd (Ty.zero tWrite) a0.2.2.2.2.2.1 y1).2.1,true)
 else none
 else none
 else
 v7z a1 a2 a0.2.2.1 (fun y2=>
 k (y2.1,y2.2)))
def v6p:=shut wco
theorem wms:v6p=wco:=vac _
instance n33n_p (a0:dTxn)(a1:VL)(a2:ByteArray):ParC (v6p a0 a1 a2):=by rw [wms];unfold wco;(try dsimp only);infer_instance
def wfo (a0:vbs)(a1:Int)(a2:ByteArray)(k:q58T→OR):OR:=
 vj1 a2 (fun y1=>
 wfi a0 a1 (a2,a2) y1 (fun y2=>
 let y2h:=y2.2.2.2.2
 bif (y2.2.2.2.1 != (0:Int))then
 k (y2.1,y2.2.1,(⟨#[]⟩:ByteArray),false,y2.2.2.2.1,y2h.1,y2h.2.1,y2h.2.2.1,y2h.2.2.2)
 else
 if 0≤y2.2.2.1∧y2.2.2.1<(a0.2.length:Int)then
 v6p (rd (Ty.zero tTxn) a0.2 y2.2.2.1) a0.1.1 a2 (fun y3=>
 k (y2.1,y2.2.1,y3.1,y3.2,0,y2h.1,y2h.2.1,y2h.2.2.1,y2h.2.2.2))
 else none))
def vqn:=shut wfo
theorem wor:vqn=wfo:=vac _
instance n19n_p (a0:vbs)(a1:Int)(a2:ByteArray):ParC (vqn a0 a1 a2):=by rw [wor];unfold wfo;(try dsimp only);infer_instance
def vsp (a0:Int)(a1:WL)(a2:WL)(k:(WL×WL)→OR):OR:=
 if 0≤a0∧a0≤(a1.length:Int)∧0<a2.length∧a1.length+a2.length≤1073741824 then
 k (a2,(insL a1 a0 a2))
 else none
def vxi:=shut vsp
theorem v3f:vxi=vsp:=vac _
instance n125n_p (a0:Int)(a1:WL)(a2:WL):ParC (vxi a0 a1 a2):=by rw [v3f];unfold vsp;(try dsimp only);infer_instance
def vf8 (x:q51T)(k:q51T→OR):OR:=
 k ((IntKind.wrap .i64 (x.1+1)),x.2.1,x.2.2.1,x.2.2.2.1,x.2.2.2.2)
instance n38n_jp6000001 (x:q51T):ParC (vf8 x):=by unfold vf8;(try dsimp only);infer_instance
def vpm (x:q51T)(k:q51T⊕q51T→OR):OR:=
 let xh:=x.2.2.2.2
 bif (decide (x.1<(xh.length:Int)))then
 if 0≤x.1∧x.1<(xh.length:Int)then
 bif (vaf ((xh.getD x.1.toNat (Ty.zero tWrite)).1) x.2.1)then
 vf8 (x.1,x.2.1,x.2.2.1,x.2.2.2.1,xh) (fun z4=>
 k (.inl (z4.1,z4.2.1,z4.2.2.1,z4.2.2.2.1,z4.2.2.2.2)))
 else
 k (.inr (x.1,x.2.1,x.2.2.1,x.2.2.2.1,xh))
 else none
 else
 k (.inr (x.1,x.2.1,x.2.2.1,x.2.2.2.1,xh))
instance n38n_bp0 (x:q51T):ParC (vpm x):=by unfold vpm;(try dsimp only);infer_instance
def we1 (a0:WL)(a1:vbt)(k:WL→OR):OR:=
 if a0.length≤VE.maxLen then
 vad vpm Fuel (0,a1.1,a1.2.1,a1.2.2,a0) (fun z1=>
 let z1h:=z1.2.2.2.2
 bif (decide (z1.1<(z1h.length:Int)))then
 if 0≤z1.1∧z1.1<(z1h.length:Int)then
 bif (va3 ((z1h.getD z1.1.toNat (Ty.zero tWrite)).1) z1.2.1)then
 if 0≤z1.1∧z1.1<(z1h.length:Int)then
 k (z1h.set z1.1.toNat (z1.2.1,(z1.2.2.1,z1.2.2.2.1)))
 else none
 else
 vxi z1.1 z1h [(z1.2.1,(z1.2.2.1,z1.2.2.2.1))] (fun y2=>
 k y2.2)
 else none
 else
 vxi z1.1 z1h [(z1.2.1,(z1.2.2.1,z1.2.2.2.1))] (fun y3=>
 k y3.2))
 else none
def v1s:=shut we1
theorem wln:v1s=we1:=vac _
instance n38n_p (a0:WL)(a1:vbt):ParC (v1s a0 a1):=by rw [wln];unfold we1;(try dsimp only);infer_instance
def vev (x:q35T)(k:(q36T⊕q35T)→OR):OR:=
 let xh:=x.2.2.2.2
 let xi:=xh.2.2.2.2
 let xj:=xi.2.2.2.2
 let xk:=xj.2.2.2.2
 let xl:=xk.2.2.2.2
 v1s xh.2.2.1 (xi.2.1,(xi.2.2.1,xi.2.2.2.1)) (fun y6=>
 vhk (xk.2.2.1,(xk.2.2.2.1,(xl.1,(xl.2.1,(xl.2.2.2.2.2.2.1,(y6,(xl.2.2.1,xl.2.2.2.1))))))) (fun y7=>
 bif (!y7)then
 vhc (x.2.1,(x.2.2.1,(x.2.2.2.1,(xh.1,(xh.2.1,(xh.2.2.1,(xh.2.2.2.1,xi.1))))))) (fun y8=>
 k (.inr (false,x.2.1,x.2.2.1,x.2.2.2.1,xh.1,xh.2.1,xh.2.2.1,xh.2.2.2.1,xi.1,xi.2.1,xi.2.2.1,xi.2.2.2.1,y8.1,y8.2.1,y8.2.2.1,y8.2.2.2.1,y8.2.2.2.2.1,y8.2.2.2.2.2.1,xk.2.2.1,xk.2.2.2.1,xl.1,xl.2.1,xl.2.2.1,xl.2.2.2.1,y8.2.2.2.2.2.2.1,y8.2.2.2.2.2.2.2,xl.2.2.2.2.2.2.1,y6)))
 else
 k (.inl (true,x.2.1,x.2.2.1,x.2.2.2.1,xh.1,xh.2.1,xh.2.2.1,xh.2.2.2.1,xi.1,xi.2.1,xi.2.2.1,xi.2.2.2.1,xk.2.2.1,xk.2.2.2.1,xl.1,xl.2.1,xl.2.2.1,xl.2.2.2.1,xk.2.2.1,xk.2.2.2.1,xl.1,xl.2.1,xl.2.2.1,xl.2.2.2.1,xl.2.2.2.2.2.2.1,y6))))
instance n57n_jp5000004 (x:q35T):ParC (vev x):=by unfold vev;(try dsimp only);infer_instance
def wcw (a0:dTxn)(a1:vbt)(k:q66T→OR):OR:=
 vhc a0 (fun y1=>
 let y1h:=y1.2.2.2.2
 vhk a0 (fun y2=>
 bif (!y2)then
 k (y1.1,y1.2.1,y1.2.2.1,y1.2.2.2.1,y1h.1,y1h.2.1,false,y1h.2.2.1,y1h.2.2.2)
 else
 bif (a0.2.1 != (1:Int))then
 k (y1.1,y1.2.1,y1.2.2.1,y1.2.2.2.1,y1h.1,y1h.2.1,false,y1h.2.2.1,y1h.2.2.2)
 else
 vru a1 (fun y3=>
 bif (!y3)then
 k (y1.1,y1.2.1,y1.2.2.1,y1.2.2.2.1,y1h.1,y1h.2.1,false,y1h.2.2.1,y1h.2.2.2)
 else
 vev (false,a0.1,a0.2.1,a0.2.2.1,a0.2.2.2.1,a0.2.2.2.2.1,a0.2.2.2.2.2.1,a0.2.2.2.2.2.2.1,a0.2.2.2.2.2.2.2,a1.1,a1.2.1,a1.2.2,0,0,0,0,false,(⟨#[]⟩:ByteArray),y1.1,y1.2.1,y1.2.2.1,y1.2.2.2.1,y1h.1,y1h.2.1,([]:List vb6),([]:List vbt),y1h.2.2.1,y1h.2.2.2) (Sum.elim (fun z4=>
 let z4h:=z4.2.2.2.2
 let z4i:=z4h.2.2.2.2
 let z4j:=z4i.2.2.2.2
 k (z4j.1,z4j.2.1,z4j.2.2.1,z4j.2.2.2.1,z4j.2.2.2.2.1,z4j.2.2.2.2.2.1,z4.1,z4j.2.2.2.2.2.2.2.2.2.2.2.2.1,z4j.2.2.2.2.2.2.2.2.2.2.2.2.2)) (fun z5=>
 let z5h:=z5.2.2.2.2
 let z5i:=z5h.2.2.2.2
 let z5j:=z5i.2.2.2.2
 k (z5j.1,z5j.2.1,z5j.2.2.1,z5j.2.2.2.1,z5j.2.2.2.2.1,z5j.2.2.2.2.2.1,z5.1,z5j.2.2.2.2.2.2.2.2.2.2.2.2.1,z5j.2.2.2.2.2.2.2.2.2.2.2.2.2.1))))))
def v1e:=shut wcw
theorem wlv:v1e=wcw:=vac _
instance n57n_p (a0:dTxn)(a1:vbt):ParC (v1e a0 a1):=by rw [wlv];unfold wcw;(try dsimp only);infer_instance
def wcq (a0:vbs)(a1:Int)(a2:vbt)(k:q60T→OR):OR:=
 vm7 a0 (fun y1=>
 let y1h:=y1.2.2.2.2
 vo9 a0 a1 (fun y2=>
 bif (decide (y2<0))then
 k (y1.1,y1.2.1,1,y1.2.2.1,y1.2.2.2.1,y1h.1,y1h.2)
 else
 vru a2 (fun y3=>
 bif (!y3)then
 k (y1.1,y1.2.1,2,y1.2.2.1,y1.2.2.2.1,y1h.1,y1h.2)
 else
 if 0≤y2∧y2<(a0.2.length:Int)then
 v1e (rd (Ty.zero tTxn) a0.2 y2) a2 (fun y4=>
 let y4h:=y4.2.2.2.2
 bif (!y4h.2.2.1)then
 k (y1.1,y1.2.1,3,y1.2.2.1,y1.2.2.2.1,y1h.1,y1h.2)
 else
 if 0≤y2∧y2<(y1h.2.length:Int)then
 k (y1.1,y1.2.1,0,y1.2.2.1,y1.2.2.2.1,y1h.1,(y1h.2.set y2.toNat (y4.1,(y4.2.1,(y4.2.2.1,(y4.2.2.2.1,(y4h.2.2.2.1,(y4h.2.2.2.2,(y4h.1,y4h.2.1)))))))))
 else none)
 else none)))
def vqo:=shut wcq
theorem wk4:vqo=wcq:=vac _
instance n35n_p (a0:vbs)(a1:Int)(a2:vbt):ParC (vqo a0 a1 a2):=by rw [wk4];unfold wcq;(try dsimp only);infer_instance
def wly (a0:dTxn)(a1:ByteArray)(k:(Bool×ByteArray)→OR):OR:=
 k ((va3 a0.2.2.2.2.2.2.2 a1),a1)
def v2f:=shut wly
theorem wl4:v2f=wly:=vac _
instance n42n_p (a0:dTxn)(a1:ByteArray):ParC (v2f a0 a1):=by rw [wl4];unfold wly;(try dsimp only);infer_instance
def vkb (x:q6T)(k:q6T⊕(q6T⊕q6T)→OR):OR:=
 bif (decide (x.2.2.2.1<x.2.2.1))then
 if 0≤x.2.2.2.1∧x.2.2.2.1<(x.1.length:Int)then
 v2f (rd (Ty.zero tTxn) x.1 x.2.2.2.1) x.2.2.2.2 (fun y3=>
 bif y3.1 then
 k (.inr (.inl (x.1,x.2.2.2.1,x.2.2.1,x.2.2.2.1,y3.2)))
 else
 k (.inl (x.1,x.2.1,x.2.2.1,(IntKind.wrap .i64 (x.2.2.2.1+1)),y3.2)))
 else none
 else
 k (.inr (.inr (x.1,x.2.1,x.2.2.1,x.2.2.2.1,x.2.2.2.2)))
instance n113n_bp0 (x:q6T):ParC (vkb x):=by unfold vkb;(try dsimp only);infer_instance
def v20 (a0:TL)(a1:ByteArray)(k:(Int×ByteArray)→OR):OR:=
 vad vkb Fuel (a0,0,(a0.length:Int),0,a1) (Sum.elim (fun z1=>
 k (z1.2.1,z1.2.2.2.2)) (fun z2=>
 k ((-1:Int),z2.2.2.2.2)))
def vxz:=shut v20
theorem wae:vxz=v20:=vac _
instance n113n_p (a0:TL)(a1:ByteArray):ParC (vxz a0 a1):=by rw [wae];unfold v20;(try dsimp only);infer_instance
def wcf (a0:vh8)(a1:ByteArray)(k:Int→OR):OR:=
 vxz a0.2.2.1 a1 (fun y1=>
 k y1.1)
def vtj:=shut wcf
theorem wlq:vtj=wcf:=vac _
instance n41n_p (a0:vh8)(a1:ByteArray):ParC (vtj a0 a1):=by rw [wlq];unfold wcf;(try dsimp only);infer_instance
def wem (a0:vbs)(k:(TL⊕TL)→OR):OR:=
 vmn [a0.1.2.1,a0.1.2.2.1] (Sum.elim (fun y1=>
 k (.inl y1)) (fun y2=>
 k (.inr y2)))
def vt1:=shut wem
theorem wkl:vt1=wem:=vac _
instance n73n_p (a0:vbs):ParC (vt1 a0):=by rw [wkl];unfold wem;(try dsimp only);infer_instance
def vn8 (x:q22T)(k:q22T⊕(q22T⊕q22T)→OR):OR:=
 let xh:=x.2.2.2.2
 let xi:=xh.2.2.2.2
 bif (decide (xh.2.2.2.1<xh.2.2.1))then
 if 0≤xh.2.2.2.1∧xh.2.2.2.1<(xh.2.1.length:Int)then
 bif (va3 xi.1 ((rd (Ty.zero tWrite) xh.2.1 xh.2.2.2.1).1))then
 k (.inr (.inl (x.1,true,x.2.2.1,x.2.2.2.1,xh.1,xh.2.1,xh.2.2.1,xh.2.2.2.1,xi.1,xi.2.1,xi.2.2)))
 else
 k (.inl (x.1,x.2.1,x.2.2.1,x.2.2.2.1,xh.1,xh.2.1,xh.2.2.1,(IntKind.wrap .i64 (xh.2.2.2.1+1)),xi.1,xi.2.1,xi.2.2))
 else none
 else
 k (.inr (.inr (x.1,x.2.1,x.2.2.1,x.2.2.2.1,xh.1,xh.2.1,xh.2.2.1,xh.2.2.2.1,xi.1,xi.2.1,xi.2.2)))
instance n27n_bp2 (x:q22T):ParC (vn8 x):=by unfold vn8;(try dsimp only);infer_instance
def voa (x:q23T)(k:q23T⊕(q23T⊕q23T)→OR):OR:=
 let xh:=x.2.2.2.2
 bif (decide (xh<x.2.2.2.1))then
 if 0≤xh∧xh<(x.2.2.1.length:Int)then
 vad vn8 Fuel (x.1,x.2.1,x.2.2.1,x.2.2.2.1,xh,x.1,(x.1.length:Int),0,(rd (Ty.zero tWrite) x.2.2.1 xh).1,(rd (Ty.zero tWrite) x.2.2.1 xh).2.1,(rd (Ty.zero tWrite) x.2.2.1 xh).2.2) (Sum.elim (fun z3=>
 k (.inr (.inr (z3.1,z3.2.1,z3.2.2.1,z3.2.2.2.1,z3.2.2.2.2.1)))) (fun z4=>
 k (.inl (z4.1,z4.2.1,z4.2.2.1,z4.2.2.2.1,(IntKind.wrap .i64 (z4.2.2.2.2.1+1))))))
 else none
 else
 k (.inr (.inl (x.1,x.2.1,x.2.2.1,x.2.2.2.1,xh)))
instance n27n_bp0 (x:q23T):ParC (voa x):=by unfold voa;(try dsimp only);infer_instance
def wdk (a0:WL)(a1:WL)(k:Bool→OR):OR:=
 vad voa Fuel (a1,false,a0,(a0.length:Int),0) (Sum.elim (fun _=>
 k false) (fun z2=>
 k z2.2.1))
def vxq:=shut wdk
theorem wm0:vxq=wdk:=vac _
instance n27n_p (a0:WL)(a1:WL):ParC (vxq a0 a1):=by rw [wm0];unfold wdk;(try dsimp only);infer_instance
def wbt (a0:dTxn)(a1:Int)(a2:Int)(a3:Int)(a4:Int)(a5:RL)(a6:WL)(a7:Bool)(a8:ByteArray)(k:q40T→OR):OR:=
 bif (a0.1 != a1)then
 vla a0 (fun y1=>
 bif y1 then
 vxq a0.2.2.2.2.2.1 a6 (fun y2=>
 k (y2,a1,a2,a3,a4,a5,a6,a7,a8))
 else
 vo4 a0 (fun y3=>
 bif y3 then
 bif (decide (a0.2.2.2.1>a3))then
 vxq a0.2.2.2.2.2.1 a6 (fun y4=>
 k (y4,a1,a2,a3,a4,a5,a6,a7,a8))
 else
 k (false,a1,a2,a3,a4,a5,a6,a7,a8)
 else
 k (false,a1,a2,a3,a4,a5,a6,a7,a8)))
 else
 k (false,a1,a2,a3,a4,a5,a6,a7,a8)
def v0m:=shut wbt
theorem wpx:v0m=wbt:=vac _
instance n11n_p (a0:dTxn)(a1:Int)(a2:Int)(a3:Int)(a4:Int)(a5:RL)(a6:WL)(a7:Bool)(a8:ByteArray):ParC (v0m a0 a1 a2 a3 a4 a5 a6 a7 a8):=by rw [wpx];unfold wbt;(try dsimp only);infer_instance
def vjb (x:q10T)(k:q10T⊕(q10T⊕q10T)→OR):OR:=
 let xh:=x.2.2.2.2
 let xi:=xh.2.2.2.2
 bif (decide (x.2.2.2.1<x.2.2.1))then
 if 0≤x.2.2.2.1∧x.2.2.2.1<(x.1.length:Int)then
 v0m (rd (Ty.zero tTxn) x.1 x.2.2.2.1) xh.1 xh.2.1 xh.2.2.1 xh.2.2.2.1 xi.1 xi.2.1 xi.2.2.1 xi.2.2.2 (fun y3=>
 let y3h:=y3.2.2.2.2
 bif y3.1 then
 k (.inr (.inl (x.1,x.2.2.2.1,x.2.2.1,x.2.2.2.1,y3.2.1,y3.2.2.1,y3.2.2.2.1,y3h.1,y3h.2.1,y3h.2.2.1,y3h.2.2.2.1,y3h.2.2.2.2)))
 else
 k (.inl (x.1,x.2.1,x.2.2.1,(IntKind.wrap .i64 (x.2.2.2.1+1)),y3.2.1,y3.2.2.1,y3.2.2.2.1,y3h.1,y3h.2.1,y3h.2.2.1,y3h.2.2.2.1,y3h.2.2.2.2)))
 else none
 else
 k (.inr (.inr (x.1,x.2.1,x.2.2.1,x.2.2.2.1,xh.1,xh.2.1,xh.2.2.1,xh.2.2.2.1,xi.1,xi.2.1,xi.2.2.1,xi.2.2.2)))
instance n106n_bp0 (x:q10T):ParC (vjb x):=by unfold vjb;(try dsimp only);infer_instance
def v39 (a0:TL)(a1:Int)(a2:Int)(a3:Int)(a4:Int)(a5:RL)(a6:WL)(a7:Bool)(a8:ByteArray)(k:q71T→OR):OR:=
 vad vjb Fuel (a0,0,(a0.length:Int),0,a1,a2,a3,a4,a5,a6,a7,a8) (Sum.elim (fun z1=>
 let z1h:=z1.2.2.2.2
 k (z1.2.1,z1h.1,z1h.2.1,z1h.2.2.1,z1h.2.2.2.1,z1h.2.2.2.2.1,z1h.2.2.2.2.2.1,z1h.2.2.2.2.2.2.1,z1h.2.2.2.2.2.2.2)) (fun z2=>
 let z2h:=z2.2.2.2.2
 k ((-1:Int),z2h.1,z2h.2.1,z2h.2.2.1,z2h.2.2.2.1,z2h.2.2.2.2.1,z2h.2.2.2.2.2.1,z2h.2.2.2.2.2.2.1,z2h.2.2.2.2.2.2.2)))
def vux:=shut v39
theorem wa2:vux=v39:=vac _
instance n106n_p (a0:TL)(a1:Int)(a2:Int)(a3:Int)(a4:Int)(a5:RL)(a6:WL)(a7:Bool)(a8:ByteArray):ParC (vux a0 a1 a2 a3 a4 a5 a6 a7 a8):=by rw [wa2];unfold v39;(try dsimp only);infer_instance
def we4 (a0:TL)(a1:Int)(a2:Int)(a3:Int)(a4:Int)(a5:RL)(a6:WL)(a7:Bool)(a8:ByteArray)(k:q40T→OR):OR:=
 vux a0 a1 a2 a3 a4 a5 a6 a7 a8 (fun y1=>
 let y1h:=y1.2.2.2.2
 k ((decide (y1.1≥0)),y1.2.1,y1.2.2.1,y1.2.2.2.1,y1h.1,y1h.2.1,y1h.2.2.1,y1h.2.2.2.1,y1h.2.2.2.2))
def wfl:=shut we4
theorem wm7:wfl=we4:=vac _
instance n91n_p (a0:TL)(a1:Int)(a2:Int)(a3:Int)(a4:Int)(a5:RL)(a6:WL)(a7:Bool)(a8:ByteArray):ParC (wfl a0 a1 a2 a3 a4 a5 a6 a7 a8):=by rw [wm7];unfold we4;(try dsimp only);infer_instance
def wdc (a0:TL)(a1:Int)(a2:Int)(a3:Int)(a4:Int)(a5:RL)(a6:WL)(a7:Bool)(a8:ByteArray)(k:q40T→OR):OR:=
 wfl a0 a1 a2 a3 a4 a5 a6 a7 a8 (fun y1=>
 let y1h:=y1.2.2.2.2
 k (y1.1,y1.2.1,y1.2.2.1,y1.2.2.2.1,y1h.1,y1h.2.1,y1h.2.2.1,y1h.2.2.2.1,y1h.2.2.2.2))
def wc0:=shut wdc
theorem wjc:wc0=wdc:=vac _
instance n75n_p (a0:TL)(a1:Int)(a2:Int)(a3:Int)(a4:Int)(a5:RL)(a6:WL)(a7:Bool)(a8:ByteArray):ParC (wc0 a0 a1 a2 a3 a4 a5 a6 a7 a8):=by rw [wjc];unfold wdc;(try dsimp only);infer_instance
def wec (a0:dTxn)(a1:TL)(k:Bool→OR):OR:=
 wc0 a1 a0.1 a0.2.1 a0.2.2.1 a0.2.2.2.1 a0.2.2.2.2.1 a0.2.2.2.2.2.1 a0.2.2.2.2.2.2.1 a0.2.2.2.2.2.2.2 (fun y1=>
 k y1.1)
def v0s:=shut wec
theorem wja:v0s=wec:=vac _
instance n10n_p (a0:dTxn)(a1:TL):ParC (v0s a0 a1):=by rw [wja];unfold wec;(try dsimp only);infer_instance
def wcm (a0:dTxn)(a1:dTxn)(k:Bool→OR):OR:=
 bif (a0.2.1==(3:Int))then
 k (decide (a0.2.2.2.1≤a1.2.2.1))
 else
 k false
def v0y:=shut wcm
theorem wlk:v0y=wcm:=vac _
instance n09n_p (a0:dTxn)(a1:dTxn):ParC (v0y a0 a1):=by rw [wlk];unfold wcm;(try dsimp only);infer_instance
def wdd (a0:dTxn)(a1:dTxn)(k:Bool→OR):OR:=
 bif (a0.1 != a1.1)then
 v0y a0 a1 (fun y1=>
 bif (!y1)then
 v0y a1 a0 (fun y2=>
 k (!y2))
 else
 k false)
 else
 k false
def v58:=shut wdd
theorem wk3:v58=wdd:=vac _
instance n08n_p (a0:dTxn)(a1:dTxn):ParC (v58 a0 a1):=by rw [wk3];unfold wdd;(try dsimp only);infer_instance
def wb9 (a0:vb6)(a1:ByteArray)(k:Bool→OR):OR:=
 bif (!(vaf a1 a0.1))then
 k ((vaf a1 a0.2)||(va3 a1 a0.2))
 else
 k false
def v1i:=shut wb9
theorem wpq:v1i=wb9:=vac _
instance n22n_p (a0:vb6)(a1:ByteArray):ParC (v1i a0 a1):=by rw [wpq];unfold wb9;(try dsimp only);infer_instance
def vmw (x:q20T)(k:q20T⊕(q20T⊕q20T)→OR):OR:=
 let xh:=x.2.2.2.2
 let xi:=xh.2.2.2.2
 bif (decide (xh.2.2.2.1<xh.2.2.1))then
 if 0≤xh.2.2.2.1∧xh.2.2.2.1<(xh.2.1.length:Int)then
 v1i xi ((rd (Ty.zero tWrite) xh.2.1 xh.2.2.2.1).1) (fun y5=>
 bif y5 then
 k (.inr (.inl (x.1,true,x.2.2.1,x.2.2.2.1,xh.1,xh.2.1,xh.2.2.1,xh.2.2.2.1,xi.1,xi.2)))
 else
 k (.inl (x.1,x.2.1,x.2.2.1,x.2.2.2.1,xh.1,xh.2.1,xh.2.2.1,(IntKind.wrap .i64 (xh.2.2.2.1+1)),xi.1,xi.2)))
 else none
 else
 k (.inr (.inr (x.1,x.2.1,x.2.2.1,x.2.2.2.1,xh.1,xh.2.1,xh.2.2.1,xh.2.2.2.1,xi.1,xi.2)))
instance n52n_bp2 (x:q20T):ParC (vmw x):=by unfold vmw;(try dsimp only);infer_instance
def vn3 (x:q21T)(k:q21T⊕(q21T⊕q21T)→OR):OR:=
 let xh:=x.2.2.2.2
 bif (decide (xh<x.2.2.2.1))then
 if 0≤xh∧xh<(x.2.2.1.length:Int)then
 vad vmw Fuel (x.1,x.2.1,x.2.2.1,x.2.2.2.1,xh,x.1,(x.1.length:Int),0,(rd (Ty.zero tRange) x.2.2.1 xh).1,(rd (Ty.zero tRange) x.2.2.1 xh).2) (Sum.elim (fun z3=>
 k (.inr (.inr (z3.1,z3.2.1,z3.2.2.1,z3.2.2.2.1,z3.2.2.2.2.1)))) (fun z4=>
 k (.inl (z4.1,z4.2.1,z4.2.2.1,z4.2.2.2.1,(IntKind.wrap .i64 (z4.2.2.2.2.1+1))))))
 else none
 else
 k (.inr (.inl (x.1,x.2.1,x.2.2.1,x.2.2.2.1,xh)))
instance n52n_bp0 (x:q21T):ParC (vn3 x):=by unfold vn3;(try dsimp only);infer_instance
def wd9 (a0:RL)(a1:WL)(k:Bool→OR):OR:=
 vad vn3 Fuel (a1,false,a0,(a0.length:Int),0) (Sum.elim (fun _=>
 k false) (fun z2=>
 k z2.2.1))
def v2i:=shut wd9
theorem wlp:v2i=wd9:=vac _
instance n52n_p (a0:RL)(a1:WL):ParC (v2i a0 a1):=by rw [wlp];unfold wd9;(try dsimp only);infer_instance
def wdi (a0:dTxn)(a1:dTxn)(k:Bool→OR):OR:=
 v58 a0 a1 (fun y1=>
 bif y1 then
 v2i a0.2.2.2.2.1 a1.2.2.2.2.2.1 (fun y2=>
 k y2)
 else
 k false)
def vio:=shut wdi
theorem wjy:vio=wdi:=vac _
instance n04n_p (a0:dTxn)(a1:dTxn):ParC (vio a0 a1):=by rw [wjy];unfold wdi;(try dsimp only);infer_instance
def wd2 (a0:dTxn)(a1:Int)(a2:Int)(a3:Int)(a4:Int)(a5:RL)(a6:WL)(a7:Bool)(a8:ByteArray)(k:q40T→OR):OR:=
 vla a0 (fun y1=>
 bif y1 then
 vio a0 (a1,(a2,(a3,(a4,(a5,(a6,(a7,a8))))))) (fun y2=>
 k (y2,a1,a2,a3,a4,a5,a6,a7,a8))
 else
 vo4 a0 (fun y3=>
 bif y3 then
 vio a0 (a1,(a2,(a3,(a4,(a5,(a6,(a7,a8))))))) (fun y4=>
 k (y4,a1,a2,a3,a4,a5,a6,a7,a8))
 else
 k (false,a1,a2,a3,a4,a5,a6,a7,a8)))
def v2l:=shut wd2
theorem wpf:v2l=wd2:=vac _
instance n21n_p (a0:dTxn)(a1:Int)(a2:Int)(a3:Int)(a4:Int)(a5:RL)(a6:WL)(a7:Bool)(a8:ByteArray):ParC (v2l a0 a1 a2 a3 a4 a5 a6 a7 a8):=by rw [wpf];unfold wd2;(try dsimp only);infer_instance
def vj6 (x:q10T)(k:q10T⊕(q10T⊕q10T)→OR):OR:=
 let xh:=x.2.2.2.2
 let xi:=xh.2.2.2.2
 bif (decide (x.2.2.2.1<x.2.2.1))then
 if 0≤x.2.2.2.1∧x.2.2.2.1<(x.1.length:Int)then
 v2l (rd (Ty.zero tTxn) x.1 x.2.2.2.1) xh.1 xh.2.1 xh.2.2.1 xh.2.2.2.1 xi.1 xi.2.1 xi.2.2.1 xi.2.2.2 (fun y3=>
 let y3h:=y3.2.2.2.2
 bif y3.1 then
 k (.inr (.inl (x.1,x.2.2.2.1,x.2.2.1,x.2.2.2.1,y3.2.1,y3.2.2.1,y3.2.2.2.1,y3h.1,y3h.2.1,y3h.2.2.1,y3h.2.2.2.1,y3h.2.2.2.2)))
 else
 k (.inl (x.1,x.2.1,x.2.2.1,(IntKind.wrap .i64 (x.2.2.2.1+1)),y3.2.1,y3.2.2.1,y3.2.2.2.1,y3h.1,y3h.2.1,y3h.2.2.1,y3h.2.2.2.1,y3h.2.2.2.2)))
 else none
 else
 k (.inr (.inr (x.1,x.2.1,x.2.2.1,x.2.2.2.1,xh.1,xh.2.1,xh.2.2.1,xh.2.2.2.1,xi.1,xi.2.1,xi.2.2.1,xi.2.2.2)))
instance n110n_bp0 (x:q10T):ParC (vj6 x):=by unfold vj6;(try dsimp only);infer_instance
def v3n (a0:TL)(a1:Int)(a2:Int)(a3:Int)(a4:Int)(a5:RL)(a6:WL)(a7:Bool)(a8:ByteArray)(k:q71T→OR):OR:=
 vad vj6 Fuel (a0,0,(a0.length:Int),0,a1,a2,a3,a4,a5,a6,a7,a8) (Sum.elim (fun z1=>
 let z1h:=z1.2.2.2.2
 k (z1.2.1,z1h.1,z1h.2.1,z1h.2.2.1,z1h.2.2.2.1,z1h.2.2.2.2.1,z1h.2.2.2.2.2.1,z1h.2.2.2.2.2.2.1,z1h.2.2.2.2.2.2.2)) (fun z2=>
 let z2h:=z2.2.2.2.2
 k ((-1:Int),z2h.1,z2h.2.1,z2h.2.2.1,z2h.2.2.2.1,z2h.2.2.2.2.1,z2h.2.2.2.2.2.1,z2h.2.2.2.2.2.2.1,z2h.2.2.2.2.2.2.2)))
def vu5:=shut v3n
theorem wbj:vu5=v3n:=vac _
instance n110n_p (a0:TL)(a1:Int)(a2:Int)(a3:Int)(a4:Int)(a5:RL)(a6:WL)(a7:Bool)(a8:ByteArray):ParC (vu5 a0 a1 a2 a3 a4 a5 a6 a7 a8):=by rw [wbj];unfold v3n;(try dsimp only);infer_instance
def wfd (a0:TL)(a1:Int)(a2:Int)(a3:Int)(a4:Int)(a5:RL)(a6:WL)(a7:Bool)(a8:ByteArray)(k:q40T→OR):OR:=
 vu5 a0 a1 a2 a3 a4 a5 a6 a7 a8 (fun y1=>
 let y1h:=y1.2.2.2.2
 k ((decide (y1.1≥0)),y1.2.1,y1.2.2.1,y1.2.2.2.1,y1h.1,y1h.2.1,y1h.2.2.1,y1h.2.2.2.1,y1h.2.2.2.2))
def we5:=shut wfd
theorem wn7:we5=wfd:=vac _
instance n95n_p (a0:TL)(a1:Int)(a2:Int)(a3:Int)(a4:Int)(a5:RL)(a6:WL)(a7:Bool)(a8:ByteArray):ParC (we5 a0 a1 a2 a3 a4 a5 a6 a7 a8):=by rw [wn7];unfold wfd;(try dsimp only);infer_instance
def wcx (a0:TL)(a1:Int)(a2:Int)(a3:Int)(a4:Int)(a5:RL)(a6:WL)(a7:Bool)(a8:ByteArray)(k:q40T→OR):OR:=
 we5 a0 a1 a2 a3 a4 a5 a6 a7 a8 (fun y1=>
 let y1h:=y1.2.2.2.2
 k (y1.1,y1.2.1,y1.2.2.1,y1.2.2.2.1,y1h.1,y1h.2.1,y1h.2.2.1,y1h.2.2.2.1,y1h.2.2.2.2))
def wch:=shut wcx
theorem wod:wch=wcx:=vac _
instance n79n_p (a0:TL)(a1:Int)(a2:Int)(a3:Int)(a4:Int)(a5:RL)(a6:WL)(a7:Bool)(a8:ByteArray):ParC (wch a0 a1 a2 a3 a4 a5 a6 a7 a8):=by rw [wod];unfold wcx;(try dsimp only);infer_instance
def wer (a0:dTxn)(a1:TL)(k:Bool→OR):OR:=
 wch a1 a0.1 a0.2.1 a0.2.2.1 a0.2.2.2.1 a0.2.2.2.2.1 a0.2.2.2.2.2.1 a0.2.2.2.2.2.2.1 a0.2.2.2.2.2.2.2 (fun y1=>
 k y1.1)
def v0w:=shut wer
theorem wkc:v0w=wer:=vac _
instance n20n_p (a0:dTxn)(a1:TL):ParC (v0w a0 a1):=by rw [wkc];unfold wer;(try dsimp only);infer_instance
def wdx (a0:dTxn)(a1:Int)(a2:Int)(a3:Int)(a4:Int)(a5:RL)(a6:WL)(a7:Bool)(a8:ByteArray)(k:q40T→OR):OR:=
 vo4 a0 (fun y1=>
 bif y1 then
 vio (a1,(a2,(a3,(a4,(a5,(a6,(a7,a8))))))) a0 (fun y2=>
 k (y2,a1,a2,a3,a4,a5,a6,a7,a8))
 else
 k (false,a1,a2,a3,a4,a5,a6,a7,a8))
def v1l:=shut wdx
theorem wjt:v1l=wdx:=vac _
instance n32n_p (a0:dTxn)(a1:Int)(a2:Int)(a3:Int)(a4:Int)(a5:RL)(a6:WL)(a7:Bool)(a8:ByteArray):ParC (v1l a0 a1 a2 a3 a4 a5 a6 a7 a8):=by rw [wjt];unfold wdx;(try dsimp only);infer_instance
def vjr (x:q10T)(k:q10T⊕(q10T⊕q10T)→OR):OR:=
 let xh:=x.2.2.2.2
 let xi:=xh.2.2.2.2
 bif (decide (x.2.2.2.1<x.2.2.1))then
 if 0≤x.2.2.2.1∧x.2.2.2.1<(x.1.length:Int)then
 v1l (rd (Ty.zero tTxn) x.1 x.2.2.2.1) xh.1 xh.2.1 xh.2.2.1 xh.2.2.2.1 xi.1 xi.2.1 xi.2.2.1 xi.2.2.2 (fun y3=>
 let y3h:=y3.2.2.2.2
 bif y3.1 then
 k (.inr (.inl (x.1,x.2.2.2.1,x.2.2.1,x.2.2.2.1,y3.2.1,y3.2.2.1,y3.2.2.2.1,y3h.1,y3h.2.1,y3h.2.2.1,y3h.2.2.2.1,y3h.2.2.2.2)))
 else
 k (.inl (x.1,x.2.1,x.2.2.1,(IntKind.wrap .i64 (x.2.2.2.1+1)),y3.2.1,y3.2.2.1,y3.2.2.2.1,y3h.1,y3h.2.1,y3h.2.2.1,y3h.2.2.2.1,y3h.2.2.2.2)))
 else none
 else
 k (.inr (.inr (x.1,x.2.1,x.2.2.1,x.2.2.2.1,xh.1,xh.2.1,xh.2.2.1,xh.2.2.2.1,xi.1,xi.2.1,xi.2.2.1,xi.2.2.2)))
instance n112n_bp0 (x:q10T):ParC (vjr x):=by unfold vjr;(try dsimp only);infer_instance
def v3d (a0:TL)(a1:Int)(a2:Int)(a3:Int)(a4:Int)(a5:RL)(a6:WL)(a7:Bool)(a8:ByteArray)(k:q71T→OR):OR:=
 vad vjr Fuel (a0,0,(a0.length:Int),0,a1,a2,a3,a4,a5,a6,a7,a8) (Sum.elim (fun z1=>
 let z1h:=z1.2.2.2.2
 k (z1.2.1,z1h.1,z1h.2.1,z1h.2.2.1,z1h.2.2.2.1,z1h.2.2.2.2.1,z1h.2.2.2.2.2.1,z1h.2.2.2.2.2.2.1,z1h.2.2.2.2.2.2.2)) (fun z2=>
 let z2h:=z2.2.2.2.2
 k ((-1:Int),z2h.1,z2h.2.1,z2h.2.2.1,z2h.2.2.2.1,z2h.2.2.2.2.1,z2h.2.2.2.2.2.1,z2h.2.2.2.2.2.2.1,z2h.2.2.2.2.2.2.2)))
def vw1:=shut v3d
theorem wal:vw1=v3d:=vac _
instance n112n_p (a0:TL)(a1:Int)(a2:Int)(a3:Int)(a4:Int)(a5:RL)(a6:WL)(a7:Bool)(a8:ByteArray):ParC (vw1 a0 a1 a2 a3 a4 a5 a6 a7 a8):=by rw [wal];unfold v3d;(try dsimp only);infer_instance
def wfn (a0:TL)(a1:Int)(a2:Int)(a3:Int)(a4:Int)(a5:RL)(a6:WL)(a7:Bool)(a8:ByteArray)(k:q40T→OR):OR:=
 vw1 a0 a1 a2 a3 a4 a5 a6 a7 a8 (fun y1=>
 let y1h:=y1.2.2.2.2
 k ((decide (y1.1≥0)),y1.2.1,y1.2.2.1,y1.2.2.2.1,y1h.1,y1h.2.1,y1h.2.2.1,y1h.2.2.2.1,y1h.2.2.2.2))
def wet:=shut wfn
theorem wmj:wet=wfn:=vac _
instance n96n_p (a0:TL)(a1:Int)(a2:Int)(a3:Int)(a4:Int)(a5:RL)(a6:WL)(a7:Bool)(a8:ByteArray):ParC (wet a0 a1 a2 a3 a4 a5 a6 a7 a8):=by rw [wmj];unfold wfn;(try dsimp only);infer_instance
def wb4 (a0:TL)(a1:Int)(a2:Int)(a3:Int)(a4:Int)(a5:RL)(a6:WL)(a7:Bool)(a8:ByteArray)(k:q40T→OR):OR:=
 wet a0 a1 a2 a3 a4 a5 a6 a7 a8 (fun y1=>
 let y1h:=y1.2.2.2.2
 k (y1.1,y1.2.1,y1.2.2.1,y1.2.2.2.1,y1h.1,y1h.2.1,y1h.2.2.1,y1h.2.2.2.1,y1h.2.2.2.2))
def we7:=shut wb4
theorem wke:we7=wb4:=vac _
instance n80n_p (a0:TL)(a1:Int)(a2:Int)(a3:Int)(a4:Int)(a5:RL)(a6:WL)(a7:Bool)(a8:ByteArray):ParC (we7 a0 a1 a2 a3 a4 a5 a6 a7 a8):=by rw [wke];unfold wb4;(try dsimp only);infer_instance
def wfp (a0:dTxn)(a1:TL)(k:Bool→OR):OR:=
 we7 a1 a0.1 a0.2.1 a0.2.2.1 a0.2.2.2.1 a0.2.2.2.2.1 a0.2.2.2.2.2.1 a0.2.2.2.2.2.2.1 a0.2.2.2.2.2.2.2 (fun y1=>
 k y1.1)
def vte:=shut wfp
theorem wi3:vte=wfp:=vac _
instance n31n_p (a0:dTxn)(a1:TL):ParC (vte a0 a1):=by rw [wi3];unfold wfp;(try dsimp only);infer_instance
def wd8 (a0:dTxn)(a1:Int)(a2:Int)(a3:Int)(a4:Int)(a5:RL)(a6:WL)(a7:Bool)(a8:ByteArray)(k:q40T→OR):OR:=
 vla a0 (fun y1=>
 bif y1 then
 bif a0.2.2.2.2.2.2.1 then
 vio (a1,(a2,(a3,(a4,(a5,(a6,(a7,a8))))))) a0 (fun y2=>
 k (y2,a1,a2,a3,a4,a5,a6,a7,a8))
 else
 k (false,a1,a2,a3,a4,a5,a6,a7,a8)
 else
 vo4 a0 (fun y3=>
 bif y3 then
 bif a0.2.2.2.2.2.2.1 then
 vio (a1,(a2,(a3,(a4,(a5,(a6,(a7,a8))))))) a0 (fun y4=>
 k (y4,a1,a2,a3,a4,a5,a6,a7,a8))
 else
 k (false,a1,a2,a3,a4,a5,a6,a7,a8)
 else
 k (false,a1,a2,a3,a4,a5,a6,a7,a8)))
def v01:=shut wd8
theorem wpj:v01=wd8:=vac _
instance n14n_p (a0:dTxn)(a1:Int)(a2:Int)(a3:Int)(a4:Int)(a5:RL)(a6:WL)(a7:Bool)(a8:ByteArray):ParC (v01 a0 a1 a2 a3 a4 a5 a6 a7 a8):=by rw [wpj];unfold wd8;(try dsimp only);infer_instance
def vjs (x:q10T)(k:q10T⊕(q10T⊕q10T)→OR):OR:=
 let xh:=x.2.2.2.2
 let xi:=xh.2.2.2.2
 bif (decide (x.2.2.2.1<x.2.2.1))then
 if 0≤x.2.2.2.1∧x.2.2.2.1<(x.1.length:Int)then
 v01 (rd (Ty.zero tTxn) x.1 x.2.2.2.1) xh.1 xh.2.1 xh.2.2.1 xh.2.2.2.1 xi.1 xi.2.1 xi.2.2.1 xi.2.2.2 (fun y3=>
 let y3h:=y3.2.2.2.2
 bif y3.1 then
 k (.inr (.inl (x.1,x.2.2.2.1,x.2.2.1,x.2.2.2.1,y3.2.1,y3.2.2.1,y3.2.2.2.1,y3h.1,y3h.2.1,y3h.2.2.1,y3h.2.2.2.1,y3h.2.2.2.2)))
 else
 k (.inl (x.1,x.2.1,x.2.2.1,(IntKind.wrap .i64 (x.2.2.2.1+1)),y3.2.1,y3.2.2.1,y3.2.2.2.1,y3h.1,y3h.2.1,y3h.2.2.1,y3h.2.2.2.1,y3h.2.2.2.2)))
 else none
 else
 k (.inr (.inr (x.1,x.2.1,x.2.2.1,x.2.2.2.1,xh.1,xh.2.1,xh.2.2.1,xh.2.2.2.1,xi.1,xi.2.1,xi.2.2.1,xi.2.2.2)))
instance n107n_bp0 (x:q10T):ParC (vjs x):=by unfold vjs;(try dsimp only);infer_instance
def v25 (a0:TL)(a1:Int)(a2:Int)(a3:Int)(a4:Int)(a5:RL)(a6:WL)(a7:Bool)(a8:ByteArray)(k:q71T→OR):OR:=
 vad vjs Fuel (a0,0,(a0.length:Int),0,a1,a2,a3,a4,a5,a6,a7,a8) (Sum.elim (fun z1=>
 let z1h:=z1.2.2.2.2
 k (z1.2.1,z1h.1,z1h.2.1,z1h.2.2.1,z1h.2.2.2.1,z1h.2.2.2.2.1,z1h.2.2.2.2.2.1,z1h.2.2.2.2.2.2.1,z1h.2.2.2.2.2.2.2)) (fun z2=>
 let z2h:=z2.2.2.2.2
 k ((-1:Int),z2h.1,z2h.2.1,z2h.2.2.1,z2h.2.2.2.1,z2h.2.2.2.2.1,z2h.2.2.2.2.2.1,z2h.2.2.2.2.2.2.1,z2h.2.2.2.2.2.2.2)))
def vw8:=shut v25
theorem v9o:vw8=v25:=vac _
instance n107n_p (a0:TL)(a1:Int)(a2:Int)(a3:Int)(a4:Int)(a5:RL)(a6:WL)(a7:Bool)(a8:ByteArray):ParC (vw8 a0 a1 a2 a3 a4 a5 a6 a7 a8):=by rw [v9o];unfold v25;(try dsimp only);infer_instance
def wck (a0:TL)(a1:Int)(a2:Int)(a3:Int)(a4:Int)(a5:RL)(a6:WL)(a7:Bool)(a8:ByteArray)(k:q40T→OR):OR:=
 vw8 a0 a1 a2 a3 a4 a5 a6 a7 a8 (fun y1=>
 let y1h:=y1.2.2.2.2
 k ((decide (y1.1≥0)),y1.2.1,y1.2.2.1,y1.2.2.2.1,y1h.1,y1h.2.1,y1h.2.2.1,y1h.2.2.2.1,y1h.2.2.2.2))
def wfe:=shut wck
theorem wmg:wfe=wck:=vac _
instance n92n_p (a0:TL)(a1:Int)(a2:Int)(a3:Int)(a4:Int)(a5:RL)(a6:WL)(a7:Bool)(a8:ByteArray):ParC (wfe a0 a1 a2 a3 a4 a5 a6 a7 a8):=by rw [wmg];unfold wck;(try dsimp only);infer_instance
def wcb (a0:TL)(a1:Int)(a2:Int)(a3:Int)(a4:Int)(a5:RL)(a6:WL)(a7:Bool)(a8:ByteArray)(k:q40T→OR):OR:=
 wfe a0 a1 a2 a3 a4 a5 a6 a7 a8 (fun y1=>
 let y1h:=y1.2.2.2.2
 k (y1.1,y1.2.1,y1.2.2.1,y1.2.2.2.1,y1h.1,y1h.2.1,y1h.2.2.1,y1h.2.2.2.1,y1h.2.2.2.2))
def v6k:=shut wcb
theorem wp0:v6k=wcb:=vac _
instance n76n_p (a0:TL)(a1:Int)(a2:Int)(a3:Int)(a4:Int)(a5:RL)(a6:WL)(a7:Bool)(a8:ByteArray):ParC (v6k a0 a1 a2 a3 a4 a5 a6 a7 a8):=by rw [wp0];unfold wcb;(try dsimp only);infer_instance
def wfg (a0:dTxn)(a1:Int)(a2:Int)(a3:Int)(a4:Int)(a5:RL)(a6:WL)(a7:Bool)(a8:ByteArray)(k:q40T→OR):OR:=
 vla a0 (fun y1=>
 bif y1 then
 vio a0 (a1,(a2,(a3,(a4,(a5,(a6,(a7,a8))))))) (fun y2=>
 k (y2,a1,a2,a3,a4,a5,a6,a7,a8))
 else
 k (false,a1,a2,a3,a4,a5,a6,a7,a8))
def v0b:=shut wfg
theorem wpr:v0b=wfg:=vac _
instance n16n_p (a0:dTxn)(a1:Int)(a2:Int)(a3:Int)(a4:Int)(a5:RL)(a6:WL)(a7:Bool)(a8:ByteArray):ParC (v0b a0 a1 a2 a3 a4 a5 a6 a7 a8):=by rw [wpr];unfold wfg;(try dsimp only);infer_instance
def vjf (x:q10T)(k:q10T⊕(q10T⊕q10T)→OR):OR:=
 let xh:=x.2.2.2.2
 let xi:=xh.2.2.2.2
 bif (decide (x.2.2.2.1<x.2.2.1))then
 if 0≤x.2.2.2.1∧x.2.2.2.1<(x.1.length:Int)then
 v0b (rd (Ty.zero tTxn) x.1 x.2.2.2.1) xh.1 xh.2.1 xh.2.2.1 xh.2.2.2.1 xi.1 xi.2.1 xi.2.2.1 xi.2.2.2 (fun y3=>
 let y3h:=y3.2.2.2.2
 bif y3.1 then
 k (.inr (.inl (x.1,x.2.2.2.1,x.2.2.1,x.2.2.2.1,y3.2.1,y3.2.2.1,y3.2.2.2.1,y3h.1,y3h.2.1,y3h.2.2.1,y3h.2.2.2.1,y3h.2.2.2.2)))
 else
 k (.inl (x.1,x.2.1,x.2.2.1,(IntKind.wrap .i64 (x.2.2.2.1+1)),y3.2.1,y3.2.2.1,y3.2.2.2.1,y3h.1,y3h.2.1,y3h.2.2.1,y3h.2.2.2.1,y3h.2.2.2.2)))
 else none
 else
 k (.inr (.inr (x.1,x.2.1,x.2.2.1,x.2.2.2.1,xh.1,xh.2.1,xh.2.2.1,xh.2.2.2.1,xi.1,xi.2.1,xi.2.2.1,xi.2.2.2)))
instance n109n_bp0 (x:q10T):ParC (vjf x):=by unfold vjf;(try dsimp only);infer_instance
def v5q (a0:TL)(a1:Int)(a2:Int)(a3:Int)(a4:Int)(a5:RL)(a6:WL)(a7:Bool)(a8:ByteArray)(k:q71T→OR):OR:=
 vad vjf Fuel (a0,0,(a0.length:Int),0,a1,a2,a3,a4,a5,a6,a7,a8) (Sum.elim (fun z1=>
 let z1h:=z1.2.2.2.2
 k (z1.2.1,z1h.1,z1h.2.1,z1h.2.2.1,z1h.2.2.2.1,z1h.2.2.2.2.1,z1h.2.2.2.2.2.1,z1h.2.2.2.2.2.2.1,z1h.2.2.2.2.2.2.2)) (fun z2=>
 let z2h:=z2.2.2.2.2
 k ((-1:Int),z2h.1,z2h.2.1,z2h.2.2.1,z2h.2.2.2.1,z2h.2.2.2.2.1,z2h.2.2.2.2.2.1,z2h.2.2.2.2.2.2.1,z2h.2.2.2.2.2.2.2)))
def vyo:=shut v5q
theorem wa0:vyo=v5q:=vac _
instance n109n_p (a0:TL)(a1:Int)(a2:Int)(a3:Int)(a4:Int)(a5:RL)(a6:WL)(a7:Bool)(a8:ByteArray):ParC (vyo a0 a1 a2 a3 a4 a5 a6 a7 a8):=by rw [wa0];unfold v5q;(try dsimp only);infer_instance
def wdw (a0:TL)(a1:Int)(a2:Int)(a3:Int)(a4:Int)(a5:RL)(a6:WL)(a7:Bool)(a8:ByteArray)(k:q40T→OR):OR:=
 vyo a0 a1 a2 a3 a4 a5 a6 a7 a8 (fun y1=>
 let y1h:=y1.2.2.2.2
 k ((decide (y1.1≥0)),y1.2.1,y1.2.2.1,y1.2.2.2.1,y1h.1,y1h.2.1,y1h.2.2.1,y1h.2.2.2.1,y1h.2.2.2.2))
def wfm:=shut wdw
theorem woi:wfm=wdw:=vac _
instance n94n_p (a0:TL)(a1:Int)(a2:Int)(a3:Int)(a4:Int)(a5:RL)(a6:WL)(a7:Bool)(a8:ByteArray):ParC (wfm a0 a1 a2 a3 a4 a5 a6 a7 a8):=by rw [woi];unfold wdw;(try dsimp only);infer_instance
def wfa (a0:TL)(a1:Int)(a2:Int)(a3:Int)(a4:Int)(a5:RL)(a6:WL)(a7:Bool)(a8:ByteArray)(k:q40T→OR):OR:=
 wfm a0 a1 a2 a3 a4 a5 a6 a7 a8 (fun y1=>
 let y1h:=y1.2.2.2.2
 k (y1.1,y1.2.1,y1.2.2.1,y1.2.2.2.1,y1h.1,y1h.2.1,y1h.2.2.1,y1h.2.2.2.1,y1h.2.2.2.2))
def v7o:=shut wfa
theorem wob:v7o=wfa:=vac _
instance n78n_p (a0:TL)(a1:Int)(a2:Int)(a3:Int)(a4:Int)(a5:RL)(a6:WL)(a7:Bool)(a8:ByteArray):ParC (v7o a0 a1 a2 a3 a4 a5 a6 a7 a8):=by rw [wob];unfold wfa;(try dsimp only);infer_instance
def vgb (x:q33T)(k:q33T→OR):OR:=
 let xh:=x.2.2.2.2
 let xi:=xh.2.2.2.2
 let xj:=xi.2.2.2.2
 vio (x.2.1,(x.2.2.1,(x.2.2.2.1,(xh.1,(xh.2.1,(xh.2.2.1,(xh.2.2.2.1,xi.1))))))) xi.2.2 (fun y4=>
 bif y4 then
 k (true,x.2.1,x.2.2.1,x.2.2.2.1,xh.1,xh.2.1,xh.2.2.1,xh.2.2.2.1,xi.1,xi.2.1,xi.2.2.1,xi.2.2.2.1,xj.1,xj.2.1,xj.2.2.1,xj.2.2.2.1,xj.2.2.2.2.1,xj.2.2.2.2.2)
 else
 v7o xi.2.1 xi.2.2.1 xi.2.2.2.1 xj.1 xj.2.1 xj.2.2.1 xj.2.2.2.1 xj.2.2.2.2.1 xj.2.2.2.2.2 (fun y5=>
 let y5h:=y5.2.2.2.2
 k (y5.1,x.2.1,x.2.2.1,x.2.2.2.1,xh.1,xh.2.1,xh.2.2.1,xh.2.2.2.1,xi.1,xi.2.1,y5.2.1,y5.2.2.1,y5.2.2.2.1,y5h.1,y5h.2.1,y5h.2.2.1,y5h.2.2.2.1,y5h.2.2.2.2)))
instance n15n_jp5000003 (x:q33T):ParC (vgb x):=by unfold vgb;(try dsimp only);infer_instance
def wdv (a0:dTxn)(a1:Int)(a2:Int)(a3:Int)(a4:Int)(a5:RL)(a6:WL)(a7:Bool)(a8:ByteArray)(a9:TL)(k:q34T→OR):OR:=
 vla a0 (fun y1=>
 bif (!y1)then
 k (false,a1,a2,a3,a4,a5,a6,a7,a8,a9)
 else
 vio a0 (a1,(a2,(a3,(a4,(a5,(a6,(a7,a8))))))) (fun y2=>
 bif (!y2)then
 k (false,a1,a2,a3,a4,a5,a6,a7,a8,a9)
 else
 vgb (false,a1,a2,a3,a4,a5,a6,a7,a8,a9,a0.1,a0.2.1,a0.2.2.1,a0.2.2.2.1,a0.2.2.2.2.1,a0.2.2.2.2.2.1,a0.2.2.2.2.2.2.1,a0.2.2.2.2.2.2.2) (fun z3=>
 let z3h:=z3.2.2.2.2
 k (z3.1,z3.2.1,z3.2.2.1,z3.2.2.2.1,z3h.1,z3h.2.1,z3h.2.2.1,z3h.2.2.2.1,z3h.2.2.2.2.1,z3h.2.2.2.2.2.1))))
def v1j:=shut wdv
theorem wnj:v1j=wdv:=vac _
instance n15n_p (a0:dTxn)(a1:Int)(a2:Int)(a3:Int)(a4:Int)(a5:RL)(a6:WL)(a7:Bool)(a8:ByteArray)(a9:TL):ParC (v1j a0 a1 a2 a3 a4 a5 a6 a7 a8 a9):=by rw [wnj];unfold wdv;(try dsimp only);infer_instance
def vjz (x:q8T)(k:q8T⊕(q8T⊕q8T)→OR):OR:=
 let xh:=x.2.2.2.2
 let xi:=xh.2.2.2.2
 bif (decide (x.2.2.2.1<x.2.2.1))then
 if 0≤x.2.2.2.1∧x.2.2.2.1<(x.1.length:Int)then
 v1j (rd (Ty.zero tTxn) x.1 x.2.2.2.1) xh.1 xh.2.1 xh.2.2.1 xh.2.2.2.1 xi.1 xi.2.1 xi.2.2.1 xi.2.2.2.1 xi.2.2.2.2 (fun y3=>
 let y3h:=y3.2.2.2.2
 bif y3.1 then
 k (.inr (.inl (x.1,x.2.2.2.1,x.2.2.1,x.2.2.2.1,y3.2.1,y3.2.2.1,y3.2.2.2.1,y3h.1,y3h.2.1,y3h.2.2.1,y3h.2.2.2.1,y3h.2.2.2.2.1,y3h.2.2.2.2.2)))
 else
 k (.inl (x.1,x.2.1,x.2.2.1,(IntKind.wrap .i64 (x.2.2.2.1+1)),y3.2.1,y3.2.2.1,y3.2.2.2.1,y3h.1,y3h.2.1,y3h.2.2.1,y3h.2.2.2.1,y3h.2.2.2.2.1,y3h.2.2.2.2.2)))
 else none
 else
 k (.inr (.inr (x.1,x.2.1,x.2.2.1,x.2.2.2.1,xh.1,xh.2.1,xh.2.2.1,xh.2.2.2.1,xi.1,xi.2.1,xi.2.2.1,xi.2.2.2.1,xi.2.2.2.2)))
instance n108n_bp0 (x:q8T):ParC (vjz x):=by unfold vjz;(try dsimp only);infer_instance
def v4n (a0:TL)(a1:Int)(a2:Int)(a3:Int)(a4:Int)(a5:RL)(a6:WL)(a7:Bool)(a8:ByteArray)(a9:TL)(k:q69T→OR):OR:=
 vad vjz Fuel (a0,0,(a0.length:Int),0,a1,a2,a3,a4,a5,a6,a7,a8,a9) (Sum.elim (fun z1=>
 let z1h:=z1.2.2.2.2
 let z1i:=z1h.2.2.2.2
 k (z1.2.1,z1h.1,z1h.2.1,z1h.2.2.1,z1h.2.2.2.1,z1i.1,z1i.2.1,z1i.2.2.1,z1i.2.2.2.1,z1i.2.2.2.2)) (fun z2=>
 let z2h:=z2.2.2.2.2
 let z2i:=z2h.2.2.2.2
 k ((-1:Int),z2h.1,z2h.2.1,z2h.2.2.1,z2h.2.2.2.1,z2i.1,z2i.2.1,z2i.2.2.1,z2i.2.2.2.1,z2i.2.2.2.2)))
def vx4:=shut v4n
theorem wbi:vx4=v4n:=vac _
instance n108n_p (a0:TL)(a1:Int)(a2:Int)(a3:Int)(a4:Int)(a5:RL)(a6:WL)(a7:Bool)(a8:ByteArray)(a9:TL):ParC (vx4 a0 a1 a2 a3 a4 a5 a6 a7 a8 a9):=by rw [wbi];unfold v4n;(try dsimp only);infer_instance
def wef (a0:TL)(a1:Int)(a2:Int)(a3:Int)(a4:Int)(a5:RL)(a6:WL)(a7:Bool)(a8:ByteArray)(a9:TL)(k:q34T→OR):OR:=
 vx4 a0 a1 a2 a3 a4 a5 a6 a7 a8 a9 (fun y1=>
 let y1h:=y1.2.2.2.2
 k ((decide (y1.1≥0)),y1.2.1,y1.2.2.1,y1.2.2.2.1,y1h.1,y1h.2.1,y1h.2.2.1,y1h.2.2.2.1,y1h.2.2.2.2.1,y1h.2.2.2.2.2))
def wd6:=shut wef
theorem wkv:wd6=wef:=vac _
instance n93n_p (a0:TL)(a1:Int)(a2:Int)(a3:Int)(a4:Int)(a5:RL)(a6:WL)(a7:Bool)(a8:ByteArray)(a9:TL):ParC (wd6 a0 a1 a2 a3 a4 a5 a6 a7 a8 a9):=by rw [wkv];unfold wef;(try dsimp only);infer_instance
def weq (a0:TL)(a1:Int)(a2:Int)(a3:Int)(a4:Int)(a5:RL)(a6:WL)(a7:Bool)(a8:ByteArray)(a9:TL)(k:q34T→OR):OR:=
 wd6 a0 a1 a2 a3 a4 a5 a6 a7 a8 a9 (fun y1=>
 let y1h:=y1.2.2.2.2
 k (y1.1,y1.2.1,y1.2.2.1,y1.2.2.2.1,y1h.1,y1h.2.1,y1h.2.2.1,y1h.2.2.2.1,y1h.2.2.2.2.1,y1h.2.2.2.2.2))
def v7k:=shut weq
theorem wnd:v7k=weq:=vac _
instance n77n_p (a0:TL)(a1:Int)(a2:Int)(a3:Int)(a4:Int)(a5:RL)(a6:WL)(a7:Bool)(a8:ByteArray)(a9:TL):ParC (v7k a0 a1 a2 a3 a4 a5 a6 a7 a8 a9):=by rw [wnd];unfold weq;(try dsimp only);infer_instance
def veu (x:q34T)(k:q34T→OR):OR:=
 let xh:=x.2.2.2.2
 let xi:=xh.2.2.2.2
 v6k xi.2 x.2.1 x.2.2.1 x.2.2.2.1 xh.1 xh.2.1 xh.2.2.1 xh.2.2.2.1 xi.1 (fun y5=>
 let y5h:=y5.2.2.2.2
 bif y5.1 then
 k (true,y5.2.1,y5.2.2.1,y5.2.2.2.1,y5h.1,y5h.2.1,y5h.2.2.1,y5h.2.2.2.1,y5h.2.2.2.2,xi.2)
 else
 v7k xi.2 y5.2.1 y5.2.2.1 y5.2.2.2.1 y5h.1 y5h.2.1 y5h.2.2.1 y5h.2.2.2.1 y5h.2.2.2.2 xi.2 (fun y6=>
 let y6h:=y6.2.2.2.2
 k (y6.1,y6.2.1,y6.2.2.1,y6.2.2.2.1,y6h.1,y6h.2.1,y6h.2.2.1,y6h.2.2.2.1,y6h.2.2.2.2.1,y6h.2.2.2.2.2)))
instance n13n_jp5000003 (x:q34T):ParC (veu x):=by unfold veu;(try dsimp only);infer_instance
def wee (a0:dTxn)(a1:TL)(k:Bool→OR):OR:=
 v0w a0 a1 (fun y1=>
 bif y1 then
 vte a0 a1 (fun y2=>
 bif y2 then
 k true
 else
 veu (false,a0.1,a0.2.1,a0.2.2.1,a0.2.2.2.1,a0.2.2.2.2.1,a0.2.2.2.2.2.1,a0.2.2.2.2.2.2.1,a0.2.2.2.2.2.2.2,a1) (fun z3=>
 k z3.1))
 else
 veu (false,a0.1,a0.2.1,a0.2.2.1,a0.2.2.2.1,a0.2.2.2.2.1,a0.2.2.2.2.2.1,a0.2.2.2.2.2.2.1,a0.2.2.2.2.2.2.2,a1) (fun z4=>
 k z4.1))
def vq7:=shut wee
theorem wjn:vq7=wee:=vac _
instance n13n_p (a0:dTxn)(a1:TL):ParC (vq7 a0 a1):=by rw [wjn];unfold wee;(try dsimp only);infer_instance
def wcd (a0:vh8)(k:Bool→OR):OR:=
 bif (decide ((a0.2.1.length:Int)≥(12:Int)))then
 k true
 else
 bif (decide ((a0.1.length:Int)>(100:Int)))then
 k true
 else
 k (decide (a0.2.2.2.1≥9999))
def vtl:=shut wcd
theorem wna:vtl=wcd:=vac _
instance n65n_p (a0:vh8):ParC (vtl a0):=by rw [wna];unfold wcd;(try dsimp only);infer_instance
def wd4 (a0:vbs)(a1:Int)(k:Int→OR):OR:=
 vo9 a0 a1 (fun y1=>
 bif (decide (y1<0))then
 k (1:Int)
 else
 if 0≤y1∧y1<(a0.2.length:Int)then
 vt1 a0 (Sum.elim (fun y2=>
 v0s (rd (Ty.zero tTxn) a0.2 y1) y2 (fun y3=>
 bif y3 then
 k (4:Int)
 else
 if 0≤y1∧y1<(a0.2.length:Int)then
 vt1 a0 (Sum.elim (fun y4=>
 vq7 (rd (Ty.zero tTxn) a0.2 y1) y4 (fun y5=>
 bif y5 then
 k (5:Int)
 else
 vtl a0.1 (fun y6=>
 bif y6 then
 k (3:Int)
 else
 k (0:Int)))) (fun y7=>
 vq7 (rd (Ty.zero tTxn) a0.2 y1) y7 (fun y8=>
 bif y8 then
 k (5:Int)
 else
 vtl a0.1 (fun y9=>
 bif y9 then
 k (3:Int)
 else
 k (0:Int)))))
 else none)) (fun y10=>
 v0s (rd (Ty.zero tTxn) a0.2 y1) y10 (fun y11=>
 bif y11 then
 k (4:Int)
 else
 if 0≤y1∧y1<(a0.2.length:Int)then
 vt1 a0 (Sum.elim (fun y12=>
 vq7 (rd (Ty.zero tTxn) a0.2 y1) y12 (fun y13=>
 bif y13 then
 k (5:Int)
 else
 vtl a0.1 (fun y14=>
 bif y14 then
 k (3:Int)
 else
 k (0:Int)))) (fun y15=>
 vq7 (rd (Ty.zero tTxn) a0.2 y1) y15 (fun y16=>
 bif y16 then
 k (5:Int)
 else
 vtl a0.1 (fun y17=>
 bif y17 then
 k (3:Int)
 else
 k (0:Int)))))
 else none)))
 else none)
def v1x:=shut wd4
theorem wm4:v1x=wd4:=vac _
instance n23n_p (a0:vbs)(a1:Int):ParC (v1x a0 a1):=by rw [wm4];unfold wd4;(try dsimp only);exact⟨((n29n_p ..).p.bind fun _=>(var (vag _) (vc9 ((n73n_p _).p.bind2 (fun _=>((n10n_p ..).p.bind fun _=>(var (vag _) (vc9 ((n73n_p _).p.bind2 (fun _=>((n13n_p ..).p.bind fun _=>(var (vag _) ((n65n_p _).p.bind fun _=>(var (vag _) (vag _)))))) (fun _=>((n13n_p ..).p.bind fun _=>(var (vag _) ((n65n_p _).p.bind fun _=>(var (vag _) (vag _))))))) va5)))) (fun _=>((n10n_p ..).p.bind fun _=>(var (vag _) (vc9 ((n73n_p _).p.bind2 (fun _=>((n13n_p ..).p.bind fun _=>(var (vag _) ((n65n_p _).p.bind fun _=>(var (vag _) (vag _)))))) (fun _=>((n13n_p ..).p.bind fun _=>(var (vag _) ((n65n_p _).p.bind fun _=>(var (vag _) (vag _))))))) va5))))) va5)))⟩
def weu (a0:dTxn)(a1:Int)(a2:Int)(a3:Int)(a4:Int)(a5:RL)(a6:WL)(a7:Bool)(a8:ByteArray)(k:q40T→OR):OR:=
 vla a0 (fun y1=>
 bif y1 then
 vio (a1,(a2,(a3,(a4,(a5,(a6,(a7,a8))))))) a0 (fun y2=>
 k (y2,a1,a2,a3,a4,a5,a6,a7,a8))
 else
 k (false,a1,a2,a3,a4,a5,a6,a7,a8))
def vxn:=shut weu
theorem wix:vxn=weu:=vac _
instance n44n_p (a0:dTxn)(a1:Int)(a2:Int)(a3:Int)(a4:Int)(a5:RL)(a6:WL)(a7:Bool)(a8:ByteArray):ParC (vxn a0 a1 a2 a3 a4 a5 a6 a7 a8):=by rw [wix];unfold weu;(try dsimp only);infer_instance
def vjw (x:q10T)(k:q10T⊕(q10T⊕q10T)→OR):OR:=
 let xh:=x.2.2.2.2
 let xi:=xh.2.2.2.2
 bif (decide (x.2.2.2.1<x.2.2.1))then
 if 0≤x.2.2.2.1∧x.2.2.2.1<(x.1.length:Int)then
 vxn (rd (Ty.zero tTxn) x.1 x.2.2.2.1) xh.1 xh.2.1 xh.2.2.1 xh.2.2.2.1 xi.1 xi.2.1 xi.2.2.1 xi.2.2.2 (fun y3=>
 let y3h:=y3.2.2.2.2
 bif y3.1 then
 k (.inr (.inl (x.1,x.2.2.2.1,x.2.2.1,x.2.2.2.1,y3.2.1,y3.2.2.1,y3.2.2.2.1,y3h.1,y3h.2.1,y3h.2.2.1,y3h.2.2.2.1,y3h.2.2.2.2)))
 else
 k (.inl (x.1,x.2.1,x.2.2.1,(IntKind.wrap .i64 (x.2.2.2.1+1)),y3.2.1,y3.2.2.1,y3.2.2.2.1,y3h.1,y3h.2.1,y3h.2.2.1,y3h.2.2.2.1,y3h.2.2.2.2)))
 else none
 else
 k (.inr (.inr (x.1,x.2.1,x.2.2.1,x.2.2.2.1,xh.1,xh.2.1,xh.2.2.1,xh.2.2.2.1,xi.1,xi.2.1,xi.2.2.1,xi.2.2.2)))
instance n114n_bp0 (x:q10T):ParC (vjw x):=by unfold vjw;(try dsimp only);infer_instance
def v5j (a0:TL)(a1:Int)(a2:Int)(a3:Int)(a4:Int)(a5:RL)(a6:WL)(a7:Bool)(a8:ByteArray)(k:q71T→OR):OR:=
 vad vjw Fuel (a0,0,(a0.length:Int),0,a1,a2,a3,a4,a5,a6,a7,a8) (Sum.elim (fun z1=>
 let z1h:=z1.2.2.2.2
 k (z1.2.1,z1h.1,z1h.2.1,z1h.2.2.1,z1h.2.2.2.1,z1h.2.2.2.2.1,z1h.2.2.2.2.2.1,z1h.2.2.2.2.2.2.1,z1h.2.2.2.2.2.2.2)) (fun z2=>
 let z2h:=z2.2.2.2.2
 k ((-1:Int),z2h.1,z2h.2.1,z2h.2.2.1,z2h.2.2.2.1,z2h.2.2.2.2.1,z2h.2.2.2.2.2.1,z2h.2.2.2.2.2.2.1,z2h.2.2.2.2.2.2.2)))
def vvi:=shut v5j
theorem wag:vvi=v5j:=vac _
instance n114n_p (a0:TL)(a1:Int)(a2:Int)(a3:Int)(a4:Int)(a5:RL)(a6:WL)(a7:Bool)(a8:ByteArray):ParC (vvi a0 a1 a2 a3 a4 a5 a6 a7 a8):=by rw [wag];unfold v5j;(try dsimp only);infer_instance
def wfj (a0:TL)(a1:Int)(a2:Int)(a3:Int)(a4:Int)(a5:RL)(a6:WL)(a7:Bool)(a8:ByteArray)(k:q40T→OR):OR:=
 vvi a0 a1 a2 a3 a4 a5 a6 a7 a8 (fun y1=>
 let y1h:=y1.2.2.2.2
 k ((decide (y1.1≥0)),y1.2.1,y1.2.2.1,y1.2.2.2.1,y1h.1,y1h.2.1,y1h.2.2.1,y1h.2.2.2.1,y1h.2.2.2.2))
def wdy:=shut wfj
theorem wpg:wdy=wfj:=vac _
instance n97n_p (a0:TL)(a1:Int)(a2:Int)(a3:Int)(a4:Int)(a5:RL)(a6:WL)(a7:Bool)(a8:ByteArray):ParC (wdy a0 a1 a2 a3 a4 a5 a6 a7 a8):=by rw [wpg];unfold wfj;(try dsimp only);infer_instance
def we8 (a0:TL)(a1:Int)(a2:Int)(a3:Int)(a4:Int)(a5:RL)(a6:WL)(a7:Bool)(a8:ByteArray)(k:q40T→OR):OR:=
 wdy a0 a1 a2 a3 a4 a5 a6 a7 a8 (fun y1=>
 let y1h:=y1.2.2.2.2
 k (y1.1,y1.2.1,y1.2.2.1,y1.2.2.2.1,y1h.1,y1h.2.1,y1h.2.2.1,y1h.2.2.2.1,y1h.2.2.2.2))
def v60:=shut we8
theorem wjr:v60=we8:=vac _
instance n81n_p (a0:TL)(a1:Int)(a2:Int)(a3:Int)(a4:Int)(a5:RL)(a6:WL)(a7:Bool)(a8:ByteArray):ParC (v60 a0 a1 a2 a3 a4 a5 a6 a7 a8):=by rw [wjr];unfold we8;(try dsimp only);infer_instance
def wdj (a0:dTxn)(a1:Int)(a2:Int)(a3:Int)(a4:Int)(a5:RL)(a6:WL)(a7:Bool)(a8:ByteArray)(a9:Int)(a10:Int)(a11:Int)(a12:Int)(a13:RL)(a14:WL)(a15:Bool)(a16:ByteArray)(k:q39T→OR):OR:=
 vla a0 (fun y1=>
 bif y1 then
 bif (a0.1 != a1)then
 vio (a9,(a10,(a11,(a12,(a13,(a14,(a15,a16))))))) a0 (fun y2=>
 k (y2,a1,a2,a3,a4,a5,a6,a7,a8,a9,a10,a11,a12,a13,a14,a15,a16))
 else
 k (false,a1,a2,a3,a4,a5,a6,a7,a8,a9,a10,a11,a12,a13,a14,a15,a16)
 else
 k (false,a1,a2,a3,a4,a5,a6,a7,a8,a9,a10,a11,a12,a13,a14,a15,a16))
def v0j:=shut wdj
theorem wkf:v0j=wdj:=vac _
instance n46n_p (a0:dTxn)(a1:Int)(a2:Int)(a3:Int)(a4:Int)(a5:RL)(a6:WL)(a7:Bool)(a8:ByteArray)(a9:Int)(a10:Int)(a11:Int)(a12:Int)(a13:RL)(a14:WL)(a15:Bool)(a16:ByteArray):ParC (v0j a0 a1 a2 a3 a4 a5 a6 a7 a8 a9 a10 a11 a12 a13 a14 a15 a16):=by rw [wkf];unfold wdj;(try dsimp only);infer_instance
def vje (x:q9T)(k:q9T⊕(q9T⊕q9T)→OR):OR:=
 let xh:=x.2.2.2.2
 let xi:=xh.2.2.2.2
 let xj:=xi.2.2.2.2
 let xk:=xj.2.2.2.2
 bif (decide (x.2.2.2.1<x.2.2.1))then
 if 0≤x.2.2.2.1∧x.2.2.2.1<(x.1.length:Int)then
 v0j (rd (Ty.zero tTxn) x.1 x.2.2.2.1) xh.1 xh.2.1 xh.2.2.1 xh.2.2.2.1 xi.1 xi.2.1 xi.2.2.1 xi.2.2.2.1 xj.1 xj.2.1 xj.2.2.1 xj.2.2.2.1 xk.1 xk.2.1 xk.2.2.1 xk.2.2.2 (fun y3=>
 let y3h:=y3.2.2.2.2
 let y3i:=y3h.2.2.2.2
 let y3j:=y3i.2.2.2.2
 bif y3.1 then
 k (.inr (.inl (x.1,x.2.2.2.1,x.2.2.1,x.2.2.2.1,y3.2.1,y3.2.2.1,y3.2.2.2.1,y3h.1,y3h.2.1,y3h.2.2.1,y3h.2.2.2.1,y3i.1,y3i.2.1,y3i.2.2.1,y3i.2.2.2.1,y3j.1,y3j.2.1,y3j.2.2.1,y3j.2.2.2.1,y3j.2.2.2.2)))
 else
 k (.inl (x.1,x.2.1,x.2.2.1,(IntKind.wrap .i64 (x.2.2.2.1+1)),y3.2.1,y3.2.2.1,y3.2.2.2.1,y3h.1,y3h.2.1,y3h.2.2.1,y3h.2.2.2.1,y3i.1,y3i.2.1,y3i.2.2.1,y3i.2.2.2.1,y3j.1,y3j.2.1,y3j.2.2.1,y3j.2.2.2.1,y3j.2.2.2.2)))
 else none
 else
 k (.inr (.inr (x.1,x.2.1,x.2.2.1,x.2.2.2.1,xh.1,xh.2.1,xh.2.2.1,xh.2.2.2.1,xi.1,xi.2.1,xi.2.2.1,xi.2.2.2.1,xj.1,xj.2.1,xj.2.2.1,xj.2.2.2.1,xk.1,xk.2.1,xk.2.2.1,xk.2.2.2)))
instance n116n_bp0 (x:q9T):ParC (vje x):=by unfold vje;(try dsimp only);infer_instance
def v5i (a0:TL)(a1:Int)(a2:Int)(a3:Int)(a4:Int)(a5:RL)(a6:WL)(a7:Bool)(a8:ByteArray)(a9:Int)(a10:Int)(a11:Int)(a12:Int)(a13:RL)(a14:WL)(a15:Bool)(a16:ByteArray)(k:q70T→OR):OR:=
 vad vje Fuel (a0,0,(a0.length:Int),0,a1,a2,a3,a4,a5,a6,a7,a8,a9,a10,a11,a12,a13,a14,a15,a16) (Sum.elim (fun z1=>
 let z1h:=z1.2.2.2.2
 let z1i:=z1h.2.2.2.2
 let z1j:=z1i.2.2.2.2
 k (z1.2.1,z1h.1,z1h.2.1,z1h.2.2.1,z1h.2.2.2.1,z1i.1,z1i.2.1,z1i.2.2.1,z1i.2.2.2.1,z1j.1,z1j.2.1,z1j.2.2.1,z1j.2.2.2.1,z1j.2.2.2.2.1,z1j.2.2.2.2.2.1,z1j.2.2.2.2.2.2.1,z1j.2.2.2.2.2.2.2)) (fun z2=>
 let z2h:=z2.2.2.2.2
 let z2i:=z2h.2.2.2.2
 let z2j:=z2i.2.2.2.2
 k ((-1:Int),z2h.1,z2h.2.1,z2h.2.2.1,z2h.2.2.2.1,z2i.1,z2i.2.1,z2i.2.2.1,z2i.2.2.2.1,z2j.1,z2j.2.1,z2j.2.2.1,z2j.2.2.2.1,z2j.2.2.2.2.1,z2j.2.2.2.2.2.1,z2j.2.2.2.2.2.2.1,z2j.2.2.2.2.2.2.2)))
def vys:=shut v5i
theorem v8x:vys=v5i:=vac _
instance n116n_p (a0:TL)(a1:Int)(a2:Int)(a3:Int)(a4:Int)(a5:RL)(a6:WL)(a7:Bool)(a8:ByteArray)(a9:Int)(a10:Int)(a11:Int)(a12:Int)(a13:RL)(a14:WL)(a15:Bool)(a16:ByteArray):ParC (vys a0 a1 a2 a3 a4 a5 a6 a7 a8 a9 a10 a11 a12 a13 a14 a15 a16):=by rw [v8x];unfold v5i;(try dsimp only);infer_instance
def wcp (a0:TL)(a1:Int)(a2:Int)(a3:Int)(a4:Int)(a5:RL)(a6:WL)(a7:Bool)(a8:ByteArray)(a9:Int)(a10:Int)(a11:Int)(a12:Int)(a13:RL)(a14:WL)(a15:Bool)(a16:ByteArray)(k:q39T→OR):OR:=
 vys a0 a1 a2 a3 a4 a5 a6 a7 a8 a9 a10 a11 a12 a13 a14 a15 a16 (fun y1=>
 let y1h:=y1.2.2.2.2
 let y1i:=y1h.2.2.2.2
 let y1j:=y1i.2.2.2.2
 k ((decide (y1.1≥0)),y1.2.1,y1.2.2.1,y1.2.2.2.1,y1h.1,y1h.2.1,y1h.2.2.1,y1h.2.2.2.1,y1i.1,y1i.2.1,y1i.2.2.1,y1i.2.2.2.1,y1j.1,y1j.2.1,y1j.2.2.1,y1j.2.2.2.1,y1j.2.2.2.2))
def wb3:=shut wcp
theorem wop:wb3=wcp:=vac _
instance n99n_p (a0:TL)(a1:Int)(a2:Int)(a3:Int)(a4:Int)(a5:RL)(a6:WL)(a7:Bool)(a8:ByteArray)(a9:Int)(a10:Int)(a11:Int)(a12:Int)(a13:RL)(a14:WL)(a15:Bool)(a16:ByteArray):ParC (wb3 a0 a1 a2 a3 a4 a5 a6 a7 a8 a9 a10 a11 a12 a13 a14 a15 a16):=by rw [wop];unfold wcp;(try dsimp only);infer_instance
def wc8 (a0:TL)(a1:Int)(a2:Int)(a3:Int)(a4:Int)(a5:RL)(a6:WL)(a7:Bool)(a8:ByteArray)(a9:Int)(a10:Int)(a11:Int)(a12:Int)(a13:RL)(a14:WL)(a15:Bool)(a16:ByteArray)(k:q39T→OR):OR:=
 wb3 a0 a1 a2 a3 a4 a5 a6 a7 a8 a9 a10 a11 a12 a13 a14 a15 a16 (fun y1=>
 let y1h:=y1.2.2.2.2
 let y1i:=y1h.2.2.2.2
 let y1j:=y1i.2.2.2.2
 k (y1.1,y1.2.1,y1.2.2.1,y1.2.2.2.1,y1h.1,y1h.2.1,y1h.2.2.1,y1h.2.2.2.1,y1i.1,y1i.2.1,y1i.2.2.1,y1i.2.2.2.1,y1j.1,y1j.2.1,y1j.2.2.1,y1j.2.2.2.1,y1j.2.2.2.2))
def v7l:=shut wc8
theorem wkt:v7l=wc8:=vac _
instance n83n_p (a0:TL)(a1:Int)(a2:Int)(a3:Int)(a4:Int)(a5:RL)(a6:WL)(a7:Bool)(a8:ByteArray)(a9:Int)(a10:Int)(a11:Int)(a12:Int)(a13:RL)(a14:WL)(a15:Bool)(a16:ByteArray):ParC (v7l a0 a1 a2 a3 a4 a5 a6 a7 a8 a9 a10 a11 a12 a13 a14 a15 a16):=by rw [wkt];unfold wc8;(try dsimp only);infer_instance
def wed (a0:dTxn)(a1:TL)(a2:Int)(a3:Int)(a4:Int)(a5:Int)(a6:RL)(a7:WL)(a8:Bool)(a9:ByteArray)(k:q28T→OR):OR:=
 vxn a0 a2 a3 a4 a5 a6 a7 a8 a9 (fun y1=>
 let y1h:=y1.2.2.2.2
 bif y1.1 then
 v7l a1 y1.2.1 y1.2.2.1 y1.2.2.2.1 y1h.1 y1h.2.1 y1h.2.2.1 y1h.2.2.2.1 y1h.2.2.2.2 a0.1 a0.2.1 a0.2.2.1 a0.2.2.2.1 a0.2.2.2.2.1 a0.2.2.2.2.2.1 a0.2.2.2.2.2.2.1 a0.2.2.2.2.2.2.2 (fun y2=>
 let y2h:=y2.2.2.2.2
 k (y2.1,a1,y2.2.1,y2.2.2.1,y2.2.2.2.1,y2h.1,y2h.2.1,y2h.2.2.1,y2h.2.2.2.1,y2h.2.2.2.2.1))
 else
 k (false,a1,y1.2.1,y1.2.2.1,y1.2.2.2.1,y1h.1,y1h.2.1,y1h.2.2.1,y1h.2.2.2.1,y1h.2.2.2.2))
def v16:=shut wed
theorem wpp:v16=wed:=vac _
instance n45n_p (a0:dTxn)(a1:TL)(a2:Int)(a3:Int)(a4:Int)(a5:Int)(a6:RL)(a7:WL)(a8:Bool)(a9:ByteArray):ParC (v16 a0 a1 a2 a3 a4 a5 a6 a7 a8 a9):=by rw [wpp];unfold wed;(try dsimp only);infer_instance
def vi3 (x:q5T)(k:q5T⊕(q5T⊕q5T)→OR):OR:=
 let xh:=x.2.2.2.2
 let xi:=xh.2.2.2.2
 bif (decide (x.2.2.2.1<x.2.2.1))then
 if 0≤x.2.2.2.1∧x.2.2.2.1<(x.1.length:Int)then
 v16 (rd (Ty.zero tTxn) x.1 x.2.2.2.1) xh.1 xh.2.1 xh.2.2.1 xh.2.2.2.1 xi.1 xi.2.1 xi.2.2.1 xi.2.2.2.1 xi.2.2.2.2 (fun y3=>
 let y3h:=y3.2.2.2.2
 bif y3.1 then
 k (.inr (.inl (x.1,x.2.2.2.1,x.2.2.1,x.2.2.2.1,y3.2.1,y3.2.2.1,y3.2.2.2.1,y3h.1,y3h.2.1,y3h.2.2.1,y3h.2.2.2.1,y3h.2.2.2.2.1,y3h.2.2.2.2.2)))
 else
 k (.inl (x.1,x.2.1,x.2.2.1,(IntKind.wrap .i64 (x.2.2.2.1+1)),y3.2.1,y3.2.2.1,y3.2.2.2.1,y3h.1,y3h.2.1,y3h.2.2.1,y3h.2.2.2.1,y3h.2.2.2.2.1,y3h.2.2.2.2.2)))
 else none
 else
 k (.inr (.inr (x.1,x.2.1,x.2.2.1,x.2.2.2.1,xh.1,xh.2.1,xh.2.2.1,xh.2.2.2.1,xi.1,xi.2.1,xi.2.2.1,xi.2.2.2.1,xi.2.2.2.2)))
instance n115n_bp0 (x:q5T):ParC (vi3 x):=by unfold vi3;(try dsimp only);infer_instance
def v2v (a0:TL)(a1:TL)(a2:Int)(a3:Int)(a4:Int)(a5:Int)(a6:RL)(a7:WL)(a8:Bool)(a9:ByteArray)(k:q48T→OR):OR:=
 vad vi3 Fuel (a0,0,(a0.length:Int),0,a1,a2,a3,a4,a5,a6,a7,a8,a9) (Sum.elim (fun z1=>
 let z1h:=z1.2.2.2.2
 let z1i:=z1h.2.2.2.2
 k (z1.2.1,z1h.1,z1h.2.1,z1h.2.2.1,z1h.2.2.2.1,z1i.1,z1i.2.1,z1i.2.2.1,z1i.2.2.2.1,z1i.2.2.2.2)) (fun z2=>
 let z2h:=z2.2.2.2.2
 let z2i:=z2h.2.2.2.2
 k ((-1:Int),z2h.1,z2h.2.1,z2h.2.2.1,z2h.2.2.2.1,z2i.1,z2i.2.1,z2i.2.2.1,z2i.2.2.2.1,z2i.2.2.2.2)))
def vwg:=shut v2v
theorem wat:vwg=v2v:=vac _
instance n115n_p (a0:TL)(a1:TL)(a2:Int)(a3:Int)(a4:Int)(a5:Int)(a6:RL)(a7:WL)(a8:Bool)(a9:ByteArray):ParC (vwg a0 a1 a2 a3 a4 a5 a6 a7 a8 a9):=by rw [wat];unfold v2v;(try dsimp only);infer_instance
def wc9 (a0:TL)(a1:TL)(a2:Int)(a3:Int)(a4:Int)(a5:Int)(a6:RL)(a7:WL)(a8:Bool)(a9:ByteArray)(k:q28T→OR):OR:=
 vwg a0 a1 a2 a3 a4 a5 a6 a7 a8 a9 (fun y1=>
 let y1h:=y1.2.2.2.2
 k ((decide (y1.1≥0)),y1.2.1,y1.2.2.1,y1.2.2.2.1,y1h.1,y1h.2.1,y1h.2.2.1,y1h.2.2.2.1,y1h.2.2.2.2.1,y1h.2.2.2.2.2))
def wdq:=shut wc9
theorem wns:wdq=wc9:=vac _
instance n98n_p (a0:TL)(a1:TL)(a2:Int)(a3:Int)(a4:Int)(a5:Int)(a6:RL)(a7:WL)(a8:Bool)(a9:ByteArray):ParC (wdq a0 a1 a2 a3 a4 a5 a6 a7 a8 a9):=by rw [wns];unfold wc9;(try dsimp only);infer_instance
def wb8 (a0:TL)(a1:TL)(a2:Int)(a3:Int)(a4:Int)(a5:Int)(a6:RL)(a7:WL)(a8:Bool)(a9:ByteArray)(k:q28T→OR):OR:=
 wdq a0 a1 a2 a3 a4 a5 a6 a7 a8 a9 (fun y1=>
 let y1h:=y1.2.2.2.2
 k (y1.1,y1.2.1,y1.2.2.1,y1.2.2.2.1,y1h.1,y1h.2.1,y1h.2.2.1,y1h.2.2.2.1,y1h.2.2.2.2.1,y1h.2.2.2.2.2))
def v0d:=shut wb8
theorem wpe:v0d=wb8:=vac _
instance n82n_p (a0:TL)(a1:TL)(a2:Int)(a3:Int)(a4:Int)(a5:Int)(a6:RL)(a7:WL)(a8:Bool)(a9:ByteArray):ParC (v0d a0 a1 a2 a3 a4 a5 a6 a7 a8 a9):=by rw [wpe];unfold wb8;(try dsimp only);infer_instance
def wdg (a0:dTxn)(a1:TL)(k:Bool→OR):OR:=
 vq7 a0 a1 (fun y1=>
 bif y1 then
 k true
 else
 v0w a0 a1 (fun y2=>
 bif y2 then
 v60 a1 a0.1 a0.2.1 a0.2.2.1 a0.2.2.2.1 a0.2.2.2.2.1 a0.2.2.2.2.2.1 a0.2.2.2.2.2.2.1 a0.2.2.2.2.2.2.2 (fun y3=>
 let y3h:=y3.2.2.2.2
 bif y3.1 then
 k true
 else
 v0d a1 a1 y3.2.1 y3.2.2.1 y3.2.2.2.1 y3h.1 y3h.2.1 y3h.2.2.1 y3h.2.2.2.1 y3h.2.2.2.2 (fun y4=>
 k y4.1))
 else
 v0d a1 a1 a0.1 a0.2.1 a0.2.2.1 a0.2.2.2.1 a0.2.2.2.2.1 a0.2.2.2.2.2.1 a0.2.2.2.2.2.2.1 a0.2.2.2.2.2.2.2 (fun y5=>
 k y5.1)))
def v2a:=shut wdg
theorem wpb:v2a=wdg:=vac _
instance n43n_p (a0:dTxn)(a1:TL):ParC (v2a a0 a1):=by rw [wpb];unfold wdg;(try dsimp only);infer_instance
def wjz (a0:dTxn)(a1:Int)(k:(Bool×Int)→OR):OR:=
 k ((a0.1==a1),a1)
def vtt:=shut wjz
theorem wl2:vtt=wjz:=vac _
instance n87n_p (a0:dTxn)(a1:Int):ParC (vtt a0 a1):=by rw [wl2];unfold wjz;(try dsimp only);infer_instance
def vjv (x:q12T)(k:q12T⊕(q12T⊕q12T)→OR):OR:=
 bif (decide (x.2.2.2.1<x.2.2.1))then
 if 0≤x.2.2.2.1∧x.2.2.2.1<(x.1.length:Int)then
 vtt (rd (Ty.zero tTxn) x.1 x.2.2.2.1) x.2.2.2.2 (fun y3=>
 bif y3.1 then
 k (.inr (.inl (x.1,x.2.2.2.1,x.2.2.1,x.2.2.2.1,y3.2)))
 else
 k (.inl (x.1,x.2.1,x.2.2.1,(IntKind.wrap .i64 (x.2.2.2.1+1)),y3.2)))
 else none
 else
 k (.inr (.inr (x.1,x.2.1,x.2.2.1,x.2.2.2.1,x.2.2.2.2)))
instance n120n_bp0 (x:q12T):ParC (vjv x):=by unfold vjv;(try dsimp only);infer_instance
def v3t (a0:TL)(a1:Int)(k:(Int×Int)→OR):OR:=
 vad vjv Fuel (a0,0,(a0.length:Int),0,a1) (Sum.elim (fun z1=>
 k (z1.2.1,z1.2.2.2.2)) (fun z2=>
 k ((-1:Int),z2.2.2.2.2)))
def vpq:=shut v3t
theorem v9a:vpq=v3t:=vac _
instance n120n_p (a0:TL)(a1:Int):ParC (vpq a0 a1):=by rw [v9a];unfold v3t;(try dsimp only);infer_instance
def vgm (x:((Int×Int×TL×(List Nat)×Int)⊕(Int×Int×TL×(List Nat)×Int)))(k:((Int×Int×TL×(List Nat)×Int)⊕(Int×Int×TL×(List Nat)×Int))⊕((Int×Int×TL×(List Nat)×Int)⊕(Int×Int×TL×(List Nat)×Int))→OR):OR:=
 (Sum.elim (fun x=>
 bif (decide (x.2.1<(x.2.2.1.length:Int)))then
 if 0≤x.2.1∧x.2.1<(x.2.2.1.length:Int)then
 bif (hasD x.2.2.2.1 x.2.1.toNat)then
 none
 else
 vtt (x.2.2.1.getD x.2.1.toNat (Ty.zero tTxn)) x.2.2.2.2 (fun y4=>
 bif (!y4.1)then
 if 0≤x.1∧x.1<(x.2.2.1.length:Int)then
 k (.inl (.inr ((IntKind.wrap .i64 (x.1+1)),(IntKind.wrap .i64 (x.2.1+1)),(x.2.2.1.set x.1.toNat (x.2.2.1.getD x.2.1.toNat (Ty.zero tTxn))),(x.2.1.toNat::(x.2.1.toNat::(delD x.1.toNat x.2.2.2.1))),y4.2)))
 else none
 else
 k (.inl (.inl (x.1,(IntKind.wrap .i64 (x.2.1+1)),x.2.2.1,x.2.2.2.1,y4.2))))
 else none
 else
 k (.inr (.inl (x.1,x.2.1,x.2.2.1,x.2.2.2.1,x.2.2.2.2)))) (fun x=>
 bif (decide (x.2.1<(x.2.2.1.length:Int)))then
 if 0≤x.2.1∧x.2.1<(x.2.2.1.length:Int)then
 bif (hasD x.2.2.2.1 x.2.1.toNat)then
 none
 else
 vtt (x.2.2.1.getD x.2.1.toNat (Ty.zero tTxn)) x.2.2.2.2 (fun y5=>
 bif (!y5.1)then
 if 0≤x.1∧x.1<(x.2.2.1.length:Int)then
 k (.inl (.inr ((IntKind.wrap .i64 (x.1+1)),(IntKind.wrap .i64 (x.2.1+1)),(x.2.2.1.set x.1.toNat (x.2.2.1.getD x.2.1.toNat (Ty.zero tTxn))),(x.2.1.toNat::(x.2.1.toNat::(delD x.1.toNat x.2.2.2.1))),y5.2)))
 else none
 else
 k (.inl (.inr (x.1,(IntKind.wrap .i64 (x.2.1+1)),x.2.2.1,x.2.2.2.1,y5.2))))
 else none
 else
 k (.inr (.inr (x.1,x.2.1,x.2.2.1,x.2.2.2.1,x.2.2.2.2))))) x
instance n104n_bp0 (x:((Int×Int×TL×(List Nat)×Int)⊕(Int×Int×TL×(List Nat)×Int))):ParC (vgm x):=by
 unfold vgm
 rcases x with x|x
 ·simp only [Sum.elim_inl]
  infer_instance
 ·simp only [Sum.elim_inr]
  (try dsimp only)
  infer_instance
def v3z (a0:TL)(a1:Int)(k:((TL×Int)⊕(Int×TL))→OR):OR:=
 vpq a0 a1 (fun y1=>
 bif (y1.1==(-1:Int))then
 k (.inl (a0,y1.2))
 else
 vad vgm Fuel (.inl (y1.1,(IntKind.wrap .i64 (y1.1+1)),a0,([]:List Nat),y1.2)) (Sum.elim (fun z2=>
 if 0≤z2.1∧z2.1≤(z2.2.2.1.length:Int)then
 if 0≤z2.1∧z2.1≤((z2.2.2.1.take z2.1.toNat++List.replicate (z2.2.2.1.length-z2.1.toNat) (Ty.zero tTxn)).length:Int)then
 bif (geD z2.1.toNat (loD z2.1.toNat z2.2.2.2.1))then
 k (.inr (z2.2.2.2.2,((z2.2.2.1.take z2.1.toNat++List.replicate (z2.2.2.1.length-z2.1.toNat) (Ty.zero tTxn)).take z2.1.toNat)))
 else
 none
 else none
 else none) (fun z3=>
 if 0≤z3.1∧z3.1≤(z3.2.2.1.length:Int)then
 if 0≤z3.1∧z3.1≤((z3.2.2.1.take z3.1.toNat++List.replicate (z3.2.2.1.length-z3.1.toNat) (Ty.zero tTxn)).length:Int)then
 bif (geD z3.1.toNat (loD z3.1.toNat z3.2.2.2.1))then
 k (.inr (z3.2.2.2.2,((z3.2.2.1.take z3.1.toNat++List.replicate (z3.2.2.1.length-z3.1.toNat) (Ty.zero tTxn)).take z3.1.toNat)))
 else
 none
 else none
 else none)))
def vs8:=shut v3z
theorem v9l:vs8=v3z:=vac _
instance n104n_p (a0:TL)(a1:Int):ParC (vs8 a0 a1):=by rw [v9l];unfold v3z;(try dsimp only);exact⟨((n120n_p ..).p.bind fun _=>(var (vag _) ((vew (fun x=>(n104n_bp0 x).p) _ _).bind2 (fun _=>(vc9 (vc9 (var (vag _) va5) va5) va5)) (fun _=>(vc9 (vc9 (var (vag _) va5) va5) va5)))))⟩
def wez (a0:vbs)(a1:Int)(k:q54T→OR):OR:=
 vm7 a0 (fun y1=>
 vs8 y1.2.2.2.2.2 a1 (Sum.elim (fun y2=>
 k (y1.1,y1.2.1,y1.2.2.1,y1.2.2.2.1,y1.2.2.2.2.1,y2.1)) (fun y3=>
 k (y1.1,y1.2.1,y1.2.2.1,y1.2.2.2.1,y1.2.2.2.2.1,y3.2))))
def vv9:=shut wez
theorem wpn:vv9=wez:=vac _
instance n86n_p (a0:vbs)(a1:Int):ParC (vv9 a0 a1):=by rw [wpn];unfold wez;(try dsimp only);infer_instance
def vnw (x:q49T)(k:q49T⊕q49T→OR):OR:=
 bif (decide (x.2.2.2<x.2.2.1))then
 if 0≤x.2.2.2∧x.2.2.2<(x.2.1.length:Int)then
 k (.inl ((if(rd (Ty.zero tTxn) x.2.1 x.2.2.2).2.2.1<x.1 then(rd (Ty.zero tTxn) x.2.1 x.2.2.2).2.2.1 else x.1),x.2.1,x.2.2.1,(IntKind.wrap .i64 (x.2.2.2+1))))
 else none
 else
 k (.inr (x.1,x.2.1,x.2.2.1,x.2.2.2))
instance n28n_bp0 (x:q49T):ParC (vnw x):=by unfold vnw;(try dsimp only);infer_instance
def wbs (a0:vh8)(a1:TL)(k:Int→OR):OR:=
 vad vnw Fuel (a0.2.2.2.1,a1,(a1.length:Int),0) (fun z1=>
 k z1.1)
def v0e:=shut wbs
theorem wn4:v0e=wbs:=vac _
instance n28n_p (a0:vh8)(a1:TL):ParC (v0e a0 a1):=by rw [wn4];unfold wbs;(try dsimp only);infer_instance
def wka (a0:dTxn)(a1:Int)(k:(Bool×Int)→OR):OR:=
 k ((decide (a0.2.2.2.1≤a1)),a1)
def vt8:=shut wka
theorem wkb:vt8=wka:=vac _
instance n51n_p (a0:dTxn)(a1:Int):ParC (vt8 a0 a1):=by rw [wkb];unfold wka;(try dsimp only);infer_instance
def vi8 (x:q12T)(k:q12T⊕(q12T⊕q12T)→OR):OR:=
 bif (decide (x.2.2.2.1<x.2.2.1))then
 if 0≤x.2.2.2.1∧x.2.2.2.1<(x.1.length:Int)then
 vt8 (rd (Ty.zero tTxn) x.1 x.2.2.2.1) x.2.2.2.2 (fun y3=>
 bif y3.1 then
 k (.inr (.inl (x.1,x.2.2.2.1,x.2.2.1,x.2.2.2.1,y3.2)))
 else
 k (.inl (x.1,x.2.1,x.2.2.1,(IntKind.wrap .i64 (x.2.2.2.1+1)),y3.2)))
 else none
 else
 k (.inr (.inr (x.1,x.2.1,x.2.2.1,x.2.2.2.1,x.2.2.2.2)))
instance n118n_bp0 (x:q12T):ParC (vi8 x):=by unfold vi8;(try dsimp only);infer_instance
def v4l (a0:TL)(a1:Int)(k:(Int×Int)→OR):OR:=
 vad vi8 Fuel (a0,0,(a0.length:Int),0,a1) (Sum.elim (fun z1=>
 k (z1.2.1,z1.2.2.2.2)) (fun z2=>
 k ((-1:Int),z2.2.2.2.2)))
def vp1:=shut v4l
theorem wa3:vp1=v4l:=vac _
instance n118n_p (a0:TL)(a1:Int):ParC (vp1 a0 a1):=by rw [wa3];unfold v4l;(try dsimp only);infer_instance
def vf7 (x:((Int×Int×TL×(List Nat)×Int)⊕(Int×Int×TL×(List Nat)×Int)))(k:((Int×Int×TL×(List Nat)×Int)⊕(Int×Int×TL×(List Nat)×Int))⊕((Int×Int×TL×(List Nat)×Int)⊕(Int×Int×TL×(List Nat)×Int))→OR):OR:=
 (Sum.elim (fun x=>
 bif (decide (x.2.1<(x.2.2.1.length:Int)))then
 if 0≤x.2.1∧x.2.1<(x.2.2.1.length:Int)then
 bif (hasD x.2.2.2.1 x.2.1.toNat)then
 none
 else
 vt8 (x.2.2.1.getD x.2.1.toNat (Ty.zero tTxn)) x.2.2.2.2 (fun y4=>
 bif (!y4.1)then
 if 0≤x.1∧x.1<(x.2.2.1.length:Int)then
 k (.inl (.inr ((IntKind.wrap .i64 (x.1+1)),(IntKind.wrap .i64 (x.2.1+1)),(x.2.2.1.set x.1.toNat (x.2.2.1.getD x.2.1.toNat (Ty.zero tTxn))),(x.2.1.toNat::(x.2.1.toNat::(delD x.1.toNat x.2.2.2.1))),y4.2)))
 else none
 else
 k (.inl (.inl (x.1,(IntKind.wrap .i64 (x.2.1+1)),x.2.2.1,x.2.2.2.1,y4.2))))
 else none
 else
 k (.inr (.inl (x.1,x.2.1,x.2.2.1,x.2.2.2.1,x.2.2.2.2)))) (fun x=>
 bif (decide (x.2.1<(x.2.2.1.length:Int)))then
 if 0≤x.2.1∧x.2.1<(x.2.2.1.length:Int)then
 bif (hasD x.2.2.2.1 x.2.1.toNat)then
 none
 else
 vt8 (x.2.2.1.getD x.2.1.toNat (Ty.zero tTxn)) x.2.2.2.2 (fun y5=>
 bif (!y5.1)then
 if 0≤x.1∧x.1<(x.2.2.1.length:Int)then
 k (.inl (.inr ((IntKind.wrap .i64 (x.1+1)),(IntKind.wrap .i64 (x.2.1+1)),(x.2.2.1.set x.1.toNat (x.2.2.1.getD x.2.1.toNat (Ty.zero tTxn))),(x.2.1.toNat::(x.2.1.toNat::(delD x.1.toNat x.2.2.2.1))),y5.2)))
 else none
 else
 k (.inl (.inr (x.1,(IntKind.wrap .i64 (x.2.1+1)),x.2.2.1,x.2.2.2.1,y5.2))))
 else none
 else
 k (.inr (.inr (x.1,x.2.1,x.2.2.1,x.2.2.2.1,x.2.2.2.2))))) x
instance n103n_bp0 (x:((Int×Int×TL×(List Nat)×Int)⊕(Int×Int×TL×(List Nat)×Int))):ParC (vf7 x):=by
 unfold vf7
 rcases x with x|x
 ·simp only [Sum.elim_inl]
  infer_instance
 ·simp only [Sum.elim_inr]
  (try dsimp only)
  infer_instance
def v5m (a0:TL)(a1:Int)(k:((TL×Int)⊕(Int×TL))→OR):OR:=
 vp1 a0 a1 (fun y1=>
 bif (y1.1==(-1:Int))then
 k (.inl (a0,y1.2))
 else
 vad vf7 Fuel (.inl (y1.1,(IntKind.wrap .i64 (y1.1+1)),a0,([]:List Nat),y1.2)) (Sum.elim (fun z2=>
 if 0≤z2.1∧z2.1≤(z2.2.2.1.length:Int)then
 if 0≤z2.1∧z2.1≤((z2.2.2.1.take z2.1.toNat++List.replicate (z2.2.2.1.length-z2.1.toNat) (Ty.zero tTxn)).length:Int)then
 bif (geD z2.1.toNat (loD z2.1.toNat z2.2.2.2.1))then
 k (.inr (z2.2.2.2.2,((z2.2.2.1.take z2.1.toNat++List.replicate (z2.2.2.1.length-z2.1.toNat) (Ty.zero tTxn)).take z2.1.toNat)))
 else
 none
 else none
 else none) (fun z3=>
 if 0≤z3.1∧z3.1≤(z3.2.2.1.length:Int)then
 if 0≤z3.1∧z3.1≤((z3.2.2.1.take z3.1.toNat++List.replicate (z3.2.2.1.length-z3.1.toNat) (Ty.zero tTxn)).length:Int)then
 bif (geD z3.1.toNat (loD z3.1.toNat z3.2.2.2.1))then
 k (.inr (z3.2.2.2.2,((z3.2.2.1.take z3.1.toNat++List.replicate (z3.2.2.1.length-z3.1.toNat) (Ty.zero tTxn)).take z3.1.toNat)))
 else
 none
 else none
 else none)))
def vs6:=shut v5m
theorem waz:vs6=v5m:=vac _
instance n103n_p (a0:TL)(a1:Int):ParC (vs6 a0 a1):=by rw [waz];unfold v5m;(try dsimp only);exact⟨((n118n_p ..).p.bind fun _=>(var (vag _) ((vew (fun x=>(n103n_bp0 x).p) _ _).bind2 (fun _=>(vc9 (vc9 (var (vag _) va5) va5) va5)) (fun _=>(vc9 (vc9 (var (vag _) va5) va5) va5)))))⟩
def voj (x:q44T)(k:q44T⊕q44T→OR):OR:=
 let xh:=x.2.2.2.2
 bif (decide (x.2.2.2.1<x.2.2.1))then
 if 0≤x.2.2.2.1∧x.2.2.2.1<(xh.length:Int)then
 bif (va3 ((xh.getD x.2.2.2.1.toNat (Ty.zero tVersion)).1) x.1)then
 k (.inl (x.1,(IntKind.wrap .i64 (x.2.1+1)),x.2.2.1,(IntKind.wrap .i64 (x.2.2.2.1+1)),xh))
 else
 k (.inl (x.1,x.2.1,x.2.2.1,(IntKind.wrap .i64 (x.2.2.2.1+1)),xh))
 else none
 else
 k (.inr (x.1,x.2.1,x.2.2.1,x.2.2.2.1,xh))
instance n54n_bp0 (x:q44T):ParC (voj x):=by unfold voj;(try dsimp only);infer_instance
def web (a0:ByteArray)(a1:VL)(k:(Int×VL)→OR):OR:=
 vad voj Fuel (a0,0,(a1.length:Int),0,a1) (fun z1=>
 k (z1.2.1,z1.2.2.2.2))
def v0n:=shut web
theorem wjm:v0n=web:=vac _
instance n54n_p (a0:ByteArray)(a1:VL):ParC (v0n a0 a1):=by rw [wjm];unfold web;(try dsimp only);infer_instance
def vdq (x:q18T)(k:q18T→OR):OR:=
 let xh:=x.2.2.2.2
 let xi:=xh.2.2.2.2
 bif xh.2.1 then
 if xi.2.2.length+[(xh.2.2.1,(xh.2.2.2.1,(xi.1,xi.2.1)))].length≤VE.maxLen then
 k (x.1,x.2.1,x.2.2.1,x.2.2.2.1,xh.1,xh.2.1,xh.2.2.1,xh.2.2.2.1,xi.1,xi.2.1,(xi.2.2++[(xh.2.2.1,(xh.2.2.2.1,(xi.1,xi.2.1)))]))
 else none
 else
 k (x.1,x.2.1,x.2.2.1,x.2.2.2.1,xh.1,xh.2.1,xh.2.2.1,xh.2.2.2.1,xi.1,xi.2.1,xi.2.2)
instance n53n_jp15000006 (x:q18T):ParC (vdq x):=by unfold vdq;(try dsimp only);infer_instance
def vod (x:q17T)(k:q17T⊕q17T→OR):OR:=
 let xh:=x.2.2.2.2
 let t0:=(rd (Ty.zero tVersion) x.2.2.1 xh.1)
 bif (decide (xh.1<x.2.2.2.1))then
 if 0≤xh.1∧xh.1<(x.2.2.1.length:Int)then
 bif (decide (t0.2.2.2>x.2.1))then
 vdq (x.1,x.2.1,x.2.2.1,x.2.2.2.1,xh.1,true,t0.1,t0.2.1,t0.2.2.1,t0.2.2.2,xh.2) (fun z3=>
 k (.inl (z3.1,z3.2.1,z3.2.2.1,z3.2.2.2.1,(IntKind.wrap .i64 (z3.2.2.2.2.1+1)),z3.2.2.2.2.2.2.2.2.2.2)))
 else
 vtm x.1 (t0.1) x.2.1 (fun y4=>
 vdq (x.1,x.2.1,x.2.2.1,x.2.2.2.1,xh.1,(y4==xh.1),t0.1,t0.2.1,t0.2.2.1,t0.2.2.2,xh.2) (fun z5=>
 k (.inl (z5.1,z5.2.1,z5.2.2.1,z5.2.2.2.1,(IntKind.wrap .i64 (z5.2.2.2.2.1+1)),z5.2.2.2.2.2.2.2.2.2.2))))
 else none
 else
 k (.inr (x.1,x.2.1,x.2.2.1,x.2.2.2.1,xh.1,xh.2))
instance n53n_bp0 (x:q17T):ParC (vod x):=by unfold vod;(try dsimp only);infer_instance
def vn7 (x:q61T)(k:q61T⊕q61T→OR):OR:=
 let xh:=x.2.2.2.2
 let t0:=(xh.getD x.2.2.1.toNat (Ty.zero tVersion))
 bif (decide (x.2.2.1<x.2.1))then
 if 0≤x.2.2.1∧x.2.2.1<(xh.length:Int)then
 bif (decide (t0.2.2.2>x.1))then
 if x.2.2.2.1.length+[t0].length≤VE.maxLen then
 k (.inl (x.1,x.2.1,(IntKind.wrap .i64 (x.2.2.1+1)),(x.2.2.2.1++[t0]),xh))
 else none
 else
 bif (!t0.2.2.1)then
 if x.2.2.2.1.length+[t0].length≤VE.maxLen then
 k (.inl (x.1,x.2.1,(IntKind.wrap .i64 (x.2.2.1+1)),(x.2.2.2.1++[t0]),xh))
 else none
 else
 v0n (t0.1) xh (fun y6=>
 bif (decide (y6.1>1))then
 if x.2.2.2.1.length+[t0].length≤VE.maxLen then
 k (.inl (x.1,x.2.1,(IntKind.wrap .i64 (x.2.2.1+1)),(x.2.2.2.1++[t0]),y6.2))
 else none
 else
 k (.inl (x.1,x.2.1,(IntKind.wrap .i64 (x.2.2.1+1)),x.2.2.2.1,y6.2)))
 else none
 else
 k (.inr (x.1,x.2.1,x.2.2.1,x.2.2.2.1,xh))
instance n53n_bp2 (x:q61T):ParC (vn7 x):=by unfold vn7;(try dsimp only);infer_instance
def wbr (a0:VL)(a1:Int)(k:VL→OR):OR:=
 vad vod Fuel (a0,a1,a0,(a0.length:Int),0,([]:List vak)) (fun z1=>
 vad vn7 Fuel (z1.2.1,(z1.2.2.2.2.2.length:Int),0,([]:List vak),z1.2.2.2.2.2) (fun z2=>
 k z2.2.2.2.1))
def vyn:=shut wbr
theorem wl7:vyn=wbr:=vac _
instance n53n_p (a0:VL)(a1:Int):ParC (vyn a0 a1):=by rw [wl7];unfold wbr;(try dsimp only);infer_instance
def wc4 (a0:vh8)(a1:TL)(k:q57T→OR):OR:=
 vqj a0 (fun y1=>
 v0e a0 a1 (fun y2=>
 vs6 y1.2.2.2.1 y2 (Sum.elim (fun y3=>
 vyn a0.1 y3.2 (fun y4=>
 k (y1.1,y1.2.1,y4,y3.1,y1.2.2.2.2))) (fun y5=>
 vyn a0.1 y5.1 (fun y6=>
 k (y1.1,y1.2.1,y6,y5.2,y1.2.2.2.2))))))
def vtp:=shut wc4
theorem wlu:vtp=wc4:=vac _
instance n50n_p (a0:vh8)(a1:TL):ParC (vtp a0 a1):=by rw [wlu];unfold wc4;(try dsimp only);infer_instance
def wcs (a0:vbs)(a1:Int)(k:q60T→OR):OR:=
 vv9 a0 a1 (fun y1=>
 let y1h:=y1.2.2.2.2
 vo9 a0 a1 (fun y2=>
 bif (decide (y2<0))then
 k (y1.1,y1.2.1,1,y1.2.2.1,y1.2.2.2.1,y1h.1,y1h.2)
 else
 vtp (y1.2.2.1,(y1.2.2.2.1,(y1h.1,(y1.1,y1.2.1)))) y1h.2 (fun y3=>
 k (y3.1,y3.2.1,0,y3.2.2.1,y3.2.2.2.1,y3.2.2.2.2,y1h.2))))
def vz9:=shut wcs
theorem wpo:vz9=wcs:=vac _
instance n25n_p (a0:vbs)(a1:Int):ParC (vz9 a0 a1):=by rw [wpo];unfold wcs;(try dsimp only);infer_instance
def vmv (x:(ByteArray×Int×Int×Int×Int×Int×Int×RL×WL×Bool×ByteArray×Int×Int×Int×Int×Int×Int×Int×Int×Bool×ByteArray×TL×TL×TL×(List Nat)×VL×TL×TL×VL×TL×RL×WL))(k:(ByteArray×Int×Int×Int×Int×Int×Int×RL×WL×Bool×ByteArray×Int×Int×Int×Int×Int×Int×Int×Int×Bool×ByteArray×TL×TL×TL×(List Nat)×VL×TL×TL×VL×TL×RL×WL)⊕(ByteArray×Int×Int×Int×Int×Int×Int×RL×WL×Bool×ByteArray×Int×Int×Int×Int×Int×Int×Int×Int×Bool×ByteArray×TL×TL×TL×(List Nat)×VL×TL×TL×VL×TL×RL×WL)→OR):OR:=
 let xh:=x.2.2.2.2
 let xi:=xh.2.2.2.2
 let xj:=xi.2.2.2.2
 let xk:=xj.2.2.2.2
 let xl:=xk.2.2.2.2
 let xm:=xl.2.2.2.2
 let xn:=xm.2.2.2.2
 let t0:=(xl.2.2.2.1.getD x.2.2.1.toNat (Ty.zero tTxn))
 let t1:=(x.2.2.1.toNat::(x.2.2.1.toNat::xm.1))
 bif (decide (x.2.2.1<x.2.1))then
 if 0≤x.2.2.1∧x.2.2.1<(xl.2.2.2.1.length:Int)then
 bif (hasD xm.1 x.2.2.1.toNat)then
 none
 else
 bif (vaf (t0.2.2.2.2.2.2.2) x.1)then
 if xl.2.1.length+[t0].length≤VE.maxLen then
 k (.inl (x.1,x.2.1,(IntKind.wrap .i64 (x.2.2.1+1)),x.2.2.2.1,xh.1,xh.2.1,xh.2.2.1,xh.2.2.2.1,xi.1,xi.2.1,xi.2.2.1,xi.2.2.2.1,xj.1,xj.2.1,xj.2.2.1,xj.2.2.2.1,xk.1,xk.2.1,xk.2.2.1,xk.2.2.2.1,xl.1,(xl.2.1++[t0]),xl.2.2.1,xl.2.2.2.1,t1,xm.2.1,xm.2.2.1,xm.2.2.2.1,xn.1,xn.2.1,xn.2.2.1,xn.2.2.2))
 else none
 else
 if xl.2.2.1.length+[t0].length≤VE.maxLen then
 k (.inl (x.1,x.2.1,(IntKind.wrap .i64 (x.2.2.1+1)),x.2.2.2.1,xh.1,xh.2.1,xh.2.2.1,xh.2.2.2.1,xi.1,xi.2.1,xi.2.2.1,xi.2.2.2.1,xj.1,xj.2.1,xj.2.2.1,xj.2.2.2.1,xk.1,xk.2.1,xk.2.2.1,xk.2.2.2.1,xl.1,xl.2.1,(xl.2.2.1++[t0]),xl.2.2.2.1,t1,xm.2.1,xm.2.2.1,xm.2.2.2.1,xn.1,xn.2.1,xn.2.2.1,xn.2.2.2))
 else none
 else none
 else
 k (.inr (x.1,x.2.1,x.2.2.1,x.2.2.2.1,xh.1,xh.2.1,xh.2.2.1,xh.2.2.2.1,xi.1,xi.2.1,xi.2.2.1,xi.2.2.2.1,xj.1,xj.2.1,xj.2.2.1,xj.2.2.2.1,xk.1,xk.2.1,xk.2.2.1,xk.2.2.2.1,xl.1,xl.2.1,xl.2.2.1,xl.2.2.2.1,xm.1,xm.2.1,xm.2.2.1,xm.2.2.2.1,xn.1,xn.2.1,xn.2.2.1,xn.2.2.2))
instance n26n_bp0 (x:(ByteArray×Int×Int×Int×Int×Int×Int×RL×WL×Bool×ByteArray×Int×Int×Int×Int×Int×Int×Int×Int×Bool×ByteArray×TL×TL×TL×(List Nat)×VL×TL×TL×VL×TL×RL×WL)):ParC (vmv x):=by unfold vmv;(try dsimp only);infer_instance
def vc5 (x:q45T)(k:q46T→OR):OR:=
 let xh:=x.2.2.2.2
 let xi:=xh.2.2.2.2
 let xj:=xi.2.2.2.2
 let xk:=xj.2.2.2.2
 let xl:=xk.2.2.2.2
 vad vmv Fuel (x.1,(xl.2.2.2.2.1.length:Int),0,x.2.1,x.2.2.1,x.2.2.2.1,xh.1,xh.2.1,xh.2.2.1,xh.2.2.2.1,xi.1,xi.2.1,xi.2.2.1,xi.2.2.2.1,xj.1,xj.2.1,xj.2.2.1,xj.2.2.2.1,xk.1,xk.2.1,xk.2.2.1,([]:List dTxn),([]:List dTxn),xl.2.2.2.2.1,([]:List Nat),xk.2.2.2.1,xl.1,xl.2.1,xl.2.2.1,xl.2.2.2.1,xl.2.2.2.2.2.1,xl.2.2.2.2.2.2) (fun z6=>
 let z6h:=z6.2.2.2.2
 let z6i:=z6h.2.2.2.2
 let z6j:=z6i.2.2.2.2
 let z6k:=z6j.2.2.2.2
 let z6l:=z6k.2.2.2.2
 let z6m:=z6l.2.2.2.2
 let z6n:=z6m.2.2.2.2
 if z6l.2.1.length+[(z6j.2.2.2.1,(z6k.1,(z6k.2.1,(z6k.2.2.1,(z6n.2.2.1,(z6n.2.2.2,(z6k.2.2.2.1,z6l.1)))))))].length≤VE.maxLen then
 if(z6l.2.1++[(z6j.2.2.2.1,(z6k.1,(z6k.2.1,(z6k.2.2.1,(z6n.2.2.1,(z6n.2.2.2,(z6k.2.2.2.1,z6l.1)))))))]).length+z6l.2.2.1.length≤VE.maxLen then
 k (z6.1,z6.2.2.2.1,z6h.1,z6h.2.1,z6h.2.2.1,z6h.2.2.2.1,z6i.1,z6i.2.1,z6i.2.2.1,z6j.2.1,(if(IntKind.wrap .i64 (z6.2.2.2.1+(1:Int)))>z6j.2.2.1 then(IntKind.wrap .i64 (z6.2.2.2.1+(1:Int)))else z6j.2.2.1),z6j.2.1,(if(IntKind.wrap .i64 (z6.2.2.2.1+(1:Int)))>z6j.2.2.1 then(IntKind.wrap .i64 (z6.2.2.2.1+(1:Int)))else z6j.2.2.1),z6j.2.2.2.1,z6k.1,z6k.2.1,z6k.2.2.1,z6k.2.2.2.1,z6l.1,z6n.1,z6n.2.1,((z6l.2.1++[(z6j.2.2.2.1,(z6k.1,(z6k.2.1,(z6k.2.2.1,(z6n.2.2.1,(z6n.2.2.2,(z6k.2.2.2.1,z6l.1)))))))])++z6l.2.2.1))
 else none
 else none)
instance n26n_jp5000004 (x:q45T):ParC (vc5 x):=by unfold vc5;(try dsimp only);infer_instance
def wdu (a0:vh8)(a1:dTxn)(a2:ByteArray)(k:q57T→OR):OR:=
 vqj a0 (fun y1=>
 vhc a1 (fun y2=>
 bif a1.2.2.2.2.2.2.1 then
 vc5 (a2,a1.1,a1.2.1,a1.2.2.1,a1.2.2.2.1,a1.2.2.2.2.1,a1.2.2.2.2.2.1,a1.2.2.2.2.2.2.1,a1.2.2.2.2.2.2.2,0,0,y1.1,y1.2.1,y2.1,2,y2.2.2.1,y2.2.2.2.1,true,a2,([]:List vak),([]:List dTxn),([]:List dTxn),y1.2.2.1,y1.2.2.2.1,y1.2.2.2.2,y2.2.2.2.2.2.2.1,y2.2.2.2.2.2.2.2) (fun z3=>
 let z3h:=z3.2.2.2.2
 let z3i:=z3h.2.2.2.2
 k (z3i.2.1,z3i.2.2.1,z3i.2.2.2.2.2.2.2.2.2.2.2.1,z3i.2.2.2.2.2.2.2.2.2.2.2.2.1,z3i.2.2.2.2.2.2.2.2.2.2.2.2.2))
 else
 vte a1 a0.2.1 (fun y4=>
 vc5 (a2,a1.1,a1.2.1,a1.2.2.1,a1.2.2.2.1,a1.2.2.2.2.1,a1.2.2.2.2.2.1,a1.2.2.2.2.2.2.1,a1.2.2.2.2.2.2.2,0,0,y1.1,y1.2.1,y2.1,2,y2.2.2.1,y2.2.2.2.1,y4,a2,([]:List vak),([]:List dTxn),([]:List dTxn),y1.2.2.1,y1.2.2.2.1,y1.2.2.2.2,y2.2.2.2.2.2.2.1,y2.2.2.2.2.2.2.2) (fun z5=>
 let z5h:=z5.2.2.2.2
 let z5i:=z5h.2.2.2.2
 k (z5i.2.1,z5i.2.2.1,z5i.2.2.2.2.2.2.2.2.2.2.2.1,z5i.2.2.2.2.2.2.2.2.2.2.2.2.1,z5i.2.2.2.2.2.2.2.2.2.2.2.2.2)))))
def v00:=shut wdu
theorem wkd:v00=wdu:=vac _
instance n26n_p (a0:vh8)(a1:dTxn)(a2:ByteArray):ParC (v00 a0 a1 a2):=by rw [wkd];unfold wdu;(try dsimp only);infer_instance
def vc4 (x:q53T)(k:q53T→OR):OR:=
 let xh:=x.2.2.2.2
 let xi:=xh.2.2.2.2
 let t0:=((xh.2.1,(xh.2.2.1,(xh.2.2.2.1,(xi.1,xi.2.1)))),xi.2.2.1)
 bif (xh.1 != (0:Int))then
 vz9 t0 x.1 (fun y20=>
 k (x.1,x.2.1,xh.1,x.2.2.2.1,xh.1,xh.2.1,xh.2.2.1,xh.2.2.2.1,xi.1,xi.2.1,xi.2.2.1,y20.1,y20.2.1,0,0,0,0,0,false,(⟨#[]⟩:ByteArray),(⟨#[]⟩:ByteArray),false,0,0,y20.2.2.2.1,y20.2.2.2.2.1,y20.2.2.2.2.2.1,y20.2.2.2.2.2.2,([]:List vb6),([]:List vbt)))
 else
 vv9 t0 x.1 (fun y21=>
 if 0≤x.2.2.2.1∧x.2.2.2.1<(xi.2.2.1.length:Int)then
 v00 (y21.2.2.1,(y21.2.2.2.1,(y21.2.2.2.2.1,(y21.1,y21.2.1)))) (rd (Ty.zero tTxn) xi.2.2.1 x.2.2.2.1) x.2.1 (fun y22=>
 vtj (y22.2.2.1,(y22.2.2.2.1,(y22.2.2.2.2,(y22.1,y22.2.1)))) x.2.1 (fun y23=>
 if 0≤y23∧y23<(y22.2.2.2.2.length:Int)then
 vhc (y22.2.2.2.2.getD y23.toNat (Ty.zero tTxn)) (fun y24=>
 vtp (y22.2.2.1,(y22.2.2.2.1,(y22.2.2.2.2,(y22.1,y22.2.1)))) y21.2.2.2.2.2 (fun y25=>
 k (x.1,x.2.1,0,x.2.2.2.1,xh.1,xh.2.1,xh.2.2.1,xh.2.2.2.1,xi.1,xi.2.1,xi.2.2.1,y25.1,y25.2.1,2,y24.1,y24.2.1,y24.2.2.1,y24.2.2.2.1,y24.2.2.2.2.1,y24.2.2.2.2.2.1,(⟨#[]⟩:ByteArray),false,0,0,y25.2.2.1,y25.2.2.2.1,y25.2.2.2.2,y21.2.2.2.2.2,y24.2.2.2.2.2.2.1,y24.2.2.2.2.2.2.2)))
 else none))
 else none)
instance n34n_jp5000013 (x:q53T):ParC (vc4 x):=by unfold vc4;(try dsimp only);infer_instance
def vb9 (x:q53T)(k:q53T→OR):OR:=
 let xh:=x.2.2.2.2
 let xi:=xh.2.2.2.2
 let xj:=xi.2.2.2.2
 let xk:=xj.2.2.2.2
 let xl:=xk.2.2.2.2
 let xm:=xl.2.2.2.2
 let t0:=(x.1,x.2.1,x.2.2.1,x.2.2.2.1,xh.1,xh.2.1,xh.2.2.1,xh.2.2.2.1,xi.1,xi.2.1,xi.2.2.1,xi.2.2.2.1,xj.1,xj.2.1,xj.2.2.1,xj.2.2.2.1,xk.1,xk.2.1,xk.2.2.1,xk.2.2.2.1,xl.1,xl.2.1,xl.2.2.1,xl.2.2.2.1,xm.1,xm.2.1,xm.2.2.1,xm.2.2.2.1,xm.2.2.2.2.1,xm.2.2.2.2.2)
 bif (xh.1==(0:Int))then
 bif (decide ((xh.2.2.2.1.length:Int)≥(3:Int)))then
 vc4 (x.1,x.2.1,x.2.2.1,x.2.2.2.1,3,xh.2.1,xh.2.2.1,xh.2.2.2.1,xi.1,xi.2.1,xi.2.2.1,xi.2.2.2.1,xj.1,xj.2.1,xj.2.2.1,xj.2.2.2.1,xk.1,xk.2.1,xk.2.2.1,xk.2.2.2.1,xl.1,xl.2.1,xl.2.2.1,xl.2.2.2.1,xm.1,xm.2.1,xm.2.2.1,xm.2.2.2.1,xm.2.2.2.2.1,xm.2.2.2.2.2) (fun z17=>
 let z17h:=z17.2.2.2.2
 let z17i:=z17h.2.2.2.2
 let z17j:=z17i.2.2.2.2
 let z17k:=z17j.2.2.2.2
 let z17l:=z17k.2.2.2.2
 let z17m:=z17l.2.2.2.2
 k (z17.1,z17.2.1,z17.2.2.1,z17.2.2.2.1,z17h.1,z17h.2.1,z17h.2.2.1,z17h.2.2.2.1,z17i.1,z17i.2.1,z17i.2.2.1,z17i.2.2.2.1,z17j.1,z17j.2.1,z17j.2.2.1,z17j.2.2.2.1,z17k.1,z17k.2.1,z17k.2.2.1,z17k.2.2.2.1,z17l.1,z17l.2.1,z17l.2.2.1,z17l.2.2.2.1,z17m.1,z17m.2.1,z17m.2.2.1,z17m.2.2.2.1,z17m.2.2.2.2.1,z17m.2.2.2.2.2))
 else
 vc4 t0 (fun z18=>
 let z18h:=z18.2.2.2.2
 let z18i:=z18h.2.2.2.2
 let z18j:=z18i.2.2.2.2
 let z18k:=z18j.2.2.2.2
 let z18l:=z18k.2.2.2.2
 let z18m:=z18l.2.2.2.2
 k (z18.1,z18.2.1,z18.2.2.1,z18.2.2.2.1,z18h.1,z18h.2.1,z18h.2.2.1,z18h.2.2.2.1,z18i.1,z18i.2.1,z18i.2.2.1,z18i.2.2.2.1,z18j.1,z18j.2.1,z18j.2.2.1,z18j.2.2.2.1,z18k.1,z18k.2.1,z18k.2.2.1,z18k.2.2.2.1,z18l.1,z18l.2.1,z18l.2.2.1,z18l.2.2.2.1,z18m.1,z18m.2.1,z18m.2.2.1,z18m.2.2.2.1,z18m.2.2.2.2.1,z18m.2.2.2.2.2))
 else
 vc4 t0 (fun z19=>
 let z19h:=z19.2.2.2.2
 let z19i:=z19h.2.2.2.2
 let z19j:=z19i.2.2.2.2
 let z19k:=z19j.2.2.2.2
 let z19l:=z19k.2.2.2.2
 let z19m:=z19l.2.2.2.2
 k (z19.1,z19.2.1,z19.2.2.1,z19.2.2.2.1,z19h.1,z19h.2.1,z19h.2.2.1,z19h.2.2.2.1,z19i.1,z19i.2.1,z19i.2.2.1,z19i.2.2.2.1,z19j.1,z19j.2.1,z19j.2.2.1,z19j.2.2.2.1,z19k.1,z19k.2.1,z19k.2.2.1,z19k.2.2.2.1,z19l.1,z19l.2.1,z19l.2.2.1,z19l.2.2.2.1,z19m.1,z19m.2.1,z19m.2.2.1,z19m.2.2.2.1,z19m.2.2.2.2.1,z19m.2.2.2.2.2))
instance n34n_jp5000011 (x:q53T):ParC (vb9 x):=by unfold vb9;(try dsimp only);infer_instance
def vwq (a0:vbs)(a1:Int)(a2:ByteArray)(k:q76T→OR):OR:=
 vo9 a0 a1 (fun y1=>
 bif (decide (y1<0))then
 vm7 a0 (fun y2=>
 k (y2.1,y2.2.1,0,0,0,0,0,false,(⟨#[]⟩:ByteArray),(⟨#[]⟩:ByteArray),false,0,0,1,y2.2.2.1,y2.2.2.2.1,y2.2.2.2.2.1,y2.2.2.2.2.2,([]:List vb6),([]:List vbt)))
 else
 vj1 a2 (fun y3=>
 bif (!y3)then
 vm7 a0 (fun y4=>
 k (y4.1,y4.2.1,0,0,0,0,0,false,(⟨#[]⟩:ByteArray),(⟨#[]⟩:ByteArray),false,0,0,2,y4.2.2.1,y4.2.2.2.1,y4.2.2.2.2.1,y4.2.2.2.2.2,([]:List vb6),([]:List vbt)))
 else
 vtj a0.1 a2 (fun y5=>
 bif (decide (y5≥0))then
 vm7 a0 (fun y6=>
 k (y6.1,y6.2.1,0,0,0,0,0,false,(⟨#[]⟩:ByteArray),(⟨#[]⟩:ByteArray),false,0,0,6,y6.2.2.1,y6.2.2.2.1,y6.2.2.2.2.1,y6.2.2.2.2.2,([]:List vb6),([]:List vbt)))
 else
 v1x a0 a1 (fun y7=>
 bif (y7==(0:Int))then
 if 0≤y1∧y1<(a0.2.length:Int)then
 vt1 a0 (Sum.elim (fun y8=>
 v2a (rd (Ty.zero tTxn) a0.2 y1) y8 (fun y9=>
 bif y9 then
 vb9 (a1,a2,0,y1,5,a0.1.1,a0.1.2.1,a0.1.2.2.1,a0.1.2.2.2.1,a0.1.2.2.2.2,a0.2,0,0,0,0,0,0,0,false,(⟨#[]⟩:ByteArray),(⟨#[]⟩:ByteArray),false,0,0,([]:List vak),([]:List dTxn),([]:List dTxn),([]:List dTxn),([]:List vb6),([]:List vbt)) (fun z10=>
 let z10h:=z10.2.2.2.2
 let z10i:=z10h.2.2.2.2
 let z10j:=z10i.2.2.2.2
 let z10k:=z10j.2.2.2.2
 let z10l:=z10k.2.2.2.2
 let z10m:=z10l.2.2.2.2
 k (z10i.2.2.2.1,z10j.1,z10j.2.1,z10j.2.2.1,z10j.2.2.2.1,z10k.1,z10k.2.1,z10k.2.2.1,z10k.2.2.2.1,z10l.1,z10l.2.1,z10l.2.2.1,z10l.2.2.2.1,z10.2.2.1,z10m.1,z10m.2.1,z10m.2.2.1,z10m.2.2.2.1,z10m.2.2.2.2.1,z10m.2.2.2.2.2))
 else
 vb9 (a1,a2,0,y1,y7,a0.1.1,a0.1.2.1,a0.1.2.2.1,a0.1.2.2.2.1,a0.1.2.2.2.2,a0.2,0,0,0,0,0,0,0,false,(⟨#[]⟩:ByteArray),(⟨#[]⟩:ByteArray),false,0,0,([]:List vak),([]:List dTxn),([]:List dTxn),([]:List dTxn),([]:List vb6),([]:List vbt)) (fun z11=>
 let z11h:=z11.2.2.2.2
 let z11i:=z11h.2.2.2.2
 let z11j:=z11i.2.2.2.2
 let z11k:=z11j.2.2.2.2
 let z11l:=z11k.2.2.2.2
 let z11m:=z11l.2.2.2.2
 k (z11i.2.2.2.1,z11j.1,z11j.2.1,z11j.2.2.1,z11j.2.2.2.1,z11k.1,z11k.2.1,z11k.2.2.1,z11k.2.2.2.1,z11l.1,z11l.2.1,z11l.2.2.1,z11l.2.2.2.1,z11.2.2.1,z11m.1,z11m.2.1,z11m.2.2.1,z11m.2.2.2.1,z11m.2.2.2.2.1,z11m.2.2.2.2.2)))) (fun y12=>
 v2a (rd (Ty.zero tTxn) a0.2 y1) y12 (fun y13=>
 bif y13 then
 vb9 (a1,a2,0,y1,5,a0.1.1,a0.1.2.1,a0.1.2.2.1,a0.1.2.2.2.1,a0.1.2.2.2.2,a0.2,0,0,0,0,0,0,0,false,(⟨#[]⟩:ByteArray),(⟨#[]⟩:ByteArray),false,0,0,([]:List vak),([]:List dTxn),([]:List dTxn),([]:List dTxn),([]:List vb6),([]:List vbt)) (fun z14=>
 let z14h:=z14.2.2.2.2
 let z14i:=z14h.2.2.2.2
 let z14j:=z14i.2.2.2.2
 let z14k:=z14j.2.2.2.2
 let z14l:=z14k.2.2.2.2
 let z14m:=z14l.2.2.2.2
 k (z14i.2.2.2.1,z14j.1,z14j.2.1,z14j.2.2.1,z14j.2.2.2.1,z14k.1,z14k.2.1,z14k.2.2.1,z14k.2.2.2.1,z14l.1,z14l.2.1,z14l.2.2.1,z14l.2.2.2.1,z14.2.2.1,z14m.1,z14m.2.1,z14m.2.2.1,z14m.2.2.2.1,z14m.2.2.2.2.1,z14m.2.2.2.2.2))
 else
 vb9 (a1,a2,0,y1,y7,a0.1.1,a0.1.2.1,a0.1.2.2.1,a0.1.2.2.2.1,a0.1.2.2.2.2,a0.2,0,0,0,0,0,0,0,false,(⟨#[]⟩:ByteArray),(⟨#[]⟩:ByteArray),false,0,0,([]:List vak),([]:List dTxn),([]:List dTxn),([]:List dTxn),([]:List vb6),([]:List vbt)) (fun z15=>
 let z15h:=z15.2.2.2.2
 let z15i:=z15h.2.2.2.2
 let z15j:=z15i.2.2.2.2
 let z15k:=z15j.2.2.2.2
 let z15l:=z15k.2.2.2.2
 let z15m:=z15l.2.2.2.2
 k (z15i.2.2.2.1,z15j.1,z15j.2.1,z15j.2.2.1,z15j.2.2.2.1,z15k.1,z15k.2.1,z15k.2.2.1,z15k.2.2.2.1,z15l.1,z15l.2.1,z15l.2.2.1,z15l.2.2.2.1,z15.2.2.1,z15m.1,z15m.2.1,z15m.2.2.1,z15m.2.2.2.1,z15m.2.2.2.2.1,z15m.2.2.2.2.2)))))
 else none
 else
 vb9 (a1,a2,0,y1,y7,a0.1.1,a0.1.2.1,a0.1.2.2.1,a0.1.2.2.2.1,a0.1.2.2.2.2,a0.2,0,0,0,0,0,0,0,false,(⟨#[]⟩:ByteArray),(⟨#[]⟩:ByteArray),false,0,0,([]:List vak),([]:List dTxn),([]:List dTxn),([]:List dTxn),([]:List vb6),([]:List vbt)) (fun z16=>
 let z16h:=z16.2.2.2.2
 let z16i:=z16h.2.2.2.2
 let z16j:=z16i.2.2.2.2
 let z16k:=z16j.2.2.2.2
 let z16l:=z16k.2.2.2.2
 let z16m:=z16l.2.2.2.2
 k (z16i.2.2.2.1,z16j.1,z16j.2.1,z16j.2.2.1,z16j.2.2.2.1,z16k.1,z16k.2.1,z16k.2.2.1,z16k.2.2.2.1,z16l.1,z16l.2.1,z16l.2.2.1,z16l.2.2.2.1,z16.2.2.1,z16m.1,z16m.2.1,z16m.2.2.1,z16m.2.2.2.1,z16m.2.2.2.2.1,z16m.2.2.2.2.2))))))
def vpd:=shut vwq
theorem v0u:vpd=vwq:=vac _
instance n34n_p (a0:vbs)(a1:Int)(a2:ByteArray):ParC (vpd a0 a1 a2):=by rw [v0u];unfold vwq;(try dsimp only);exact⟨((n29n_p ..).p.bind fun _=>(var ((n62n_p _).p.bind fun _=>(vag _)) ((n24n_p _).p.bind fun _=>(var ((n62n_p _).p.bind fun _=>(vag _)) ((n41n_p ..).p.bind fun _=>(var ((n62n_p _).p.bind fun _=>(vag _)) ((n23n_p ..).p.bind fun _=>(var (vc9 ((n73n_p _).p.bind2 (fun _=>((n43n_p ..).p.bind fun _=>(var ((n34n_jp5000011 _).p.bind fun _=>(vag _)) ((n34n_jp5000011 _).p.bind fun _=>(vag _))))) (fun _=>((n43n_p ..).p.bind fun _=>(var ((n34n_jp5000011 _).p.bind fun _=>(vag _)) ((n34n_jp5000011 _).p.bind fun _=>(vag _)))))) va5) ((n34n_jp5000011 _).p.bind fun _=>(vag _))))))))))⟩
def wdp (a0:vak)(a1:ByteArray)(a2:ByteArray)(a3:Bool)(a4:Int)(k:q32T→OR):OR:=
 vqx a0 (a1,(a2,(a3,a4))) (fun y1=>
 k ((decide (y1>0)),a1,a2,a3,a4))
def v7c:=shut wdp
theorem wkr:v7c=wdp:=vac _
instance n37n_p (a0:vak)(a1:ByteArray)(a2:ByteArray)(a3:Bool)(a4:Int):ParC (v7c a0 a1 a2 a3 a4):=by rw [wkr];unfold wdp;(try dsimp only);infer_instance
def vi7 (x:q19T)(k:q19T⊕(q19T⊕q19T)→OR):OR:=
 let xh:=x.2.2.2.2
 bif (decide (x.2.2.2.1<x.2.2.1))then
 if 0≤x.2.2.2.1∧x.2.2.2.1<(x.1.length:Int)then
 v7c (rd (Ty.zero tVersion) x.1 x.2.2.2.1) xh.1 xh.2.1 xh.2.2.1 xh.2.2.2 (fun y3=>
 bif y3.1 then
 k (.inr (.inl (x.1,x.2.2.2.1,x.2.2.1,x.2.2.2.1,y3.2.1,y3.2.2.1,y3.2.2.2.1,y3.2.2.2.2)))
 else
 k (.inl (x.1,x.2.1,x.2.2.1,(IntKind.wrap .i64 (x.2.2.2.1+1)),y3.2.1,y3.2.2.1,y3.2.2.2.1,y3.2.2.2.2)))
 else none
 else
 k (.inr (.inr (x.1,x.2.1,x.2.2.1,x.2.2.2.1,xh.1,xh.2.1,xh.2.2.1,xh.2.2.2)))
instance n121n_bp0 (x:q19T):ParC (vi7 x):=by unfold vi7;(try dsimp only);infer_instance
def v47 (a0:VL)(a1:ByteArray)(a2:ByteArray)(a3:Bool)(a4:Int)(k:q52T→OR):OR:=
 vad vi7 Fuel (a0,0,(a0.length:Int),0,a1,a2,a3,a4) (Sum.elim (fun z1=>
 k (z1.2.1,z1.2.2.2.2.1,z1.2.2.2.2.2.1,z1.2.2.2.2.2.2.1,z1.2.2.2.2.2.2.2)) (fun z2=>
 k ((-1:Int),z2.2.2.2.2.1,z2.2.2.2.2.2.1,z2.2.2.2.2.2.2.1,z2.2.2.2.2.2.2.2)))
def vr9:=shut v47
theorem v82:vr9=v47:=vac _
instance n121n_p (a0:VL)(a1:ByteArray)(a2:ByteArray)(a3:Bool)(a4:Int):ParC (vr9 a0 a1 a2 a3 a4):=by rw [v82];unfold v47;(try dsimp only);infer_instance
def vvd (a0:Int)(a1:VL)(a2:VL)(k:q14T→OR):OR:=
 if 0≤a0∧a0≤(a1.length:Int)∧0<a2.length∧a1.length+a2.length≤1073741824 then
 k (a2,(insL a1 a0 a2))
 else none
def vn5:=shut vvd
theorem v97:vn5=vvd:=vac _
instance n124n_p (a0:Int)(a1:VL)(a2:VL):ParC (vn5 a0 a1 a2):=by rw [v97];unfold vvd;(try dsimp only);infer_instance
def vnv (x:q50T)(k:q50T⊕q50T→OR):OR:=
 let xh:=x.2.2.2.2
 bif (decide (x.2.2.2.1<x.2.2.1))then
 if 0≤x.2.2.2.1∧x.2.2.2.1<(x.2.1.length:Int)then
 vr9 xh ((rd (Ty.zero tWrite) x.2.1 x.2.2.2.1).1) ((rd (Ty.zero tWrite) x.2.1 x.2.2.2.1).2.1) ((rd (Ty.zero tWrite) x.2.1 x.2.2.2.1).2.2) x.1 (fun y2=>
 bif (decide (y2.1<0))then
 vn5 (xh.length:Int) xh [y2.2] (fun y3=>
 k (.inl (x.1,x.2.1,x.2.2.1,(IntKind.wrap .i64 (x.2.2.2.1+1)),y3.2)))
 else
 vn5 y2.1 xh [y2.2] (fun y4=>
 k (.inl (x.1,x.2.1,x.2.2.1,(IntKind.wrap .i64 (x.2.2.2.1+1)),y4.2))))
 else none
 else
 k (.inr (x.1,x.2.1,x.2.2.1,x.2.2.2.1,xh))
instance n36n_bp0 (x:q50T):ParC (vnv x):=by unfold vnv;(try dsimp only);infer_instance
def wdn (a0:VL)(a1:WL)(a2:Int)(k:VL→OR):OR:=
 if a0.length≤VE.maxLen then
 vad vnv Fuel (a2,a1,(a1.length:Int),0,a0) (fun z1=>
 k z1.2.2.2.2)
 else none
def v1v:=shut wdn
theorem wmb:v1v=wdn:=vac _
instance n36n_p (a0:VL)(a1:WL)(a2:Int):ParC (v1v a0 a1 a2):=by rw [wmb];unfold wdn;(try dsimp only);infer_instance
def wm9 (a0:dTxn)(a1:Int)(a2:Int)(a3:Int)(a4:Int)(a5:Bool)(a6:ByteArray)(k:q41T→OR):OR:=
 k ((a0.1==a1),a1,a2,a3,a4,a5,a6)
def vt6:=shut wm9
theorem wi1:vt6=wm9:=vac _
instance n49n_p (a0:dTxn)(a1:Int)(a2:Int)(a3:Int)(a4:Int)(a5:Bool)(a6:ByteArray):ParC (vt6 a0 a1 a2 a3 a4 a5 a6):=by rw [wi1];unfold wm9;(try dsimp only);infer_instance
def vkd (x:q11T)(k:q11T⊕(q11T⊕q11T)→OR):OR:=
 let xh:=x.2.2.2.2
 bif (decide (x.2.2.2.1<x.2.2.1))then
 if 0≤x.2.2.2.1∧x.2.2.2.1<(x.1.length:Int)then
 vt6 (rd (Ty.zero tTxn) x.1 x.2.2.2.1) xh.1 xh.2.1 xh.2.2.1 xh.2.2.2.1 xh.2.2.2.2.1 xh.2.2.2.2.2 (fun y3=>
 let y3h:=y3.2.2.2.2
 bif y3.1 then
 k (.inr (.inl (x.1,x.2.2.2.1,x.2.2.1,x.2.2.2.1,y3.2.1,y3.2.2.1,y3.2.2.2.1,y3h.1,y3h.2.1,y3h.2.2)))
 else
 k (.inl (x.1,x.2.1,x.2.2.1,(IntKind.wrap .i64 (x.2.2.2.1+1)),y3.2.1,y3.2.2.1,y3.2.2.2.1,y3h.1,y3h.2.1,y3h.2.2)))
 else none
 else
 k (.inr (.inr (x.1,x.2.1,x.2.2.1,x.2.2.2.1,xh.1,xh.2.1,xh.2.2.1,xh.2.2.2.1,xh.2.2.2.2.1,xh.2.2.2.2.2)))
instance n117n_bp0 (x:q11T):ParC (vkd x):=by unfold vkd;(try dsimp only);infer_instance
def v5f (a0:TL)(a1:Int)(a2:Int)(a3:Int)(a4:Int)(a5:Bool)(a6:ByteArray)(k:q72T→OR):OR:=
 vad vkd Fuel (a0,0,(a0.length:Int),0,a1,a2,a3,a4,a5,a6) (Sum.elim (fun z1=>
 let z1h:=z1.2.2.2.2
 k (z1.2.1,z1h.1,z1h.2.1,z1h.2.2.1,z1h.2.2.2.1,z1h.2.2.2.2.1,z1h.2.2.2.2.2)) (fun z2=>
 let z2h:=z2.2.2.2.2
 k ((-1:Int),z2h.1,z2h.2.1,z2h.2.2.1,z2h.2.2.2.1,z2h.2.2.2.2.1,z2h.2.2.2.2.2)))
def vpo:=shut v5f
theorem v8d:vpo=v5f:=vac _
instance n117n_p (a0:TL)(a1:Int)(a2:Int)(a3:Int)(a4:Int)(a5:Bool)(a6:ByteArray):ParC (vpo a0 a1 a2 a3 a4 a5 a6):=by rw [v8d];unfold v5f;(try dsimp only);infer_instance
def vgq (x:((Int×Int×TL×(List Nat)×Int×Int×Int×Int×Bool×ByteArray)⊕(Int×Int×TL×(List Nat)×Int×Int×Int×Int×Bool×ByteArray)))(k:((Int×Int×TL×(List Nat)×Int×Int×Int×Int×Bool×ByteArray)⊕(Int×Int×TL×(List Nat)×Int×Int×Int×Int×Bool×ByteArray))⊕((Int×Int×TL×(List Nat)×Int×Int×Int×Int×Bool×ByteArray)⊕(Int×Int×TL×(List Nat)×Int×Int×Int×Int×Bool×ByteArray))→OR):OR:=
 (Sum.elim (fun x=>
 let xh:=x.2.2.2.2
 bif (decide (x.2.1<(x.2.2.1.length:Int)))then
 if 0≤x.2.1∧x.2.1<(x.2.2.1.length:Int)then
 bif (hasD x.2.2.2.1 x.2.1.toNat)then
 none
 else
 vt6 (x.2.2.1.getD x.2.1.toNat (Ty.zero tTxn)) xh.1 xh.2.1 xh.2.2.1 xh.2.2.2.1 xh.2.2.2.2.1 xh.2.2.2.2.2 (fun y4=>
 let y4h:=y4.2.2.2.2
 bif (!y4.1)then
 if 0≤x.1∧x.1<(x.2.2.1.length:Int)then
 k (.inl (.inr ((IntKind.wrap .i64 (x.1+1)),(IntKind.wrap .i64 (x.2.1+1)),(x.2.2.1.set x.1.toNat (x.2.2.1.getD x.2.1.toNat (Ty.zero tTxn))),(x.2.1.toNat::(x.2.1.toNat::(delD x.1.toNat x.2.2.2.1))),y4.2.1,y4.2.2.1,y4.2.2.2.1,y4h.1,y4h.2.1,y4h.2.2)))
 else none
 else
 k (.inl (.inl (x.1,(IntKind.wrap .i64 (x.2.1+1)),x.2.2.1,x.2.2.2.1,y4.2.1,y4.2.2.1,y4.2.2.2.1,y4h.1,y4h.2.1,y4h.2.2))))
 else none
 else
 k (.inr (.inl (x.1,x.2.1,x.2.2.1,x.2.2.2.1,xh.1,xh.2.1,xh.2.2.1,xh.2.2.2.1,xh.2.2.2.2.1,xh.2.2.2.2.2)))) (fun x=>
 let xh:=x.2.2.2.2
 bif (decide (x.2.1<(x.2.2.1.length:Int)))then
 if 0≤x.2.1∧x.2.1<(x.2.2.1.length:Int)then
 bif (hasD x.2.2.2.1 x.2.1.toNat)then
 none
 else
 vt6 (x.2.2.1.getD x.2.1.toNat (Ty.zero tTxn)) xh.1 xh.2.1 xh.2.2.1 xh.2.2.2.1 xh.2.2.2.2.1 xh.2.2.2.2.2 (fun y5=>
 let y5h:=y5.2.2.2.2
 bif (!y5.1)then
 if 0≤x.1∧x.1<(x.2.2.1.length:Int)then
 k (.inl (.inr ((IntKind.wrap .i64 (x.1+1)),(IntKind.wrap .i64 (x.2.1+1)),(x.2.2.1.set x.1.toNat (x.2.2.1.getD x.2.1.toNat (Ty.zero tTxn))),(x.2.1.toNat::(x.2.1.toNat::(delD x.1.toNat x.2.2.2.1))),y5.2.1,y5.2.2.1,y5.2.2.2.1,y5h.1,y5h.2.1,y5h.2.2)))
 else none
 else
 k (.inl (.inr (x.1,(IntKind.wrap .i64 (x.2.1+1)),x.2.2.1,x.2.2.2.1,y5.2.1,y5.2.2.1,y5.2.2.2.1,y5h.1,y5h.2.1,y5h.2.2))))
 else none
 else
 k (.inr (.inr (x.1,x.2.1,x.2.2.1,x.2.2.2.1,xh.1,xh.2.1,xh.2.2.1,xh.2.2.2.1,xh.2.2.2.2.1,xh.2.2.2.2.2))))) x
instance n102n_bp0 (x:((Int×Int×TL×(List Nat)×Int×Int×Int×Int×Bool×ByteArray)⊕(Int×Int×TL×(List Nat)×Int×Int×Int×Int×Bool×ByteArray))):ParC (vgq x):=by
 unfold vgq
 rcases x with x|x
 ·simp only [Sum.elim_inl]
  infer_instance
 ·simp only [Sum.elim_inr]
  (try dsimp only)
  infer_instance
def v27 (a0:TL)(a1:Int)(a2:Int)(a3:Int)(a4:Int)(a5:Bool)(a6:ByteArray)(k:(q7T⊕q65T)→OR):OR:=
 vpo a0 a1 a2 a3 a4 a5 a6 (fun y1=>
 let y1h:=y1.2.2.2.2
 bif (y1.1==(-1:Int))then
 k (.inl (a0,y1.2.1,y1.2.2.1,y1.2.2.2.1,y1h.1,y1h.2.1,y1h.2.2))
 else
 vad vgq Fuel (.inl (y1.1,(IntKind.wrap .i64 (y1.1+1)),a0,([]:List Nat),y1.2.1,y1.2.2.1,y1.2.2.2.1,y1h.1,y1h.2.1,y1h.2.2)) (Sum.elim (fun z2=>
 let z2h:=z2.2.2.2.2
 if 0≤z2.1∧z2.1≤(z2.2.2.1.length:Int)then
 if 0≤z2.1∧z2.1≤((z2.2.2.1.take z2.1.toNat++List.replicate (z2.2.2.1.length-z2.1.toNat) (Ty.zero tTxn)).length:Int)then
 bif (geD z2.1.toNat (loD z2.1.toNat z2.2.2.2.1))then
 k (.inr (z2h.1,z2h.2.1,z2h.2.2.1,z2h.2.2.2.1,z2h.2.2.2.2.1,z2h.2.2.2.2.2,((z2.2.2.1.take z2.1.toNat++List.replicate (z2.2.2.1.length-z2.1.toNat) (Ty.zero tTxn)).take z2.1.toNat)))
 else
 none
 else none
 else none) (fun z3=>
 let z3h:=z3.2.2.2.2
 if 0≤z3.1∧z3.1≤(z3.2.2.1.length:Int)then
 if 0≤z3.1∧z3.1≤((z3.2.2.1.take z3.1.toNat++List.replicate (z3.2.2.1.length-z3.1.toNat) (Ty.zero tTxn)).length:Int)then
 bif (geD z3.1.toNat (loD z3.1.toNat z3.2.2.2.1))then
 k (.inr (z3h.1,z3h.2.1,z3h.2.2.1,z3h.2.2.2.1,z3h.2.2.2.2.1,z3h.2.2.2.2.2,((z3.2.2.1.take z3.1.toNat++List.replicate (z3.2.2.1.length-z3.1.toNat) (Ty.zero tTxn)).take z3.1.toNat)))
 else
 none
 else none
 else none)))
def vs4:=shut v27
theorem wa5:vs4=v27:=vac _
instance n102n_p (a0:TL)(a1:Int)(a2:Int)(a3:Int)(a4:Int)(a5:Bool)(a6:ByteArray):ParC (vs4 a0 a1 a2 a3 a4 a5 a6):=by rw [wa5];unfold v27;(try dsimp only);exact⟨((n117n_p ..).p.bind fun _=>(var (vag _) ((vew (fun x=>(n102n_bp0 x).p) _ _).bind2 (fun _=>(vc9 (vc9 (var (vag _) va5) va5) va5)) (fun _=>(vc9 (vc9 (var (vag _) va5) va5) va5)))))⟩
def vnf (x:q75T)(k:q75T⊕q75T→OR):OR:=
 let xh:=x.2.2.2.2
 let xi:=xh.2.2.2.2
 let xj:=xi.2.2.2.2
 let xk:=xj.2.2.2.2
 let xl:=xk.2.2.2.2
 let xm:=xl.2.2.2.2
 let t0:=(xk.2.2.1.getD x.2.1.toNat (Ty.zero tTxn))
 bif (decide (x.2.1<x.1))then
 if 0≤x.2.1∧x.2.1<(xk.2.2.1.length:Int)then
 bif t0.2.2.2.2.2.2.1 then
 if 0≤x.2.1∧x.2.1<(xk.2.2.1.length:Int)then
 k (.inl (x.1,(IntKind.wrap .i64 (x.2.1+1)),x.2.2.1,x.2.2.2.1,xh.1,xh.2.1,xh.2.2.1,xh.2.2.2.1,xi.1,xi.2.1,xi.2.2.1,xi.2.2.2.1,xj.1,xj.2.1,xj.2.2.1,xj.2.2.2.1,xk.1,xk.2.1,(xk.2.2.1.set x.2.1.toNat (t0.1,(t0.2.1,(t0.2.2.1,(t0.2.2.2.1,(t0.2.2.2.2.1,(t0.2.2.2.2.2.1,(true,t0.2.2.2.2.2.2.2)))))))),xk.2.2.2.1,xl.1,xl.2.1,xl.2.2.1,xl.2.2.2.1,xm.1,xm.2))
 else none
 else
 vio t0 (xj.1,(xj.2.1,(xj.2.2.1,(xj.2.2.2.1,(xm.1,(xm.2,(xk.1,xk.2.1))))))) (fun y6=>
 if 0≤x.2.1∧x.2.1<(xk.2.2.1.length:Int)then
 k (.inl (x.1,(IntKind.wrap .i64 (x.2.1+1)),x.2.2.1,x.2.2.2.1,xh.1,xh.2.1,xh.2.2.1,xh.2.2.2.1,xi.1,xi.2.1,xi.2.2.1,xi.2.2.2.1,xj.1,xj.2.1,xj.2.2.1,xj.2.2.2.1,xk.1,xk.2.1,(xk.2.2.1.set x.2.1.toNat (t0.1,(t0.2.1,(t0.2.2.1,(t0.2.2.2.1,(t0.2.2.2.2.1,(t0.2.2.2.2.2.1,(y6,t0.2.2.2.2.2.2.2)))))))),xk.2.2.2.1,xl.1,xl.2.1,xl.2.2.1,xl.2.2.2.1,xm.1,xm.2))
 else none)
 else none
 else
 k (.inr (x.1,x.2.1,x.2.2.1,x.2.2.2.1,xh.1,xh.2.1,xh.2.2.1,xh.2.2.2.1,xi.1,xi.2.1,xi.2.2.1,xi.2.2.2.1,xj.1,xj.2.1,xj.2.2.1,xj.2.2.2.1,xk.1,xk.2.1,xk.2.2.1,xk.2.2.2.1,xl.1,xl.2.1,xl.2.2.1,xl.2.2.2.1,xm.1,xm.2))
instance n48n_bp0 (x:q75T):ParC (vnf x):=by unfold vnf;(try dsimp only);infer_instance
def vgw (x:q67T)(k:q68T→OR):OR:=
 let xh:=x.2.2.2.2
 let xi:=xh.2.2.2.2
 let xj:=xi.2.2.2.2
 let xk:=xj.2.2.2.2
 let xl:=xk.2.2.2.2
 vs4 xl.2.1 x.1 x.2.1 x.2.2.1 x.2.2.2.1 xh.1 xh.2.1 (Sum.elim (fun y9=>
 vad vnf Fuel ((y9.1.length:Int),0,y9.2.1,y9.2.2.1,y9.2.2.2.1,y9.2.2.2.2.1,y9.2.2.2.2.2.1,y9.2.2.2.2.2.2,xh.2.2.1,xh.2.2.2.1,xi.1,xi.2.1,xi.2.2.1,xi.2.2.2.1,xj.1,xj.2.1,xj.2.2.1,xj.2.2.2.1,y9.1,xk.1,xk.2.1,xk.2.2.1,xk.2.2.2.1,xl.1,xl.2.2.1,xl.2.2.2) (fun z10=>
 let z10h:=z10.2.2.2.2
 let z10i:=z10h.2.2.2.2
 let z10j:=z10i.2.2.2.2
 let z10k:=z10j.2.2.2.2
 let z10l:=z10k.2.2.2.2
 if z10l.2.2.2.1.length+[(z10j.1,(z10j.2.1,(z10j.2.2.1,(z10j.2.2.2.1,(z10l.2.2.2.2.1,(z10l.2.2.2.2.2,(z10k.1,z10k.2.1)))))))].length≤VE.maxLen then
 k (z10.2.2.1,z10.2.2.2.1,z10h.1,z10h.2.1,z10h.2.2.1,z10h.2.2.2.1,z10i.2.2.1,(if(IntKind.wrap .i64 (z10.2.2.1+(1:Int)))>z10i.2.2.2.1 then(IntKind.wrap .i64 (z10.2.2.1+(1:Int)))else z10i.2.2.2.1),z10i.2.2.1,(if(IntKind.wrap .i64 (z10.2.2.1+(1:Int)))>z10i.2.2.2.1 then(IntKind.wrap .i64 (z10.2.2.1+(1:Int)))else z10i.2.2.2.1),z10j.1,z10j.2.1,z10j.2.2.1,z10j.2.2.2.1,z10k.1,z10k.2.1,z10l.2.2.1,(z10l.2.2.2.1++[(z10j.1,(z10j.2.1,(z10j.2.2.1,(z10j.2.2.2.1,(z10l.2.2.2.2.1,(z10l.2.2.2.2.2,(z10k.1,z10k.2.1)))))))]),z10k.2.2.1)
 else none)) (fun y11=>
 vad vnf Fuel ((y11.2.2.2.2.2.2.length:Int),0,y11.1,y11.2.1,y11.2.2.1,y11.2.2.2.1,y11.2.2.2.2.1,y11.2.2.2.2.2.1,xh.2.2.1,xh.2.2.2.1,xi.1,xi.2.1,xi.2.2.1,xi.2.2.2.1,xj.1,xj.2.1,xj.2.2.1,xj.2.2.2.1,y11.2.2.2.2.2.2,xk.1,xk.2.1,xk.2.2.1,xk.2.2.2.1,xl.1,xl.2.2.1,xl.2.2.2) (fun z12=>
 let z12h:=z12.2.2.2.2
 let z12i:=z12h.2.2.2.2
 let z12j:=z12i.2.2.2.2
 let z12k:=z12j.2.2.2.2
 let z12l:=z12k.2.2.2.2
 if z12l.2.2.2.1.length+[(z12j.1,(z12j.2.1,(z12j.2.2.1,(z12j.2.2.2.1,(z12l.2.2.2.2.1,(z12l.2.2.2.2.2,(z12k.1,z12k.2.1)))))))].length≤VE.maxLen then
 k (z12.2.2.1,z12.2.2.2.1,z12h.1,z12h.2.1,z12h.2.2.1,z12h.2.2.2.1,z12i.2.2.1,(if(IntKind.wrap .i64 (z12.2.2.1+(1:Int)))>z12i.2.2.2.1 then(IntKind.wrap .i64 (z12.2.2.1+(1:Int)))else z12i.2.2.2.1),z12i.2.2.1,(if(IntKind.wrap .i64 (z12.2.2.1+(1:Int)))>z12i.2.2.2.1 then(IntKind.wrap .i64 (z12.2.2.1+(1:Int)))else z12i.2.2.2.1),z12j.1,z12j.2.1,z12j.2.2.1,z12j.2.2.2.1,z12k.1,z12k.2.1,z12l.2.2.1,(z12l.2.2.2.1++[(z12j.1,(z12j.2.1,(z12j.2.2.1,(z12j.2.2.2.1,(z12l.2.2.2.2.1,(z12l.2.2.2.2.2,(z12k.1,z12k.2.1)))))))]),z12k.2.2.1)
 else none)))
instance n48n_jp5000007 (x:q67T):ParC (vgw x):=by unfold vgw;(try dsimp only);infer_instance
def vd7 (x:q13T)(k:q68T→OR):OR:=
 let xh:=x.2.2.2.2
 let xi:=xh.2.2.2.2
 let xj:=xi.2.2.2.2
 let xk:=xj.2.2.2.2
 let xl:=xk.2.2.2.2
 v1v x.1 xi.2.2.1 (IntKind.wrap .i64 (xj.2.2.2.1+1)) (fun y7=>
 vgw (xh.2.1,xh.2.2.1,xh.2.2.2.1,xi.1,xi.2.2.2.1,xj.1,xj.2.1,xj.2.2.1,(IntKind.wrap .i64 (xj.2.2.2.1+1)),xk.1,xk.2.1,xk.2.2.1,xk.2.2.2.1,xl.1,xl.2.1,xl.2.2.1,([]:List vak),([]:List dTxn),([]:List dTxn),y7,xl.2.2.2.2.1,xl.2.2.2.2.2.1,xl.2.2.2.2.2.2.1,xl.2.2.2.2.2.2.2) (fun z8=>
 let z8h:=z8.2.2.2.2
 let z8i:=z8h.2.2.2.2
 let z8j:=z8i.2.2.2.2
 k (z8.1,z8.2.1,z8.2.2.1,z8.2.2.2.1,z8h.1,z8h.2.1,z8h.2.2.1,z8h.2.2.2.1,z8i.1,z8i.2.1,z8i.2.2.1,z8i.2.2.2.1,z8j.1,z8j.2.1,z8j.2.2.1,z8j.2.2.2.1,z8j.2.2.2.2.1,z8j.2.2.2.2.2.1,z8j.2.2.2.2.2.2)))
instance n48n_jp5000005 (x:q13T):ParC (vd7 x):=by unfold vd7;(try dsimp only);infer_instance
def we6 (a0:vh8)(a1:dTxn)(k:q57T→OR):OR:=
 vqj a0 (fun y1=>
 vhc a1 (fun y2=>
 bif a1.2.2.2.2.2.2.1 then
 vd7 (a0.1,a0.2.1,a0.2.2.1,a0.2.2.2.1,a0.2.2.2.2,a1.1,a1.2.1,a1.2.2.1,a1.2.2.2.1,a1.2.2.2.2.1,a1.2.2.2.2.2.1,a1.2.2.2.2.2.2.1,a1.2.2.2.2.2.2.2,0,0,y1.1,y1.2.1,y2.1,3,y2.2.2.1,(IntKind.wrap .i64 (a0.2.2.2.1+1)),true,(⟨#[]⟩:ByteArray),y1.2.2.1,y1.2.2.2.1,y1.2.2.2.2,y2.2.2.2.2.2.2.1,y2.2.2.2.2.2.2.2) (fun z3=>
 let z3h:=z3.2.2.2.2
 k (z3h.2.2.1,z3h.2.2.2.1,z3h.2.2.2.2.2.2.2.2.2.2.2.2.1,z3h.2.2.2.2.2.2.2.2.2.2.2.2.2.1,z3h.2.2.2.2.2.2.2.2.2.2.2.2.2.2))
 else
 vte a1 a0.2.1 (fun y4=>
 vd7 (a0.1,a0.2.1,a0.2.2.1,a0.2.2.2.1,a0.2.2.2.2,a1.1,a1.2.1,a1.2.2.1,a1.2.2.2.1,a1.2.2.2.2.1,a1.2.2.2.2.2.1,a1.2.2.2.2.2.2.1,a1.2.2.2.2.2.2.2,0,0,y1.1,y1.2.1,y2.1,3,y2.2.2.1,(IntKind.wrap .i64 (a0.2.2.2.1+1)),y4,(⟨#[]⟩:ByteArray),y1.2.2.1,y1.2.2.2.1,y1.2.2.2.2,y2.2.2.2.2.2.2.1,y2.2.2.2.2.2.2.2) (fun z5=>
 let z5h:=z5.2.2.2.2
 k (z5h.2.2.1,z5h.2.2.2.1,z5h.2.2.2.2.2.2.2.2.2.2.2.2.1,z5h.2.2.2.2.2.2.2.2.2.2.2.2.2.1,z5h.2.2.2.2.2.2.2.2.2.2.2.2.2.2)))))
def v59:=shut we6
theorem wn5:v59=we6:=vac _
instance n48n_p (a0:vh8)(a1:dTxn):ParC (v59 a0 a1):=by rw [wn5];unfold we6;(try dsimp only);infer_instance
def v7y (a0:vbs)(a1:Int)(k:q76T→OR):OR:=
 v1x a0 a1 (fun y1=>
 bif (y1 != (0:Int))then
 vz9 a0 a1 (fun y2=>
 k (y2.1,y2.2.1,0,0,0,0,0,false,(⟨#[]⟩:ByteArray),(⟨#[]⟩:ByteArray),false,0,0,y1,y2.2.2.2.1,y2.2.2.2.2.1,y2.2.2.2.2.2.1,y2.2.2.2.2.2.2,([]:List vb6),([]:List vbt)))
 else
 vo9 a0 a1 (fun y3=>
 if 0≤y3∧y3<(a0.2.length:Int)then
 vv9 a0 a1 (fun y4=>
 v59 (y4.2.2.1,(y4.2.2.2.1,(y4.2.2.2.2.1,(y4.1,y4.2.1)))) (rd (Ty.zero tTxn) a0.2 y3) (fun y5=>
 if 0≤(IntKind.wrap .i64 ((y5.2.2.2.1.length:Int)-1))∧(IntKind.wrap .i64 ((y5.2.2.2.1.length:Int)-1))<(y5.2.2.2.1.length:Int)then
 vhc (y5.2.2.2.1.getD (IntKind.wrap .i64 ((y5.2.2.2.1.length:Int)-1)).toNat (Ty.zero tTxn)) (fun y6=>
 vtp (y5.2.2.1,(y5.2.2.2.1,(y5.2.2.2.2,(y5.1,y5.2.1)))) y4.2.2.2.2.2 (fun y7=>
 k (y7.1,y7.2.1,1,y6.1,y6.2.1,y6.2.2.1,y6.2.2.2.1,y6.2.2.2.2.1,y6.2.2.2.2.2.1,(⟨#[]⟩:ByteArray),false,0,0,0,y7.2.2.1,y7.2.2.2.1,y7.2.2.2.2,y4.2.2.2.2.2,y6.2.2.2.2.2.2.1,y6.2.2.2.2.2.2.2)))
 else none))
 else none))
def vr4:=shut v7y
theorem wcr:vr4=v7y:=vac _
instance n12n_p (a0:vbs)(a1:Int):ParC (vr4 a0 a1):=by rw [wcr];unfold v7y;(try dsimp only);exact⟨((n23n_p ..).p.bind fun _=>(var ((n25n_p ..).p.bind fun _=>(vag _)) ((n29n_p ..).p.bind fun _=>(vc9 ((n86n_p ..).p.bind fun _=>((n48n_p ..).p.bind fun _=>(vc9 ((n63n_p _).p.bind fun _=>((n50n_p ..).p.bind fun _=>(vag _))) va5))) va5))))⟩
end
end Go.VE
