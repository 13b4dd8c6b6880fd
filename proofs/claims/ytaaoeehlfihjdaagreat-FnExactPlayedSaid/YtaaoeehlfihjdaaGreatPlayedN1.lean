/- Native programs of the functions, written by gen.py. -/
import Derived.Test.YtaaoeehlfihjdaaGreatT0
import Derived.Test.YtaaoeehlfihjdaaGreatU29
namespace Go.VE
noncomputable section
set_option linter.unusedVariables false
set_option linter.unusedSimpArgs false
set_option maxRecDepth 100000
abbrev OR:Type:=Option Res
abbrev TL:Type:=List dTxn
abbrev VL:Type:=List vah
abbrev RL:Type:=List vbz
abbrev WL:Type:=List vb9
abbrev q0T:Type:=((List TL)×Int×(List TL)×Int×Int)
abbrev q1T:Type:=((List TL)×Int×Int×TL)
abbrev q2T:Type:=(RL×RL×Bool×Int)
abbrev q3T:Type:=(RL×WL×Bool×Int×Int)
abbrev q4T:Type:=(RL×WL×Bool×Int)
abbrev q5T:Type:=(RL×Int×RL)
abbrev q6T:Type:=(RL×Int×Int×Int)
abbrev q7T:Type:=(TL×TL×Bool×Int)
abbrev q8T:Type:=(TL×Bool×Int×Int×Int×Int×Int×RL×WL×Bool×ByteArray)
abbrev q9T:Type:=(TL×Int×TL)
abbrev q10T:Type:=(TL×Int×Bool×TL×Int×Int)
abbrev q11T:Type:=(TL×Int×Int×TL)
abbrev q12T:Type:=(TL×Int×Int×Int×ByteArray)
abbrev q13T:Type:=(TL×Int×Int×Int×Int×Bool×ByteArray)
abbrev q14T:Type:=(TL×Int×Int×Int×Int×Int×Int×Int×RL×WL×Bool×ByteArray)
abbrev q15T:Type:=(TL×Int×Int×Int×Int×Int×Int×Int×Bool×ByteArray)
abbrev q16T:Type:=(TL×Int×Int×Int×Int)
abbrev q17T:Type:=(TL×Int×Int×Int)
abbrev q18T:Type:=(VL×TL×TL×Int×Int×Bool)
abbrev q19T:Type:=(VL×TL×TL×Int×Int×Int×Int×Int×Int×RL×WL×Bool×ByteArray×Int×Int×Int×Int×Int×Int×Int×Int×RL×WL×Bool×ByteArray×VL×TL×TL)
abbrev q20T:Type:=(VL×TL×TL×Int×Int×Int×Int×Int×Int×RL×WL×Bool×ByteArray×Int×Int×Int×Int×Int×Int×Int×Int×Bool×ByteArray×VL×TL×TL×RL×WL)
abbrev q21T:Type:=(VL×TL×TL×Int×Int×Int×Int×Int×Int×RL×WL×Bool×ByteArray×Int×Int×Int×Int×Int×Int×Int×Int×Bool×ByteArray×VL×TL×TL×VL×TL×TL×RL×WL)
abbrev q22T:Type:=(VL×VL×Bool×Int)
abbrev q23T:Type:=(VL×VL)
abbrev q24T:Type:=(VL×Bool×VL×Int×Int)
abbrev q25T:Type:=(VL×Bool×Int×ByteArray×ByteArray×Bool×Int)
abbrev q26T:Type:=(VL×ByteArray×Int×Int×VL×Int×Int)
abbrev q27T:Type:=(VL×ByteArray×Int×Int×Int)
abbrev q28T:Type:=(VL×Int×VL×Int×Int×VL)
abbrev q29T:Type:=(VL×Int×VL×Int×Int×Bool×ByteArray×ByteArray×Bool×Int×VL)
abbrev q30T:Type:=(VL×Int×VL)
abbrev q31T:Type:=(VL×Int×Int×VL)
abbrev q32T:Type:=(VL×Int×Int×Bool×VL)
abbrev q33T:Type:=(VL×Int×Int×Int×ByteArray×ByteArray×Bool×Int)
abbrev q34T:Type:=(VL×Int×Int×Int)
abbrev q35T:Type:=(WL×WL×Bool×Int)
abbrev q36T:Type:=(WL×Bool×RL×Int×Int×WL×Int×Int×ByteArray×ByteArray)
abbrev q37T:Type:=(WL×Bool×RL×Int×Int)
abbrev q38T:Type:=(WL×Bool×WL×Int×Int)
abbrev q39T:Type:=(WL×Int×WL)
abbrev q40T:Type:=(WL×Int×Int×VL)
abbrev q41T:Type:=(WL×Int×Int×Int×VL×ByteArray×ByteArray×Bool×Int×VL)
abbrev q42T:Type:=(WL×Int×Int×Int)
abbrev q43T:Type:=(Bool×RL×Int×Int×Int×Int×Int×Int×RL×WL×Bool×ByteArray)
abbrev q44T:Type:=(Bool×TL×Int×Int×VL×TL×TL×Int×Int)
abbrev q45T:Type:=(Bool×VL×TL×TL×Int×Int×Int×Int×VL×TL×TL)
abbrev q46T:Type:=(Bool×VL×TL×TL×Int×Int×Int×Int×Int×Int×Int×RL×WL×Bool×ByteArray×ByteArray×Bool×VL×TL×TL×Int×Int×Int×Int×VL×TL×TL)
abbrev q47T:Type:=(Bool×VL×TL×TL×Int×Int×Int×Int×Int×Int×Int×RL×WL×Bool×ByteArray×ByteArray×Bool×VL×TL×TL×Int×Int×Int×Int)
abbrev q48T:Type:=(Bool×VL×TL×TL×Int×Int)
abbrev q49T:Type:=(Bool×VL×Int×Int×VL×TL×TL×Int×Int)
abbrev q50T:Type:=(Bool×Bool×VL×TL×TL×Int×Int×Int×Int×Int×Int×VL×TL×TL×VL×TL×TL)
abbrev q51T:Type:=(Bool×Bool×VL×TL×TL×Int×Int×Int×Int×Int×Int×VL×TL×TL)
abbrev q52T:Type:=(Bool×Bool×VL×TL×TL×Int×Int×Int×Int×Int×Int×Int×RL×WL×Bool×ByteArray×ByteArray×Bool×VL×TL×TL×Int×Int×Int×Int×Int×Int×VL×TL×TL×VL×TL×TL)
abbrev q53T:Type:=(Bool×Bool×Bool×VL×TL×TL×Int×Int×Int×Int×Int×Int×Int×RL×WL×Bool×ByteArray×ByteArray×Bool×VL×TL×TL×Int×Int×Int×Int×Int×Int×Int×Int×Int×Int×Int×Bool×ByteArray×ByteArray×Bool×Int×Int×Int×Int×VL×TL×TL×VL×TL×TL×RL×WL×VL×TL×TL×VL×TL×TL)
abbrev q54T:Type:=(Bool×Bool×Bool×Bool×Int×Int×Int×Int×Int×RL×WL×Bool×ByteArray×ByteArray×Bool×VL×TL×TL×Int×Int)
abbrev q55T:Type:=(Bool×Bool×Int×Int×Int×Int×Int×RL×WL×Bool×ByteArray×ByteArray×Bool×VL×TL×TL×Int×Int)
abbrev q56T:Type:=(Bool×ByteArray×ByteArray×Bool×Int)
abbrev q57T:Type:=(Bool×Int×VL×TL×TL×Int×Int×(List Int))
abbrev q58T:Type:=(Bool×Int×VL×TL×TL×Int×Int)
abbrev q59T:Type:=(Bool×Int×Int×VL×TL×TL×Int×Int×(List Int))
abbrev q60T:Type:=(Bool×Int×Int×VL×TL×TL)
abbrev q61T:Type:=(Bool×Int×Int×Int×VL×TL×TL)
abbrev q62T:Type:=(Bool×Int×Int×Int×Int×RL×WL×Bool×ByteArray)
abbrev q63T:Type:=(Bool×Int×Int×Int×Int×Bool×ByteArray)
abbrev q64T:Type:=(Bool×Int×Int×Int×Int×Int×RL×WL×Bool×ByteArray×ByteArray×Bool×VL×TL×TL×Int×Int)
abbrev q65T:Type:=(Bool×Int×Int×Int×Int×Int×RL×WL×Bool×ByteArray)
abbrev q66T:Type:=(ByteArray×VL×TL×TL×Int×Int×Int×Int×Int×Int×RL×WL×Bool×ByteArray×Int×Int×Int×Int×VL×TL×TL)
abbrev q67T:Type:=(ByteArray×VL×TL×TL×Int×Int×Int×Int×Int×Int×RL×WL×Bool×ByteArray×Int×Int×Int×Int×Int×Int×Int×Int×Bool×ByteArray×VL×TL×TL×RL×WL)
abbrev q68T:Type:=(ByteArray×ByteArray×Bool×Int)
abbrev q69T:Type:=(ByteArray×Int×VL×TL×TL×Int×Int×Int×Int×Int×Int×RL×WL×Bool×ByteArray×Int×Int×Int×Int×VL×TL×TL)
abbrev q70T:Type:=(ByteArray×Int×VL×TL×TL×Int×Int×Int×Int×Int×Int×RL×WL×Bool×ByteArray×Int×Int×Int×Int×Int×Int×Int×Int×Bool×ByteArray×VL×TL×TL×RL×WL)
abbrev q71T:Type:=(ByteArray×Int×VL×TL×TL×Int×Int×Int×Int×Int×Int×VL×TL×TL)
abbrev q72T:Type:=(ByteArray×Int×Int×VL×TL×TL×Int×Int)
abbrev q73T:Type:=(ByteArray×Int×Int×Int×VL)
abbrev q74T:Type:=(ByteArray×Int×Int×Int×Int×RL×WL×Bool×ByteArray×Int×Int×Int×Int×Int×Int×Int×Int×Bool×ByteArray×VL×TL×TL×VL×TL×TL×RL×WL)
abbrev q75T:Type:=(ByteArray×Int×Int×Int×Int×RL×WL×Bool×ByteArray×Int×Int×Int×Int×Int×Int×Int×Int×Bool×ByteArray×VL×TL×TL)
abbrev q76T:Type:=(Int×RL×WL×VL×TL×TL)
abbrev q77T:Type:=(Int×RL×WL)
abbrev q78T:Type:=(Int×TL×Int×Int)
abbrev q79T:Type:=(Int×VL×TL×TL×Int×Int×Int×Int×Int×Int×RL×WL×Bool×ByteArray×Int×Int×Int×Int×Int×Int×Int×Int×RL×WL×Bool×ByteArray×VL×TL×TL×VL×TL×TL)
abbrev q80T:Type:=(Int×VL×TL×TL×Int×Int×Int×Int×Int×Int×RL×WL×Bool×ByteArray×Int×Int×Int×Int×Int×Int×Int×Int×RL×WL×Bool×ByteArray×Int×Int×Int×Int×RL×WL×Bool×ByteArray×VL×TL×TL×VL×TL×TL)
abbrev q81T:Type:=(Int×VL×TL×TL×Int×Int×Int×Int×Int×Int×RL×WL×Bool×ByteArray×Int×Int×Int×Int×Int×Int×Int×Int×RL×WL×Bool×ByteArray×Int×Int×Int×Int×Bool×ByteArray×VL×TL×TL×VL×TL×TL×RL×WL)
abbrev q82T:Type:=(Int×VL×TL×TL)
abbrev q83T:Type:=(Int×WL×Int×Int×VL)
abbrev q84T:Type:=(Int×ByteArray×ByteArray×Bool×Int)
abbrev q85T:Type:=(Int×Int×VL×TL×TL×Int×Int×Int×Int×Int×Int×VL×TL×TL)
abbrev q86T:Type:=(Int×Int×VL×TL×TL)
abbrev q87T:Type:=(Int×Int×VL×VL)
abbrev q88T:Type:=(Int×Int×Bool×VL×TL×TL)
abbrev q89T:Type:=(Int×Int×Bool×VL×VL)
abbrev q90T:Type:=(Int×Int×Int×VL×VL)
abbrev q91T:Type:=(Int×Int×Int×Int×VL×VL)
abbrev q92T:Type:=(Int×Int×Int×Int×Bool×ByteArray×RL×WL)
abbrev q93T:Type:=(Int×Int×Int×Int×Bool×ByteArray×TL)
abbrev q94T:Type:=(Int×Int×Int×Int×Bool×ByteArray×Int×Int×Int×Int×Int×Int×Int×Int×Bool×ByteArray×VL×TL×TL×VL×TL×TL×RL×WL)
abbrev q95T:Type:=(Int×Int×Int×Int×Bool×ByteArray×Int×Int×Int×Int×Int×Int×Int×Int×Bool×ByteArray×VL×TL×TL)
abbrev q96T:Type:=(Int×Int×Int×Int×Int×RL×WL×Bool×ByteArray)
abbrev q97T:Type:=(Int×Int×Int×Int×Int×Bool×ByteArray×ByteArray×Bool×Int×Int×RL×WL×VL×TL×TL)
abbrev q98T:Type:=(Int×Int×Int×Int×Int×Bool×ByteArray)
abbrev q99T:Type:=(Int×Int×Int×Int×Int×Int×RL×WL×Bool×ByteArray)
abbrev wo2:Type:=(Int×Int×Int×Int×Int×Int×Bool×ByteArray×Int×Int×Int×Int×Int×Int×Int×Int×Bool×ByteArray×TL×VL×TL×TL×VL×TL×RL×WL)
def wjp (a0:vah)(a1:Int)(k:Int→OR):OR:=
 bif (decide ((IntKind.wrap .i64 (a1-(a0.1.size:Int)))<(0:Int)))then
 k (-1:Int)
 else
 bif (decide ((IntKind.wrap .i64 ((IntKind.wrap .i64 (a1-(a0.1.size:Int)))-(a0.2.1.size:Int)))<(0:Int)))then
 k (-1:Int)
 else
 k (IntKind.wrap .i64 ((IntKind.wrap .i64 (a1-(a0.1.size:Int)))-(a0.2.1.size:Int)))
def v65:=shut wjp
theorem wrg:v65=wjp:=vaf _
instance n78n_p (a0:vah)(a1:Int):ParC (v65 a0 a1):=by rw [wrg];unfold wjp;(try dsimp only);infer_instance
def vp2 (x:q34T)(k:q34T⊕(q34T⊕q34T)→OR):OR:=
 bif (decide (x.2.2.2<(x.1.length:Int)))then
 if 0≤x.2.2.2∧x.2.2.2<(x.1.length:Int)then
 v65 (rd (Ty.zero tVersion) x.1 x.2.2.2) x.2.1 (fun y3=>
 bif (decide (y3<0))then
 k (.inr (.inl (x.1,y3,(-1:Int),x.2.2.2)))
 else
 k (.inl (x.1,y3,x.2.2.1,(IntKind.wrap .i64 (x.2.2.2+1)))))
 else none
 else
 k (.inr (.inr (x.1,x.2.1,x.2.2.1,x.2.2.2)))
instance n79n_bp0 (x:q34T):ParC (vp2 x):=by unfold vp2;(try dsimp only);infer_instance
def wjx (a0:VL)(a1:Int)(k:Int→OR):OR:=
 bif (decide ((IntKind.wrap .i64 (a1-(a0.length:Int)))<(0:Int)))then
 k (-1:Int)
 else
 vab vp2 Fuel (a0,(IntKind.wrap .i64 (a1-(a0.length:Int))),0,0) (Sum.elim (fun z1=>
 k z1.2.2.1) (fun z2=>
 k z2.2.1))
def wet:=shut wjx
theorem wr6:wet=wjx:=vaf _
instance n79n_p (a0:VL)(a1:Int):ParC (wet a0 a1):=by rw [wr6];unfold wjx;(try dsimp only);infer_instance
def wlc (a0:vbz)(a1:Int)(k:Int→OR):OR:=
 bif (decide ((IntKind.wrap .i64 (a1-(a0.1.size:Int)))<(0:Int)))then
 k (-1:Int)
 else
 bif (decide ((IntKind.wrap .i64 ((IntKind.wrap .i64 (a1-(a0.1.size:Int)))-(a0.2.size:Int)))<(0:Int)))then
 k (-1:Int)
 else
 k (IntKind.wrap .i64 ((IntKind.wrap .i64 (a1-(a0.1.size:Int)))-(a0.2.size:Int)))
def v55:=shut wlc
theorem wrd:v55=wlc:=vaf _
instance n73n_p (a0:vbz)(a1:Int):ParC (v55 a0 a1):=by rw [wrd];unfold wlc;(try dsimp only);infer_instance
def vo6 (x:q6T)(k:q6T⊕(q6T⊕q6T)→OR):OR:=
 bif (decide (x.2.2.2<(x.1.length:Int)))then
 if 0≤x.2.2.2∧x.2.2.2<(x.1.length:Int)then
 v55 (rd (Ty.zero tRange) x.1 x.2.2.2) x.2.1 (fun y3=>
 bif (decide (y3<0))then
 k (.inr (.inl (x.1,y3,(-1:Int),x.2.2.2)))
 else
 k (.inl (x.1,y3,x.2.2.1,(IntKind.wrap .i64 (x.2.2.2+1)))))
 else none
 else
 k (.inr (.inr (x.1,x.2.1,x.2.2.1,x.2.2.2)))
instance n74n_bp0 (x:q6T):ParC (vo6 x):=by unfold vo6;(try dsimp only);infer_instance
def wl3 (a0:RL)(a1:Int)(k:Int→OR):OR:=
 bif (decide ((IntKind.wrap .i64 (a1-(a0.length:Int)))<(0:Int)))then
 k (-1:Int)
 else
 vab vo6 Fuel (a0,(IntKind.wrap .i64 (a1-(a0.length:Int))),0,0) (Sum.elim (fun z1=>
 k z1.2.2.1) (fun z2=>
 k z2.2.1))
def wdt:=shut wl3
theorem wv7:wdt=wl3:=vaf _
instance n74n_p (a0:RL)(a1:Int):ParC (wdt a0 a1):=by rw [wv7];unfold wl3;(try dsimp only);infer_instance
def wng (a0:vb9)(a1:Int)(k:Int→OR):OR:=
 bif (decide ((IntKind.wrap .i64 (a1-(a0.1.size:Int)))<(0:Int)))then
 k (-1:Int)
 else
 bif (decide ((IntKind.wrap .i64 ((IntKind.wrap .i64 (a1-(a0.1.size:Int)))-(a0.2.1.size:Int)))<(0:Int)))then
 k (-1:Int)
 else
 k (IntKind.wrap .i64 ((IntKind.wrap .i64 (a1-(a0.1.size:Int)))-(a0.2.1.size:Int)))
def v69:=shut wng
theorem wu7:v69=wng:=vaf _
instance n80n_p (a0:vb9)(a1:Int):ParC (v69 a0 a1):=by rw [wu7];unfold wng;(try dsimp only);infer_instance
def vpm (x:q42T)(k:q42T⊕(q42T⊕q42T)→OR):OR:=
 bif (decide (x.2.2.2<(x.1.length:Int)))then
 if 0≤x.2.2.2∧x.2.2.2<(x.1.length:Int)then
 v69 (rd (Ty.zero tWrite) x.1 x.2.2.2) x.2.1 (fun y3=>
 bif (decide (y3<0))then
 k (.inr (.inl (x.1,y3,(-1:Int),x.2.2.2)))
 else
 k (.inl (x.1,y3,x.2.2.1,(IntKind.wrap .i64 (x.2.2.2+1)))))
 else none
 else
 k (.inr (.inr (x.1,x.2.1,x.2.2.1,x.2.2.2)))
instance n81n_bp0 (x:q42T):ParC (vpm x):=by unfold vpm;(try dsimp only);infer_instance
def wj7 (a0:WL)(a1:Int)(k:Int→OR):OR:=
 bif (decide ((IntKind.wrap .i64 (a1-(a0.length:Int)))<(0:Int)))then
 k (-1:Int)
 else
 vab vpm Fuel (a0,(IntKind.wrap .i64 (a1-(a0.length:Int))),0,0) (Sum.elim (fun z1=>
 k z1.2.2.1) (fun z2=>
 k z2.2.1))
def wdz:=shut wj7
theorem wy0:wdz=wj7:=vaf _
instance n81n_p (a0:WL)(a1:Int):ParC (wdz a0 a1):=by rw [wy0];unfold wj7;(try dsimp only);infer_instance
def wk9 (a0:dTxn)(a1:Int)(k:Int→OR):OR:=
 wdt a0.2.2.2.2.1 a1 (fun y1=>
 bif (decide (y1<0))then
 k (-1:Int)
 else
 wdz a0.2.2.2.2.2.1 y1 (fun y2=>
 bif (decide (y2<0))then
 k (-1:Int)
 else
 bif (decide ((IntKind.wrap .i64 (y2-(a0.2.2.2.2.2.2.2.size:Int)))<(0:Int)))then
 k (-1:Int)
 else
 k (IntKind.wrap .i64 (y2-(a0.2.2.2.2.2.2.2.size:Int)))))
def vzp:=shut wk9
theorem wq3:vzp=wk9:=vaf _
instance n76n_p (a0:dTxn)(a1:Int):ParC (vzp a0 a1):=by rw [wq3];unfold wk9;(try dsimp only);infer_instance
def voh (x:q17T)(k:q17T⊕(q17T⊕q17T)→OR):OR:=
 bif (decide (x.2.2.2<(x.1.length:Int)))then
 if 0≤x.2.2.2∧x.2.2.2<(x.1.length:Int)then
 vzp (rd (Ty.zero tTxn) x.1 x.2.2.2) x.2.1 (fun y3=>
 bif (decide (y3<0))then
 k (.inr (.inl (x.1,y3,(-1:Int),x.2.2.2)))
 else
 k (.inl (x.1,y3,x.2.2.1,(IntKind.wrap .i64 (x.2.2.2+1)))))
 else none
 else
 k (.inr (.inr (x.1,x.2.1,x.2.2.1,x.2.2.2)))
instance n77n_bp0 (x:q17T):ParC (voh x):=by unfold voh;(try dsimp only);infer_instance
def wm4 (a0:TL)(a1:Int)(k:Int→OR):OR:=
 bif (decide ((IntKind.wrap .i64 (a1-(a0.length:Int)))<(0:Int)))then
 k (-1:Int)
 else
 vab voh Fuel (a0,(IntKind.wrap .i64 (a1-(a0.length:Int))),0,0) (Sum.elim (fun z1=>
 k z1.2.2.1) (fun z2=>
 k z2.2.1))
def v7c:=shut wm4
theorem wwh:v7c=wm4:=vaf _
instance n77n_p (a0:TL)(a1:Int):ParC (v7c a0 a1):=by rw [wwh];unfold wm4;(try dsimp only);infer_instance
def wkk (a0:va3)(a1:Int)(k:Int→OR):OR:=
 wet a0.1 a1 (fun y1=>
 bif (decide (y1<0))then
 k (-1:Int)
 else
 v7c a0.2.1 y1 (fun y2=>
 bif (decide (y2<0))then
 k (-1:Int)
 else
 v7c a0.2.2.1 y2 (fun y3=>
 bif (decide (y3<0))then
 k (-1:Int)
 else
 k y3)))
def v79:=shut wkk
theorem ww5:v79=wkk:=vaf _
instance n72n_p (a0:va3)(a1:Int):ParC (v79 a0 a1):=by rw [ww5];unfold wkk;(try dsimp only);infer_instance
def wmq (a0:vcg)(a1:Int)(k:Int→OR):OR:=
 vzp a0.2.1 a1 (fun y1=>
 bif (decide (y1<0))then
 k (-1:Int)
 else
 bif (decide ((IntKind.wrap .i64 (y1-(a0.2.2.1.size:Int)))<(0:Int)))then
 k (-1:Int)
 else
 v79 a0.2.2.2.2 (IntKind.wrap .i64 (y1-(a0.2.2.1.size:Int))) (fun y2=>
 bif (decide (y2<0))then
 k (-1:Int)
 else
 k y2))
def wcw:=shut wmq
theorem ww2:wcw=wmq:=vaf _
instance n75n_p (a0:vcg)(a1:Int):ParC (wcw a0 a1):=by rw [ww2];unfold wmq;(try dsimp only);infer_instance
def wt8 (a0:vah)(k:q68T→OR):OR:=
 k (a0.1,a0.2.1,a0.2.2.1,a0.2.2.2)
def v8d:=shut wt8
theorem wvz:v8d=wt8:=vaf _
instance n88n_p (a0:vah):ParC (v8d a0):=by rw [wvz];unfold wt8;(try dsimp only);infer_instance
def vp4 (x:q30T)(k:q30T⊕q30T→OR):OR:=
 bif (decide (x.2.1<(x.1.length:Int)))then
 if 0≤x.2.1∧x.2.1<(x.1.length:Int)then
 v8d (rd (Ty.zero tVersion) x.1 x.2.1) (fun y2=>
 if 0≤x.2.1∧x.2.1<(x.2.2.length:Int)then
 k (.inl (x.1,(IntKind.wrap .i64 (x.2.1+1)),(x.2.2.set x.2.1.toNat y2)))
 else none)
 else none
 else
 k (.inr (x.1,x.2.1,x.2.2))
instance n89n_bp0 (x:q30T):ParC (vp4 x):=by unfold vp4;(try dsimp only);infer_instance
def wmg (a0:VL)(k:VL→OR):OR:=
 if 0≤(a0.length:Int)∧(a0.length:Int)≤(a0.length:Int)∧(a0.length:Int)≤(VE.maxLen:Int)then
 vab vp4 Fuel (a0,0,(List.replicate (a0.length:Int).toNat (Ty.zero tVersion))) (fun z1=>
 k z1.2.2)
 else none
def v5w:=shut wmg
theorem wrw:v5w=wmg:=vaf _
instance n89n_p (a0:VL):ParC (v5w a0):=by rw [wrw];unfold wmg;(try dsimp only);infer_instance
def wsd (a0:vbz)(k:(ByteArray×ByteArray)→OR):OR:=
 k (a0.1,a0.2)
def v7a:=shut wsd
theorem wq4:v7a=wsd:=vaf _
instance n83n_p (a0:vbz):ParC (v7a a0):=by rw [wq4];unfold wsd;(try dsimp only);infer_instance
def vod (x:q5T)(k:q5T⊕q5T→OR):OR:=
 bif (decide (x.2.1<(x.1.length:Int)))then
 if 0≤x.2.1∧x.2.1<(x.1.length:Int)then
 v7a (rd (Ty.zero tRange) x.1 x.2.1) (fun y2=>
 if 0≤x.2.1∧x.2.1<(x.2.2.length:Int)then
 k (.inl (x.1,(IntKind.wrap .i64 (x.2.1+1)),(x.2.2.set x.2.1.toNat y2)))
 else none)
 else none
 else
 k (.inr (x.1,x.2.1,x.2.2))
instance n84n_bp0 (x:q5T):ParC (vod x):=by unfold vod;(try dsimp only);infer_instance
def wne (a0:RL)(k:RL→OR):OR:=
 if 0≤(a0.length:Int)∧(a0.length:Int)≤(a0.length:Int)∧(a0.length:Int)≤(VE.maxLen:Int)then
 vab vod Fuel (a0,0,(List.replicate (a0.length:Int).toNat (Ty.zero tRange))) (fun z1=>
 k z1.2.2)
 else none
def v6f:=shut wne
theorem wxr:v6f=wne:=vaf _
instance n84n_p (a0:RL):ParC (v6f a0):=by rw [wxr];unfold wne;(try dsimp only);infer_instance
def wuz (a0:vb9)(k:(ByteArray×ByteArray×Bool)→OR):OR:=
 k (a0.1,a0.2.1,a0.2.2)
def v7m:=shut wuz
theorem wqi:v7m=wuz:=vaf _
instance n90n_p (a0:vb9):ParC (v7m a0):=by rw [wqi];unfold wuz;(try dsimp only);infer_instance
def vpa (x:q39T)(k:q39T⊕q39T→OR):OR:=
 bif (decide (x.2.1<(x.1.length:Int)))then
 if 0≤x.2.1∧x.2.1<(x.1.length:Int)then
 v7m (rd (Ty.zero tWrite) x.1 x.2.1) (fun y2=>
 if 0≤x.2.1∧x.2.1<(x.2.2.length:Int)then
 k (.inl (x.1,(IntKind.wrap .i64 (x.2.1+1)),(x.2.2.set x.2.1.toNat y2)))
 else none)
 else none
 else
 k (.inr (x.1,x.2.1,x.2.2))
instance n91n_bp0 (x:q39T):ParC (vpa x):=by unfold vpa;(try dsimp only);infer_instance
def wk6 (a0:WL)(k:WL→OR):OR:=
 if 0≤(a0.length:Int)∧(a0.length:Int)≤(a0.length:Int)∧(a0.length:Int)≤(VE.maxLen:Int)then
 vab vpa Fuel (a0,0,(List.replicate (a0.length:Int).toNat (Ty.zero tWrite))) (fun z1=>
 k z1.2.2)
 else none
def v6p:=shut wk6
theorem wx6:v6p=wk6:=vaf _
instance n91n_p (a0:WL):ParC (v6p a0):=by rw [wx6];unfold wk6;(try dsimp only);infer_instance
def wmy (a0:dTxn)(k:q92T→OR):OR:=
 v6f a0.2.2.2.2.1 (fun y1=>
 v6p a0.2.2.2.2.2.1 (fun y2=>
 k (a0.1,a0.2.1,a0.2.2.1,a0.2.2.2.1,a0.2.2.2.2.2.2.1,a0.2.2.2.2.2.2.2,y1,y2)))
def vxa:=shut wmy
theorem wxe:vxa=wmy:=vaf _
instance n86n_p (a0:dTxn):ParC (vxa a0):=by rw [wxe];unfold wmy;(try dsimp only);infer_instance
def vpd (x:q9T)(k:q9T⊕q9T→OR):OR:=
 bif (decide (x.2.1<(x.1.length:Int)))then
 if 0≤x.2.1∧x.2.1<(x.1.length:Int)then
 vxa (rd (Ty.zero tTxn) x.1 x.2.1) (fun y2=>
 if 0≤x.2.1∧x.2.1<(x.2.2.length:Int)then
 k (.inl (x.1,(IntKind.wrap .i64 (x.2.1+1)),(x.2.2.set x.2.1.toNat (y2.1,(y2.2.1,(y2.2.2.1,(y2.2.2.2.1,(y2.2.2.2.2.2.2.1,(y2.2.2.2.2.2.2.2,(y2.2.2.2.2.1,y2.2.2.2.2.2.1))))))))))
 else none)
 else none
 else
 k (.inr (x.1,x.2.1,x.2.2))
instance n87n_bp0 (x:q9T):ParC (vpd x):=by unfold vpd;(try dsimp only);infer_instance
def wmd (a0:TL)(k:TL→OR):OR:=
 if 0≤(a0.length:Int)∧(a0.length:Int)≤(a0.length:Int)∧(a0.length:Int)≤(VE.maxLen:Int)then
 vab vpd Fuel (a0,0,(List.replicate (a0.length:Int).toNat (Ty.zero tTxn))) (fun z1=>
 k z1.2.2)
 else none
def v0f:=shut wmd
theorem wrk:v0f=wmd:=vaf _
instance n87n_p (a0:TL):ParC (v0f a0):=by rw [wrk];unfold wmd;(try dsimp only);infer_instance
def wnd (a0:va3)(k:q86T→OR):OR:=
 v5w a0.1 (fun y1=>
 v0f a0.2.1 (fun y2=>
 v0f a0.2.2.1 (fun y3=>
 k (a0.2.2.2.1,a0.2.2.2.2,y1,y2,y3))))
def vrl:=shut wnd
theorem wtt:vrl=wnd:=vaf _
instance n82n_p (a0:va3):ParC (vrl a0):=by rw [wtt];unfold wnd;(try dsimp only);infer_instance
def wjz (a0:vcg)(k:q97T→OR):OR:=
 vxa a0.2.1 (fun y1=>
 vrl a0.2.2.2.2 (fun y2=>
 k (a0.1,y1.1,y1.2.1,y1.2.2.1,y1.2.2.2.1,y1.2.2.2.2.1,y1.2.2.2.2.2.1,a0.2.2.1,a0.2.2.2.1,y2.1,y2.2.1,y1.2.2.2.2.2.2.1,y1.2.2.2.2.2.2.2,y2.2.2.1,y2.2.2.2.1,y2.2.2.2.2)))
def vtq:=shut wjz
theorem wtv:vtq=wjz:=vaf _
instance n85n_p (a0:vcg):ParC (vtq a0):=by rw [wtv];unfold wjz;(try dsimp only);infer_instance
def v8u (a0:Int)(a1:Int)(a2:Int)(k:Bool→OR):OR:=
 bif (decide (a0≥a1))then
 k (decide (a0≤a2))
 else
 k false
def vch:=shut v8u
theorem wgw:vch=v8u:=vaf _
instance n129n_p (a0:Int)(a1:Int)(a2:Int):ParC (vch a0 a1 a2):=by rw [wgw];unfold v8u;(try dsimp only);infer_instance
def vjw (x:(ByteArray×Bool×Int))(k:(ByteArray×Bool×Int)⊕((ByteArray×Bool×Int)⊕(ByteArray×Bool×Int))→OR):OR:=
 bif (decide (x.2.2<(x.1.size:Int)))then
 if 0≤x.2.2∧x.2.2<(x.1.size:Int)then
 bif (decide ((bt x.1 x.2.2)<(97:Int)))then
 k (.inr (.inl (x.1,false,x.2.2)))
 else
 if 0≤x.2.2∧x.2.2<(x.1.size:Int)then
 bif (decide ((bt x.1 x.2.2)>(122:Int)))then
 k (.inr (.inl (x.1,false,x.2.2)))
 else
 k (.inl (x.1,x.2.1,(IntKind.wrap .i64 (x.2.2+1))))
 else none
 else none
 else
 k (.inr (.inr (x.1,x.2.1,x.2.2)))
instance n112n_bp0 (x:(ByteArray×Bool×Int)):ParC (vjw x):=by unfold vjw;(try dsimp only);infer_instance
def wa2 (a0:ByteArray)(k:Bool→OR):OR:=
 vab vjw Fuel (a0,false,0) (Sum.elim (fun z1=>
 k z1.2.1) (fun z2=>
 vch (z2.1.size:Int) (1:Int) (3:Int) (fun y3=>
 k y3)))
def vfk:=shut wa2
theorem we1:vfk=wa2:=vaf _
instance n112n_p (a0:ByteArray):ParC (vfk a0):=by rw [we1];unfold wa2;(try dsimp only);infer_instance
def vc2 (x:q25T)(k:(q25T⊕q25T)→OR):OR:=
 let xh:=x.2.2.2.2
 let t0:=(IntKind.wrap .i64 (x.2.2.1-(1:Int)))
 bif (decide (x.2.2.1>0))then
 if 0≤t0∧t0<(x.1.length:Int)then
 bif (!((vai ((rd (Ty.zero tVersion) x.1 t0).1) x.2.2.2.1)||(vaj ((rd (Ty.zero tVersion) x.1 t0).1) x.2.2.2.1)))then
 k (.inl (x.1,false,x.2.2.1,x.2.2.2.1,xh.1,xh.2.1,xh.2.2))
 else
 if 0≤t0∧t0<(x.1.length:Int)then
 bif (vaj ((rd (Ty.zero tVersion) x.1 t0).1) x.2.2.2.1)then
 if 0≤t0∧t0<(x.1.length:Int)then
 bif (decide ((rd (Ty.zero tVersion) x.1 t0).2.2.2≥xh.2.2))then
 k (.inl (x.1,false,x.2.2.1,x.2.2.2.1,xh.1,xh.2.1,xh.2.2))
 else
 k (.inr (x.1,x.2.1,x.2.2.1,x.2.2.2.1,xh.1,xh.2.1,xh.2.2))
 else none
 else
 k (.inr (x.1,x.2.1,x.2.2.1,x.2.2.2.1,xh.1,xh.2.1,xh.2.2))
 else none
 else none
 else
 k (.inr (x.1,x.2.1,x.2.2.1,x.2.2.2.1,xh.1,xh.2.1,xh.2.2))
instance n126n_jp5000007 (x:q25T):ParC (vc2 x):=by unfold vc2;(try dsimp only);infer_instance
def vjy (x:(VL×Bool×Int))(k:(VL×Bool×Int)⊕((VL×Bool×Int)⊕(VL×Bool×Int))→OR):OR:=
 let t0:=(rd (Ty.zero tVersion) x.1 x.2.2)
 bif (decide (x.2.2<(x.1.length:Int)))then
 if 0≤x.2.2∧x.2.2<(x.1.length:Int)then
 vfk (t0.1) (fun y3=>
 bif (!y3)then
 k (.inr (.inl (x.1,false,x.2.2)))
 else
 bif (decide ((t0.2.1.size:Int)>(12:Int)))then
 k (.inr (.inl (x.1,false,x.2.2)))
 else
 bif t0.2.2.1 then
 bif (!(vaj (t0.2.1) (⟨#[]⟩:ByteArray)))then
 k (.inr (.inl (x.1,false,x.2.2)))
 else
 vch (t0.2.2.2) (1:Int) (9999:Int) (fun y4=>
 bif (!y4)then
 k (.inr (.inl (x.1,false,x.2.2)))
 else
 vc2 (x.1,x.2.1,x.2.2,t0.1,t0.2.1,t0.2.2.1,t0.2.2.2) (Sum.elim (fun z5=>
 k (.inr (.inl (z5.1,z5.2.1,z5.2.2.1)))) (fun z6=>
 k (.inl (z6.1,z6.2.1,(IntKind.wrap .i64 (z6.2.2.1+1)))))))
 else
 vch (t0.2.2.2) (1:Int) (9999:Int) (fun y7=>
 bif (!y7)then
 k (.inr (.inl (x.1,false,x.2.2)))
 else
 vc2 (x.1,x.2.1,x.2.2,t0.1,t0.2.1,t0.2.2.1,t0.2.2.2) (Sum.elim (fun z8=>
 k (.inr (.inl (z8.1,z8.2.1,z8.2.2.1)))) (fun z9=>
 k (.inl (z9.1,z9.2.1,(IntKind.wrap .i64 (z9.2.2.1+1))))))))
 else none
 else
 k (.inr (.inr (x.1,x.2.1,x.2.2)))
instance n126n_bp0 (x:(VL×Bool×Int)):ParC (vjy x):=by unfold vjy;(try dsimp only);exact⟨(vae (vbw ((n112n_p _).p.bind fun _=>(vae (vac _) (vae (vac _) (vae (vae (vac _) ((n129n_p ..).p.bind fun _=>(vae (vac _) ((n126n_jp5000007 _).p.bind2 (fun _=>(vac _)) (fun _=>(vac _)))))) ((n129n_p ..).p.bind fun _=>(vae (vac _) ((n126n_jp5000007 _).p.bind2 (fun _=>(vac _)) (fun _=>(vac _))))))))) vaw) (vac _))⟩
def wcl (a0:VL)(k:Bool→OR):OR:=
 vab vjy Fuel (a0,false,0) (Sum.elim (fun z1=>
 k z1.2.1) (fun z2=>
 k (decide ((z2.1.length:Int)≤(120:Int)))))
def vsd:=shut wcl
theorem wit:vsd=wcl:=vaf _
instance n126n_p (a0:VL):ParC (vsd a0):=by rw [wit];unfold wcl;(try dsimp only);infer_instance
def wb3 (a0:vb9)(k:Bool→OR):OR:=
 vfk a0.1 (fun y1=>
 bif y1 then
 bif (decide ((a0.2.1.size:Int)≤(12:Int)))then
 bif (!a0.2.2)then
 k true
 else
 k (vaj a0.2.1 (⟨#[]⟩:ByteArray))
 else
 k false
 else
 k false)
def vv9:=shut wb3
theorem wfc:vv9=wb3:=vaf _
instance n127n_p (a0:vb9):ParC (vv9 a0):=by rw [wfc];unfold wb3;(try dsimp only);infer_instance
def vjs (x:(WL×Bool×Int))(k:(WL×Bool×Int)⊕((WL×Bool×Int)⊕(WL×Bool×Int))→OR):OR:=
 bif (decide (x.2.2<(x.1.length:Int)))then
 if 0≤x.2.2∧x.2.2<(x.1.length:Int)then
 vv9 (rd (Ty.zero tWrite) x.1 x.2.2) (fun y3=>
 bif (!y3)then
 k (.inr (.inl (x.1,false,x.2.2)))
 else
 bif (decide (x.2.2>0))then
 if 0≤(IntKind.wrap .i64 (x.2.2-1))∧(IntKind.wrap .i64 (x.2.2-1))<(x.1.length:Int)then
 if 0≤x.2.2∧x.2.2<(x.1.length:Int)then
 bif (!(vai ((rd (Ty.zero tWrite) x.1 (IntKind.wrap .i64 (x.2.2-1))).1) ((rd (Ty.zero tWrite) x.1 x.2.2).1)))then
 k (.inr (.inl (x.1,false,x.2.2)))
 else
 k (.inl (x.1,x.2.1,(IntKind.wrap .i64 (x.2.2+1))))
 else none
 else none
 else
 k (.inl (x.1,x.2.1,(IntKind.wrap .i64 (x.2.2+1)))))
 else none
 else
 k (.inr (.inr (x.1,x.2.1,x.2.2)))
instance n128n_bp0 (x:(WL×Bool×Int)):ParC (vjs x):=by unfold vjs;(try dsimp only);infer_instance
def wak (a0:WL)(k:Bool→OR):OR:=
 vab vjs Fuel (a0,false,0) (Sum.elim (fun z1=>
 k z1.2.1) (fun z2=>
 k (decide ((z2.1.length:Int)≤(8:Int)))))
def vr8:=shut wak
theorem wfn:vr8=wak:=vaf _
instance n128n_p (a0:WL):ParC (vr8 a0):=by rw [wfn];unfold wak;(try dsimp only);infer_instance
def wad (a0:vbz)(k:Bool→OR):OR:=
 vfk a0.1 (fun y1=>
 bif y1 then
 vfk a0.2 (fun y2=>
 bif y2 then
 k ((vai a0.1 a0.2)||(vaj a0.1 a0.2))
 else
 k false)
 else
 k false)
def vwd:=shut wad
theorem wgg:vwd=wad:=vaf _
instance n118n_p (a0:vbz):ParC (vwd a0):=by rw [wgg];unfold wad;(try dsimp only);infer_instance
def vb3 (x:q62T)(k:q62T→OR):OR:=
 let xh:=x.2.2.2.2
 bif (x.2.2.1 != (1:Int))then
 k (true,x.2.1,x.2.2.1,x.2.2.2.1,xh.1,xh.2.1,xh.2.2.1,xh.2.2.2.1,xh.2.2.2.2)
 else
 k ((!xh.2.2.2.1),x.2.1,x.2.2.1,x.2.2.2.1,xh.1,xh.2.1,xh.2.2.1,xh.2.2.2.1,xh.2.2.2.2)
instance n125n_jp5000012 (x:q62T):ParC (vb3 x):=by unfold vb3;(try dsimp only);infer_instance
def vb6 (x:q62T)(k:q62T→OR):OR:=
 let xh:=x.2.2.2.2
 let xi:=xh.2.2.2.2
 let t0:=(x.1,x.2.1,x.2.2.1,x.2.2.2.1,xh.1,xh.2.1,xh.2.2.1,xh.2.2.2.1,xi)
 let t1:=(false,x.2.1,x.2.2.1,x.2.2.2.1,xh.1,xh.2.1,xh.2.2.1,xh.2.2.2.1,xi)
 bif (x.2.2.1==(2:Int))then
 vfk xi (fun y14=>
 bif (!y14)then
 k t1
 else
 bif (x.2.2.1 != (2:Int))then
 bif (!(vaj xi (⟨#[]⟩:ByteArray)))then
 k t1
 else
 vb3 t0 (fun z15=>
 let z15h:=z15.2.2.2.2
 k (z15.1,z15.2.1,z15.2.2.1,z15.2.2.2.1,z15h.1,z15h.2.1,z15h.2.2.1,z15h.2.2.2.1,z15h.2.2.2.2))
 else
 vb3 t0 (fun z16=>
 let z16h:=z16.2.2.2.2
 k (z16.1,z16.2.1,z16.2.2.1,z16.2.2.2.1,z16h.1,z16h.2.1,z16h.2.2.1,z16h.2.2.2.1,z16h.2.2.2.2)))
 else
 bif (x.2.2.1 != (2:Int))then
 bif (!(vaj xi (⟨#[]⟩:ByteArray)))then
 k t1
 else
 vb3 t0 (fun z17=>
 let z17h:=z17.2.2.2.2
 k (z17.1,z17.2.1,z17.2.2.1,z17.2.2.2.1,z17h.1,z17h.2.1,z17h.2.2.1,z17h.2.2.2.1,z17h.2.2.2.2))
 else
 vb3 t0 (fun z18=>
 let z18h:=z18.2.2.2.2
 k (z18.1,z18.2.1,z18.2.2.1,z18.2.2.2.1,z18h.1,z18h.2.1,z18h.2.2.1,z18h.2.2.2.1,z18h.2.2.2.2))
instance n125n_jp5000010 (x:q62T):ParC (vb6 x):=by unfold vb6;(try dsimp only);exact⟨(vae ((n112n_p _).p.bind fun _=>(vae (vac _) (vae (vae (vac _) ((n125n_jp5000012 _).p.bind fun _=>(vac _))) ((n125n_jp5000012 _).p.bind fun _=>(vac _))))) (vae (vae (vac _) ((n125n_jp5000012 _).p.bind fun _=>(vac _))) ((n125n_jp5000012 _).p.bind fun _=>(vac _))))⟩
def vj7 (x:q65T)(k:q65T⊕(q65T⊕q65T)→OR):OR:=
 let xh:=x.2.2.2.2
 let xi:=xh.2.2.2.2
 bif (decide (x.2.1<(xh.2.2.1.length:Int)))then
 if 0≤x.2.1∧x.2.1<(xh.2.2.1.length:Int)then
 vwd (rd (Ty.zero tRange) xh.2.2.1 x.2.1) (fun y6=>
 bif (!y6)then
 k (.inr (.inl (false,x.2.1,x.2.2.1,x.2.2.2.1,xh.1,xh.2.1,xh.2.2.1,xh.2.2.2.1,xi.1,xi.2)))
 else
 k (.inl (x.1,(IntKind.wrap .i64 (x.2.1+1)),x.2.2.1,x.2.2.2.1,xh.1,xh.2.1,xh.2.2.1,xh.2.2.2.1,xi.1,xi.2)))
 else none
 else
 k (.inr (.inr (x.1,x.2.1,x.2.2.1,x.2.2.2.1,xh.1,xh.2.1,xh.2.2.1,xh.2.2.2.1,xi.1,xi.2)))
instance n125n_bp0 (x:q65T):ParC (vj7 x):=by unfold vj7;(try dsimp only);infer_instance
def vdv (x:q62T)(k:q62T→OR):OR:=
 let xh:=x.2.2.2.2
 vab vj7 Fuel (x.1,0,x.2.1,x.2.2.1,x.2.2.2.1,xh.1,xh.2.1,xh.2.2.1,xh.2.2.2.1,xh.2.2.2.2) (Sum.elim (fun z7=>
 let z7h:=z7.2.2.2.2
 k (z7.1,z7.2.2.1,z7.2.2.2.1,z7h.1,z7h.2.1,z7h.2.2.1,z7h.2.2.2.1,z7h.2.2.2.2.1,z7h.2.2.2.2.2)) (fun z8=>
 let z8h:=z8.2.2.2.2
 let z8i:=z8h.2.2.2.2
 bif (z8.2.2.2.1==(3:Int))then
 vch z8h.2.1 (IntKind.wrap .i64 (z8h.1+1)) (9999:Int) (fun y9=>
 bif (!y9)then
 k (false,z8.2.2.1,z8.2.2.2.1,z8h.1,z8h.2.1,z8h.2.2.1,z8h.2.2.2.1,z8i.1,z8i.2)
 else
 bif (z8.2.2.2.1 != (3:Int))then
 bif (z8h.2.1 != (0:Int))then
 k (false,z8.2.2.1,z8.2.2.2.1,z8h.1,z8h.2.1,z8h.2.2.1,z8h.2.2.2.1,z8i.1,z8i.2)
 else
 vb6 (z8.1,z8.2.2.1,z8.2.2.2.1,z8h.1,z8h.2.1,z8h.2.2.1,z8h.2.2.2.1,z8i.1,z8i.2) (fun z10=>
 let z10h:=z10.2.2.2.2
 k (z10.1,z10.2.1,z10.2.2.1,z10.2.2.2.1,z10h.1,z10h.2.1,z10h.2.2.1,z10h.2.2.2.1,z10h.2.2.2.2))
 else
 vb6 (z8.1,z8.2.2.1,z8.2.2.2.1,z8h.1,z8h.2.1,z8h.2.2.1,z8h.2.2.2.1,z8i.1,z8i.2) (fun z11=>
 let z11h:=z11.2.2.2.2
 k (z11.1,z11.2.1,z11.2.2.1,z11.2.2.2.1,z11h.1,z11h.2.1,z11h.2.2.1,z11h.2.2.2.1,z11h.2.2.2.2)))
 else
 bif (z8.2.2.2.1 != (3:Int))then
 bif (z8h.2.1 != (0:Int))then
 k (false,z8.2.2.1,z8.2.2.2.1,z8h.1,z8h.2.1,z8h.2.2.1,z8h.2.2.2.1,z8i.1,z8i.2)
 else
 vb6 (z8.1,z8.2.2.1,z8.2.2.2.1,z8h.1,z8h.2.1,z8h.2.2.1,z8h.2.2.2.1,z8i.1,z8i.2) (fun z12=>
 let z12h:=z12.2.2.2.2
 k (z12.1,z12.2.1,z12.2.2.1,z12.2.2.2.1,z12h.1,z12h.2.1,z12h.2.2.1,z12h.2.2.2.1,z12h.2.2.2.2))
 else
 vb6 (z8.1,z8.2.2.1,z8.2.2.2.1,z8h.1,z8h.2.1,z8h.2.2.1,z8h.2.2.2.1,z8i.1,z8i.2) (fun z13=>
 let z13h:=z13.2.2.2.2
 k (z13.1,z13.2.1,z13.2.2.1,z13.2.2.2.1,z13h.1,z13h.2.1,z13h.2.2.1,z13h.2.2.2.1,z13h.2.2.2.2))))
instance n125n_jp5000003 (x:q62T):ParC (vdv x):=by unfold vdv;(try dsimp only);exact⟨((vcq (fun x=>(n125n_bp0 x).p) _ _).bind2 (fun _=>(vac _)) (fun _=>(vae ((n129n_p ..).p.bind fun _=>(vae (vac _) (vae (vae (vac _) ((n125n_jp5000010 _).p.bind fun _=>(vac _))) ((n125n_jp5000010 _).p.bind fun _=>(vac _))))) (vae (vae (vac _) ((n125n_jp5000010 _).p.bind fun _=>(vac _))) ((n125n_jp5000010 _).p.bind fun _=>(vac _))))))⟩
def wch (a0:dTxn)(k:Bool→OR):OR:=
 vch a0.1 (1:Int) (9999:Int) (fun y1=>
 bif (!y1)then
 k false
 else
 vch a0.2.1 (1:Int) (3:Int) (fun y2=>
 bif (!y2)then
 k false
 else
 vch a0.2.2.1 (0:Int) (9999:Int) (fun y3=>
 bif (!y3)then
 k false
 else
 bif (decide ((a0.2.2.2.2.1.length:Int)>(8:Int)))then
 k false
 else
 vr8 a0.2.2.2.2.2.1 (fun y4=>
 bif (!y4)then
 k false
 else
 vdv (false,a0.1,a0.2.1,a0.2.2.1,a0.2.2.2.1,a0.2.2.2.2.1,a0.2.2.2.2.2.1,a0.2.2.2.2.2.2.1,a0.2.2.2.2.2.2.2) (fun z5=>
 k z5.1)))))
def vh5:=shut wch
theorem wg5:vh5=wch:=vaf _
instance n125n_p (a0:dTxn):ParC (vh5 a0):=by rw [wg5];unfold wch;(try dsimp only);exact⟨((n129n_p ..).p.bind fun _=>(vae (vac _) ((n129n_p ..).p.bind fun _=>(vae (vac _) ((n129n_p ..).p.bind fun _=>(vae (vac _) (vae (vac _) ((n128n_p _).p.bind fun _=>(vae (vac _) ((n125n_jp5000003 _).p.bind fun _=>(vac _)))))))))))⟩
def vj2 (x:q58T)(k:q58T⊕(q58T⊕q58T)→OR):OR:=
 let xh:=x.2.2.2.2
 bif (decide (x.2.1<(x.2.2.1.length:Int)))then
 if 0≤x.2.1∧x.2.1<(x.2.2.1.length:Int)then
 bif (decide ((rd (Ty.zero tVersion) x.2.2.1 x.2.1).2.2.2>xh.2.1))then
 k (.inr (.inl (false,x.2.1,x.2.2.1,x.2.2.2.1,xh.1,xh.2.1,xh.2.2)))
 else
 k (.inl (x.1,(IntKind.wrap .i64 (x.2.1+1)),x.2.2.1,x.2.2.2.1,xh.1,xh.2.1,xh.2.2))
 else none
 else
 k (.inr (.inr (x.1,x.2.1,x.2.2.1,x.2.2.2.1,xh.1,xh.2.1,xh.2.2)))
instance n108n_bp0 (x:q58T):ParC (vj2 x):=by unfold vj2;(try dsimp only);infer_instance
def vi4 (x:q57T)(k:q57T⊕(q57T⊕q57T)→OR):OR:=
 let xh:=x.2.2.2.2
 let t0:=(false,x.2.1,x.2.2.1,x.2.2.2.1,xh.1,xh.2.1,xh.2.2.1,xh.2.2.2)
 let t1:=(rd (Ty.zero tTxn) x.2.2.2.1 x.2.1)
 let t2:=(x.1,(IntKind.wrap .i64 (x.2.1+(1:Int))),x.2.2.1,x.2.2.2.1,xh.1,xh.2.1,xh.2.2.1,(xh.2.2.2++[t1.1]))
 let t3:=(IntKind.wrap .i64 (x.2.1-(1:Int)))
 bif (decide (x.2.1<(x.2.2.2.1.length:Int)))then
 if 0≤x.2.1∧x.2.1<(x.2.2.2.1.length:Int)then
 vh5 t1 (fun y5=>
 bif (!y5)then
 k (.inr (.inl t0))
 else
 bif (t1.2.1 != (3:Int))then
 k (.inr (.inl t0))
 else
 bif (decide (t1.2.2.2.1>xh.2.1))then
 k (.inr (.inl t0))
 else
 bif (decide (x.2.1>0))then
 if 0≤t3∧t3<(x.2.2.2.1.length:Int)then
 bif (decide ((rd (Ty.zero tTxn) x.2.2.2.1 t3).2.2.2.1≥t1.2.2.2.1))then
 k (.inr (.inl t0))
 else
 if xh.2.2.2.length+[t1.1].length≤VE.maxLen then
 k (.inl t2)
 else none
 else none
 else
 if xh.2.2.2.length+[t1.1].length≤VE.maxLen then
 k (.inl t2)
 else none)
 else none
 else
 k (.inr (.inr (x.1,x.2.1,x.2.2.1,x.2.2.2.1,xh.1,xh.2.1,xh.2.2.1,xh.2.2.2)))
instance n108n_bp2 (x:q57T):ParC (vi4 x):=by unfold vi4;(try dsimp only);infer_instance
def vj3 (x:q57T)(k:q57T⊕(q57T⊕q57T)→OR):OR:=
 let xh:=x.2.2.2.2
 let t0:=(false,x.2.1,x.2.2.1,x.2.2.2.1,xh.1,xh.2.1,xh.2.2.1,xh.2.2.2)
 let t1:=(rd (Ty.zero tTxn) xh.1 x.2.1)
 let t2:=(x.1,(IntKind.wrap .i64 (x.2.1+(1:Int))),x.2.2.1,x.2.2.2.1,xh.1,xh.2.1,xh.2.2.1,(xh.2.2.2++[t1.1]))
 let t3:=(IntKind.wrap .i64 (x.2.1-(1:Int)))
 bif (decide (x.2.1<(xh.1.length:Int)))then
 if 0≤x.2.1∧x.2.1<(xh.1.length:Int)then
 vh5 t1 (fun y6=>
 bif (!y6)then
 k (.inr (.inl t0))
 else
 bif (t1.2.1 != (2:Int))then
 k (.inr (.inl t0))
 else
 bif (decide (t1.2.2.1>xh.2.1))then
 k (.inr (.inl t0))
 else
 bif (decide (x.2.1>0))then
 if 0≤t3∧t3<(xh.1.length:Int)then
 bif (!(vai ((rd (Ty.zero tTxn) xh.1 t3).2.2.2.2.2.2.2) (t1.2.2.2.2.2.2.2)))then
 k (.inr (.inl t0))
 else
 if xh.2.2.2.length+[t1.1].length≤VE.maxLen then
 k (.inl t2)
 else none
 else none
 else
 if xh.2.2.2.length+[t1.1].length≤VE.maxLen then
 k (.inl t2)
 else none)
 else none
 else
 k (.inr (.inr (x.1,x.2.1,x.2.2.1,x.2.2.2.1,xh.1,xh.2.1,xh.2.2.1,xh.2.2.2)))
instance n108n_bp4 (x:q57T):ParC (vj3 x):=by unfold vj3;(try dsimp only);infer_instance
def vm2 (x:q59T)(k:q59T⊕(q59T⊕q59T)→OR):OR:=
 let xh:=x.2.2.2.2
 let xi:=xh.2.2.2.2
 bif (decide (x.2.2.1<x.2.1))then
 if 0≤x.2.2.1∧x.2.2.1<(xi.length:Int)then
 if 0≤x.2.1∧x.2.1<(xi.length:Int)then
 bif ((xi.getD x.2.2.1.toNat (Ty.zero (.i)))==(xi.getD x.2.1.toNat (Ty.zero (.i))))then
 k (.inr (.inl (false,x.2.1,x.2.2.1,x.2.2.2.1,xh.1,xh.2.1,xh.2.2.1,xh.2.2.2.1,xi)))
 else
 k (.inl (x.1,x.2.1,(IntKind.wrap .i64 (x.2.2.1+1)),x.2.2.2.1,xh.1,xh.2.1,xh.2.2.1,xh.2.2.2.1,xi))
 else none
 else none
 else
 k (.inr (.inr (x.1,x.2.1,x.2.2.1,x.2.2.2.1,xh.1,xh.2.1,xh.2.2.1,xh.2.2.2.1,xi)))
instance n108n_bp8 (x:q59T):ParC (vm2 x):=by unfold vm2;(try dsimp only);infer_instance
def vj1 (x:q57T)(k:q57T⊕(q57T⊕q57T)→OR):OR:=
 let xh:=x.2.2.2.2
 bif (decide (x.2.1<(xh.2.2.2.length:Int)))then
 vab vm2 Fuel (x.1,x.2.1,0,x.2.2.1,x.2.2.2.1,xh.1,xh.2.1,xh.2.2.1,xh.2.2.2) (Sum.elim (fun z7=>
 let z7h:=z7.2.2.2.2
 k (.inr (.inr (z7.1,z7.2.1,z7.2.2.2.1,z7h.1,z7h.2.1,z7h.2.2.1,z7h.2.2.2.1,z7h.2.2.2.2)))) (fun z8=>
 let z8h:=z8.2.2.2.2
 if 0≤z8.2.1∧z8.2.1<(z8h.2.2.2.2.length:Int)then
 bif (decide ((z8h.2.2.2.2.getD z8.2.1.toNat (Ty.zero (.i)))≥z8h.2.2.2.1))then
 k (.inr (.inr (false,z8.2.1,z8.2.2.2.1,z8h.1,z8h.2.1,z8h.2.2.1,z8h.2.2.2.1,z8h.2.2.2.2)))
 else
 k (.inl (z8.1,(IntKind.wrap .i64 (z8.2.1+1)),z8.2.2.2.1,z8h.1,z8h.2.1,z8h.2.2.1,z8h.2.2.2.1,z8h.2.2.2.2))
 else none))
 else
 k (.inr (.inl (x.1,x.2.1,x.2.2.1,x.2.2.2.1,xh.1,xh.2.1,xh.2.2.1,xh.2.2.2)))
instance n108n_bp6 (x:q57T):ParC (vj1 x):=by unfold vj1;(try dsimp only);infer_instance
def vds (x:q48T)(k:q48T→OR):OR:=
 vab vj2 Fuel (x.1,0,x.2.1,x.2.2.1,x.2.2.2.1,x.2.2.2.2.1,x.2.2.2.2.2) (Sum.elim (fun z9=>
 k (z9.1,z9.2.2.1,z9.2.2.2.1,z9.2.2.2.2.1,z9.2.2.2.2.2.1,z9.2.2.2.2.2.2)) (fun z10=>
 vab vi4 Fuel (z10.1,0,z10.2.2.1,z10.2.2.2.1,z10.2.2.2.2.1,z10.2.2.2.2.2.1,z10.2.2.2.2.2.2,([]:List Int)) (Sum.elim (fun z11=>
 k (z11.1,z11.2.2.1,z11.2.2.2.1,z11.2.2.2.2.1,z11.2.2.2.2.2.1,z11.2.2.2.2.2.2.1)) (fun z12=>
 vab vj3 Fuel (z12.1,0,z12.2.2.1,z12.2.2.2.1,z12.2.2.2.2.1,z12.2.2.2.2.2.1,z12.2.2.2.2.2.2.1,z12.2.2.2.2.2.2.2) (Sum.elim (fun z13=>
 k (z13.1,z13.2.2.1,z13.2.2.2.1,z13.2.2.2.2.1,z13.2.2.2.2.2.1,z13.2.2.2.2.2.2.1)) (fun z14=>
 vab vj1 Fuel (z14.1,0,z14.2.2.1,z14.2.2.2.1,z14.2.2.2.2.1,z14.2.2.2.2.2.1,z14.2.2.2.2.2.2.1,z14.2.2.2.2.2.2.2) (Sum.elim (fun z15=>
 k (true,z15.2.2.1,z15.2.2.2.1,z15.2.2.2.2.1,z15.2.2.2.2.2.1,z15.2.2.2.2.2.2.1)) (fun z16=>
 k (z16.1,z16.2.2.1,z16.2.2.2.1,z16.2.2.2.2.1,z16.2.2.2.2.2.1,z16.2.2.2.2.2.2.1)))))))))
instance n108n_jp5000003 (x:q48T):ParC (vds x):=by unfold vds;(try dsimp only);exact⟨((vcq (fun x=>(n108n_bp0 x).p) _ _).bind2 (fun _=>(vac _)) (fun _=>((vcq (fun x=>(n108n_bp2 x).p) _ _).bind2 (fun _=>(vac _)) (fun _=>((vcq (fun x=>(n108n_bp4 x).p) _ _).bind2 (fun _=>(vac _)) (fun _=>((vcq (fun x=>(n108n_bp6 x).p) _ _).bind2 (fun _=>(vac _)) (fun _=>(vac _)))))))))⟩
def wbc (a0:va3)(k:Bool→OR):OR:=
 vsd a0.1 (fun y1=>
 bif (!y1)then
 k false
 else
 bif (decide ((a0.2.1.length:Int)>(12:Int)))then
 k false
 else
 bif (decide ((a0.2.2.1.length:Int)>(3:Int)))then
 k false
 else
 vch a0.2.2.2.1 (0:Int) (9999:Int) (fun y2=>
 bif (!y2)then
 k false
 else
 vch a0.2.2.2.2 (1:Int) (9999:Int) (fun y3=>
 bif (!y3)then
 k false
 else
 vds (false,a0.1,a0.2.1,a0.2.2.1,a0.2.2.2.1,a0.2.2.2.2) (fun z4=>
 k z4.1))))
def vir:=shut wbc
theorem wh8:vir=wbc:=vaf _
instance n108n_p (a0:va3):ParC (vir a0):=by rw [wh8];unfold wbc;(try dsimp only);infer_instance
def wai (a0:dTxn)(k:q92T→OR):OR:=
 if([]:List vbz).length+a0.2.2.2.2.1.length≤VE.maxLen then
 if([]:List vb9).length+a0.2.2.2.2.2.1.length≤VE.maxLen then
 k (a0.1,a0.2.1,a0.2.2.1,a0.2.2.2.1,a0.2.2.2.2.2.2.1,a0.2.2.2.2.2.2.2,(([]:List vbz)++a0.2.2.2.2.1),(([]:List vb9)++a0.2.2.2.2.2.1))
 else none
 else none
def vde:=shut wai
theorem wgm:vde=wai:=vaf _
instance n131n_p (a0:dTxn):ParC (vde a0):=by rw [wgm];unfold wai;(try dsimp only);infer_instance
def vka (x:q9T)(k:q9T⊕q9T→OR):OR:=
 bif (decide (x.2.1<(x.1.length:Int)))then
 if 0≤x.2.1∧x.2.1<(x.1.length:Int)then
 vde (rd (Ty.zero tTxn) x.1 x.2.1) (fun y2=>
 let y2h:=y2.2.2.2.2
 if x.2.2.length+[(y2.1,(y2.2.1,(y2.2.2.1,(y2.2.2.2.1,(y2h.2.2.1,(y2h.2.2.2,(y2h.1,y2h.2.1)))))))].length≤VE.maxLen then
 k (.inl (x.1,(IntKind.wrap .i64 (x.2.1+(1:Int))),(x.2.2++[(y2.1,(y2.2.1,(y2.2.2.1,(y2.2.2.2.1,(y2h.2.2.1,(y2h.2.2.2,(y2h.1,y2h.2.1)))))))])))
 else none)
 else none
 else
 k (.inr (x.1,x.2.1,x.2.2))
instance n133n_bp0 (x:q9T):ParC (vka x):=by unfold vka;(try dsimp only);infer_instance
def wb5 (a0:TL)(k:TL→OR):OR:=
 vab vka Fuel (a0,0,([]:List dTxn)) (fun z1=>
 k z1.2.2)
def vte:=shut wb5
theorem wiy:vte=wb5:=vaf _
instance n133n_p (a0:TL):ParC (vte a0):=by rw [wiy];unfold wb5;(try dsimp only);infer_instance
def waa (a0:va3)(k:q86T→OR):OR:=
 if([]:List vah).length+a0.1.length≤VE.maxLen then
 vte a0.2.1 (fun y1=>
 vte a0.2.2.1 (fun y2=>
 k (a0.2.2.2.1,a0.2.2.2.2,(([]:List vah)++a0.1),y1,y2)))
 else none
def vdj:=shut waa
theorem wfd:vdj=waa:=vaf _
instance n132n_p (a0:va3):ParC (vdj a0):=by rw [wfd];unfold waa;(try dsimp only);infer_instance
def waf (a0:dTxn)(k:Bool→OR):OR:=
 bif (a0.1==(0:Int))then
 bif (a0.2.1==(0:Int))then
 bif (a0.2.2.1==(0:Int))then
 bif (a0.2.2.2.1==(0:Int))then
 bif ((a0.2.2.2.2.1.length:Int)==(0:Int))then
 bif ((a0.2.2.2.2.2.1.length:Int)==(0:Int))then
 bif (!a0.2.2.2.2.2.2.1)then
 k (vaj a0.2.2.2.2.2.2.2 (⟨#[]⟩:ByteArray))
 else
 k false
 else
 k false
 else
 k false
 else
 k false
 else
 k false
 else
 k false
 else
 k false
def vpu:=shut waf
theorem wg3:vpu=waf:=vaf _
instance n135n_p (a0:dTxn):ParC (vpu a0):=by rw [wg3];unfold waf;(try dsimp only);infer_instance
def v94 (a0:va3)(k:Bool→OR):OR:=
 bif (a0.2.2.2.1==(0:Int))then
 bif (a0.2.2.2.2==(0:Int))then
 bif ((a0.1.length:Int)==(0:Int))then
 bif ((a0.2.1.length:Int)==(0:Int))then
 k ((a0.2.2.1.length:Int)==(0:Int))
 else
 k false
 else
 k false
 else
 k false
 else
 k false
def vvu:=shut v94
theorem wii:vvu=v94:=vaf _
instance n134n_p (a0:va3):ParC (vvu a0):=by rw [wii];unfold v94;(try dsimp only);infer_instance
def vb4 (x:q64T)(k:q64T→OR):OR:=
 let xh:=x.2.2.2.2
 let xi:=xh.2.2.2.2
 let xj:=xi.2.2.2.2
 bif (x.2.1==(4:Int))then
 vir xj (fun y30=>
 k (y30,x.2.1,x.2.2.1,x.2.2.2.1,xh.1,xh.2.1,xh.2.2.1,xh.2.2.2.1,xi.1,xi.2.1,xi.2.2.1,xi.2.2.2.1,xj.1,xj.2.1,xj.2.2.1,xj.2.2.2.1,xj.2.2.2.2))
 else
 vvu xj (fun y31=>
 k (y31,x.2.1,x.2.2.1,x.2.2.2.1,xh.1,xh.2.1,xh.2.2.1,xh.2.2.2.1,xi.1,xi.2.1,xi.2.2.1,xi.2.2.2.1,xj.1,xj.2.1,xj.2.2.1,xj.2.2.2.1,xj.2.2.2.2))
instance n120n_jp5000008 (x:q64T):ParC (vb4 x):=by unfold vb4;(try dsimp only);infer_instance
def var (x:q64T)(k:q64T→OR):OR:=
 let xh:=x.2.2.2.2
 let xi:=xh.2.2.2.2
 let xj:=xi.2.2.2.2
 let t0:=(false,x.2.1,x.2.2.1,x.2.2.2.1,xh.1,xh.2.1,xh.2.2.1,xh.2.2.2.1,xi.1,xi.2.1,xi.2.2.1,xi.2.2.2.1,xj.1,xj.2.1,xj.2.2.1,xj.2.2.2.1,xj.2.2.2.2)
 let t1:=(x.1,x.2.1,x.2.2.1,x.2.2.2.1,xh.1,xh.2.1,xh.2.2.1,xh.2.2.2.1,xi.1,xi.2.1,xi.2.2.1,xi.2.2.2.1,xj.1,xj.2.1,xj.2.2.1,xj.2.2.2.1,xj.2.2.2.2)
 bif (x.2.1==(3:Int))then
 vfk xi.2.2.1 (fun y25=>
 bif (!y25)then
 k t0
 else
 bif (x.2.1 != (3:Int))then
 bif (!(vaj xi.2.2.1 (⟨#[]⟩:ByteArray)))then
 k t0
 else
 bif xi.2.2.2.1 then
 k t0
 else
 vb4 t1 (fun z26=>
 let z26h:=z26.2.2.2.2
 let z26i:=z26h.2.2.2.2
 let z26j:=z26i.2.2.2.2
 k (z26.1,z26.2.1,z26.2.2.1,z26.2.2.2.1,z26h.1,z26h.2.1,z26h.2.2.1,z26h.2.2.2.1,z26i.1,z26i.2.1,z26i.2.2.1,z26i.2.2.2.1,z26j.1,z26j.2.1,z26j.2.2.1,z26j.2.2.2.1,z26j.2.2.2.2))
 else
 vb4 t1 (fun z27=>
 let z27h:=z27.2.2.2.2
 let z27i:=z27h.2.2.2.2
 let z27j:=z27i.2.2.2.2
 k (z27.1,z27.2.1,z27.2.2.1,z27.2.2.2.1,z27h.1,z27h.2.1,z27h.2.2.1,z27h.2.2.2.1,z27i.1,z27i.2.1,z27i.2.2.1,z27i.2.2.2.1,z27j.1,z27j.2.1,z27j.2.2.1,z27j.2.2.2.1,z27j.2.2.2.2)))
 else
 bif (x.2.1 != (3:Int))then
 bif (!(vaj xi.2.2.1 (⟨#[]⟩:ByteArray)))then
 k t0
 else
 bif xi.2.2.2.1 then
 k t0
 else
 vb4 t1 (fun z28=>
 let z28h:=z28.2.2.2.2
 let z28i:=z28h.2.2.2.2
 let z28j:=z28i.2.2.2.2
 k (z28.1,z28.2.1,z28.2.2.1,z28.2.2.2.1,z28h.1,z28h.2.1,z28h.2.2.1,z28h.2.2.2.1,z28i.1,z28i.2.1,z28i.2.2.1,z28i.2.2.2.1,z28j.1,z28j.2.1,z28j.2.2.1,z28j.2.2.2.1,z28j.2.2.2.2))
 else
 vb4 t1 (fun z29=>
 let z29h:=z29.2.2.2.2
 let z29i:=z29h.2.2.2.2
 let z29j:=z29i.2.2.2.2
 k (z29.1,z29.2.1,z29.2.2.1,z29.2.2.2.1,z29h.1,z29h.2.1,z29h.2.2.1,z29h.2.2.2.1,z29i.1,z29i.2.1,z29i.2.2.1,z29i.2.2.2.1,z29j.1,z29j.2.1,z29j.2.2.1,z29j.2.2.2.1,z29j.2.2.2.2))
instance n120n_jp5000006 (x:q64T):ParC (var x):=by unfold var;(try dsimp only);exact⟨(vae ((n112n_p _).p.bind fun _=>(vae (vac _) (vae (vae (vac _) (vae (vac _) ((n120n_jp5000008 _).p.bind fun _=>(vac _)))) ((n120n_jp5000008 _).p.bind fun _=>(vac _))))) (vae (vae (vac _) (vae (vac _) ((n120n_jp5000008 _).p.bind fun _=>(vac _)))) ((n120n_jp5000008 _).p.bind fun _=>(vac _))))⟩
def vc1 (x:q55T)(k:(q55T⊕q64T)→OR):OR:=
 let xh:=x.2.2.2.2
 let xi:=xh.2.2.2.2
 let xj:=xi.2.2.2.2
 let t0:=(x.1,x.2.2.1,x.2.2.2.1,xh.1,xh.2.1,xh.2.2.1,xh.2.2.2.1,xi.1,xi.2.1,xi.2.2.1,xi.2.2.2.1,xj.1,xj.2.1,xj.2.2.1,xj.2.2.2.1,xj.2.2.2.2.1,xj.2.2.2.2.2)
 let t1:=(false,x.2.1,x.2.2.1,x.2.2.2.1,xh.1,xh.2.1,xh.2.2.1,xh.2.2.2.1,xi.1,xi.2.1,xi.2.2.1,xi.2.2.2.1,xj.1,xj.2.1,xj.2.2.1,xj.2.2.2.1,xj.2.2.2.2.1,xj.2.2.2.2.2)
 let t2:=(x.2.2.2.1,(xh.1,(xh.2.1,(xh.2.2.1,(xh.2.2.2.1,(xi.1,(xi.2.1,xi.2.2.1)))))))
 bif x.2.1 then
 vh5 t2 (fun y6=>
 bif (!y6)then
 k (.inl t1)
 else
 bif (!x.2.1)then
 vpu t2 (fun y7=>
 bif (!y7)then
 k (.inl t1)
 else
 bif (x.2.2.1==(1:Int))then
 bif (xh.1 != (3:Int))then
 k (.inl t1)
 else
 bif (x.2.2.1==(2:Int))then
 bif (xh.1 != (2:Int))then
 k (.inl t1)
 else
 var t0 (fun z8=>
 let z8h:=z8.2.2.2.2
 let z8i:=z8h.2.2.2.2
 let z8j:=z8i.2.2.2.2
 k (.inr (z8.1,z8.2.1,z8.2.2.1,z8.2.2.2.1,z8h.1,z8h.2.1,z8h.2.2.1,z8h.2.2.2.1,z8i.1,z8i.2.1,z8i.2.2.1,z8i.2.2.2.1,z8j.1,z8j.2.1,z8j.2.2.1,z8j.2.2.2.1,z8j.2.2.2.2)))
 else
 var t0 (fun z9=>
 let z9h:=z9.2.2.2.2
 let z9i:=z9h.2.2.2.2
 let z9j:=z9i.2.2.2.2
 k (.inr (z9.1,z9.2.1,z9.2.2.1,z9.2.2.2.1,z9h.1,z9h.2.1,z9h.2.2.1,z9h.2.2.2.1,z9i.1,z9i.2.1,z9i.2.2.1,z9i.2.2.2.1,z9j.1,z9j.2.1,z9j.2.2.1,z9j.2.2.2.1,z9j.2.2.2.2)))
 else
 bif (x.2.2.1==(2:Int))then
 bif (xh.1 != (2:Int))then
 k (.inl t1)
 else
 var t0 (fun z10=>
 let z10h:=z10.2.2.2.2
 let z10i:=z10h.2.2.2.2
 let z10j:=z10i.2.2.2.2
 k (.inr (z10.1,z10.2.1,z10.2.2.1,z10.2.2.2.1,z10h.1,z10h.2.1,z10h.2.2.1,z10h.2.2.2.1,z10i.1,z10i.2.1,z10i.2.2.1,z10i.2.2.2.1,z10j.1,z10j.2.1,z10j.2.2.1,z10j.2.2.2.1,z10j.2.2.2.2)))
 else
 var t0 (fun z11=>
 let z11h:=z11.2.2.2.2
 let z11i:=z11h.2.2.2.2
 let z11j:=z11i.2.2.2.2
 k (.inr (z11.1,z11.2.1,z11.2.2.1,z11.2.2.2.1,z11h.1,z11h.2.1,z11h.2.2.1,z11h.2.2.2.1,z11i.1,z11i.2.1,z11i.2.2.1,z11i.2.2.2.1,z11j.1,z11j.2.1,z11j.2.2.1,z11j.2.2.2.1,z11j.2.2.2.2))))
 else
 bif (x.2.2.1==(1:Int))then
 bif (xh.1 != (3:Int))then
 k (.inl t1)
 else
 bif (x.2.2.1==(2:Int))then
 bif (xh.1 != (2:Int))then
 k (.inl t1)
 else
 var t0 (fun z12=>
 let z12h:=z12.2.2.2.2
 let z12i:=z12h.2.2.2.2
 let z12j:=z12i.2.2.2.2
 k (.inr (z12.1,z12.2.1,z12.2.2.1,z12.2.2.2.1,z12h.1,z12h.2.1,z12h.2.2.1,z12h.2.2.2.1,z12i.1,z12i.2.1,z12i.2.2.1,z12i.2.2.2.1,z12j.1,z12j.2.1,z12j.2.2.1,z12j.2.2.2.1,z12j.2.2.2.2)))
 else
 var t0 (fun z13=>
 let z13h:=z13.2.2.2.2
 let z13i:=z13h.2.2.2.2
 let z13j:=z13i.2.2.2.2
 k (.inr (z13.1,z13.2.1,z13.2.2.1,z13.2.2.2.1,z13h.1,z13h.2.1,z13h.2.2.1,z13h.2.2.2.1,z13i.1,z13i.2.1,z13i.2.2.1,z13i.2.2.2.1,z13j.1,z13j.2.1,z13j.2.2.1,z13j.2.2.2.1,z13j.2.2.2.2)))
 else
 bif (x.2.2.1==(2:Int))then
 bif (xh.1 != (2:Int))then
 k (.inl t1)
 else
 var t0 (fun z14=>
 let z14h:=z14.2.2.2.2
 let z14i:=z14h.2.2.2.2
 let z14j:=z14i.2.2.2.2
 k (.inr (z14.1,z14.2.1,z14.2.2.1,z14.2.2.2.1,z14h.1,z14h.2.1,z14h.2.2.1,z14h.2.2.2.1,z14i.1,z14i.2.1,z14i.2.2.1,z14i.2.2.2.1,z14j.1,z14j.2.1,z14j.2.2.1,z14j.2.2.2.1,z14j.2.2.2.2)))
 else
 var t0 (fun z15=>
 let z15h:=z15.2.2.2.2
 let z15i:=z15h.2.2.2.2
 let z15j:=z15i.2.2.2.2
 k (.inr (z15.1,z15.2.1,z15.2.2.1,z15.2.2.2.1,z15h.1,z15h.2.1,z15h.2.2.1,z15h.2.2.2.1,z15i.1,z15i.2.1,z15i.2.2.1,z15i.2.2.2.1,z15j.1,z15j.2.1,z15j.2.2.1,z15j.2.2.2.1,z15j.2.2.2.2))))
 else
 bif (!x.2.1)then
 vpu t2 (fun y16=>
 bif (!y16)then
 k (.inl t1)
 else
 bif (x.2.2.1==(1:Int))then
 bif (xh.1 != (3:Int))then
 k (.inl t1)
 else
 bif (x.2.2.1==(2:Int))then
 bif (xh.1 != (2:Int))then
 k (.inl t1)
 else
 var t0 (fun z17=>
 let z17h:=z17.2.2.2.2
 let z17i:=z17h.2.2.2.2
 let z17j:=z17i.2.2.2.2
 k (.inr (z17.1,z17.2.1,z17.2.2.1,z17.2.2.2.1,z17h.1,z17h.2.1,z17h.2.2.1,z17h.2.2.2.1,z17i.1,z17i.2.1,z17i.2.2.1,z17i.2.2.2.1,z17j.1,z17j.2.1,z17j.2.2.1,z17j.2.2.2.1,z17j.2.2.2.2)))
 else
 var t0 (fun z18=>
 let z18h:=z18.2.2.2.2
 let z18i:=z18h.2.2.2.2
 let z18j:=z18i.2.2.2.2
 k (.inr (z18.1,z18.2.1,z18.2.2.1,z18.2.2.2.1,z18h.1,z18h.2.1,z18h.2.2.1,z18h.2.2.2.1,z18i.1,z18i.2.1,z18i.2.2.1,z18i.2.2.2.1,z18j.1,z18j.2.1,z18j.2.2.1,z18j.2.2.2.1,z18j.2.2.2.2)))
 else
 bif (x.2.2.1==(2:Int))then
 bif (xh.1 != (2:Int))then
 k (.inl t1)
 else
 var t0 (fun z19=>
 let z19h:=z19.2.2.2.2
 let z19i:=z19h.2.2.2.2
 let z19j:=z19i.2.2.2.2
 k (.inr (z19.1,z19.2.1,z19.2.2.1,z19.2.2.2.1,z19h.1,z19h.2.1,z19h.2.2.1,z19h.2.2.2.1,z19i.1,z19i.2.1,z19i.2.2.1,z19i.2.2.2.1,z19j.1,z19j.2.1,z19j.2.2.1,z19j.2.2.2.1,z19j.2.2.2.2)))
 else
 var t0 (fun z20=>
 let z20h:=z20.2.2.2.2
 let z20i:=z20h.2.2.2.2
 let z20j:=z20i.2.2.2.2
 k (.inr (z20.1,z20.2.1,z20.2.2.1,z20.2.2.2.1,z20h.1,z20h.2.1,z20h.2.2.1,z20h.2.2.2.1,z20i.1,z20i.2.1,z20i.2.2.1,z20i.2.2.2.1,z20j.1,z20j.2.1,z20j.2.2.1,z20j.2.2.2.1,z20j.2.2.2.2))))
 else
 bif (x.2.2.1==(1:Int))then
 bif (xh.1 != (3:Int))then
 k (.inl t1)
 else
 bif (x.2.2.1==(2:Int))then
 bif (xh.1 != (2:Int))then
 k (.inl t1)
 else
 var t0 (fun z21=>
 let z21h:=z21.2.2.2.2
 let z21i:=z21h.2.2.2.2
 let z21j:=z21i.2.2.2.2
 k (.inr (z21.1,z21.2.1,z21.2.2.1,z21.2.2.2.1,z21h.1,z21h.2.1,z21h.2.2.1,z21h.2.2.2.1,z21i.1,z21i.2.1,z21i.2.2.1,z21i.2.2.2.1,z21j.1,z21j.2.1,z21j.2.2.1,z21j.2.2.2.1,z21j.2.2.2.2)))
 else
 var t0 (fun z22=>
 let z22h:=z22.2.2.2.2
 let z22i:=z22h.2.2.2.2
 let z22j:=z22i.2.2.2.2
 k (.inr (z22.1,z22.2.1,z22.2.2.1,z22.2.2.2.1,z22h.1,z22h.2.1,z22h.2.2.1,z22h.2.2.2.1,z22i.1,z22i.2.1,z22i.2.2.1,z22i.2.2.2.1,z22j.1,z22j.2.1,z22j.2.2.1,z22j.2.2.2.1,z22j.2.2.2.2)))
 else
 bif (x.2.2.1==(2:Int))then
 bif (xh.1 != (2:Int))then
 k (.inl t1)
 else
 var t0 (fun z23=>
 let z23h:=z23.2.2.2.2
 let z23i:=z23h.2.2.2.2
 let z23j:=z23i.2.2.2.2
 k (.inr (z23.1,z23.2.1,z23.2.2.1,z23.2.2.2.1,z23h.1,z23h.2.1,z23h.2.2.1,z23h.2.2.2.1,z23i.1,z23i.2.1,z23i.2.2.1,z23i.2.2.2.1,z23j.1,z23j.2.1,z23j.2.2.1,z23j.2.2.2.1,z23j.2.2.2.2)))
 else
 var t0 (fun z24=>
 let z24h:=z24.2.2.2.2
 let z24i:=z24h.2.2.2.2
 let z24j:=z24i.2.2.2.2
 k (.inr (z24.1,z24.2.1,z24.2.2.1,z24.2.2.2.1,z24h.1,z24h.2.1,z24h.2.2.1,z24h.2.2.2.1,z24i.1,z24i.2.1,z24i.2.2.1,z24i.2.2.2.1,z24j.1,z24j.2.1,z24j.2.2.1,z24j.2.2.2.1,z24j.2.2.2.2)))
instance n120n_jp5000004 (x:q55T):ParC (vc1 x):=by unfold vc1;(try dsimp only);exact⟨(vae ((n125n_p _).p.bind fun _=>(vae (vac _) (vae ((n135n_p _).p.bind fun _=>(vae (vac _) (vae (vae (vac _) (vae (vae (vac _) ((n120n_jp5000006 _).p.bind fun _=>(vac _))) ((n120n_jp5000006 _).p.bind fun _=>(vac _)))) (vae (vae (vac _) ((n120n_jp5000006 _).p.bind fun _=>(vac _))) ((n120n_jp5000006 _).p.bind fun _=>(vac _)))))) (vae (vae (vac _) (vae (vae (vac _) ((n120n_jp5000006 _).p.bind fun _=>(vac _))) ((n120n_jp5000006 _).p.bind fun _=>(vac _)))) (vae (vae (vac _) ((n120n_jp5000006 _).p.bind fun _=>(vac _))) ((n120n_jp5000006 _).p.bind fun _=>(vac _))))))) (vae ((n135n_p _).p.bind fun _=>(vae (vac _) (vae (vae (vac _) (vae (vae (vac _) ((n120n_jp5000006 _).p.bind fun _=>(vac _))) ((n120n_jp5000006 _).p.bind fun _=>(vac _)))) (vae (vae (vac _) ((n120n_jp5000006 _).p.bind fun _=>(vac _))) ((n120n_jp5000006 _).p.bind fun _=>(vac _)))))) (vae (vae (vac _) (vae (vae (vac _) ((n120n_jp5000006 _).p.bind fun _=>(vac _))) ((n120n_jp5000006 _).p.bind fun _=>(vac _)))) (vae (vae (vac _) ((n120n_jp5000006 _).p.bind fun _=>(vac _))) ((n120n_jp5000006 _).p.bind fun _=>(vac _))))))⟩
def v9o (a0:vcg)(k:Bool→OR):OR:=
 vch a0.1 (1:Int) (4:Int) (fun y1=>
 bif (!y1)then
 k false
 else
 bif (a0.1==(1:Int))then
 vc1 (false,true,a0.1,a0.2.1.1,a0.2.1.2.1,a0.2.1.2.2.1,a0.2.1.2.2.2.1,a0.2.1.2.2.2.2.1,a0.2.1.2.2.2.2.2.1,a0.2.1.2.2.2.2.2.2.1,a0.2.1.2.2.2.2.2.2.2,a0.2.2.1,a0.2.2.2.1,a0.2.2.2.2.1,a0.2.2.2.2.2.1,a0.2.2.2.2.2.2.1,a0.2.2.2.2.2.2.2.1,a0.2.2.2.2.2.2.2.2) (Sum.elim (fun z2=>
 k z2.1) (fun z3=>
 k z3.1))
 else
 vc1 (false,(a0.1==(2:Int)),a0.1,a0.2.1.1,a0.2.1.2.1,a0.2.1.2.2.1,a0.2.1.2.2.2.1,a0.2.1.2.2.2.2.1,a0.2.1.2.2.2.2.2.1,a0.2.1.2.2.2.2.2.2.1,a0.2.1.2.2.2.2.2.2.2,a0.2.2.1,a0.2.2.2.1,a0.2.2.2.2.1,a0.2.2.2.2.2.1,a0.2.2.2.2.2.2.1,a0.2.2.2.2.2.2.2.1,a0.2.2.2.2.2.2.2.2) (Sum.elim (fun z4=>
 k z4.1) (fun z5=>
 k z5.1)))
def vv5:=shut v9o
theorem wip:vv5=v9o:=vaf _
instance n120n_p (a0:vcg):ParC (vv5 a0):=by rw [wip];unfold v9o;(try dsimp only);infer_instance
def v9x (a0:dTxn)(a1:dTxn)(k:Bool→OR):OR:=
 bif (a0.1==a1.1)then
 k false
 else
 bif (a0.2.1==(3:Int))then
 bif (decide (a0.2.2.2.1≤a1.2.2.1))then
 k false
 else
 bif (a1.2.1==(3:Int))then
 bif (decide (a1.2.2.2.1≤a0.2.2.1))then
 k false
 else
 k true
 else
 k true
 else
 bif (a1.2.1==(3:Int))then
 bif (decide (a1.2.2.2.1≤a0.2.2.1))then
 k false
 else
 k true
 else
 k true
def v0o:=shut v9x
theorem wg2:v0o=v9x:=vaf _
instance n109n_p (a0:dTxn)(a1:dTxn):ParC (v0o a0 a1):=by rw [wg2];unfold v9x;(try dsimp only);infer_instance
def wb2 (a0:vbz)(a1:ByteArray)(k:Bool→OR):OR:=
 bif (!(vai a1 a0.1))then
 k ((vai a1 a0.2)||(vaj a1 a0.2))
 else
 k false
def vwk:=shut wb2
theorem wiu:vwk=wb2:=vaf _
instance n111n_p (a0:vbz)(a1:ByteArray):ParC (vwk a0 a1):=by rw [wiu];unfold wb2;(try dsimp only);infer_instance
def vjc (x:q3T)(k:q3T⊕(q3T⊕q3T)→OR):OR:=
 let xh:=x.2.2.2.2
 bif (decide (xh<(x.2.1.length:Int)))then
 if 0≤x.2.2.2.1∧x.2.2.2.1<(x.1.length:Int)then
 if 0≤xh∧xh<(x.2.1.length:Int)then
 vwk (rd (Ty.zero tRange) x.1 x.2.2.2.1) ((rd (Ty.zero tWrite) x.2.1 xh).1) (fun y5=>
 bif y5 then
 k (.inr (.inl (x.1,x.2.1,true,x.2.2.2.1,xh)))
 else
 k (.inl (x.1,x.2.1,x.2.2.1,x.2.2.2.1,(IntKind.wrap .i64 (xh+1)))))
 else none
 else none
 else
 k (.inr (.inr (x.1,x.2.1,x.2.2.1,x.2.2.2.1,xh)))
instance n123n_bp2 (x:q3T):ParC (vjc x):=by unfold vjc;(try dsimp only);infer_instance
def vj5 (x:q4T)(k:q4T⊕(q4T⊕q4T)→OR):OR:=
 bif (decide (x.2.2.2<(x.1.length:Int)))then
 vab vjc Fuel (x.1,x.2.1,x.2.2.1,x.2.2.2,0) (Sum.elim (fun z3=>
 k (.inr (.inr (z3.1,z3.2.1,z3.2.2.1,z3.2.2.2.1)))) (fun z4=>
 k (.inl (z4.1,z4.2.1,z4.2.2.1,(IntKind.wrap .i64 (z4.2.2.2.1+1))))))
 else
 k (.inr (.inl (x.1,x.2.1,x.2.2.1,x.2.2.2)))
instance n123n_bp0 (x:q4T):ParC (vj5 x):=by unfold vj5;(try dsimp only);infer_instance
def v9q (a0:RL)(a1:WL)(k:Bool→OR):OR:=
 vab vj5 Fuel (a0,a1,false,0) (Sum.elim (fun _=>
 k false) (fun z2=>
 k z2.2.2.1))
def vwp:=shut v9q
theorem wjg:vwp=v9q:=vaf _
instance n123n_p (a0:RL)(a1:WL):ParC (vwp a0 a1):=by rw [wjg];unfold v9q;(try dsimp only);infer_instance
def v86 (a0:dTxn)(a1:dTxn)(k:Bool→OR):OR:=
 v0o a0 a1 (fun y1=>
 bif y1 then
 vwp a0.2.2.2.2.1 a1.2.2.2.2.2.1 (fun y2=>
 k y2)
 else
 k false)
def vn8:=shut v86
theorem wi4:vn8=v86:=vaf _
instance n107n_p (a0:dTxn)(a1:dTxn):ParC (vn8 a0 a1):=by rw [wi4];unfold v86;(try dsimp only);infer_instance
def vi1 (x:q8T)(k:q8T⊕(q8T⊕q8T)→OR):OR:=
 let xh:=x.2.2.2.2
 let xi:=xh.2.2.2.2
 let t0:=(x.1,x.2.1,(IntKind.wrap .i64 (x.2.2.1+(1:Int))),x.2.2.2.1,xh.1,xh.2.1,xh.2.2.1,xh.2.2.2.1,xi.1,xi.2.1,xi.2.2)
 bif (decide (x.2.2.1<(x.1.length:Int)))then
 if 0≤x.2.2.1∧x.2.2.1<(x.1.length:Int)then
 bif ((rd (Ty.zero tTxn) x.1 x.2.2.1).2.1==(3:Int))then
 if 0≤x.2.2.1∧x.2.2.1<(x.1.length:Int)then
 vn8 x.2.2.2 (rd (Ty.zero tTxn) x.1 x.2.2.1) (fun y3=>
 bif y3 then
 k (.inr (.inl (x.1,true,x.2.2.1,x.2.2.2.1,xh.1,xh.2.1,xh.2.2.1,xh.2.2.2.1,xi.1,xi.2.1,xi.2.2)))
 else
 k (.inl t0))
 else none
 else
 k (.inl t0)
 else none
 else
 k (.inr (.inr (x.1,x.2.1,x.2.2.1,x.2.2.2.1,xh.1,xh.2.1,xh.2.2.1,xh.2.2.2.1,xi.1,xi.2.1,xi.2.2)))
instance n115n_bp0 (x:q8T):ParC (vi1 x):=by unfold vi1;(try dsimp only);infer_instance
def wbq (a0:dTxn)(a1:TL)(k:Bool→OR):OR:=
 vab vi1 Fuel (a1,false,0,a0.1,a0.2.1,a0.2.2.1,a0.2.2.2.1,a0.2.2.2.2.1,a0.2.2.2.2.2.1,a0.2.2.2.2.2.2.1,a0.2.2.2.2.2.2.2) (Sum.elim (fun z1=>
 k z1.2.1) (fun _=>
 k false))
def vmi:=shut wbq
theorem wg1:vmi=wbq:=vaf _
instance n115n_p (a0:dTxn)(a1:TL):ParC (vmi a0 a1):=by rw [wg1];unfold wbq;(try dsimp only);infer_instance
def vdt (x:q41T)(k:q41T→OR):OR:=
 let xh:=x.2.2.2.2
 if 0≤x.2.2.2.1∧x.2.2.2.1<(xh.1.length:Int)then
 if xh.2.2.2.2.2.length+[(xh.1.getD x.2.2.2.1.toNat (Ty.zero tVersion))].length≤VE.maxLen then
 k (x.1,x.2.1,x.2.2.1,(IntKind.wrap .i64 (x.2.2.2.1+(1:Int))),xh.1,xh.2.1,xh.2.2.1,xh.2.2.2.1,xh.2.2.2.2.1,(xh.2.2.2.2.2++[(xh.1.getD x.2.2.2.1.toNat (Ty.zero tVersion))]))
 else none
 else none
instance n117n_jp6000003 (x:q41T):ParC (vdt x):=by unfold vdt;(try dsimp only);infer_instance
def vm3 (x:q41T)(k:q41T⊕q41T→OR):OR:=
 let xh:=x.2.2.2.2
 let t0:=(x.1,x.2.1,x.2.2.1,x.2.2.2.1,xh.1,xh.2.1,xh.2.2.1,xh.2.2.2.1,xh.2.2.2.2.1,xh.2.2.2.2.2)
 let t1:=(xh.1.getD x.2.2.2.1.toNat (Ty.zero tVersion))
 bif (decide (x.2.2.2.1<(xh.1.length:Int)))then
 if 0≤x.2.2.2.1∧x.2.2.2.1<(xh.1.length:Int)then
 bif (vai (t1.1) xh.2.1)then
 vdt t0 (fun z3=>
 let z3h:=z3.2.2.2.2
 k (.inl (z3.1,z3.2.1,z3.2.2.1,z3.2.2.2.1,z3h.1,z3h.2.1,z3h.2.2.1,z3h.2.2.2.1,z3h.2.2.2.2.1,z3h.2.2.2.2.2)))
 else
 if 0≤x.2.2.2.1∧x.2.2.2.1<(xh.1.length:Int)then
 bif (vaj (t1.1) xh.2.1)then
 if 0≤x.2.2.2.1∧x.2.2.2.1<(xh.1.length:Int)then
 bif (decide (t1.2.2.2≤xh.2.2.2.2.1))then
 vdt t0 (fun z4=>
 let z4h:=z4.2.2.2.2
 k (.inl (z4.1,z4.2.1,z4.2.2.1,z4.2.2.2.1,z4h.1,z4h.2.1,z4h.2.2.1,z4h.2.2.2.1,z4h.2.2.2.2.1,z4h.2.2.2.2.2)))
 else
 k (.inr t0)
 else none
 else
 k (.inr t0)
 else none
 else none
 else
 k (.inr t0)
instance n117n_bp2 (x:q41T):ParC (vm3 x):=by unfold vm3;(try dsimp only);infer_instance
def vmg (x:q40T)(k:q40T⊕q40T→OR):OR:=
 bif (decide (x.2.2.1<(x.1.length:Int)))then
 if 0≤x.2.2.1∧x.2.2.1<(x.1.length:Int)then
 if 0≤x.2.2.1∧x.2.2.1<(x.1.length:Int)then
 if 0≤x.2.2.1∧x.2.2.1<(x.1.length:Int)then
 vab vm3 Fuel (x.1,x.2.1,x.2.2.1,0,x.2.2.2,(rd (Ty.zero tWrite) x.1 x.2.2.1).1,(rd (Ty.zero tWrite) x.1 x.2.2.1).2.1,(rd (Ty.zero tWrite) x.1 x.2.2.1).2.2,x.2.1,([]:List vah)) (fun z2=>
 let z2h:=z2.2.2.2.2
 let z2i:=z2h.2.2.2.2
 if z2i.2.length+[(z2h.2.1,(z2h.2.2.1,(z2h.2.2.2.1,z2i.1)))].length≤VE.maxLen then
 if 0≤z2.2.2.2.1∧z2.2.2.2.1≤(z2h.1.length:Int)then
 if(z2i.2++[(z2h.2.1,(z2h.2.2.1,(z2h.2.2.2.1,z2i.1)))]).length+(z2h.1.drop z2.2.2.2.1.toNat).length≤VE.maxLen then
 k (.inl (z2.1,z2.2.1,(IntKind.wrap .i64 (z2.2.2.1+(1:Int))),((z2i.2++[(z2h.2.1,(z2h.2.2.1,(z2h.2.2.2.1,z2i.1)))])++(z2h.1.drop z2.2.2.2.1.toNat))))
 else none
 else none
 else none)
 else none
 else none
 else none
 else
 k (.inr (x.1,x.2.1,x.2.2.1,x.2.2.2))
instance n117n_bp0 (x:q40T):ParC (vmg x):=by unfold vmg;(try dsimp only);infer_instance
def wap (a0:VL)(a1:WL)(a2:Int)(k:VL→OR):OR:=
 if([]:List vah).length+a0.length≤VE.maxLen then
 vab vmg Fuel (a1,a2,0,(([]:List vah)++a0)) (fun z1=>
 k z1.2.2.2)
 else none
def vwi:=shut wap
theorem wjd:vwi=wap:=vaf _
instance n117n_p (a0:VL)(a1:WL)(a2:Int):ParC (vwi a0 a1 a2):=by rw [wjd];unfold wap;(try dsimp only);infer_instance
def vc0 (x:q81T)(k:q80T→OR):OR:=
 let xh:=x.2.2.2.2
 let xi:=xh.2.2.2.2
 let xj:=xi.2.2.2.2
 let xk:=xj.2.2.2.2
 let xl:=xk.2.2.2.2
 let xm:=xl.2.2.2.2
 let xn:=xm.2.2.2.2
 let xo:=xn.2.2.2.2
 let xp:=xo.2.2.2.2
 let t0:=(xm.2.2.1,(xm.2.2.2.1,(xn.1,(xn.2.1,(xp.2.2.1,(xp.2.2.2,(xn.2.2.1,xn.2.2.2.1)))))))
 if xp.2.1.length+[t0].length≤VE.maxLen then
 k (x.1,x.2.1,x.2.2.1,x.2.2.2.1,xh.1,xh.2.1,xh.2.2.1,xh.2.2.2.1,xi.1,xi.2.1,xi.2.2.1,xi.2.2.2.1,xj.1,xj.2.1,xj.2.2.1,xj.2.2.2.1,xk.1,xk.2.1,xk.2.2.1,xk.2.2.2.1,xl.1,xl.2.1,xl.2.2.1,xl.2.2.2.1,xm.1,xm.2.1,xm.2.2.1,xm.2.2.2.1,xn.1,xn.2.1,xp.2.2.1,xp.2.2.2,xn.2.2.1,xn.2.2.2.1,xo.1,xo.2.1,xo.2.2.1,xo.2.2.2.1,xp.1,(xp.2.1++[t0]))
 else none
instance n121n_jp5000018 (x:q81T):ParC (vc0 x):=by unfold vc0;(try dsimp only);infer_instance
def vi7 (x:q79T)(k:q79T⊕q79T→OR):OR:=
 let xh:=x.2.2.2.2
 let xi:=xh.2.2.2.2
 let xj:=xi.2.2.2.2
 let xk:=xj.2.2.2.2
 let xl:=xk.2.2.2.2
 let xm:=xl.2.2.2.2
 let xn:=xm.2.2.2.2
 bif (decide (x.1<(x.2.2.2.1.length:Int)))then
 if 0≤x.1∧x.1<(x.2.2.2.1.length:Int)then
 vde (rd (Ty.zero tTxn) x.2.2.2.1 x.1) (fun y6=>
 let y6h:=y6.2.2.2.2
 bif (y6.1==xh.2.2.1)then
 k (.inl ((IntKind.wrap .i64 (x.1+1)),x.2.1,x.2.2.1,x.2.2.2.1,xh.1,xh.2.1,xh.2.2.1,xh.2.2.2.1,xi.1,xi.2.1,xi.2.2.1,xi.2.2.2.1,xj.1,xj.2.1,xj.2.2.1,xj.2.2.2.1,xk.1,xk.2.1,xk.2.2.1,xk.2.2.2.1,xl.1,xl.2.1,xl.2.2.1,xl.2.2.2.1,xm.1,xm.2.1,xm.2.2.1,xm.2.2.2.1,xn.1,xn.2.1,xn.2.2.1,xn.2.2.2))
 else
 vn8 (y6.1,(y6.2.1,(y6.2.2.1,(y6.2.2.2.1,(y6h.2.2.1,(y6h.2.2.2,(y6h.1,y6h.2.1))))))) (xk.2.2.1,(xk.2.2.2.1,(xl.1,(xl.2.1,(xl.2.2.1,(xl.2.2.2.1,(xm.1,xm.2.1))))))) (fun y7=>
 bif y7 then
 vc0 (x.1,x.2.1,x.2.2.1,x.2.2.2.1,xh.1,xh.2.1,xh.2.2.1,xh.2.2.2.1,xi.1,xi.2.1,xi.2.2.1,xi.2.2.2.1,xj.1,xj.2.1,xj.2.2.1,xj.2.2.2.1,xk.1,xk.2.1,xk.2.2.1,xk.2.2.2.1,xl.1,xl.2.1,xl.2.2.1,xl.2.2.2.1,xm.1,xm.2.1,y6.1,y6.2.1,y6.2.2.1,y6.2.2.2.1,true,y6h.2.1,xm.2.2.1,xm.2.2.2.1,xn.1,xn.2.1,xn.2.2.1,xn.2.2.2,y6h.2.2.1,y6h.2.2.2) (fun z8=>
 let z8h:=z8.2.2.2.2
 let z8i:=z8h.2.2.2.2
 let z8j:=z8i.2.2.2.2
 let z8k:=z8j.2.2.2.2
 let z8l:=z8k.2.2.2.2
 let z8m:=z8l.2.2.2.2
 let z8n:=z8m.2.2.2.2
 let z8o:=z8n.2.2.2.2
 k (.inl ((IntKind.wrap .i64 (z8.1+1)),z8.2.1,z8.2.2.1,z8.2.2.2.1,z8h.1,z8h.2.1,z8h.2.2.1,z8h.2.2.2.1,z8i.1,z8i.2.1,z8i.2.2.1,z8i.2.2.2.1,z8j.1,z8j.2.1,z8j.2.2.1,z8j.2.2.2.1,z8k.1,z8k.2.1,z8k.2.2.1,z8k.2.2.2.1,z8l.1,z8l.2.1,z8l.2.2.1,z8l.2.2.2.1,z8m.1,z8m.2.1,z8o.2.2.1,z8o.2.2.2.1,z8o.2.2.2.2.1,z8o.2.2.2.2.2.1,z8o.2.2.2.2.2.2.1,z8o.2.2.2.2.2.2.2)))
 else
 vc0 (x.1,x.2.1,x.2.2.1,x.2.2.2.1,xh.1,xh.2.1,xh.2.2.1,xh.2.2.2.1,xi.1,xi.2.1,xi.2.2.1,xi.2.2.2.1,xj.1,xj.2.1,xj.2.2.1,xj.2.2.2.1,xk.1,xk.2.1,xk.2.2.1,xk.2.2.2.1,xl.1,xl.2.1,xl.2.2.1,xl.2.2.2.1,xm.1,xm.2.1,y6.1,y6.2.1,y6.2.2.1,y6.2.2.2.1,y6h.1,y6h.2.1,xm.2.2.1,xm.2.2.2.1,xn.1,xn.2.1,xn.2.2.1,xn.2.2.2,y6h.2.2.1,y6h.2.2.2) (fun z9=>
 let z9h:=z9.2.2.2.2
 let z9i:=z9h.2.2.2.2
 let z9j:=z9i.2.2.2.2
 let z9k:=z9j.2.2.2.2
 let z9l:=z9k.2.2.2.2
 let z9m:=z9l.2.2.2.2
 let z9n:=z9m.2.2.2.2
 let z9o:=z9n.2.2.2.2
 k (.inl ((IntKind.wrap .i64 (z9.1+1)),z9.2.1,z9.2.2.1,z9.2.2.2.1,z9h.1,z9h.2.1,z9h.2.2.1,z9h.2.2.2.1,z9i.1,z9i.2.1,z9i.2.2.1,z9i.2.2.2.1,z9j.1,z9j.2.1,z9j.2.2.1,z9j.2.2.2.1,z9k.1,z9k.2.1,z9k.2.2.1,z9k.2.2.2.1,z9l.1,z9l.2.1,z9l.2.2.1,z9l.2.2.2.1,z9m.1,z9m.2.1,z9o.2.2.1,z9o.2.2.2.1,z9o.2.2.2.2.1,z9o.2.2.2.2.2.1,z9o.2.2.2.2.2.2.1,z9o.2.2.2.2.2.2.2)))))
 else none
 else
 k (.inr (x.1,x.2.1,x.2.2.1,x.2.2.2.1,xh.1,xh.2.1,xh.2.2.1,xh.2.2.2.1,xi.1,xi.2.1,xi.2.2.1,xi.2.2.2.1,xj.1,xj.2.1,xj.2.2.1,xj.2.2.2.1,xk.1,xk.2.1,xk.2.2.1,xk.2.2.2.1,xl.1,xl.2.1,xl.2.2.1,xl.2.2.2.1,xm.1,xm.2.1,xm.2.2.1,xm.2.2.2.1,xn.1,xn.2.1,xn.2.2.1,xn.2.2.2))
instance n121n_bp0 (x:q79T):ParC (vi7 x):=by unfold vi7;(try dsimp only);infer_instance
def vc4 (x:q21T)(k:q19T→OR):OR:=
 let xh:=x.2.2.2.2
 let xi:=xh.2.2.2.2
 let xj:=xi.2.2.2.2
 let xk:=xj.2.2.2.2
 let xl:=xk.2.2.2.2
 let xm:=xl.2.2.2.2
 let xn:=xm.2.2.2.2
 let t0:=(xk.2.1,((3:Int),(xk.2.2.2.1,((IntKind.wrap .i64 (x.2.2.2.1+(1:Int))),(xn.2.1,(xn.2.2,(xl.2.1,(⟨#[]⟩:ByteArray))))))))
 let t1:=(IntKind.wrap .i64 (x.2.2.2.1+(1:Int)))
 vwi x.1 xn.2.2 t1 (fun y10=>
 if xm.2.2.2.1.length+[t0].length≤VE.maxLen then
 vab vi7 Fuel (0,x.1,x.2.1,x.2.2.1,x.2.2.2.1,xh.1,xh.2.1,xh.2.2.1,xh.2.2.2.1,xi.1,xi.2.1,xi.2.2.1,xi.2.2.2.1,xj.1,xj.2.1,xj.2.2.1,t1,xk.1,xk.2.1,3,xk.2.2.2.1,t1,xn.2.1,xn.2.2,xl.2.1,(⟨#[]⟩:ByteArray),xl.2.2.2.1,xm.1,xm.2.1,y10,(xm.2.2.2.1++[t0]),([]:List dTxn)) (fun z11=>
 let z11h:=z11.2.2.2.2
 let z11i:=z11h.2.2.2.2
 let z11j:=z11i.2.2.2.2
 let z11k:=z11j.2.2.2.2
 let z11l:=z11k.2.2.2.2
 let z11m:=z11l.2.2.2.2
 let z11n:=z11m.2.2.2.2
 bif (decide (z11h.2.2.1≥z11k.2.1))then
 k (z11.2.1,z11.2.2.1,z11.2.2.2.1,z11h.1,z11h.2.1,z11h.2.2.1,z11h.2.2.2.1,z11i.1,z11i.2.1,z11i.2.2.1,z11i.2.2.2.1,z11j.1,z11j.2.1,z11k.1,(IntKind.wrap .i64 (z11h.2.2.1+1)),z11k.1,(IntKind.wrap .i64 (z11h.2.2.1+1)),z11k.2.2.1,z11k.2.2.2.1,z11l.1,z11l.2.1,z11l.2.2.1,z11l.2.2.2.1,z11m.1,z11m.2.1,z11n.2.1,z11n.2.2.1,z11n.2.2.2)
 else
 k (z11.2.1,z11.2.2.1,z11.2.2.2.1,z11h.1,z11h.2.1,z11h.2.2.1,z11h.2.2.2.1,z11i.1,z11i.2.1,z11i.2.2.1,z11i.2.2.2.1,z11j.1,z11j.2.1,z11k.1,z11k.2.1,z11k.1,z11k.2.1,z11k.2.2.1,z11k.2.2.2.1,z11l.1,z11l.2.1,z11l.2.2.1,z11l.2.2.2.1,z11m.1,z11m.2.1,z11n.2.1,z11n.2.2.1,z11n.2.2.2))
 else none)
instance n121n_jp5000004 (x:q21T):ParC (vc4 x):=by unfold vc4;(try dsimp only);infer_instance
def wam (a0:va3)(a1:dTxn)(k:q86T→OR):OR:=
 vdj a0 (fun y1=>
 vde a1 (fun y2=>
 let y2h:=y2.2.2.2.2
 bif a1.2.2.2.2.2.2.1 then
 vc4 (a0.1,a0.2.1,a0.2.2.1,a0.2.2.2.1,a0.2.2.2.2,a1.1,a1.2.1,a1.2.2.1,a1.2.2.2.1,a1.2.2.2.2.1,a1.2.2.2.2.2.1,a1.2.2.2.2.2.2.1,a1.2.2.2.2.2.2.2,0,0,y1.1,y1.2.1,y2.1,y2.2.1,y2.2.2.1,y2.2.2.2.1,true,y2h.2.1,([]:List vah),([]:List dTxn),([]:List dTxn),y1.2.2.1,y1.2.2.2.1,y1.2.2.2.2,y2h.2.2.1,y2h.2.2.2) (fun z3=>
 let z3h:=z3.2.2.2.2
 let z3i:=z3h.2.2.2.2
 let z3j:=z3i.2.2.2.2
 k (z3j.2.1,z3j.2.2.1,z3j.2.2.2.2.2.2.2.2.2.2.2.2.2.1,z3j.2.2.2.2.2.2.2.2.2.2.2.2.2.2.1,z3j.2.2.2.2.2.2.2.2.2.2.2.2.2.2.2))
 else
 vmi a1 a0.2.1 (fun y4=>
 vc4 (a0.1,a0.2.1,a0.2.2.1,a0.2.2.2.1,a0.2.2.2.2,a1.1,a1.2.1,a1.2.2.1,a1.2.2.2.1,a1.2.2.2.2.1,a1.2.2.2.2.2.1,a1.2.2.2.2.2.2.1,a1.2.2.2.2.2.2.2,0,0,y1.1,y1.2.1,y2.1,y2.2.1,y2.2.2.1,y2.2.2.2.1,y4,y2h.2.1,([]:List vah),([]:List dTxn),([]:List dTxn),y1.2.2.1,y1.2.2.2.1,y1.2.2.2.2,y2h.2.2.1,y2h.2.2.2) (fun z5=>
 let z5h:=z5.2.2.2.2
 let z5i:=z5h.2.2.2.2
 let z5j:=z5i.2.2.2.2
 k (z5j.2.1,z5j.2.2.1,z5j.2.2.2.2.2.2.2.2.2.2.2.2.2.1,z5j.2.2.2.2.2.2.2.2.2.2.2.2.2.2.1,z5j.2.2.2.2.2.2.2.2.2.2.2.2.2.2.2)))))
def vtd:=shut wam
theorem wjh:vtd=wam:=vaf _
instance n121n_p (a0:va3)(a1:dTxn):ParC (vtd a0 a1):=by rw [wjh];unfold wam;(try dsimp only);infer_instance
def vjm (x:q72T)(k:q72T⊕(q72T⊕q72T)→OR):OR:=
 let xh:=x.2.2.2.2
 bif (decide (x.2.2.1<(xh.2.1.length:Int)))then
 if 0≤x.2.2.1∧x.2.2.1<(xh.2.1.length:Int)then
 bif (vaj ((rd (Ty.zero tTxn) xh.2.1 x.2.2.1).2.2.2.2.2.2.2) x.1)then
 k (.inr (.inl (x.1,x.2.2.1,x.2.2.1,x.2.2.2.1,xh.1,xh.2.1,xh.2.2.1,xh.2.2.2)))
 else
 k (.inl (x.1,x.2.1,(IntKind.wrap .i64 (x.2.2.1+1)),x.2.2.2.1,xh.1,xh.2.1,xh.2.2.1,xh.2.2.2))
 else none
 else
 k (.inr (.inr (x.1,x.2.1,x.2.2.1,x.2.2.2.1,xh.1,xh.2.1,xh.2.2.1,xh.2.2.2)))
instance n119n_bp0 (x:q72T):ParC (vjm x):=by unfold vjm;(try dsimp only);infer_instance
def v9i (a0:va3)(a1:ByteArray)(k:Int→OR):OR:=
 vab vjm Fuel (a1,0,0,a0.1,a0.2.1,a0.2.2.1,a0.2.2.2.1,a0.2.2.2.2) (Sum.elim (fun z1=>
 k z1.2.1) (fun _=>
 k (-1:Int)))
def vna:=shut v9i
theorem wh7:vna=v9i:=vaf _
instance n119n_p (a0:va3)(a1:ByteArray):ParC (vna a0 a1):=by rw [wh7];unfold v9i;(try dsimp only);infer_instance
def vix (x:q71T)(k:q71T⊕q71T→OR):OR:=
 let xh:=x.2.2.2.2
 let xi:=xh.2.2.2.2
 let xj:=xi.2.2.2.2
 bif (decide (x.2.1<(xh.1.length:Int)))then
 if 0≤x.2.1∧x.2.1<(xh.1.length:Int)then
 bif (!(vaj ((rd (Ty.zero tTxn) xh.1 x.2.1).2.2.2.2.2.2.2) x.1))then
 if 0≤x.2.1∧x.2.1<(xh.1.length:Int)then
 vde (rd (Ty.zero tTxn) xh.1 x.2.1) (fun y3=>
 let y3h:=y3.2.2.2.2
 if xj.2.length+[(y3.1,(y3.2.1,(y3.2.2.1,(y3.2.2.2.1,(y3h.2.2.1,(y3h.2.2.2,(y3h.1,y3h.2.1)))))))].length≤VE.maxLen then
 k (.inl (x.1,(IntKind.wrap .i64 (x.2.1+(1:Int))),x.2.2.1,x.2.2.2.1,xh.1,xh.2.1,xh.2.2.1,xh.2.2.2.1,xi.1,xi.2.1,xi.2.2.1,xi.2.2.2.1,xj.1,(xj.2++[(y3.1,(y3.2.1,(y3.2.2.1,(y3.2.2.2.1,(y3h.2.2.1,(y3h.2.2.2,(y3h.1,y3h.2.1)))))))])))
 else none)
 else none
 else
 k (.inl (x.1,(IntKind.wrap .i64 (x.2.1+1)),x.2.2.1,x.2.2.2.1,xh.1,xh.2.1,xh.2.2.1,xh.2.2.2.1,xi.1,xi.2.1,xi.2.2.1,xi.2.2.2.1,xj.1,xj.2))
 else none
 else
 k (.inr (x.1,x.2.1,x.2.2.1,x.2.2.2.1,xh.1,xh.2.1,xh.2.2.1,xh.2.2.2.1,xi.1,xi.2.1,xi.2.2.1,xi.2.2.2.1,xj.1,xj.2))
instance n110n_bp0 (x:q71T):ParC (vix x):=by unfold vix;(try dsimp only);infer_instance
def wbg (a0:va3)(a1:ByteArray)(k:q86T→OR):OR:=
 vdj a0 (fun y1=>
 vab vix Fuel (a1,0,a0.1,a0.2.1,a0.2.2.1,a0.2.2.2.1,a0.2.2.2.2,0,0,y1.1,y1.2.1,y1.2.2.1,y1.2.2.2.1,([]:List dTxn)) (fun z2=>
 let z2h:=z2.2.2.2.2
 let z2i:=z2h.2.2.2.2
 k (z2i.2.1,z2i.2.2.1,z2i.2.2.2.1,z2i.2.2.2.2.1,z2i.2.2.2.2.2)))
def vr9:=shut wbg
theorem wiq:vr9=wbg:=vaf _
instance n110n_p (a0:va3)(a1:ByteArray):ParC (vr9 a0 a1):=by rw [wiq];unfold wbg;(try dsimp only);infer_instance
def vj9 (x:q70T)(k:q70T⊕q70T→OR):OR:=
 let xh:=x.2.2.2.2
 let xi:=xh.2.2.2.2
 let xj:=xi.2.2.2.2
 let xk:=xj.2.2.2.2
 let xl:=xk.2.2.2.2
 let xm:=xl.2.2.2.2
 let xn:=xm.2.2.2.2
 bif (decide (x.2.1<(xh.1.length:Int)))then
 if 0≤x.2.1∧x.2.1<(xh.1.length:Int)then
 bif (vai ((rd (Ty.zero tTxn) xh.1 x.2.1).2.2.2.2.2.2.2) x.1)then
 if 0≤x.2.1∧x.2.1<(xh.1.length:Int)then
 vde (rd (Ty.zero tTxn) xh.1 x.2.1) (fun y6=>
 let y6h:=y6.2.2.2.2
 if xm.2.2.2.1.length+[(y6.1,(y6.2.1,(y6.2.2.1,(y6.2.2.2.1,(y6h.2.2.1,(y6h.2.2.2,(y6h.1,y6h.2.1)))))))].length≤VE.maxLen then
 k (.inl (x.1,(IntKind.wrap .i64 (x.2.1+(1:Int))),x.2.2.1,x.2.2.2.1,xh.1,xh.2.1,xh.2.2.1,xh.2.2.2.1,xi.1,xi.2.1,xi.2.2.1,xi.2.2.2.1,xj.1,xj.2.1,xj.2.2.1,xj.2.2.2.1,xk.1,xk.2.1,xk.2.2.1,xk.2.2.2.1,xl.1,xl.2.1,xl.2.2.1,xl.2.2.2.1,xm.1,xm.2.1,xm.2.2.1,(xm.2.2.2.1++[(y6.1,(y6.2.1,(y6.2.2.1,(y6.2.2.2.1,(y6h.2.2.1,(y6h.2.2.2,(y6h.1,y6h.2.1)))))))]),xn.1,xn.2))
 else none)
 else none
 else
 k (.inl (x.1,(IntKind.wrap .i64 (x.2.1+1)),x.2.2.1,x.2.2.2.1,xh.1,xh.2.1,xh.2.2.1,xh.2.2.2.1,xi.1,xi.2.1,xi.2.2.1,xi.2.2.2.1,xj.1,xj.2.1,xj.2.2.1,xj.2.2.2.1,xk.1,xk.2.1,xk.2.2.1,xk.2.2.2.1,xl.1,xl.2.1,xl.2.2.1,xl.2.2.2.1,xm.1,xm.2.1,xm.2.2.1,xm.2.2.2.1,xn.1,xn.2))
 else none
 else
 k (.inr (x.1,x.2.1,x.2.2.1,x.2.2.2.1,xh.1,xh.2.1,xh.2.2.1,xh.2.2.2.1,xi.1,xi.2.1,xi.2.2.1,xi.2.2.2.1,xj.1,xj.2.1,xj.2.2.1,xj.2.2.2.1,xk.1,xk.2.1,xk.2.2.1,xk.2.2.2.1,xl.1,xl.2.1,xl.2.2.1,xl.2.2.2.1,xm.1,xm.2.1,xm.2.2.1,xm.2.2.2.1,xn.1,xn.2))
instance n113n_bp0 (x:q70T):ParC (vj9 x):=by unfold vj9;(try dsimp only);infer_instance
def viz (x:q69T)(k:q69T⊕q69T→OR):OR:=
 let xh:=x.2.2.2.2
 let xi:=xh.2.2.2.2
 let xj:=xi.2.2.2.2
 let xk:=xj.2.2.2.2
 let xl:=xk.2.2.2.2
 bif (decide (x.2.1<(xh.1.length:Int)))then
 if 0≤x.2.1∧x.2.1<(xh.1.length:Int)then
 bif (!(vai ((rd (Ty.zero tTxn) xh.1 x.2.1).2.2.2.2.2.2.2) x.1))then
 if 0≤x.2.1∧x.2.1<(xh.1.length:Int)then
 vde (rd (Ty.zero tTxn) xh.1 x.2.1) (fun y7=>
 let y7h:=y7.2.2.2.2
 if xl.2.length+[(y7.1,(y7.2.1,(y7.2.2.1,(y7.2.2.2.1,(y7h.2.2.1,(y7h.2.2.2,(y7h.1,y7h.2.1)))))))].length≤VE.maxLen then
 k (.inl (x.1,(IntKind.wrap .i64 (x.2.1+(1:Int))),x.2.2.1,x.2.2.2.1,xh.1,xh.2.1,xh.2.2.1,xh.2.2.2.1,xi.1,xi.2.1,xi.2.2.1,xi.2.2.2.1,xj.1,xj.2.1,xj.2.2.1,xj.2.2.2.1,xk.1,xk.2.1,xk.2.2.1,xk.2.2.2.1,xl.1,(xl.2++[(y7.1,(y7.2.1,(y7.2.2.1,(y7.2.2.2.1,(y7h.2.2.1,(y7h.2.2.2,(y7h.1,y7h.2.1)))))))])))
 else none)
 else none
 else
 k (.inl (x.1,(IntKind.wrap .i64 (x.2.1+1)),x.2.2.1,x.2.2.2.1,xh.1,xh.2.1,xh.2.2.1,xh.2.2.2.1,xi.1,xi.2.1,xi.2.2.1,xi.2.2.2.1,xj.1,xj.2.1,xj.2.2.1,xj.2.2.2.1,xk.1,xk.2.1,xk.2.2.1,xk.2.2.2.1,xl.1,xl.2))
 else none
 else
 k (.inr (x.1,x.2.1,x.2.2.1,x.2.2.2.1,xh.1,xh.2.1,xh.2.2.1,xh.2.2.2.1,xi.1,xi.2.1,xi.2.2.1,xi.2.2.2.1,xj.1,xj.2.1,xj.2.2.1,xj.2.2.2.1,xk.1,xk.2.1,xk.2.2.1,xk.2.2.2.1,xl.1,xl.2))
instance n113n_bp2 (x:q69T):ParC (viz x):=by unfold viz;(try dsimp only);infer_instance
def vc6 (x:q67T)(k:q66T→OR):OR:=
 let xh:=x.2.2.2.2
 let xi:=xh.2.2.2.2
 let xj:=xi.2.2.2.2
 let xk:=xj.2.2.2.2
 let xl:=xk.2.2.2.2
 vab vj9 Fuel (x.1,0,x.2.1,x.2.2.1,x.2.2.2.1,xh.1,xh.2.1,xh.2.2.1,xh.2.2.2.1,xi.1,xi.2.1,xi.2.2.1,xi.2.2.2.1,xj.1,xj.2.1,xj.2.2.1,xj.2.2.2.1,xk.1,xk.2.1,xk.2.2.1,xk.2.2.2.1,xl.1,xl.2.1,xl.2.2.1,xl.2.2.2.1,xl.2.2.2.2.1,xl.2.2.2.2.2.1,([]:List dTxn),xl.2.2.2.2.2.2.2.1,xl.2.2.2.2.2.2.2.2) (fun z8=>
 let z8h:=z8.2.2.2.2
 let z8i:=z8h.2.2.2.2
 let z8j:=z8i.2.2.2.2
 let z8k:=z8j.2.2.2.2
 let z8l:=z8k.2.2.2.2
 let z8m:=z8l.2.2.2.2
 if z8m.2.2.2.1.length+[(z8k.2.2.2.1,(z8l.1,(z8l.2.1,(z8l.2.2.1,(z8m.2.2.2.2.1,(z8m.2.2.2.2.2,(z8l.2.2.2.1,z8m.1)))))))].length≤VE.maxLen then
 vab viz Fuel (z8.1,(0:Int),z8.2.2.1,z8.2.2.2.1,z8h.1,z8h.2.1,z8h.2.2.1,z8h.2.2.2.1,z8i.1,z8i.2.1,z8i.2.2.1,z8i.2.2.2.1,z8j.1,z8j.2.1,z8j.2.2.1,z8j.2.2.2.1,z8k.1,z8k.2.1,z8k.2.2.1,z8m.2.1,z8m.2.2.1,(z8m.2.2.2.1++[(z8k.2.2.2.1,(z8l.1,(z8l.2.1,(z8l.2.2.1,(z8m.2.2.2.2.1,(z8m.2.2.2.2.2,(z8l.2.2.2.1,z8m.1)))))))])) (fun z9=>
 let z9h:=z9.2.2.2.2
 let z9i:=z9h.2.2.2.2
 let z9j:=z9i.2.2.2.2
 let z9k:=z9j.2.2.2.2
 bif (decide (z9h.2.2.2.1≥z9k.2.2.1))then
 k (z9.1,z9.2.2.1,z9.2.2.2.1,z9h.1,z9h.2.1,z9h.2.2.1,z9h.2.2.2.1,z9i.1,z9i.2.1,z9i.2.2.1,z9i.2.2.2.1,z9j.1,z9j.2.1,z9j.2.2.1,z9k.2.1,(IntKind.wrap .i64 (z9h.2.2.2.1+1)),z9k.2.1,(IntKind.wrap .i64 (z9h.2.2.2.1+1)),z9k.2.2.2.1,z9k.2.2.2.2.1,z9k.2.2.2.2.2)
 else
 k (z9.1,z9.2.2.1,z9.2.2.2.1,z9h.1,z9h.2.1,z9h.2.2.1,z9h.2.2.2.1,z9i.1,z9i.2.1,z9i.2.2.1,z9i.2.2.2.1,z9j.1,z9j.2.1,z9j.2.2.1,z9k.2.1,z9k.2.2.1,z9k.2.1,z9k.2.2.1,z9k.2.2.2.1,z9k.2.2.2.2.1,z9k.2.2.2.2.2))
 else none)
instance n113n_jp5000006 (x:q67T):ParC (vc6 x):=by unfold vc6;(try dsimp only);infer_instance
def waq (a0:va3)(a1:dTxn)(a2:ByteArray)(k:q86T→OR):OR:=
 vdj a0 (fun y1=>
 vde a1 (fun y2=>
 bif a1.2.2.2.2.2.2.1 then
 vc6 (a2,a0.1,a0.2.1,a0.2.2.1,a0.2.2.2.1,a0.2.2.2.2,a1.1,a1.2.1,a1.2.2.1,a1.2.2.2.1,a1.2.2.2.2.1,a1.2.2.2.2.2.1,a1.2.2.2.2.2.2.1,a1.2.2.2.2.2.2.2,0,0,y1.1,y1.2.1,y2.1,2,y2.2.2.1,y2.2.2.2.1,true,a2,y1.2.2.1,y1.2.2.2.1,y1.2.2.2.2,y2.2.2.2.2.2.2.1,y2.2.2.2.2.2.2.2) (fun z3=>
 let z3h:=z3.2.2.2.2
 let z3i:=z3h.2.2.2.2
 let z3j:=z3i.2.2.2.2
 k (z3j.2.2.1,z3j.2.2.2.1,z3j.2.2.2.2.2.2.1,z3j.2.2.2.2.2.2.2.1,z3j.2.2.2.2.2.2.2.2))
 else
 vmi a1 a0.2.1 (fun y4=>
 vc6 (a2,a0.1,a0.2.1,a0.2.2.1,a0.2.2.2.1,a0.2.2.2.2,a1.1,a1.2.1,a1.2.2.1,a1.2.2.2.1,a1.2.2.2.2.1,a1.2.2.2.2.2.1,a1.2.2.2.2.2.2.1,a1.2.2.2.2.2.2.2,0,0,y1.1,y1.2.1,y2.1,2,y2.2.2.1,y2.2.2.2.1,y4,a2,y1.2.2.1,y1.2.2.2.1,y1.2.2.2.2,y2.2.2.2.2.2.2.1,y2.2.2.2.2.2.2.2) (fun z5=>
 let z5h:=z5.2.2.2.2
 let z5i:=z5h.2.2.2.2
 let z5j:=z5i.2.2.2.2
 k (z5j.2.2.1,z5j.2.2.2.1,z5j.2.2.2.2.2.2.1,z5j.2.2.2.2.2.2.2.1,z5j.2.2.2.2.2.2.2.2)))))
def vtg:=shut waq
theorem wja:vtg=waq:=vaf _
instance n113n_p (a0:va3)(a1:dTxn)(a2:ByteArray):ParC (vtg a0 a1 a2):=by rw [wja];unfold waq;(try dsimp only);infer_instance
def veu (x:q46T)(k:q46T→OR):OR:=
 let xh:=x.2.2.2.2
 let xi:=xh.2.2.2.2
 let xj:=xi.2.2.2.2
 let xk:=xj.2.2.2.2
 vtg (x.2.1,(x.2.2.1,(x.2.2.2.1,(xh.1,xh.2.1)))) (xh.2.2.2.1,(xi.1,(xi.2.1,(xi.2.2.1,(xi.2.2.2.1,(xj.1,(xj.2.1,xj.2.2.1))))))) xj.2.2.1 (fun y8=>
 k (true,x.2.1,x.2.2.1,x.2.2.2.1,xh.1,xh.2.1,xh.2.2.1,xh.2.2.2.1,xi.1,xi.2.1,xi.2.2.1,xi.2.2.2.1,xj.1,xj.2.1,xj.2.2.1,xj.2.2.2.1,xk.1,xk.2.1,xk.2.2.1,xk.2.2.2.1,xk.2.2.2.2.1,xk.2.2.2.2.2.1,y8.1,y8.2.1,y8.2.2.1,y8.2.2.2.1,y8.2.2.2.2))
instance n136n_jp5000009 (x:q46T):ParC (veu x):=by unfold veu;(try dsimp only);infer_instance
def v82 (a0:va3)(a1:vcg)(k:(q18T⊕q88T)→OR):OR:=
 bif (a1.1==(1:Int))then
 bif (a1.2.1.2.2.2.1 != (IntKind.wrap .i64 (a0.2.2.2.1+1)))then
 k (.inl (a0.1,a0.2.1,a0.2.2.1,a0.2.2.2.1,a0.2.2.2.2,false))
 else
 vtd a0 a1.2.1 (fun y1=>
 k (.inr (y1.1,y1.2.1,true,y1.2.2.1,y1.2.2.2.1,y1.2.2.2.2)))
 else
 bif (a1.1==(2:Int))then
 bif (decide ((a0.2.2.1.length:Int)≥(3:Int)))then
 k (.inl (a0.1,a0.2.1,a0.2.2.1,a0.2.2.2.1,a0.2.2.2.2,false))
 else
 vna a0 a1.2.1.2.2.2.2.2.2.2 (fun y2=>
 bif (decide (y2≥0))then
 k (.inl (a0.1,a0.2.1,a0.2.2.1,a0.2.2.2.1,a0.2.2.2.2,false))
 else
 veu (false,a0.1,a0.2.1,a0.2.2.1,a0.2.2.2.1,a0.2.2.2.2,a1.1,a1.2.1.1,a1.2.1.2.1,a1.2.1.2.2.1,a1.2.1.2.2.2.1,a1.2.1.2.2.2.2.1,a1.2.1.2.2.2.2.2.1,a1.2.1.2.2.2.2.2.2.1,a1.2.1.2.2.2.2.2.2.2,a1.2.2.1,a1.2.2.2.1,a1.2.2.2.2.1,a1.2.2.2.2.2.1,a1.2.2.2.2.2.2.1,a1.2.2.2.2.2.2.2.1,a1.2.2.2.2.2.2.2.2,0,0,([]:List vah),([]:List dTxn),([]:List dTxn)) (fun z3=>
 let z3h:=z3.2.2.2.2
 let z3i:=z3h.2.2.2.2
 let z3j:=z3i.2.2.2.2
 let z3k:=z3j.2.2.2.2
 let z3l:=z3k.2.2.2.2
 k (.inr (z3l.2.2.1,z3l.2.2.2.1,z3.1,z3l.2.2.2.2.1,z3l.2.2.2.2.2.1,z3l.2.2.2.2.2.2))))
 else
 bif (a1.1==(3:Int))then
 vna a0 a1.2.2.1 (fun y4=>
 bif (decide (y4<0))then
 k (.inl (a0.1,a0.2.1,a0.2.2.1,a0.2.2.2.1,a0.2.2.2.2,false))
 else
 bif a1.2.2.2.1 then
 if 0≤y4∧y4<(a0.2.2.1.length:Int)then
 vtd a0 (rd (Ty.zero tTxn) a0.2.2.1 y4) (fun y5=>
 k (.inr (y5.1,y5.2.1,true,y5.2.2.1,y5.2.2.2.1,y5.2.2.2.2)))
 else none
 else
 vr9 a0 a1.2.2.1 (fun y6=>
 k (.inr (y6.1,y6.2.1,true,y6.2.2.1,y6.2.2.2.1,y6.2.2.2.2))))
 else
 vdj a1.2.2.2.2 (fun y7=>
 k (.inr (y7.1,y7.2.1,true,y7.2.2.1,y7.2.2.2.1,y7.2.2.2.2)))
def v96:=shut v82
theorem wf5:v96=v82:=vaf _
instance n136n_p (a0:va3)(a1:vcg):ParC (v96 a0 a1):=by rw [wf5];unfold v82;(try dsimp only);exact⟨(vae (vae (vac _) ((n121n_p ..).p.bind fun _=>(vac _))) (vae (vae (vac _) ((n119n_p ..).p.bind fun _=>(vae (vac _) ((n136n_jp5000009 _).p.bind fun _=>(vac _))))) (vae ((n119n_p ..).p.bind fun _=>(vae (vac _) (vae (vbw ((n121n_p ..).p.bind fun _=>(vac _)) vaw) ((n110n_p ..).p.bind fun _=>(vac _))))) ((n132n_p _).p.bind fun _=>(vac _)))))⟩
def vjb (x:(TL×Int×Int))(k:(TL×Int×Int)⊕(TL×Int×Int)→OR):OR:=
 bif (decide (x.2.2<(x.1.length:Int)))then
 if 0≤x.2.2∧x.2.2<(x.1.length:Int)then
 bif (decide ((rd (Ty.zero tTxn) x.1 x.2.2).2.2.1<x.2.1))then
 if 0≤x.2.2∧x.2.2<(x.1.length:Int)then
 k (.inl (x.1,(rd (Ty.zero tTxn) x.1 x.2.2).2.2.1,(IntKind.wrap .i64 (x.2.2+1))))
 else none
 else
 k (.inl (x.1,x.2.1,(IntKind.wrap .i64 (x.2.2+1))))
 else none
 else
 k (.inr (x.1,x.2.1,x.2.2))
instance n114n_bp0 (x:(TL×Int×Int)):ParC (vjb x):=by unfold vjb;(try dsimp only);infer_instance
def wbm (a0:va3)(a1:TL)(k:Int→OR):OR:=
 vab vjb Fuel (a1,a0.2.2.2.1,0) (fun z1=>
 k z1.2.1)
def vr7:=shut wbm
theorem wfv:vr7=wbm:=vaf _
instance n114n_p (a0:va3)(a1:TL):ParC (vr7 a0 a1):=by rw [wfv];unfold wbm;(try dsimp only);infer_instance
def vj8 (x:q27T)(k:q27T⊕q27T→OR):OR:=
 let xh:=x.2.2.2.2
 let t0:=(IntKind.wrap .i64 (xh+(1:Int)))
 bif (decide (xh<(x.1.length:Int)))then
 if 0≤xh∧xh<(x.1.length:Int)then
 bif (vaj ((rd (Ty.zero tVersion) x.1 xh).1) x.2.1)then
 if 0≤xh∧xh<(x.1.length:Int)then
 bif (decide ((rd (Ty.zero tVersion) x.1 xh).2.2.2≤x.2.2.1))then
 bif (decide (x.2.2.2.1<0))then
 k (.inl (x.1,x.2.1,x.2.2.1,xh,t0))
 else
 if 0≤xh∧xh<(x.1.length:Int)then
 if 0≤x.2.2.2.1∧x.2.2.2.1<(x.1.length:Int)then
 bif (decide ((rd (Ty.zero tVersion) x.1 xh).2.2.2>(rd (Ty.zero tVersion) x.1 x.2.2.2.1).2.2.2))then
 k (.inl (x.1,x.2.1,x.2.2.1,xh,t0))
 else
 k (.inl (x.1,x.2.1,x.2.2.1,x.2.2.2.1,t0))
 else none
 else none
 else
 k (.inl (x.1,x.2.1,x.2.2.1,x.2.2.2.1,t0))
 else none
 else
 k (.inl (x.1,x.2.1,x.2.2.1,x.2.2.2.1,t0))
 else none
 else
 k (.inr (x.1,x.2.1,x.2.2.1,x.2.2.2.1,xh))
instance n130n_bp0 (x:q27T):ParC (vj8 x):=by unfold vj8;(try dsimp only);infer_instance
def wb4 (a0:VL)(a1:ByteArray)(a2:Int)(k:Int→OR):OR:=
 vab vj8 Fuel (a0,a1,a2,(-1:Int),0) (fun z1=>
 k z1.2.2.2.1)
def vru:=shut wb4
theorem we3:vru=wb4:=vaf _
instance n130n_p (a0:VL)(a1:ByteArray)(a2:Int):ParC (vru a0 a1 a2):=by rw [we3];unfold wb4;(try dsimp only);infer_instance
def vcl (x:q32T)(k:q32T→OR):OR:=
 bif x.2.2.2.1 then
 if 0≤x.2.2.1∧x.2.2.1<(x.1.length:Int)then
 if x.2.2.2.2.length+[(rd (Ty.zero tVersion) x.1 x.2.2.1)].length≤VE.maxLen then
 k (x.1,x.2.1,x.2.2.1,x.2.2.2.1,(x.2.2.2.2++[(rd (Ty.zero tVersion) x.1 x.2.2.1)]))
 else none
 else none
 else
 k (x.1,x.2.1,x.2.2.1,x.2.2.2.1,x.2.2.2.2)
instance n124n_jp15000007 (x:q32T):ParC (vcl x):=by unfold vcl;(try dsimp only);infer_instance
def vje (x:q31T)(k:q31T⊕q31T→OR):OR:=
 bif (decide (x.2.2.1<(x.1.length:Int)))then
 if 0≤x.2.2.1∧x.2.2.1<(x.1.length:Int)then
 vru x.1 ((rd (Ty.zero tVersion) x.1 x.2.2.1).1) x.2.1 (fun y3=>
 if 0≤x.2.2.1∧x.2.2.1<(x.1.length:Int)then
 bif (decide ((rd (Ty.zero tVersion) x.1 x.2.2.1).2.2.2>x.2.1))then
 vcl (x.1,x.2.1,x.2.2.1,true,x.2.2.2) (fun z4=>
 k (.inl (z4.1,z4.2.1,(IntKind.wrap .i64 (z4.2.2.1+1)),z4.2.2.2.2)))
 else
 vcl (x.1,x.2.1,x.2.2.1,(y3==x.2.2.1),x.2.2.2) (fun z5=>
 k (.inl (z5.1,z5.2.1,(IntKind.wrap .i64 (z5.2.2.1+1)),z5.2.2.2.2)))
 else none)
 else none
 else
 k (.inr (x.1,x.2.1,x.2.2.1,x.2.2.2))
instance n124n_bp0 (x:q31T):ParC (vje x):=by unfold vje;(try dsimp only);infer_instance
def vb7 (x:q89T)(k:q89T→OR):OR:=
 bif x.2.2.1 then
 if 0≤x.2.1∧x.2.1<(x.2.2.2.1.length:Int)then
 if x.2.2.2.2.length+[(x.2.2.2.1.getD x.2.1.toNat (Ty.zero tVersion))].length≤VE.maxLen then
 k (x.1,x.2.1,x.2.2.1,x.2.2.2.1,(x.2.2.2.2++[(x.2.2.2.1.getD x.2.1.toNat (Ty.zero tVersion))]))
 else none
 else none
 else
 k (x.1,x.2.1,x.2.2.1,x.2.2.2.1,x.2.2.2.2)
instance n124n_jp15000019 (x:q89T):ParC (vb7 x):=by unfold vb7;(try dsimp only);infer_instance
def vju (x:q91T)(k:q91T⊕q91T→OR):OR:=
 let xh:=x.2.2.2.2
 bif (decide (x.2.2.2.1<(xh.1.length:Int)))then
 if 0≤x.2.2.2.1∧x.2.2.2.1<(xh.1.length:Int)then
 if 0≤x.2.1∧x.2.1<(xh.1.length:Int)then
 bif (vaj ((xh.1.getD x.2.2.2.1.toNat (Ty.zero tVersion)).1) ((xh.1.getD x.2.1.toNat (Ty.zero tVersion)).1))then
 k (.inl (x.1,x.2.1,(IntKind.wrap .i64 (x.2.2.1+1)),(IntKind.wrap .i64 (x.2.2.2.1+1)),xh.1,xh.2))
 else
 k (.inl (x.1,x.2.1,x.2.2.1,(IntKind.wrap .i64 (x.2.2.2.1+1)),xh.1,xh.2))
 else none
 else none
 else
 k (.inr (x.1,x.2.1,x.2.2.1,x.2.2.2.1,xh.1,xh.2))
instance n124n_bp4 (x:q91T):ParC (vju x):=by unfold vju;(try dsimp only);infer_instance
def vhh (x:q87T)(k:q87T⊕q87T→OR):OR:=
 bif (decide (x.2.1<(x.2.2.1.length:Int)))then
 vab vju Fuel (x.1,x.2.1,0,0,x.2.2.1,x.2.2.2) (fun z6=>
 let z6h:=z6.2.2.2.2
 if 0≤z6.2.1∧z6.2.1<(z6h.1.length:Int)then
 bif (!(z6h.1.getD z6.2.1.toNat (Ty.zero tVersion)).2.2.1)then
 vb7 (z6.1,z6.2.1,true,z6h.1,z6h.2) (fun z7=>
 k (.inl (z7.1,(IntKind.wrap .i64 (z7.2.1+1)),z7.2.2.2.1,z7.2.2.2.2)))
 else
 if 0≤z6.2.1∧z6.2.1<(z6h.1.length:Int)then
 bif (decide ((z6h.1.getD z6.2.1.toNat (Ty.zero tVersion)).2.2.2>z6.1))then
 vb7 (z6.1,z6.2.1,true,z6h.1,z6h.2) (fun z8=>
 k (.inl (z8.1,(IntKind.wrap .i64 (z8.2.1+1)),z8.2.2.2.1,z8.2.2.2.2)))
 else
 vb7 (z6.1,z6.2.1,(decide (z6.2.2.1>1)),z6h.1,z6h.2) (fun z9=>
 k (.inl (z9.1,(IntKind.wrap .i64 (z9.2.1+1)),z9.2.2.2.1,z9.2.2.2.2)))
 else none
 else none)
 else
 k (.inr (x.1,x.2.1,x.2.2.1,x.2.2.2))
instance n124n_bp2 (x:q87T):ParC (vhh x):=by unfold vhh;(try dsimp only);exact⟨(vae ((vcq (fun x=>(n124n_bp4 x).p) _ _).bind fun _=>(vbw (vae ((n124n_jp15000019 _).p.bind fun _=>(vac _)) (vbw (vae ((n124n_jp15000019 _).p.bind fun _=>(vac _)) ((n124n_jp15000019 _).p.bind fun _=>(vac _))) vaw)) vaw)) (vac _))⟩
def wbb (a0:VL)(a1:Int)(k:VL→OR):OR:=
 vab vje Fuel (a0,a1,0,([]:List vah)) (fun z1=>
 vab vhh Fuel (z1.2.1,0,z1.2.2.2,([]:List vah)) (fun z2=>
 k z2.2.2.2))
def vsm:=shut wbb
theorem wfk:vsm=wbb:=vaf _
instance n124n_p (a0:VL)(a1:Int):ParC (vsm a0 a1):=by rw [wfk];unfold wbb;(try dsimp only);infer_instance
def vjj (x:q85T)(k:q85T⊕q85T→OR):OR:=
 let xh:=x.2.2.2.2
 let xi:=xh.2.2.2.2
 let xj:=xi.2.2.2.2
 bif (decide (x.2.1<(x.2.2.2.1.length:Int)))then
 if 0≤x.2.1∧x.2.1<(x.2.2.2.1.length:Int)then
 bif (decide ((rd (Ty.zero tTxn) x.2.2.2.1 x.2.1).2.2.2.1>x.1))then
 if 0≤x.2.1∧x.2.1<(x.2.2.2.1.length:Int)then
 vde (rd (Ty.zero tTxn) x.2.2.2.1 x.2.1) (fun y5=>
 let y5h:=y5.2.2.2.2
 if xj.1.length+[(y5.1,(y5.2.1,(y5.2.2.1,(y5.2.2.2.1,(y5h.2.2.1,(y5h.2.2.2,(y5h.1,y5h.2.1)))))))].length≤VE.maxLen then
 k (.inl (x.1,(IntKind.wrap .i64 (x.2.1+(1:Int))),x.2.2.1,x.2.2.2.1,xh.1,xh.2.1,xh.2.2.1,xh.2.2.2.1,xi.1,xi.2.1,xi.2.2.1,xi.2.2.2.1,(xj.1++[(y5.1,(y5.2.1,(y5.2.2.1,(y5.2.2.2.1,(y5h.2.2.1,(y5h.2.2.2,(y5h.1,y5h.2.1)))))))]),xj.2))
 else none)
 else none
 else
 k (.inl (x.1,(IntKind.wrap .i64 (x.2.1+1)),x.2.2.1,x.2.2.2.1,xh.1,xh.2.1,xh.2.2.1,xh.2.2.2.1,xi.1,xi.2.1,xi.2.2.1,xi.2.2.2.1,xj.1,xj.2))
 else none
 else
 k (.inr (x.1,x.2.1,x.2.2.1,x.2.2.2.1,xh.1,xh.2.1,xh.2.2.1,xh.2.2.2.1,xi.1,xi.2.1,xi.2.2.1,xi.2.2.2.1,xj.1,xj.2))
instance n122n_bp0 (x:q85T):ParC (vjj x):=by unfold vjj;(try dsimp only);infer_instance
def v9t (a0:va3)(a1:TL)(k:q86T→OR):OR:=
 vdj a0 (fun y1=>
 vr7 a0 a1 (fun y2=>
 vab vjj Fuel (y2,0,a0.1,a0.2.1,a0.2.2.1,a0.2.2.2.1,a0.2.2.2.2,0,0,y1.1,y1.2.1,y1.2.2.1,([]:List dTxn),y1.2.2.2.2) (fun z3=>
 vsm z3.2.2.1 z3.1 (fun y4=>
 k (z3.2.2.2.2.2.2.2.2.2.1,z3.2.2.2.2.2.2.2.2.2.2.1,y4,z3.2.2.2.2.2.2.2.2.2.2.2.2.1,z3.2.2.2.2.2.2.2.2.2.2.2.2.2)))))
def vta:=shut v9t
theorem we5:vta=v9t:=vaf _
instance n122n_p (a0:va3)(a1:TL):ParC (vta a0 a1):=by rw [we5];unfold v9t;(try dsimp only);infer_instance
def vet (x:q46T)(k:q46T→OR):OR:=
 let xh:=x.2.2.2.2
 let xi:=xh.2.2.2.2
 let xj:=xi.2.2.2.2
 let xk:=xj.2.2.2.2
 let xl:=xk.2.2.2.2
 let t0:=(x.2.1,(x.2.2.1,(x.2.2.2.1,(xh.1,xh.2.1))))
 v96 t0 (xh.2.2.1,((xh.2.2.2.1,(xi.1,(xi.2.1,(xi.2.2.1,(xi.2.2.2.1,(xj.1,(xj.2.1,xj.2.2.1))))))),(xj.2.2.2.1,(xk.1,(xk.2.1,(xk.2.2.1,(xk.2.2.2.1,(xl.1,xl.2.1)))))))) (Sum.elim (fun y6=>
 bif (!y6.2.2.2.2.2)then
 vdj t0 (fun y7=>
 k (false,x.2.1,x.2.2.1,x.2.2.2.1,xh.1,xh.2.1,xh.2.2.1,xh.2.2.2.1,xi.1,xi.2.1,xi.2.2.1,xi.2.2.2.1,xj.1,xj.2.1,xj.2.2.1,xj.2.2.2.1,xk.1,xk.2.1,xk.2.2.1,xk.2.2.2.1,xl.1,xl.2.1,y7.1,y7.2.1,y7.2.2.1,y7.2.2.2.1,y7.2.2.2.2))
 else
 vta (y6.1,(y6.2.1,(y6.2.2.1,(y6.2.2.2.1,y6.2.2.2.2.1)))) ([]:List dTxn) (fun y8=>
 vir (y8.2.2.1,(y8.2.2.2.1,(y8.2.2.2.2,(y8.1,y8.2.1)))) (fun y9=>
 bif (!y9)then
 vdj t0 (fun y10=>
 k (false,x.2.1,x.2.2.1,x.2.2.2.1,xh.1,xh.2.1,xh.2.2.1,xh.2.2.2.1,xi.1,xi.2.1,xi.2.2.1,xi.2.2.2.1,xj.1,xj.2.1,xj.2.2.1,xj.2.2.2.1,xk.1,xk.2.1,xk.2.2.1,xk.2.2.2.1,xl.1,xl.2.1,y10.1,y10.2.1,y10.2.2.1,y10.2.2.2.1,y10.2.2.2.2))
 else
 k (true,x.2.1,x.2.2.1,x.2.2.2.1,xh.1,xh.2.1,xh.2.2.1,xh.2.2.2.1,xi.1,xi.2.1,xi.2.2.1,xi.2.2.2.1,xj.1,xj.2.1,xj.2.2.1,xj.2.2.2.1,xk.1,xk.2.1,xk.2.2.1,xk.2.2.2.1,xl.1,xl.2.1,y8.1,y8.2.1,y8.2.2.1,y8.2.2.2.1,y8.2.2.2.2)))) (fun y11=>
 bif (!y11.2.2.1)then
 vdj t0 (fun y12=>
 k (false,x.2.1,x.2.2.1,x.2.2.2.1,xh.1,xh.2.1,xh.2.2.1,xh.2.2.2.1,xi.1,xi.2.1,xi.2.2.1,xi.2.2.2.1,xj.1,xj.2.1,xj.2.2.1,xj.2.2.2.1,xk.1,xk.2.1,xk.2.2.1,xk.2.2.2.1,xl.1,xl.2.1,y12.1,y12.2.1,y12.2.2.1,y12.2.2.2.1,y12.2.2.2.2))
 else
 vta (y11.2.2.2.1,(y11.2.2.2.2.1,(y11.2.2.2.2.2,(y11.1,y11.2.1)))) ([]:List dTxn) (fun y13=>
 vir (y13.2.2.1,(y13.2.2.2.1,(y13.2.2.2.2,(y13.1,y13.2.1)))) (fun y14=>
 bif (!y14)then
 vdj t0 (fun y15=>
 k (false,x.2.1,x.2.2.1,x.2.2.2.1,xh.1,xh.2.1,xh.2.2.1,xh.2.2.2.1,xi.1,xi.2.1,xi.2.2.1,xi.2.2.2.1,xj.1,xj.2.1,xj.2.2.1,xj.2.2.2.1,xk.1,xk.2.1,xk.2.2.1,xk.2.2.2.1,xl.1,xl.2.1,y15.1,y15.2.1,y15.2.2.1,y15.2.2.2.1,y15.2.2.2.2))
 else
 k (true,x.2.1,x.2.2.1,x.2.2.2.1,xh.1,xh.2.1,xh.2.2.1,xh.2.2.2.1,xi.1,xi.2.1,xi.2.2.1,xi.2.2.2.1,xj.1,xj.2.1,xj.2.2.1,xj.2.2.2.1,xk.1,xk.2.1,xk.2.2.1,xk.2.2.2.1,xl.1,xl.2.1,y13.1,y13.2.1,y13.2.2.1,y13.2.2.2.1,y13.2.2.2.2)))))
instance n116n_jp5000003 (x:q46T):ParC (vet x):=by unfold vet;(try dsimp only);exact⟨((n136n_p ..).p.bind2 (fun _=>(vae ((n132n_p _).p.bind fun _=>(vac _)) ((n122n_p ..).p.bind fun _=>((n108n_p _).p.bind fun _=>(vae ((n132n_p _).p.bind fun _=>(vac _)) (vac _)))))) (fun _=>(vae ((n132n_p _).p.bind fun _=>(vac _)) ((n122n_p ..).p.bind fun _=>((n108n_p _).p.bind fun _=>(vae ((n132n_p _).p.bind fun _=>(vac _)) (vac _)))))))⟩
def wah (a0:va3)(a1:vcg)(k:q88T→OR):OR:=
 vir a0 (fun y1=>
 bif (!y1)then
 vdj a0 (fun y2=>
 k (y2.1,y2.2.1,false,y2.2.2.1,y2.2.2.2.1,y2.2.2.2.2))
 else
 vv5 a1 (fun y3=>
 bif (!y3)then
 vdj a0 (fun y4=>
 k (y4.1,y4.2.1,false,y4.2.2.1,y4.2.2.2.1,y4.2.2.2.2))
 else
 vet (false,a0.1,a0.2.1,a0.2.2.1,a0.2.2.2.1,a0.2.2.2.2,a1.1,a1.2.1.1,a1.2.1.2.1,a1.2.1.2.2.1,a1.2.1.2.2.2.1,a1.2.1.2.2.2.2.1,a1.2.1.2.2.2.2.2.1,a1.2.1.2.2.2.2.2.2.1,a1.2.1.2.2.2.2.2.2.2,a1.2.2.1,a1.2.2.2.1,a1.2.2.2.2.1,a1.2.2.2.2.2.1,a1.2.2.2.2.2.2.1,a1.2.2.2.2.2.2.2.1,a1.2.2.2.2.2.2.2.2,0,0,([]:List vah),([]:List dTxn),([]:List dTxn)) (fun z5=>
 let z5h:=z5.2.2.2.2
 let z5i:=z5h.2.2.2.2
 let z5j:=z5i.2.2.2.2
 let z5k:=z5j.2.2.2.2
 let z5l:=z5k.2.2.2.2
 k (z5l.2.2.1,z5l.2.2.2.1,z5.1,z5l.2.2.2.2.1,z5l.2.2.2.2.2.1,z5l.2.2.2.2.2.2))))
def v1m:=shut wah
theorem wfg:v1m=wah:=vaf _
instance n116n_p (a0:va3)(a1:vcg):ParC (v1m a0 a1):=by rw [wfg];unfold wah;(try dsimp only);infer_instance
def wnf (a0:Int)(a1:Int)(a2:Int)(k:Bool→OR):OR:=
 bif (decide (a0≥a1))then
 k (decide (a0≤a2))
 else
 k false
def vej:=shut wnf
theorem wtx:vej=wnf:=vaf _
instance n47n_p (a0:Int)(a1:Int)(a2:Int):ParC (vej a0 a1 a2):=by rw [wtx];unfold wnf;(try dsimp only);infer_instance
def vp5 (x:(ByteArray×Bool×Int))(k:(ByteArray×Bool×Int)⊕((ByteArray×Bool×Int)⊕(ByteArray×Bool×Int))→OR):OR:=
 bif (decide (x.2.2<(x.1.size:Int)))then
 if 0≤x.2.2∧x.2.2<(x.1.size:Int)then
 bif (decide ((bt x.1 x.2.2)<(97:Int)))then
 k (.inr (.inl (x.1,false,x.2.2)))
 else
 if 0≤x.2.2∧x.2.2<(x.1.size:Int)then
 bif (decide ((bt x.1 x.2.2)>(122:Int)))then
 k (.inr (.inl (x.1,false,x.2.2)))
 else
 k (.inl (x.1,x.2.1,(IntKind.wrap .i64 (x.2.2+1))))
 else none
 else none
 else
 k (.inr (.inr (x.1,x.2.1,x.2.2)))
instance n11n_bp0 (x:(ByteArray×Bool×Int)):ParC (vp5 x):=by unfold vp5;(try dsimp only);infer_instance
def wme (a0:ByteArray)(k:Bool→OR):OR:=
 vab vp5 Fuel (a0,false,0) (Sum.elim (fun z1=>
 k z1.2.1) (fun z2=>
 vej (z2.1.size:Int) (1:Int) (3:Int) (fun y3=>
 k y3)))
def vkb:=shut wme
theorem wvo:vkb=wme:=vaf _
instance n11n_p (a0:ByteArray):ParC (vkb a0):=by rw [wvo];unfold wme;(try dsimp only);infer_instance
def wk3 (a0:ByteArray)(k:Bool→OR):OR:=
 k (!(vaj a0 a0))
def wd9:=shut wk3
theorem ww6:wd9=wk3:=vaf _
instance n03n_p (a0:ByteArray):ParC (wd9 a0):=by rw [ww6];unfold wk3;(try dsimp only);infer_instance
def wj6 (a0:ByteArray)(a1:ByteArray)(k:Int→OR):OR:=
 wd9 a0 (fun y1=>
 wd9 a1 (fun y2=>
 bif y1 then
 bif y2 then
 k (0:Int)
 else
 k (-1:Int)
 else
 bif y2 then
 k (1:Int)
 else
 bif (vai a0 a1)then
 k (-1:Int)
 else
 bif (!((vai a0 a1)||(vaj a0 a1)))then
 k (1:Int)
 else
 k (0:Int)))
def wdp:=shut wj6
theorem wq6:wdp=wj6:=vaf _
instance n01n_p (a0:ByteArray)(a1:ByteArray):ParC (wdp a0 a1):=by rw [wq6];unfold wj6;(try dsimp only);infer_instance
def wkg (a0:Int)(k:Bool→OR):OR:=
 k (a0 != a0)
def wdm:=shut wkg
theorem wt0:wdm=wkg:=vaf _
instance n02n_p (a0:Int):ParC (wdm a0):=by rw [wt0];unfold wkg;(try dsimp only);infer_instance
def wln (a0:Int)(a1:Int)(k:Int→OR):OR:=
 wdm a0 (fun y1=>
 wdm a1 (fun y2=>
 bif y1 then
 bif y2 then
 k (0:Int)
 else
 k (-1:Int)
 else
 bif y2 then
 k (1:Int)
 else
 bif (decide (a0<a1))then
 k (-1:Int)
 else
 bif (decide (a0>a1))then
 k (1:Int)
 else
 k (0:Int)))
def wez:=shut wln
theorem wxp:wez=wln:=vaf _
instance n00n_p (a0:Int)(a1:Int):ParC (wez a0 a1):=by rw [wxp];unfold wln;(try dsimp only);infer_instance
def wjj (a0:vah)(a1:vah)(k:Int→OR):OR:=
 wdp a0.1 a1.1 (fun y1=>
 bif (y1 != (0:Int))then
 k y1
 else
 wez a0.2.2.2 a1.2.2.2 (fun y2=>
 k y2))
def vvl:=shut wjj
theorem wtd:vvl=wjj:=vaf _
instance n34n_p (a0:vah)(a1:vah):ParC (vvl a0 a1):=by rw [wtd];unfold wjj;(try dsimp only);infer_instance
def vn9 (x:q24T)(k:q24T⊕(q24T⊕q24T)→OR):OR:=
 let xh:=x.2.2.2.2
 let t0:=(rd (Ty.zero tVersion) x.2.2.1 xh)
 let t1:=(x.1,false,x.2.2.1,x.2.2.2.1,xh)
 let t2:=(x.1,x.2.1,x.2.2.1,x.2.2.2.1,(IntKind.wrap .i64 (xh+(1:Int))))
 let t3:=(IntKind.wrap .i64 (xh-(1:Int)))
 bif (decide (xh<x.2.2.2.1))then
 if 0≤xh∧xh<(x.2.2.1.length:Int)then
 vkb (t0.1) (fun y3=>
 bif (!y3)then
 k (.inr (.inl t1))
 else
 bif (decide ((t0.2.1.size:Int)>(12:Int)))then
 k (.inr (.inl t1))
 else
 bif t0.2.2.1 then
 bif (!(vaj (t0.2.1) (⟨#[]⟩:ByteArray)))then
 k (.inr (.inl t1))
 else
 vej (t0.2.2.2) (1:Int) (9999:Int) (fun y4=>
 bif (!y4)then
 k (.inr (.inl t1))
 else
 bif (decide (xh>0))then
 if 0≤t3∧t3<(x.1.length:Int)then
 vvl (rd (Ty.zero tVersion) x.1 t3) t0 (fun y5=>
 bif (decide (y5≥0))then
 k (.inr (.inl t1))
 else
 k (.inl t2))
 else none
 else
 k (.inl t2))
 else
 vej (t0.2.2.2) (1:Int) (9999:Int) (fun y6=>
 bif (!y6)then
 k (.inr (.inl t1))
 else
 bif (decide (xh>0))then
 if 0≤t3∧t3<(x.1.length:Int)then
 vvl (rd (Ty.zero tVersion) x.1 t3) t0 (fun y7=>
 bif (decide (y7≥0))then
 k (.inr (.inl t1))
 else
 k (.inl t2))
 else none
 else
 k (.inl t2)))
 else none
 else
 k (.inr (.inr (x.1,x.2.1,x.2.2.1,x.2.2.2.1,xh)))
instance n31n_bp0 (x:q24T):ParC (vn9 x):=by unfold vn9;(try dsimp only);exact⟨(vae (vbw ((n11n_p _).p.bind fun _=>(vae (vac _) (vae (vac _) (vae (vae (vac _) ((n47n_p ..).p.bind fun _=>(vae (vac _) (vae (vbw ((n34n_p ..).p.bind fun _=>(vae (vac _) (vac _))) vaw) (vac _))))) ((n47n_p ..).p.bind fun _=>(vae (vac _) (vae (vbw ((n34n_p ..).p.bind fun _=>(vae (vac _) (vac _))) vaw) (vac _)))))))) vaw) (vac _))⟩
def wlu (a0:VL)(k:Bool→OR):OR:=
 vab vn9 Fuel (a0,false,a0,(a0.length:Int),0) (Sum.elim (fun z1=>
 k z1.2.1) (fun z2=>
 k (decide ((z2.1.length:Int)≤(120:Int)))))
def v0h:=shut wlu
theorem wvm:v0h=wlu:=vaf _
instance n31n_p (a0:VL):ParC (v0h a0):=by rw [wvm];unfold wlu;(try dsimp only);infer_instance
def wj3 (a0:vbz)(k:Bool→OR):OR:=
 vkb a0.1 (fun y1=>
 bif y1 then
 vkb a0.2 (fun y2=>
 bif y2 then
 k ((vai a0.1 a0.2)||(vaj a0.1 a0.2))
 else
 k false)
 else
 k false)
def v77:=shut wj3
theorem wqw:v77=wj3:=vaf _
instance n19n_p (a0:vbz):ParC (v77 a0):=by rw [wqw];unfold wj3;(try dsimp only);infer_instance
def wkx (a0:vb9)(k:Bool→OR):OR:=
 vkb a0.1 (fun y1=>
 bif y1 then
 bif (decide ((a0.2.1.size:Int)≤(12:Int)))then
 bif (!a0.2.2)then
 k true
 else
 k (vaj a0.2.1 (⟨#[]⟩:ByteArray))
 else
 k false
 else
 k false)
def v6s:=shut wkx
theorem wvt:v6s=wkx:=vaf _
instance n32n_p (a0:vb9):ParC (v6s a0):=by rw [wvt];unfold wkx;(try dsimp only);infer_instance
def vox (x:q38T)(k:q38T⊕(q38T⊕q38T)→OR):OR:=
 let xh:=x.2.2.2.2
 bif (decide (xh<x.2.2.2.1))then
 if 0≤xh∧xh<(x.2.2.1.length:Int)then
 v6s (rd (Ty.zero tWrite) x.2.2.1 xh) (fun y3=>
 bif (!y3)then
 k (.inr (.inl (x.1,false,x.2.2.1,x.2.2.2.1,xh)))
 else
 bif (decide (xh>0))then
 if 0≤(IntKind.wrap .i64 (xh-1))∧(IntKind.wrap .i64 (xh-1))<(x.1.length:Int)then
 bif (!(vai ((rd (Ty.zero tWrite) x.1 (IntKind.wrap .i64 (xh-1))).1) ((rd (Ty.zero tWrite) x.2.2.1 xh).1)))then
 k (.inr (.inl (x.1,false,x.2.2.1,x.2.2.2.1,xh)))
 else
 k (.inl (x.1,x.2.1,x.2.2.1,x.2.2.2.1,(IntKind.wrap .i64 (xh+1))))
 else none
 else
 k (.inl (x.1,x.2.1,x.2.2.1,x.2.2.2.1,(IntKind.wrap .i64 (xh+1)))))
 else none
 else
 k (.inr (.inr (x.1,x.2.1,x.2.2.1,x.2.2.2.1,xh)))
instance n33n_bp0 (x:q38T):ParC (vox x):=by unfold vox;(try dsimp only);infer_instance
def wke (a0:WL)(k:Bool→OR):OR:=
 vab vox Fuel (a0,false,a0,(a0.length:Int),0) (Sum.elim (fun z1=>
 k z1.2.1) (fun z2=>
 k (decide ((z2.1.length:Int)≤(8:Int)))))
def v3s:=shut wke
theorem wyq:v3s=wke:=vaf _
instance n33n_p (a0:WL):ParC (v3s a0):=by rw [wyq];unfold wke;(try dsimp only);infer_instance
def vcf (x:q62T)(k:q62T→OR):OR:=
 let xh:=x.2.2.2.2
 let xi:=xh.2.2.2.2
 bif (x.2.2.1==(2:Int))then
 vkb xi (fun y15=>
 bif y15 then
 k (true,x.2.1,x.2.2.1,x.2.2.2.1,xh.1,xh.2.1,xh.2.2.1,xh.2.2.2.1,xi)
 else
 bif (x.2.2.1 != (2:Int))then
 k ((vaj xi (⟨#[]⟩:ByteArray)),x.2.1,x.2.2.1,x.2.2.2.1,xh.1,xh.2.1,xh.2.2.1,xh.2.2.2.1,xi)
 else
 k (false,x.2.1,x.2.2.1,x.2.2.2.1,xh.1,xh.2.1,xh.2.2.1,xh.2.2.2.1,xi))
 else
 bif (x.2.2.1 != (2:Int))then
 k ((vaj xi (⟨#[]⟩:ByteArray)),x.2.1,x.2.2.1,x.2.2.2.1,xh.1,xh.2.1,xh.2.2.1,xh.2.2.2.1,xi)
 else
 k (false,x.2.1,x.2.2.1,x.2.2.2.1,xh.1,xh.2.1,xh.2.2.1,xh.2.2.2.1,xi)
instance n30n_jp5000011 (x:q62T):ParC (vcf x):=by unfold vcf;(try dsimp only);infer_instance
def vdl (x:q62T)(k:q62T→OR):OR:=
 let xh:=x.2.2.2.2
 let t0:=(x.1,x.2.1,x.2.2.1,x.2.2.2.1,xh.1,xh.2.1,xh.2.2.1,xh.2.2.2.1,xh.2.2.2.2)
 let t1:=(false,x.2.1,x.2.2.1,x.2.2.2.1,xh.1,xh.2.1,xh.2.2.1,xh.2.2.2.1,xh.2.2.2.2)
 bif (x.2.2.1==(3:Int))then
 vej xh.1 (IntKind.wrap .i64 (x.2.2.2.1+1)) (9999:Int) (fun y10=>
 bif (!y10)then
 k t1
 else
 bif (x.2.2.1 != (3:Int))then
 bif (xh.1 != (0:Int))then
 k t1
 else
 vcf t0 (fun z11=>
 let z11h:=z11.2.2.2.2
 k (z11.1,z11.2.1,z11.2.2.1,z11.2.2.2.1,z11h.1,z11h.2.1,z11h.2.2.1,z11h.2.2.2.1,z11h.2.2.2.2))
 else
 vcf t0 (fun z12=>
 let z12h:=z12.2.2.2.2
 k (z12.1,z12.2.1,z12.2.2.1,z12.2.2.2.1,z12h.1,z12h.2.1,z12h.2.2.1,z12h.2.2.2.1,z12h.2.2.2.2)))
 else
 bif (x.2.2.1 != (3:Int))then
 bif (xh.1 != (0:Int))then
 k t1
 else
 vcf t0 (fun z13=>
 let z13h:=z13.2.2.2.2
 k (z13.1,z13.2.1,z13.2.2.1,z13.2.2.2.1,z13h.1,z13h.2.1,z13h.2.2.1,z13h.2.2.2.1,z13h.2.2.2.2))
 else
 vcf t0 (fun z14=>
 let z14h:=z14.2.2.2.2
 k (z14.1,z14.2.1,z14.2.2.1,z14.2.2.2.1,z14h.1,z14h.2.1,z14h.2.2.1,z14h.2.2.2.1,z14h.2.2.2.2))
instance n30n_jp5000009 (x:q62T):ParC (vdl x):=by unfold vdl;(try dsimp only);exact⟨(vae ((n47n_p ..).p.bind fun _=>(vae (vac _) (vae (vae (vac _) ((n30n_jp5000011 _).p.bind fun _=>(vac _))) ((n30n_jp5000011 _).p.bind fun _=>(vac _))))) (vae (vae (vac _) ((n30n_jp5000011 _).p.bind fun _=>(vac _))) ((n30n_jp5000011 _).p.bind fun _=>(vac _))))⟩
def vof (x:q43T)(k:q43T⊕(q43T⊕q43T)→OR):OR:=
 let xh:=x.2.2.2.2
 let xi:=xh.2.2.2.2
 bif (decide (x.2.2.2.1<x.2.2.1))then
 if 0≤x.2.2.2.1∧x.2.2.2.1<(x.2.1.length:Int)then
 v77 (rd (Ty.zero tRange) x.2.1 x.2.2.2.1) (fun y9=>
 bif (!y9)then
 k (.inr (.inl (false,x.2.1,x.2.2.1,x.2.2.2.1,xh.1,xh.2.1,xh.2.2.1,xh.2.2.2.1,xi.1,xi.2.1,xi.2.2.1,xi.2.2.2)))
 else
 k (.inl (x.1,x.2.1,x.2.2.1,(IntKind.wrap .i64 (x.2.2.2.1+1)),xh.1,xh.2.1,xh.2.2.1,xh.2.2.2.1,xi.1,xi.2.1,xi.2.2.1,xi.2.2.2)))
 else none
 else
 k (.inr (.inr (x.1,x.2.1,x.2.2.1,x.2.2.2.1,xh.1,xh.2.1,xh.2.2.1,xh.2.2.2.1,xi.1,xi.2.1,xi.2.2.1,xi.2.2.2)))
instance n30n_bp0 (x:q43T):ParC (vof x):=by unfold vof;(try dsimp only);infer_instance
def wmb (a0:dTxn)(k:Bool→OR):OR:=
 vab vof Fuel (false,a0.2.2.2.2.1,(a0.2.2.2.2.1.length:Int),0,a0.1,a0.2.1,a0.2.2.1,a0.2.2.2.1,a0.2.2.2.2.1,a0.2.2.2.2.2.1,a0.2.2.2.2.2.2.1,a0.2.2.2.2.2.2.2) (Sum.elim (fun z1=>
 k z1.1) (fun z2=>
 let z2h:=z2.2.2.2.2
 let z2i:=z2h.2.2.2.2
 vej z2h.1 (1:Int) (9999:Int) (fun y3=>
 bif (!y3)then
 k false
 else
 vej z2h.2.1 (1:Int) (3:Int) (fun y4=>
 bif (!y4)then
 k false
 else
 vej z2h.2.2.1 (0:Int) (9999:Int) (fun y5=>
 bif (!y5)then
 k false
 else
 bif (decide ((z2i.1.length:Int)>(8:Int)))then
 k false
 else
 v3s z2i.2.1 (fun y6=>
 bif (!y6)then
 k false
 else
 bif z2i.2.2.1 then
 bif (z2h.2.1==(1:Int))then
 k false
 else
 vdl (z2.1,z2h.1,z2h.2.1,z2h.2.2.1,z2h.2.2.2.1,z2i.1,z2i.2.1,z2i.2.2.1,z2i.2.2.2) (fun z7=>
 k z7.1)
 else
 vdl (z2.1,z2h.1,z2h.2.1,z2h.2.2.1,z2h.2.2.2.1,z2i.1,z2i.2.1,z2i.2.2.1,z2i.2.2.2) (fun z8=>
 k z8.1)))))))
def vl6:=shut wmb
theorem wut:vl6=wmb:=vaf _
instance n30n_p (a0:dTxn):ParC (vl6 a0):=by rw [wut];unfold wmb;(try dsimp only);exact⟨((vcq (fun x=>(n30n_bp0 x).p) _ _).bind2 (fun _=>(vac _)) (fun _=>((n47n_p ..).p.bind fun _=>(vae (vac _) ((n47n_p ..).p.bind fun _=>(vae (vac _) ((n47n_p ..).p.bind fun _=>(vae (vac _) (vae (vac _) ((n33n_p _).p.bind fun _=>(vae (vac _) (vae (vae (vac _) ((n30n_jp5000009 _).p.bind fun _=>(vac _))) ((n30n_jp5000009 _).p.bind fun _=>(vac _))))))))))))))⟩
def wva (a0:dTxn)(k:Bool→OR):OR:=
 k (a0.2.1==(3:Int))
def vua:=shut wva
theorem wrb:vua=wva:=vaf _
instance n42n_p (a0:dTxn):ParC (vua a0):=by rw [wrb];unfold wva;(try dsimp only);infer_instance
def wxi (a0:dTxn)(k:Bool→OR):OR:=
 k (a0.2.1==(2:Int))
def vxf:=shut wxi
theorem wtl:vxf=wxi:=vaf _
instance n43n_p (a0:dTxn):ParC (vxf a0):=by rw [wtl];unfold wxi;(try dsimp only);infer_instance
def wmz (a0:Int)(k:(TL⊕TL)→OR):OR:=
 bif (decide (a0<0))then
 none
 else
 bif (decide ((IntKind.wrap .i64 (a0-(IntKind.wrap .i64 ((0:Int)-0))))>(0:Int)))then
 if 0≤(0:Int)∧(0:Int)≤(0:Int)∧(0:Int)≤0 then
 if 0≤(IntKind.wrap .i64 (a0-(IntKind.wrap .i64 ((0:Int)-0))))∧(IntKind.wrap .i64 (a0-(IntKind.wrap .i64 ((0:Int)-0))))≤(VE.maxLen:Int)then
 if 0≤(0:Int)∧(0:Int)≤((List.replicate (IntKind.wrap .i64 (a0-(IntKind.wrap .i64 ((0:Int)-0)))).toNat (Ty.zero tTxn)).length:Int)then
 k (.inl ((List.replicate (IntKind.wrap .i64 (a0-(IntKind.wrap .i64 ((0:Int)-0)))).toNat (Ty.zero tTxn)).take (0:Int).toNat))
 else none
 else none
 else none
 else
 k (.inr ([]:List dTxn))
def v5z:=shut wmz
theorem wti:v5z=wmz:=vaf _
instance n98n_p (a0:Int):ParC (v5z a0):=by rw [wti];unfold wmz;(try dsimp only);infer_instance
def vp8 (x:q0T)(k:q0T⊕q0T→OR):OR:=
 let xh:=x.2.2.2.2
 bif (decide (xh<x.2.2.2.1))then
 if 0≤xh∧xh<(x.2.2.1.length:Int)then
 bif (decide ((IntKind.wrap .i64 (x.2.1+((rd (Ty.zero (.slice tTxn)) x.2.2.1 xh).length:Int)))<(0:Int)))then
 none
 else
 k (.inl (x.1,(IntKind.wrap .i64 (x.2.1+((rd (Ty.zero (.slice tTxn)) x.2.2.1 xh).length:Int))),x.2.2.1,x.2.2.2.1,(IntKind.wrap .i64 (xh+1))))
 else none
 else
 k (.inr (x.1,x.2.1,x.2.2.1,x.2.2.2.1,xh))
instance n92n_bp0 (x:q0T):ParC (vp8 x):=by unfold vp8;(try dsimp only);infer_instance
def ve4 (x:(q1T⊕q1T))(k:(q1T⊕q1T)⊕(q1T⊕q1T)→OR):OR:=
 (Sum.elim (fun x=>
 bif (decide (x.2.2.1<x.2.1))then
 if 0≤x.2.2.1∧x.2.2.1<(x.1.length:Int)then
 if x.2.2.2.length+(rd (Ty.zero (.slice tTxn)) x.1 x.2.2.1).length≤VE.maxLen then
 k (.inl (.inl (x.1,x.2.1,(IntKind.wrap .i64 (x.2.2.1+1)),(x.2.2.2++(rd (Ty.zero (.slice tTxn)) x.1 x.2.2.1)))))
 else none
 else none
 else
 k (.inr (.inl (x.1,x.2.1,x.2.2.1,x.2.2.2)))) (fun x=>
 bif (decide (x.2.2.1<x.2.1))then
 if 0≤x.2.2.1∧x.2.2.1<(x.1.length:Int)then
 if x.2.2.2.length+(rd (Ty.zero (.slice tTxn)) x.1 x.2.2.1).length≤VE.maxLen then
 k (.inl (.inl (x.1,x.2.1,(IntKind.wrap .i64 (x.2.2.1+1)),(x.2.2.2++(rd (Ty.zero (.slice tTxn)) x.1 x.2.2.1)))))
 else none
 else none
 else
 k (.inr (.inr (x.1,x.2.1,x.2.2.1,x.2.2.2))))) x
instance n92n_bp2 (x:(q1T⊕q1T)):ParC (ve4 x):=by
 unfold ve4
 rcases x with x|x
 ·simp only [Sum.elim_inl]
  infer_instance
 ·simp only [Sum.elim_inr]
  (try dsimp only)
  infer_instance
def wm0 (a0:(List TL))(k:(TL⊕TL)→OR):OR:=
 vab vp8 Fuel (a0,0,a0,(a0.length:Int),0) (fun z1=>
 v5z z1.2.1 (Sum.elim (fun y2=>
 vab ve4 Fuel (.inl (z1.1,(z1.1.length:Int),0,y2)) (Sum.elim (fun z3=>
 k (.inl z3.2.2.2)) (fun z4=>
 k (.inr z4.2.2.2)))) (fun y5=>
 vab ve4 Fuel (.inr (z1.1,(z1.1.length:Int),0,y5)) (Sum.elim (fun z6=>
 k (.inl z6.2.2.2)) (fun z7=>
 k (.inr z7.2.2.2))))))
def vw8:=shut wm0
theorem wxf:vw8=wm0:=vaf _
instance n92n_p (a0:(List TL)):ParC (vw8 a0):=by rw [wxf];unfold wm0;(try dsimp only);exact⟨((vcq (fun x=>(n92n_bp0 x).p) _ _).bind fun _=>((n98n_p _).p.bind2 (fun _=>((vcq (fun x=>(n92n_bp2 x).p) _ _).bind2 (fun _=>(vac _)) (fun _=>(vac _)))) (fun _=>((vcq (fun x=>(n92n_bp2 x).p) _ _).bind2 (fun _=>(vac _)) (fun _=>(vac _))))))⟩
def wri (a0:dTxn)(a1:Int)(a2:Int)(a3:Int)(a4:Int)(a5:RL)(a6:WL)(a7:Bool)(a8:ByteArray)(k:q62T→OR):OR:=
 k ((a0.1==a1),a1,a2,a3,a4,a5,a6,a7,a8)
def v6j:=shut wri
theorem wvu:v6j=wri:=vaf _
instance n41n_p (a0:dTxn)(a1:Int)(a2:Int)(a3:Int)(a4:Int)(a5:RL)(a6:WL)(a7:Bool)(a8:ByteArray):ParC (v6j a0 a1 a2 a3 a4 a5 a6 a7 a8):=by rw [wvu];unfold wri;(try dsimp only);infer_instance
def vi8 (x:q14T)(k:q14T⊕(q14T⊕q14T)→OR):OR:=
 let xh:=x.2.2.2.2
 let xi:=xh.2.2.2.2
 bif (decide (x.2.2.2.1<x.2.2.1))then
 if 0≤x.2.2.2.1∧x.2.2.2.1<(x.1.length:Int)then
 v6j (rd (Ty.zero tTxn) x.1 x.2.2.2.1) xh.1 xh.2.1 xh.2.2.1 xh.2.2.2.1 xi.1 xi.2.1 xi.2.2.1 xi.2.2.2 (fun y3=>
 let y3h:=y3.2.2.2.2
 bif y3.1 then
 k (.inr (.inl (x.1,x.2.2.2.1,x.2.2.1,x.2.2.2.1,y3.2.1,y3.2.2.1,y3.2.2.2.1,y3h.1,y3h.2.1,y3h.2.2.1,y3h.2.2.2.1,y3h.2.2.2.2)))
 else
 k (.inl (x.1,x.2.1,x.2.2.1,(IntKind.wrap .i64 (x.2.2.2.1+1)),y3.2.1,y3.2.2.1,y3.2.2.2.1,y3h.1,y3h.2.1,y3h.2.2.1,y3h.2.2.2.1,y3h.2.2.2.2)))
 else none
 else
 k (.inr (.inr (x.1,x.2.1,x.2.2.1,x.2.2.2.1,xh.1,xh.2.1,xh.2.2.1,xh.2.2.2.1,xi.1,xi.2.1,xi.2.2.1,xi.2.2.2)))
instance n104n_bp0 (x:q14T):ParC (vi8 x):=by unfold vi8;(try dsimp only);infer_instance
def v8z (a0:TL)(a1:Int)(a2:Int)(a3:Int)(a4:Int)(a5:RL)(a6:WL)(a7:Bool)(a8:ByteArray)(k:q96T→OR):OR:=
 vab vi8 Fuel (a0,0,(a0.length:Int),0,a1,a2,a3,a4,a5,a6,a7,a8) (Sum.elim (fun z1=>
 let z1h:=z1.2.2.2.2
 k (z1.2.1,z1h.1,z1h.2.1,z1h.2.2.1,z1h.2.2.2.1,z1h.2.2.2.2.1,z1h.2.2.2.2.2.1,z1h.2.2.2.2.2.2.1,z1h.2.2.2.2.2.2.2)) (fun z2=>
 let z2h:=z2.2.2.2.2
 k ((-1:Int),z2h.1,z2h.2.1,z2h.2.2.1,z2h.2.2.2.1,z2h.2.2.2.2.1,z2h.2.2.2.2.2.1,z2h.2.2.2.2.2.2.1,z2h.2.2.2.2.2.2.2)))
def v0l:=shut v8z
theorem we8:v0l=v8z:=vaf _
instance n104n_p (a0:TL)(a1:Int)(a2:Int)(a3:Int)(a4:Int)(a5:RL)(a6:WL)(a7:Bool)(a8:ByteArray):ParC (v0l a0 a1 a2 a3 a4 a5 a6 a7 a8):=by rw [we8];unfold v8z;(try dsimp only);infer_instance
def wk4 (a0:TL)(a1:Int)(a2:Int)(a3:Int)(a4:Int)(a5:RL)(a6:WL)(a7:Bool)(a8:ByteArray)(k:q62T→OR):OR:=
 v0l a0 a1 a2 a3 a4 a5 a6 a7 a8 (fun y1=>
 let y1h:=y1.2.2.2.2
 k ((decide (y1.1≥0)),y1.2.1,y1.2.2.1,y1.2.2.2.1,y1h.1,y1h.2.1,y1h.2.2.1,y1h.2.2.2.1,y1h.2.2.2.2))
def wlp:=shut wk4
theorem wwj:wlp=wk4:=vaf _
instance n94n_p (a0:TL)(a1:Int)(a2:Int)(a3:Int)(a4:Int)(a5:RL)(a6:WL)(a7:Bool)(a8:ByteArray):ParC (wlp a0 a1 a2 a3 a4 a5 a6 a7 a8):=by rw [wwj];unfold wk4;(try dsimp only);infer_instance
def wlq (a0:TL)(a1:Int)(a2:Int)(a3:Int)(a4:Int)(a5:RL)(a6:WL)(a7:Bool)(a8:ByteArray)(k:q62T→OR):OR:=
 wlp a0 a1 a2 a3 a4 a5 a6 a7 a8 (fun y1=>
 let y1h:=y1.2.2.2.2
 k (y1.1,y1.2.1,y1.2.2.1,y1.2.2.2.1,y1h.1,y1h.2.1,y1h.2.2.1,y1h.2.2.2.1,y1h.2.2.2.2))
def v6a:=shut wlq
theorem wyf:v6a=wlq:=vaf _
instance n46n_p (a0:TL)(a1:Int)(a2:Int)(a3:Int)(a4:Int)(a5:RL)(a6:WL)(a7:Bool)(a8:ByteArray):ParC (v6a a0 a1 a2 a3 a4 a5 a6 a7 a8):=by rw [wyf];unfold wlq;(try dsimp only);infer_instance
def vph (x:q10T)(k:q10T⊕(q10T⊕q10T)→OR):OR:=
 let xh:=x.2.2.2.2
 let t0:=(rd (Ty.zero tTxn) x.2.2.2.1 xh.2)
 bif (decide (xh.2<xh.1))then
 if 0≤xh.2∧xh.2<(x.2.2.2.1.length:Int)then
 bif (decide (t0.1≥x.2.1))then
 k (.inr (.inl (x.1,x.2.1,false,x.2.2.2.1,xh.1,xh.2)))
 else
 if 0≤(0:Int)∧(0:Int)≤xh.2∧xh.2≤(x.1.length:Int)then
 v6a ((x.1.take xh.2.toNat).drop (0:Int).toNat) (t0.1) (t0.2.1) (t0.2.2.1) (t0.2.2.2.1) (t0.2.2.2.2.1) (t0.2.2.2.2.2.1) (t0.2.2.2.2.2.2.1) (t0.2.2.2.2.2.2.2) (fun y3=>
 bif y3.1 then
 k (.inr (.inl (x.1,x.2.1,false,x.2.2.2.1,xh.1,xh.2)))
 else
 k (.inl (x.1,x.2.1,x.2.2.1,x.2.2.2.1,xh.1,(IntKind.wrap .i64 (xh.2+1)))))
 else none
 else none
 else
 k (.inr (.inr (x.1,x.2.1,x.2.2.1,x.2.2.2.1,xh.1,xh.2)))
instance n40n_bp0 (x:q10T):ParC (vph x):=by unfold vph;(try dsimp only);infer_instance
def wmr (a0:TL)(a1:Int)(k:Bool→OR):OR:=
 vab vph Fuel (a0,a1,false,a0,(a0.length:Int),0) (Sum.elim (fun z1=>
 k z1.2.2.1) (fun _=>
 k true))
def vuy:=shut wmr
theorem wre:vuy=wmr:=vaf _
instance n40n_p (a0:TL)(a1:Int):ParC (vuy a0 a1):=by rw [wre];unfold wmr;(try dsimp only);infer_instance
def voe (x:q49T)(k:q49T⊕(q49T⊕q49T)→OR):OR:=
 let xh:=x.2.2.2.2
 bif (decide (x.2.2.2.1<x.2.2.1))then
 if 0≤x.2.2.2.1∧x.2.2.2.1<(x.2.1.length:Int)then
 bif (decide ((rd (Ty.zero tVersion) x.2.1 x.2.2.2.1).2.2.2>xh.2.2.2.1))then
 k (.inr (.inl (false,x.2.1,x.2.2.1,x.2.2.2.1,xh.1,xh.2.1,xh.2.2.1,xh.2.2.2.1,xh.2.2.2.2)))
 else
 k (.inl (x.1,x.2.1,x.2.2.1,(IntKind.wrap .i64 (x.2.2.2.1+1)),xh.1,xh.2.1,xh.2.2.1,xh.2.2.2.1,xh.2.2.2.2))
 else none
 else
 k (.inr (.inr (x.1,x.2.1,x.2.2.1,x.2.2.2.1,xh.1,xh.2.1,xh.2.2.1,xh.2.2.2.1,xh.2.2.2.2)))
instance n05n_bp0 (x:q49T):ParC (voe x):=by unfold voe;(try dsimp only);infer_instance
def vn6 (x:q44T)(k:q44T⊕(q44T⊕q44T)→OR):OR:=
 let xh:=x.2.2.2.2
 let t0:=(false,x.2.1,x.2.2.1,x.2.2.2.1,xh.1,xh.2.1,xh.2.2.1,xh.2.2.2.1,xh.2.2.2.2)
 let t1:=(x.1,x.2.1,x.2.2.1,(IntKind.wrap .i64 (x.2.2.2.1+(1:Int))),xh.1,xh.2.1,xh.2.2.1,xh.2.2.2.1,xh.2.2.2.2)
 let t2:=(rd (Ty.zero tTxn) x.2.1 x.2.2.2.1)
 bif (decide (x.2.2.2.1<x.2.2.1))then
 if 0≤x.2.2.2.1∧x.2.2.2.1<(x.2.1.length:Int)then
 vl6 t2 (fun y5=>
 bif (!y5)then
 k (.inr (.inl t0))
 else
 vua t2 (fun y6=>
 bif (!y6)then
 k (.inr (.inl t0))
 else
 bif (decide (t2.2.2.2.1>xh.2.2.2.1))then
 k (.inr (.inl t0))
 else
 bif (decide (x.2.2.2.1>0))then
 if 0≤(IntKind.wrap .i64 (x.2.2.2.1-1))∧(IntKind.wrap .i64 (x.2.2.2.1-1))<(xh.2.1.length:Int)then
 bif (decide ((rd (Ty.zero tTxn) xh.2.1 (IntKind.wrap .i64 (x.2.2.2.1-1))).2.2.2.1≥t2.2.2.2.1))then
 k (.inr (.inl t0))
 else
 k (.inl t1)
 else none
 else
 k (.inl t1)))
 else none
 else
 k (.inr (.inr (x.1,x.2.1,x.2.2.1,x.2.2.2.1,xh.1,xh.2.1,xh.2.2.1,xh.2.2.2.1,xh.2.2.2.2)))
instance n05n_bp2 (x:q44T):ParC (vn6 x):=by unfold vn6;(try dsimp only);infer_instance
def vqj (x:q44T)(k:q44T⊕(q44T⊕q44T)→OR):OR:=
 let xh:=x.2.2.2.2
 let t0:=(false,x.2.1,x.2.2.1,x.2.2.2.1,xh.1,xh.2.1,xh.2.2.1,xh.2.2.2.1,xh.2.2.2.2)
 let t1:=(x.1,x.2.1,x.2.2.1,(IntKind.wrap .i64 (x.2.2.2.1+(1:Int))),xh.1,xh.2.1,xh.2.2.1,xh.2.2.2.1,xh.2.2.2.2)
 let t2:=(rd (Ty.zero tTxn) x.2.1 x.2.2.2.1)
 bif (decide (x.2.2.2.1<x.2.2.1))then
 if 0≤x.2.2.2.1∧x.2.2.2.1<(x.2.1.length:Int)then
 vl6 t2 (fun y7=>
 bif (!y7)then
 k (.inr (.inl t0))
 else
 vxf t2 (fun y8=>
 bif (!y8)then
 k (.inr (.inl t0))
 else
 bif (decide (t2.2.2.1>xh.2.2.2.1))then
 k (.inr (.inl t0))
 else
 bif (decide (x.2.2.2.1>0))then
 if 0≤(IntKind.wrap .i64 (x.2.2.2.1-1))∧(IntKind.wrap .i64 (x.2.2.2.1-1))<(xh.2.2.1.length:Int)then
 bif (!(vai ((rd (Ty.zero tTxn) xh.2.2.1 (IntKind.wrap .i64 (x.2.2.2.1-1))).2.2.2.2.2.2.2) (t2.2.2.2.2.2.2.2)))then
 k (.inr (.inl t0))
 else
 k (.inl t1)
 else none
 else
 k (.inl t1)))
 else none
 else
 k (.inr (.inr (x.1,x.2.1,x.2.2.1,x.2.2.2.1,xh.1,xh.2.1,xh.2.2.1,xh.2.2.2.1,xh.2.2.2.2)))
instance n05n_bp4 (x:q44T):ParC (vqj x):=by unfold vqj;(try dsimp only);infer_instance
def vei (x:q48T)(k:q48T→OR):OR:=
 vab voe Fuel (x.1,x.2.1,(x.2.1.length:Int),0,x.2.1,x.2.2.1,x.2.2.2.1,x.2.2.2.2.1,x.2.2.2.2.2) (Sum.elim (fun z9=>
 let z9h:=z9.2.2.2.2
 k (z9.1,z9h.1,z9h.2.1,z9h.2.2.1,z9h.2.2.2.1,z9h.2.2.2.2)) (fun z10=>
 let z10h:=z10.2.2.2.2
 vab vn6 Fuel (z10.1,z10h.2.1,(z10h.2.1.length:Int),0,z10h.1,z10h.2.1,z10h.2.2.1,z10h.2.2.2.1,z10h.2.2.2.2) (Sum.elim (fun z11=>
 let z11h:=z11.2.2.2.2
 k (z11.1,z11h.1,z11h.2.1,z11h.2.2.1,z11h.2.2.2.1,z11h.2.2.2.2)) (fun z12=>
 let z12h:=z12.2.2.2.2
 vab vqj Fuel (z12.1,z12h.2.2.1,(z12h.2.2.1.length:Int),0,z12h.1,z12h.2.1,z12h.2.2.1,z12h.2.2.2.1,z12h.2.2.2.2) (Sum.elim (fun z13=>
 let z13h:=z13.2.2.2.2
 k (z13.1,z13h.1,z13h.2.1,z13h.2.2.1,z13h.2.2.2.1,z13h.2.2.2.2)) (fun z14=>
 let z14h:=z14.2.2.2.2
 vw8 [z14h.2.1,z14h.2.2.1] (Sum.elim (fun y15=>
 vuy y15 z14h.2.2.2.2 (fun y16=>
 k (y16,z14h.1,z14h.2.1,z14h.2.2.1,z14h.2.2.2.1,z14h.2.2.2.2))) (fun y17=>
 vuy y17 z14h.2.2.2.2 (fun y18=>
 k (y18,z14h.1,z14h.2.1,z14h.2.2.1,z14h.2.2.2.1,z14h.2.2.2.2))))))))))
instance n05n_jp5000003 (x:q48T):ParC (vei x):=by unfold vei;(try dsimp only);exact⟨((vcq (fun x=>(n05n_bp0 x).p) _ _).bind2 (fun _=>(vac _)) (fun _=>((vcq (fun x=>(n05n_bp2 x).p) _ _).bind2 (fun _=>(vac _)) (fun _=>((vcq (fun x=>(n05n_bp4 x).p) _ _).bind2 (fun _=>(vac _)) (fun _=>((n92n_p _).p.bind2 (fun _=>((n40n_p ..).p.bind fun _=>(vac _))) (fun _=>((n40n_p ..).p.bind fun _=>(vac _))))))))))⟩
def wm6 (a0:va3)(k:Bool→OR):OR:=
 v0h a0.1 (fun y1=>
 bif (!y1)then
 k false
 else
 bif (decide ((a0.2.1.length:Int)>(12:Int)))then
 k false
 else
 bif (decide ((a0.2.2.1.length:Int)>(3:Int)))then
 k false
 else
 vej a0.2.2.2.1 (0:Int) (9999:Int) (fun y2=>
 bif (!y2)then
 k false
 else
 vej a0.2.2.2.2 (1:Int) (9999:Int) (fun y3=>
 bif (!y3)then
 k false
 else
 vei (false,a0.1,a0.2.1,a0.2.2.1,a0.2.2.2.1,a0.2.2.2.2) (fun z4=>
 k z4.1))))
def vrd:=shut wm6
theorem wwm:vrd=wm6:=vaf _
instance n05n_p (a0:va3):ParC (vrd a0):=by rw [wwm];unfold wm6;(try dsimp only);infer_instance
def wm5 (a0:dTxn)(k:q92T→OR):OR:=
 if a0.2.2.2.2.1.length≤VE.maxLen then
 if a0.2.2.2.2.2.1.length≤VE.maxLen then
 k (a0.1,a0.2.1,a0.2.2.1,a0.2.2.2.1,a0.2.2.2.2.2.2.1,a0.2.2.2.2.2.2.2,a0.2.2.2.2.1,a0.2.2.2.2.2.1)
 else none
 else none
def vtw:=shut wm5
theorem wyd:vtw=wm5:=vaf _
instance n36n_p (a0:dTxn):ParC (vtw a0):=by rw [wyd];unfold wm5;(try dsimp only);infer_instance
def vnz (x:q11T)(k:q11T⊕q11T→OR):OR:=
 bif (decide (x.2.2.1<x.2.1))then
 if 0≤x.2.2.1∧x.2.2.1<(x.1.length:Int)then
 vtw (rd (Ty.zero tTxn) x.1 x.2.2.1) (fun y2=>
 let y2h:=y2.2.2.2.2
 if x.2.2.2.length+[(y2.1,(y2.2.1,(y2.2.2.1,(y2.2.2.2.1,(y2h.2.2.1,(y2h.2.2.2,(y2h.1,y2h.2.1)))))))].length≤VE.maxLen then
 k (.inl (x.1,x.2.1,(IntKind.wrap .i64 (x.2.2.1+(1:Int))),(x.2.2.2++[(y2.1,(y2.2.1,(y2.2.2.1,(y2.2.2.2.1,(y2h.2.2.1,(y2h.2.2.2,(y2h.1,y2h.2.1)))))))])))
 else none)
 else none
 else
 k (.inr (x.1,x.2.1,x.2.2.1,x.2.2.2))
instance n37n_bp0 (x:q11T):ParC (vnz x):=by unfold vnz;(try dsimp only);infer_instance
def wmi (a0:TL)(k:TL→OR):OR:=
 vab vnz Fuel (a0,(a0.length:Int),0,([]:List dTxn)) (fun z1=>
 k z1.2.2.2)
def v0m:=shut wmi
theorem wta:v0m=wmi:=vaf _
instance n37n_p (a0:TL):ParC (v0m a0):=by rw [wta];unfold wmi;(try dsimp only);infer_instance
def wkh (a0:va3)(k:q86T→OR):OR:=
 if a0.1.length≤VE.maxLen then
 v0m a0.2.1 (fun y1=>
 v0m a0.2.2.1 (fun y2=>
 k (a0.2.2.2.1,a0.2.2.2.2,a0.1,y1,y2)))
 else none
def vim:=shut wkh
theorem wwu:vim=wkh:=vaf _
instance n35n_p (a0:va3):ParC (vim a0):=by rw [wwu];unfold wkh;(try dsimp only);infer_instance
def wjr (a0:dTxn)(k:Bool→OR):OR:=
 bif (a0.1==(0:Int))then
 bif (a0.2.1==(0:Int))then
 bif (a0.2.2.1==(0:Int))then
 bif (a0.2.2.2.1==(0:Int))then
 bif ((a0.2.2.2.2.1.length:Int)==(0:Int))then
 bif ((a0.2.2.2.2.2.1.length:Int)==(0:Int))then
 bif (!a0.2.2.2.2.2.2.1)then
 k (vaj a0.2.2.2.2.2.2.2 (⟨#[]⟩:ByteArray))
 else
 k false
 else
 k false
 else
 k false
 else
 k false
 else
 k false
 else
 k false
 else
 k false
def v5r:=shut wjr
theorem wxy:v5r=wjr:=vaf _
instance n39n_p (a0:dTxn):ParC (v5r a0):=by rw [wxy];unfold wjr;(try dsimp only);infer_instance
def wmv (a0:va3)(k:Bool→OR):OR:=
 bif ((a0.1.length:Int)==(0:Int))then
 bif ((a0.2.1.length:Int)==(0:Int))then
 bif ((a0.2.2.1.length:Int)==(0:Int))then
 bif (a0.2.2.2.1==(0:Int))then
 k (a0.2.2.2.2==(0:Int))
 else
 k false
 else
 k false
 else
 k false
 else
 k false
def v7u:=shut wmv
theorem wxv:v7u=wmv:=vaf _
instance n38n_p (a0:va3):ParC (v7u a0):=by rw [wxv];unfold wmv;(try dsimp only);infer_instance
def vbp (x:q54T)(k:q54T→OR):OR:=
 let xh:=x.2.2.2.2
 let xi:=xh.2.2.2.2
 let xj:=xi.2.2.2.2
 let xk:=xj.2.2.2.2
 let t0:=(false,x.2.1,x.2.2.1,x.2.2.2.1,xh.1,xh.2.1,xh.2.2.1,xh.2.2.2.1,xi.1,xi.2.1,xi.2.2.1,xi.2.2.2.1,xj.1,xj.2.1,xj.2.2.1,xj.2.2.2.1,xk.1,xk.2.1,xk.2.2.1,xk.2.2.2)
 bif x.2.1 then
 bif x.2.2.1 then
 bif x.2.2.2.1 then
 bif (!xj.2.2.1)then
 k (true,x.2.1,x.2.2.1,x.2.2.2.1,xh.1,xh.2.1,xh.2.2.1,xh.2.2.2.1,xi.1,xi.2.1,xi.2.2.1,xi.2.2.2.1,xj.1,xj.2.1,xj.2.2.1,xj.2.2.2.1,xk.1,xk.2.1,xk.2.2.1,xk.2.2.2)
 else
 k ((xh.1==(3:Int)),x.2.1,x.2.2.1,x.2.2.2.1,xh.1,xh.2.1,xh.2.2.1,xh.2.2.2.1,xi.1,xi.2.1,xi.2.2.1,xi.2.2.2.1,xj.1,xj.2.1,xj.2.2.1,xj.2.2.2.1,xk.1,xk.2.1,xk.2.2.1,xk.2.2.2)
 else
 k t0
 else
 k t0
 else
 k t0
instance n22n_jp5000012 (x:q54T):ParC (vbp x):=by unfold vbp;(try dsimp only);infer_instance
def wnb (a0:vcg)(k:Bool→OR):OR:=
 v5r a0.2.1 (fun y1=>
 v7u a0.2.2.2.2 (fun y2=>
 bif (a0.1==(1:Int))then
 vl6 a0.2.1 (fun y3=>
 bif y3 then
 vua a0.2.1 (fun y4=>
 vbp (false,y4,(vaj a0.2.2.1 (⟨#[]⟩:ByteArray)),y2,a0.1,a0.2.1.1,a0.2.1.2.1,a0.2.1.2.2.1,a0.2.1.2.2.2.1,a0.2.1.2.2.2.2.1,a0.2.1.2.2.2.2.2.1,a0.2.1.2.2.2.2.2.2.1,a0.2.1.2.2.2.2.2.2.2,a0.2.2.1,a0.2.2.2.1,a0.2.2.2.2.1,a0.2.2.2.2.2.1,a0.2.2.2.2.2.2.1,a0.2.2.2.2.2.2.2.1,a0.2.2.2.2.2.2.2.2) (fun z5=>
 k z5.1))
 else
 vbp (false,false,(vaj a0.2.2.1 (⟨#[]⟩:ByteArray)),y2,a0.1,a0.2.1.1,a0.2.1.2.1,a0.2.1.2.2.1,a0.2.1.2.2.2.1,a0.2.1.2.2.2.2.1,a0.2.1.2.2.2.2.2.1,a0.2.1.2.2.2.2.2.2.1,a0.2.1.2.2.2.2.2.2.2,a0.2.2.1,a0.2.2.2.1,a0.2.2.2.2.1,a0.2.2.2.2.2.1,a0.2.2.2.2.2.2.1,a0.2.2.2.2.2.2.2.1,a0.2.2.2.2.2.2.2.2) (fun z6=>
 k z6.1))
 else
 bif (a0.1==(2:Int))then
 vl6 a0.2.1 (fun y7=>
 bif y7 then
 vxf a0.2.1 (fun y8=>
 vbp (false,y8,(vaj a0.2.2.1 (⟨#[]⟩:ByteArray)),y2,a0.1,a0.2.1.1,a0.2.1.2.1,a0.2.1.2.2.1,a0.2.1.2.2.2.1,a0.2.1.2.2.2.2.1,a0.2.1.2.2.2.2.2.1,a0.2.1.2.2.2.2.2.2.1,a0.2.1.2.2.2.2.2.2.2,a0.2.2.1,a0.2.2.2.1,a0.2.2.2.2.1,a0.2.2.2.2.2.1,a0.2.2.2.2.2.2.1,a0.2.2.2.2.2.2.2.1,a0.2.2.2.2.2.2.2.2) (fun z9=>
 k z9.1))
 else
 vbp (false,false,(vaj a0.2.2.1 (⟨#[]⟩:ByteArray)),y2,a0.1,a0.2.1.1,a0.2.1.2.1,a0.2.1.2.2.1,a0.2.1.2.2.2.1,a0.2.1.2.2.2.2.1,a0.2.1.2.2.2.2.2.1,a0.2.1.2.2.2.2.2.2.1,a0.2.1.2.2.2.2.2.2.2,a0.2.2.1,a0.2.2.2.1,a0.2.2.2.2.1,a0.2.2.2.2.2.1,a0.2.2.2.2.2.2.1,a0.2.2.2.2.2.2.2.1,a0.2.2.2.2.2.2.2.2) (fun z10=>
 k z10.1))
 else
 bif (a0.1==(3:Int))then
 vkb a0.2.2.1 (fun y11=>
 vbp (false,y1,y11,y2,a0.1,a0.2.1.1,a0.2.1.2.1,a0.2.1.2.2.1,a0.2.1.2.2.2.1,a0.2.1.2.2.2.2.1,a0.2.1.2.2.2.2.2.1,a0.2.1.2.2.2.2.2.2.1,a0.2.1.2.2.2.2.2.2.2,a0.2.2.1,a0.2.2.2.1,a0.2.2.2.2.1,a0.2.2.2.2.2.1,a0.2.2.2.2.2.2.1,a0.2.2.2.2.2.2.2.1,a0.2.2.2.2.2.2.2.2) (fun z12=>
 k z12.1))
 else
 bif (a0.1==(4:Int))then
 vrd a0.2.2.2.2 (fun y13=>
 vbp (false,y1,(vaj a0.2.2.1 (⟨#[]⟩:ByteArray)),y13,a0.1,a0.2.1.1,a0.2.1.2.1,a0.2.1.2.2.1,a0.2.1.2.2.2.1,a0.2.1.2.2.2.2.1,a0.2.1.2.2.2.2.2.1,a0.2.1.2.2.2.2.2.2.1,a0.2.1.2.2.2.2.2.2.2,a0.2.2.1,a0.2.2.2.1,a0.2.2.2.2.1,a0.2.2.2.2.2.1,a0.2.2.2.2.2.2.1,a0.2.2.2.2.2.2.2.1,a0.2.2.2.2.2.2.2.2) (fun z14=>
 k z14.1))
 else
 k false))
def v6k:=shut wnb
theorem wwi:v6k=wnb:=vaf _
instance n22n_p (a0:vcg):ParC (v6k a0):=by rw [wwi];unfold wnb;(try dsimp only);exact⟨((n39n_p _).p.bind fun _=>((n38n_p _).p.bind fun _=>(vae ((n30n_p _).p.bind fun _=>(vae ((n42n_p _).p.bind fun _=>((n22n_jp5000012 _).p.bind fun _=>(vac _))) ((n22n_jp5000012 _).p.bind fun _=>(vac _)))) (vae ((n30n_p _).p.bind fun _=>(vae ((n43n_p _).p.bind fun _=>((n22n_jp5000012 _).p.bind fun _=>(vac _))) ((n22n_jp5000012 _).p.bind fun _=>(vac _)))) (vae ((n11n_p _).p.bind fun _=>((n22n_jp5000012 _).p.bind fun _=>(vac _))) (vae ((n05n_p _).p.bind fun _=>((n22n_jp5000012 _).p.bind fun _=>(vac _))) (vac _)))))))⟩
def wjy (a0:dTxn)(a1:dTxn)(k:Bool→OR):OR:=
 bif (a0.2.1==(3:Int))then
 k (decide (a0.2.2.2.1≤a1.2.2.1))
 else
 k false
def v6t:=shut wjy
theorem wrr:v6t=wjy:=vaf _
instance n07n_p (a0:dTxn)(a1:dTxn):ParC (v6t a0 a1):=by rw [wrr];unfold wjy;(try dsimp only);infer_instance
def wmf (a0:dTxn)(a1:dTxn)(k:Bool→OR):OR:=
 bif (a0.1 != a1.1)then
 v6t a0 a1 (fun y1=>
 bif (!y1)then
 v6t a1 a0 (fun y2=>
 k (!y2))
 else
 k false)
 else
 k false
def weo:=shut wmf
theorem wuv:weo=wmf:=vaf _
instance n06n_p (a0:dTxn)(a1:dTxn):ParC (weo a0 a1):=by rw [wuv];unfold wmf;(try dsimp only);infer_instance
def wks (a0:vbz)(a1:ByteArray)(k:Bool→OR):OR:=
 bif (!(vai a1 a0.1))then
 k ((vai a1 a0.2)||(vaj a1 a0.2))
 else
 k false
def v5q:=shut wks
theorem wwv:v5q=wks:=vaf _
instance n10n_p (a0:vbz)(a1:ByteArray):ParC (v5q a0 a1):=by rw [wwv];unfold wks;(try dsimp only);infer_instance
def voj (x:q36T)(k:q36T⊕(q36T⊕q36T)→OR):OR:=
 let xh:=x.2.2.2.2
 let xi:=xh.2.2.2.2
 bif (decide (xh.2.2.2.1<xh.2.2.1))then
 if 0≤xh.2.2.2.1∧xh.2.2.2.1<(xh.2.1.length:Int)then
 v5q xi ((rd (Ty.zero tWrite) xh.2.1 xh.2.2.2.1).1) (fun y5=>
 bif y5 then
 k (.inr (.inl (x.1,true,x.2.2.1,x.2.2.2.1,xh.1,xh.2.1,xh.2.2.1,xh.2.2.2.1,xi.1,xi.2)))
 else
 k (.inl (x.1,x.2.1,x.2.2.1,x.2.2.2.1,xh.1,xh.2.1,xh.2.2.1,(IntKind.wrap .i64 (xh.2.2.2.1+1)),xi.1,xi.2)))
 else none
 else
 k (.inr (.inr (x.1,x.2.1,x.2.2.1,x.2.2.2.1,xh.1,xh.2.1,xh.2.2.1,xh.2.2.2.1,xi.1,xi.2)))
instance n27n_bp2 (x:q36T):ParC (voj x):=by unfold voj;(try dsimp only);infer_instance
def vqi (x:q37T)(k:q37T⊕(q37T⊕q37T)→OR):OR:=
 let xh:=x.2.2.2.2
 bif (decide (xh<x.2.2.2.1))then
 if 0≤xh∧xh<(x.2.2.1.length:Int)then
 vab voj Fuel (x.1,x.2.1,x.2.2.1,x.2.2.2.1,xh,x.1,(x.1.length:Int),0,(rd (Ty.zero tRange) x.2.2.1 xh).1,(rd (Ty.zero tRange) x.2.2.1 xh).2) (Sum.elim (fun z3=>
 k (.inr (.inr (z3.1,z3.2.1,z3.2.2.1,z3.2.2.2.1,z3.2.2.2.2.1)))) (fun z4=>
 k (.inl (z4.1,z4.2.1,z4.2.2.1,z4.2.2.2.1,(IntKind.wrap .i64 (z4.2.2.2.2.1+1))))))
 else none
 else
 k (.inr (.inl (x.1,x.2.1,x.2.2.1,x.2.2.2.1,xh)))
instance n27n_bp0 (x:q37T):ParC (vqi x):=by unfold vqi;(try dsimp only);infer_instance
def wle (a0:RL)(a1:WL)(k:Bool→OR):OR:=
 vab vqi Fuel (a1,false,a0,(a0.length:Int),0) (Sum.elim (fun _=>
 k false) (fun z2=>
 k z2.2.1))
def v70:=shut wle
theorem wx1:v70=wle:=vaf _
instance n27n_p (a0:RL)(a1:WL):ParC (v70 a0 a1):=by rw [wx1];unfold wle;(try dsimp only);infer_instance
def wjm (a0:dTxn)(a1:dTxn)(k:Bool→OR):OR:=
 weo a0 a1 (fun y1=>
 bif y1 then
 v70 a0.2.2.2.2.1 a1.2.2.2.2.2.1 (fun y2=>
 k y2)
 else
 k false)
def v6n:=shut wjm
theorem wxh:v6n=wjm:=vaf _
instance n04n_p (a0:dTxn)(a1:dTxn):ParC (v6n a0 a1):=by rw [wxh];unfold wjm;(try dsimp only);infer_instance
def wju (a0:dTxn)(a1:Int)(a2:Int)(a3:Int)(a4:Int)(a5:RL)(a6:WL)(a7:Bool)(a8:ByteArray)(k:q62T→OR):OR:=
 vua a0 (fun y1=>
 bif y1 then
 v6n (a1,(a2,(a3,(a4,(a5,(a6,(a7,a8))))))) a0 (fun y2=>
 k (y2,a1,a2,a3,a4,a5,a6,a7,a8))
 else
 k (false,a1,a2,a3,a4,a5,a6,a7,a8))
def v54:=shut wju
theorem wyb:v54=wju:=vaf _
instance n15n_p (a0:dTxn)(a1:Int)(a2:Int)(a3:Int)(a4:Int)(a5:RL)(a6:WL)(a7:Bool)(a8:ByteArray):ParC (v54 a0 a1 a2 a3 a4 a5 a6 a7 a8):=by rw [wyb];unfold wju;(try dsimp only);infer_instance
def vjp (x:q14T)(k:q14T⊕(q14T⊕q14T)→OR):OR:=
 let xh:=x.2.2.2.2
 let xi:=xh.2.2.2.2
 bif (decide (x.2.2.2.1<x.2.2.1))then
 if 0≤x.2.2.2.1∧x.2.2.2.1<(x.1.length:Int)then
 v54 (rd (Ty.zero tTxn) x.1 x.2.2.2.1) xh.1 xh.2.1 xh.2.2.1 xh.2.2.2.1 xi.1 xi.2.1 xi.2.2.1 xi.2.2.2 (fun y3=>
 let y3h:=y3.2.2.2.2
 bif y3.1 then
 k (.inr (.inl (x.1,x.2.2.2.1,x.2.2.1,x.2.2.2.1,y3.2.1,y3.2.2.1,y3.2.2.2.1,y3h.1,y3h.2.1,y3h.2.2.1,y3h.2.2.2.1,y3h.2.2.2.2)))
 else
 k (.inl (x.1,x.2.1,x.2.2.1,(IntKind.wrap .i64 (x.2.2.2.1+1)),y3.2.1,y3.2.2.1,y3.2.2.2.1,y3h.1,y3h.2.1,y3h.2.2.1,y3h.2.2.2.1,y3h.2.2.2.2)))
 else none
 else
 k (.inr (.inr (x.1,x.2.1,x.2.2.1,x.2.2.2.1,xh.1,xh.2.1,xh.2.2.1,xh.2.2.2.1,xi.1,xi.2.1,xi.2.2.1,xi.2.2.2)))
instance n100n_bp0 (x:q14T):ParC (vjp x):=by unfold vjp;(try dsimp only);infer_instance
def v9h (a0:TL)(a1:Int)(a2:Int)(a3:Int)(a4:Int)(a5:RL)(a6:WL)(a7:Bool)(a8:ByteArray)(k:q96T→OR):OR:=
 vab vjp Fuel (a0,0,(a0.length:Int),0,a1,a2,a3,a4,a5,a6,a7,a8) (Sum.elim (fun z1=>
 let z1h:=z1.2.2.2.2
 k (z1.2.1,z1h.1,z1h.2.1,z1h.2.2.1,z1h.2.2.2.1,z1h.2.2.2.2.1,z1h.2.2.2.2.2.1,z1h.2.2.2.2.2.2.1,z1h.2.2.2.2.2.2.2)) (fun z2=>
 let z2h:=z2.2.2.2.2
 k ((-1:Int),z2h.1,z2h.2.1,z2h.2.2.1,z2h.2.2.2.1,z2h.2.2.2.2.1,z2h.2.2.2.2.2.1,z2h.2.2.2.2.2.2.1,z2h.2.2.2.2.2.2.2)))
def vz6:=shut v9h
theorem whk:vz6=v9h:=vaf _
instance n100n_p (a0:TL)(a1:Int)(a2:Int)(a3:Int)(a4:Int)(a5:RL)(a6:WL)(a7:Bool)(a8:ByteArray):ParC (vz6 a0 a1 a2 a3 a4 a5 a6 a7 a8):=by rw [whk];unfold v9h;(try dsimp only);infer_instance
def wjt (a0:TL)(a1:Int)(a2:Int)(a3:Int)(a4:Int)(a5:RL)(a6:WL)(a7:Bool)(a8:ByteArray)(k:q62T→OR):OR:=
 vz6 a0 a1 a2 a3 a4 a5 a6 a7 a8 (fun y1=>
 let y1h:=y1.2.2.2.2
 k ((decide (y1.1≥0)),y1.2.1,y1.2.2.1,y1.2.2.2.1,y1h.1,y1h.2.1,y1h.2.2.1,y1h.2.2.2.1,y1h.2.2.2.2))
def wkl:=shut wjt
theorem wtm:wkl=wjt:=vaf _
instance n93n_p (a0:TL)(a1:Int)(a2:Int)(a3:Int)(a4:Int)(a5:RL)(a6:WL)(a7:Bool)(a8:ByteArray):ParC (wkl a0 a1 a2 a3 a4 a5 a6 a7 a8):=by rw [wtm];unfold wjt;(try dsimp only);infer_instance
def wmo (a0:TL)(a1:Int)(a2:Int)(a3:Int)(a4:Int)(a5:RL)(a6:WL)(a7:Bool)(a8:ByteArray)(k:q62T→OR):OR:=
 wkl a0 a1 a2 a3 a4 a5 a6 a7 a8 (fun y1=>
 let y1h:=y1.2.2.2.2
 k (y1.1,y1.2.1,y1.2.2.1,y1.2.2.2.1,y1h.1,y1h.2.1,y1h.2.2.1,y1h.2.2.2.1,y1h.2.2.2.2))
def wmp:=shut wmo
theorem wsn:wmp=wmo:=vaf _
instance n45n_p (a0:TL)(a1:Int)(a2:Int)(a3:Int)(a4:Int)(a5:RL)(a6:WL)(a7:Bool)(a8:ByteArray):ParC (wmp a0 a1 a2 a3 a4 a5 a6 a7 a8):=by rw [wsn];unfold wmo;(try dsimp only);infer_instance
def wk5 (a0:dTxn)(a1:TL)(k:Bool→OR):OR:=
 wmp a1 a0.1 a0.2.1 a0.2.2.1 a0.2.2.2.1 a0.2.2.2.2.1 a0.2.2.2.2.2.1 a0.2.2.2.2.2.2.1 a0.2.2.2.2.2.2.2 (fun y1=>
 k y1.1)
def v0j:=shut wk5
theorem wrn:v0j=wk5:=vaf _
instance n14n_p (a0:dTxn)(a1:TL):ParC (v0j a0 a1):=by rw [wrn];unfold wk5;(try dsimp only);infer_instance
def wj1 (a0:vah)(a1:ByteArray)(a2:ByteArray)(a3:Bool)(a4:Int)(k:q56T→OR):OR:=
 vvl a0 (a1,(a2,(a3,a4))) (fun y1=>
 k ((decide (y1>0)),a1,a2,a3,a4))
def wex:=shut wj1
theorem wws:wex=wj1:=vaf _
instance n18n_p (a0:vah)(a1:ByteArray)(a2:ByteArray)(a3:Bool)(a4:Int):ParC (wex a0 a1 a2 a3 a4):=by rw [wws];unfold wj1;(try dsimp only);infer_instance
def vjx (x:q33T)(k:q33T⊕(q33T⊕q33T)→OR):OR:=
 let xh:=x.2.2.2.2
 bif (decide (x.2.2.2.1<x.2.2.1))then
 if 0≤x.2.2.2.1∧x.2.2.2.1<(x.1.length:Int)then
 wex (rd (Ty.zero tVersion) x.1 x.2.2.2.1) xh.1 xh.2.1 xh.2.2.1 xh.2.2.2 (fun y3=>
 bif y3.1 then
 k (.inr (.inl (x.1,x.2.2.2.1,x.2.2.1,x.2.2.2.1,y3.2.1,y3.2.2.1,y3.2.2.2.1,y3.2.2.2.2)))
 else
 k (.inl (x.1,x.2.1,x.2.2.1,(IntKind.wrap .i64 (x.2.2.2.1+1)),y3.2.1,y3.2.2.1,y3.2.2.2.1,y3.2.2.2.2)))
 else none
 else
 k (.inr (.inr (x.1,x.2.1,x.2.2.1,x.2.2.2.1,xh.1,xh.2.1,xh.2.2.1,xh.2.2.2)))
instance n105n_bp0 (x:q33T):ParC (vjx x):=by unfold vjx;(try dsimp only);infer_instance
def wae (a0:VL)(a1:ByteArray)(a2:ByteArray)(a3:Bool)(a4:Int)(k:q84T→OR):OR:=
 vab vjx Fuel (a0,0,(a0.length:Int),0,a1,a2,a3,a4) (Sum.elim (fun z1=>
 k (z1.2.1,z1.2.2.2.2.1,z1.2.2.2.2.2.1,z1.2.2.2.2.2.2.1,z1.2.2.2.2.2.2.2)) (fun z2=>
 k ((-1:Int),z2.2.2.2.2.1,z2.2.2.2.2.2.1,z2.2.2.2.2.2.2.1,z2.2.2.2.2.2.2.2)))
def vwm:=shut wae
theorem wij:vwm=wae:=vaf _
instance n105n_p (a0:VL)(a1:ByteArray)(a2:ByteArray)(a3:Bool)(a4:Int):ParC (vwm a0 a1 a2 a3 a4):=by rw [wij];unfold wae;(try dsimp only);infer_instance
def vy7 (a0:Int)(a1:VL)(a2:VL)(k:q23T→OR):OR:=
 if 0≤a0∧a0≤(a1.length:Int)∧0<a2.length∧a1.length+a2.length≤1073741824 then
 k (a2,(insL a1 a0 a2))
 else none
def vqe:=shut vy7
theorem wf1:vqe=vy7:=vaf _
instance n106n_p (a0:Int)(a1:VL)(a2:VL):ParC (vqe a0 a1 a2):=by rw [wf1];unfold vy7;(try dsimp only);infer_instance
def vpi (x:q83T)(k:q83T⊕q83T→OR):OR:=
 let xh:=x.2.2.2.2
 bif (decide (x.2.2.2.1<x.2.2.1))then
 if 0≤x.2.2.2.1∧x.2.2.2.1<(x.2.1.length:Int)then
 vwm xh ((rd (Ty.zero tWrite) x.2.1 x.2.2.2.1).1) ((rd (Ty.zero tWrite) x.2.1 x.2.2.2.1).2.1) ((rd (Ty.zero tWrite) x.2.1 x.2.2.2.1).2.2) x.1 (fun y2=>
 bif (decide (y2.1<0))then
 vqe (xh.length:Int) xh [y2.2] (fun y3=>
 k (.inl (x.1,x.2.1,x.2.2.1,(IntKind.wrap .i64 (x.2.2.2.1+1)),y3.2)))
 else
 vqe y2.1 xh [y2.2] (fun y4=>
 k (.inl (x.1,x.2.1,x.2.2.1,(IntKind.wrap .i64 (x.2.2.2.1+1)),y4.2))))
 else none
 else
 k (.inr (x.1,x.2.1,x.2.2.1,x.2.2.2.1,xh))
instance n17n_bp0 (x:q83T):ParC (vpi x):=by unfold vpi;(try dsimp only);infer_instance
def wj0 (a0:VL)(a1:WL)(a2:Int)(k:VL→OR):OR:=
 if a0.length≤VE.maxLen then
 vab vpi Fuel (a2,a1,(a1.length:Int),0,a0) (fun z1=>
 k z1.2.2.2.2)
 else none
def v61:=shut wj0
theorem ws9:v61=wj0:=vaf _
instance n17n_p (a0:VL)(a1:WL)(a2:Int):ParC (v61 a0 a1 a2):=by rw [ws9];unfold wj0;(try dsimp only);infer_instance
def wuq (a0:dTxn)(a1:Int)(a2:Int)(a3:Int)(a4:Int)(a5:Bool)(a6:ByteArray)(k:q63T→OR):OR:=
 k ((a0.1==a1),a1,a2,a3,a4,a5,a6)
def vxt:=shut wuq
theorem wur:vxt=wuq:=vaf _
instance n24n_p (a0:dTxn)(a1:Int)(a2:Int)(a3:Int)(a4:Int)(a5:Bool)(a6:ByteArray):ParC (vxt a0 a1 a2 a3 a4 a5 a6):=by rw [wur];unfold wuq;(try dsimp only);infer_instance
def vji (x:q15T)(k:q15T⊕(q15T⊕q15T)→OR):OR:=
 let xh:=x.2.2.2.2
 bif (decide (x.2.2.2.1<x.2.2.1))then
 if 0≤x.2.2.2.1∧x.2.2.2.1<(x.1.length:Int)then
 vxt (rd (Ty.zero tTxn) x.1 x.2.2.2.1) xh.1 xh.2.1 xh.2.2.1 xh.2.2.2.1 xh.2.2.2.2.1 xh.2.2.2.2.2 (fun y3=>
 let y3h:=y3.2.2.2.2
 bif y3.1 then
 k (.inr (.inl (x.1,x.2.2.2.1,x.2.2.1,x.2.2.2.1,y3.2.1,y3.2.2.1,y3.2.2.2.1,y3h.1,y3h.2.1,y3h.2.2)))
 else
 k (.inl (x.1,x.2.1,x.2.2.1,(IntKind.wrap .i64 (x.2.2.2.1+1)),y3.2.1,y3.2.2.1,y3.2.2.2.1,y3h.1,y3h.2.1,y3h.2.2)))
 else none
 else
 k (.inr (.inr (x.1,x.2.1,x.2.2.1,x.2.2.2.1,xh.1,xh.2.1,xh.2.2.1,xh.2.2.2.1,xh.2.2.2.2.1,xh.2.2.2.2.2)))
instance n102n_bp0 (x:q15T):ParC (vji x):=by unfold vji;(try dsimp only);infer_instance
def waz (a0:TL)(a1:Int)(a2:Int)(a3:Int)(a4:Int)(a5:Bool)(a6:ByteArray)(k:q98T→OR):OR:=
 vab vji Fuel (a0,0,(a0.length:Int),0,a1,a2,a3,a4,a5,a6) (Sum.elim (fun z1=>
 let z1h:=z1.2.2.2.2
 k (z1.2.1,z1h.1,z1h.2.1,z1h.2.2.1,z1h.2.2.2.1,z1h.2.2.2.2.1,z1h.2.2.2.2.2)) (fun z2=>
 let z2h:=z2.2.2.2.2
 k ((-1:Int),z2h.1,z2h.2.1,z2h.2.2.1,z2h.2.2.2.1,z2h.2.2.2.2.1,z2h.2.2.2.2.2)))
def vr5:=shut waz
theorem wir:vr5=waz:=vaf _
instance n102n_p (a0:TL)(a1:Int)(a2:Int)(a3:Int)(a4:Int)(a5:Bool)(a6:ByteArray):ParC (vr5 a0 a1 a2 a3 a4 a5 a6):=by rw [wir];unfold waz;(try dsimp only);infer_instance
def vic (x:((Int×Int×TL×(List Nat)×Int×Int×Int×Int×Bool×ByteArray)⊕(Int×Int×TL×(List Nat)×Int×Int×Int×Int×Bool×ByteArray)))(k:((Int×Int×TL×(List Nat)×Int×Int×Int×Int×Bool×ByteArray)⊕(Int×Int×TL×(List Nat)×Int×Int×Int×Int×Bool×ByteArray))⊕((Int×Int×TL×(List Nat)×Int×Int×Int×Int×Bool×ByteArray)⊕(Int×Int×TL×(List Nat)×Int×Int×Int×Int×Bool×ByteArray))→OR):OR:=
 (Sum.elim (fun x=>
 let xh:=x.2.2.2.2
 bif (decide (x.2.1<(x.2.2.1.length:Int)))then
 if 0≤x.2.1∧x.2.1<(x.2.2.1.length:Int)then
 bif (hasD x.2.2.2.1 x.2.1.toNat)then
 none
 else
 vxt (x.2.2.1.getD x.2.1.toNat (Ty.zero tTxn)) xh.1 xh.2.1 xh.2.2.1 xh.2.2.2.1 xh.2.2.2.2.1 xh.2.2.2.2.2 (fun y4=>
 let y4h:=y4.2.2.2.2
 bif (!y4.1)then
 if 0≤x.1∧x.1<(x.2.2.1.length:Int)then
 k (.inl (.inr ((IntKind.wrap .i64 (x.1+1)),(IntKind.wrap .i64 (x.2.1+1)),(x.2.2.1.set x.1.toNat (x.2.2.1.getD x.2.1.toNat (Ty.zero tTxn))),(x.2.1.toNat::(x.2.1.toNat::(delD x.1.toNat x.2.2.2.1))),y4.2.1,y4.2.2.1,y4.2.2.2.1,y4h.1,y4h.2.1,y4h.2.2)))
 else none
 else
 k (.inl (.inl (x.1,(IntKind.wrap .i64 (x.2.1+1)),x.2.2.1,x.2.2.2.1,y4.2.1,y4.2.2.1,y4.2.2.2.1,y4h.1,y4h.2.1,y4h.2.2))))
 else none
 else
 k (.inr (.inl (x.1,x.2.1,x.2.2.1,x.2.2.2.1,xh.1,xh.2.1,xh.2.2.1,xh.2.2.2.1,xh.2.2.2.2.1,xh.2.2.2.2.2)))) (fun x=>
 let xh:=x.2.2.2.2
 bif (decide (x.2.1<(x.2.2.1.length:Int)))then
 if 0≤x.2.1∧x.2.1<(x.2.2.1.length:Int)then
 bif (hasD x.2.2.2.1 x.2.1.toNat)then
 none
 else
 vxt (x.2.2.1.getD x.2.1.toNat (Ty.zero tTxn)) xh.1 xh.2.1 xh.2.2.1 xh.2.2.2.1 xh.2.2.2.2.1 xh.2.2.2.2.2 (fun y5=>
 let y5h:=y5.2.2.2.2
 bif (!y5.1)then
 if 0≤x.1∧x.1<(x.2.2.1.length:Int)then
 k (.inl (.inr ((IntKind.wrap .i64 (x.1+1)),(IntKind.wrap .i64 (x.2.1+1)),(x.2.2.1.set x.1.toNat (x.2.2.1.getD x.2.1.toNat (Ty.zero tTxn))),(x.2.1.toNat::(x.2.1.toNat::(delD x.1.toNat x.2.2.2.1))),y5.2.1,y5.2.2.1,y5.2.2.2.1,y5h.1,y5h.2.1,y5h.2.2)))
 else none
 else
 k (.inl (.inr (x.1,(IntKind.wrap .i64 (x.2.1+1)),x.2.2.1,x.2.2.2.1,y5.2.1,y5.2.2.1,y5.2.2.2.1,y5h.1,y5h.2.1,y5h.2.2))))
 else none
 else
 k (.inr (.inr (x.1,x.2.1,x.2.2.1,x.2.2.2.1,xh.1,xh.2.1,xh.2.2.1,xh.2.2.2.1,xh.2.2.2.2.1,xh.2.2.2.2.2))))) x
instance n96n_bp0 (x:((Int×Int×TL×(List Nat)×Int×Int×Int×Int×Bool×ByteArray)⊕(Int×Int×TL×(List Nat)×Int×Int×Int×Int×Bool×ByteArray))):ParC (vic x):=by
 unfold vic
 rcases x with x|x
 ·simp only [Sum.elim_inl]
  infer_instance
 ·simp only [Sum.elim_inr]
  (try dsimp only)
  infer_instance
def wj9 (a0:TL)(a1:Int)(a2:Int)(a3:Int)(a4:Int)(a5:Bool)(a6:ByteArray)(k:(q13T⊕q93T)→OR):OR:=
 vr5 a0 a1 a2 a3 a4 a5 a6 (fun y1=>
 let y1h:=y1.2.2.2.2
 bif (y1.1==(-1:Int))then
 k (.inl (a0,y1.2.1,y1.2.2.1,y1.2.2.2.1,y1h.1,y1h.2.1,y1h.2.2))
 else
 vab vic Fuel (.inl (y1.1,(IntKind.wrap .i64 (y1.1+1)),a0,([]:List Nat),y1.2.1,y1.2.2.1,y1.2.2.2.1,y1h.1,y1h.2.1,y1h.2.2)) (Sum.elim (fun z2=>
 let z2h:=z2.2.2.2.2
 if 0≤z2.1∧z2.1≤(z2.2.2.1.length:Int)then
 if 0≤z2.1∧z2.1≤((z2.2.2.1.take z2.1.toNat++List.replicate (z2.2.2.1.length-z2.1.toNat) (Ty.zero tTxn)).length:Int)then
 bif (geD z2.1.toNat (loD z2.1.toNat z2.2.2.2.1))then
 k (.inr (z2h.1,z2h.2.1,z2h.2.2.1,z2h.2.2.2.1,z2h.2.2.2.2.1,z2h.2.2.2.2.2,((z2.2.2.1.take z2.1.toNat++List.replicate (z2.2.2.1.length-z2.1.toNat) (Ty.zero tTxn)).take z2.1.toNat)))
 else
 none
 else none
 else none) (fun z3=>
 let z3h:=z3.2.2.2.2
 if 0≤z3.1∧z3.1≤(z3.2.2.1.length:Int)then
 if 0≤z3.1∧z3.1≤((z3.2.2.1.take z3.1.toNat++List.replicate (z3.2.2.1.length-z3.1.toNat) (Ty.zero tTxn)).length:Int)then
 bif (geD z3.1.toNat (loD z3.1.toNat z3.2.2.2.1))then
 k (.inr (z3h.1,z3h.2.1,z3h.2.2.1,z3h.2.2.2.1,z3h.2.2.2.2.1,z3h.2.2.2.2.2,((z3.2.2.1.take z3.1.toNat++List.replicate (z3.2.2.1.length-z3.1.toNat) (Ty.zero tTxn)).take z3.1.toNat)))
 else
 none
 else none
 else none)))
def v67:=shut wj9
theorem wuh:v67=wj9:=vaf _
instance n96n_p (a0:TL)(a1:Int)(a2:Int)(a3:Int)(a4:Int)(a5:Bool)(a6:ByteArray):ParC (v67 a0 a1 a2 a3 a4 a5 a6):=by rw [wuh];unfold wj9;(try dsimp only);exact⟨((n102n_p ..).p.bind fun _=>(vae (vac _) ((vcq (fun x=>(n96n_bp0 x).p) _ _).bind2 (fun _=>(vbw (vbw (vae (vac _) vaw) vaw) vaw)) (fun _=>(vbw (vbw (vae (vac _) vaw) vaw) vaw)))))⟩
def vpx (x:wo2)(k:wo2⊕wo2→OR):OR:=
 let xh:=x.2.2.2.2
 let xi:=xh.2.2.2.2
 let xj:=xi.2.2.2.2
 let xk:=xj.2.2.2.2
 let xl:=xk.2.2.2.2
 let xm:=xl.2.2.2.2
 let t0:=(xk.2.2.1.getD x.2.1.toNat (Ty.zero tTxn))
 bif (decide (x.2.1<x.1))then
 if 0≤x.2.1∧x.2.1<(xk.2.2.1.length:Int)then
 bif t0.2.2.2.2.2.2.1 then
 if 0≤x.2.1∧x.2.1<(xk.2.2.1.length:Int)then
 k (.inl (x.1,(IntKind.wrap .i64 (x.2.1+1)),x.2.2.1,x.2.2.2.1,xh.1,xh.2.1,xh.2.2.1,xh.2.2.2.1,xi.1,xi.2.1,xi.2.2.1,xi.2.2.2.1,xj.1,xj.2.1,xj.2.2.1,xj.2.2.2.1,xk.1,xk.2.1,(xk.2.2.1.set x.2.1.toNat (t0.1,(t0.2.1,(t0.2.2.1,(t0.2.2.2.1,(t0.2.2.2.2.1,(t0.2.2.2.2.2.1,(true,t0.2.2.2.2.2.2.2)))))))),xk.2.2.2.1,xl.1,xl.2.1,xl.2.2.1,xl.2.2.2.1,xm.1,xm.2))
 else none
 else
 v6n t0 (xj.1,(xj.2.1,(xj.2.2.1,(xj.2.2.2.1,(xm.1,(xm.2,(xk.1,xk.2.1))))))) (fun y6=>
 if 0≤x.2.1∧x.2.1<(xk.2.2.1.length:Int)then
 k (.inl (x.1,(IntKind.wrap .i64 (x.2.1+1)),x.2.2.1,x.2.2.2.1,xh.1,xh.2.1,xh.2.2.1,xh.2.2.2.1,xi.1,xi.2.1,xi.2.2.1,xi.2.2.2.1,xj.1,xj.2.1,xj.2.2.1,xj.2.2.2.1,xk.1,xk.2.1,(xk.2.2.1.set x.2.1.toNat (t0.1,(t0.2.1,(t0.2.2.1,(t0.2.2.2.1,(t0.2.2.2.2.1,(t0.2.2.2.2.2.1,(y6,t0.2.2.2.2.2.2.2)))))))),xk.2.2.2.1,xl.1,xl.2.1,xl.2.2.1,xl.2.2.2.1,xm.1,xm.2))
 else none)
 else none
 else
 k (.inr (x.1,x.2.1,x.2.2.1,x.2.2.2.1,xh.1,xh.2.1,xh.2.2.1,xh.2.2.2.1,xi.1,xi.2.1,xi.2.2.1,xi.2.2.2.1,xj.1,xj.2.1,xj.2.2.1,xj.2.2.2.1,xk.1,xk.2.1,xk.2.2.1,xk.2.2.2.1,xl.1,xl.2.1,xl.2.2.1,xl.2.2.2.1,xm.1,xm.2))
instance n23n_bp0 (x:wo2):ParC (vpx x):=by unfold vpx;(try dsimp only);infer_instance
def vfl (x:q94T)(k:q95T→OR):OR:=
 let xh:=x.2.2.2.2
 let xi:=xh.2.2.2.2
 let xj:=xi.2.2.2.2
 let xk:=xj.2.2.2.2
 let xl:=xk.2.2.2.2
 v67 xl.2.1 x.1 x.2.1 x.2.2.1 x.2.2.2.1 xh.1 xh.2.1 (Sum.elim (fun y9=>
 vab vpx Fuel ((y9.1.length:Int),0,y9.2.1,y9.2.2.1,y9.2.2.2.1,y9.2.2.2.2.1,y9.2.2.2.2.2.1,y9.2.2.2.2.2.2,xh.2.2.1,xh.2.2.2.1,xi.1,xi.2.1,xi.2.2.1,xi.2.2.2.1,xj.1,xj.2.1,xj.2.2.1,xj.2.2.2.1,y9.1,xk.1,xk.2.1,xk.2.2.1,xk.2.2.2.1,xl.1,xl.2.2.1,xl.2.2.2) (fun z10=>
 let z10h:=z10.2.2.2.2
 let z10i:=z10h.2.2.2.2
 let z10j:=z10i.2.2.2.2
 let z10k:=z10j.2.2.2.2
 let z10l:=z10k.2.2.2.2
 if z10l.2.2.2.1.length+[(z10j.1,(z10j.2.1,(z10j.2.2.1,(z10j.2.2.2.1,(z10l.2.2.2.2.1,(z10l.2.2.2.2.2,(z10k.1,z10k.2.1)))))))].length≤VE.maxLen then
 k (z10.2.2.1,z10.2.2.2.1,z10h.1,z10h.2.1,z10h.2.2.1,z10h.2.2.2.1,z10i.2.2.1,(if(IntKind.wrap .i64 (z10.2.2.1+(1:Int)))>z10i.2.2.2.1 then(IntKind.wrap .i64 (z10.2.2.1+(1:Int)))else z10i.2.2.2.1),z10i.2.2.1,(if(IntKind.wrap .i64 (z10.2.2.1+(1:Int)))>z10i.2.2.2.1 then(IntKind.wrap .i64 (z10.2.2.1+(1:Int)))else z10i.2.2.2.1),z10j.1,z10j.2.1,z10j.2.2.1,z10j.2.2.2.1,z10k.1,z10k.2.1,z10l.2.2.1,(z10l.2.2.2.1++[(z10j.1,(z10j.2.1,(z10j.2.2.1,(z10j.2.2.2.1,(z10l.2.2.2.2.1,(z10l.2.2.2.2.2,(z10k.1,z10k.2.1)))))))]),z10k.2.2.1)
 else none)) (fun y11=>
 vab vpx Fuel ((y11.2.2.2.2.2.2.length:Int),0,y11.1,y11.2.1,y11.2.2.1,y11.2.2.2.1,y11.2.2.2.2.1,y11.2.2.2.2.2.1,xh.2.2.1,xh.2.2.2.1,xi.1,xi.2.1,xi.2.2.1,xi.2.2.2.1,xj.1,xj.2.1,xj.2.2.1,xj.2.2.2.1,y11.2.2.2.2.2.2,xk.1,xk.2.1,xk.2.2.1,xk.2.2.2.1,xl.1,xl.2.2.1,xl.2.2.2) (fun z12=>
 let z12h:=z12.2.2.2.2
 let z12i:=z12h.2.2.2.2
 let z12j:=z12i.2.2.2.2
 let z12k:=z12j.2.2.2.2
 let z12l:=z12k.2.2.2.2
 if z12l.2.2.2.1.length+[(z12j.1,(z12j.2.1,(z12j.2.2.1,(z12j.2.2.2.1,(z12l.2.2.2.2.1,(z12l.2.2.2.2.2,(z12k.1,z12k.2.1)))))))].length≤VE.maxLen then
 k (z12.2.2.1,z12.2.2.2.1,z12h.1,z12h.2.1,z12h.2.2.1,z12h.2.2.2.1,z12i.2.2.1,(if(IntKind.wrap .i64 (z12.2.2.1+(1:Int)))>z12i.2.2.2.1 then(IntKind.wrap .i64 (z12.2.2.1+(1:Int)))else z12i.2.2.2.1),z12i.2.2.1,(if(IntKind.wrap .i64 (z12.2.2.1+(1:Int)))>z12i.2.2.2.1 then(IntKind.wrap .i64 (z12.2.2.1+(1:Int)))else z12i.2.2.2.1),z12j.1,z12j.2.1,z12j.2.2.1,z12j.2.2.2.1,z12k.1,z12k.2.1,z12l.2.2.1,(z12l.2.2.2.1++[(z12j.1,(z12j.2.1,(z12j.2.2.1,(z12j.2.2.2.1,(z12l.2.2.2.2.1,(z12l.2.2.2.2.2,(z12k.1,z12k.2.1)))))))]),z12k.2.2.1)
 else none)))
instance n23n_jp5000007 (x:q94T):ParC (vfl x):=by unfold vfl;(try dsimp only);infer_instance
def vdi (x:q20T)(k:q95T→OR):OR:=
 let xh:=x.2.2.2.2
 let xi:=xh.2.2.2.2
 let xj:=xi.2.2.2.2
 let xk:=xj.2.2.2.2
 let xl:=xk.2.2.2.2
 v61 x.1 xi.2.2.1 (IntKind.wrap .i64 (xj.2.2.2.1+1)) (fun y7=>
 vfl (xh.2.1,xh.2.2.1,xh.2.2.2.1,xi.1,xi.2.2.2.1,xj.1,xj.2.1,xj.2.2.1,(IntKind.wrap .i64 (xj.2.2.2.1+1)),xk.1,xk.2.1,xk.2.2.1,xk.2.2.2.1,xl.1,xl.2.1,xl.2.2.1,([]:List vah),([]:List dTxn),([]:List dTxn),y7,xl.2.2.2.2.1,xl.2.2.2.2.2.1,xl.2.2.2.2.2.2.1,xl.2.2.2.2.2.2.2) (fun z8=>
 let z8h:=z8.2.2.2.2
 let z8i:=z8h.2.2.2.2
 let z8j:=z8i.2.2.2.2
 k (z8.1,z8.2.1,z8.2.2.1,z8.2.2.2.1,z8h.1,z8h.2.1,z8h.2.2.1,z8h.2.2.2.1,z8i.1,z8i.2.1,z8i.2.2.1,z8i.2.2.2.1,z8j.1,z8j.2.1,z8j.2.2.1,z8j.2.2.2.1,z8j.2.2.2.2.1,z8j.2.2.2.2.2.1,z8j.2.2.2.2.2.2)))
instance n23n_jp5000005 (x:q20T):ParC (vdi x):=by unfold vdi;(try dsimp only);infer_instance
def wm8 (a0:va3)(a1:dTxn)(k:q86T→OR):OR:=
 vim a0 (fun y1=>
 vtw a1 (fun y2=>
 bif a1.2.2.2.2.2.2.1 then
 vdi (a0.1,a0.2.1,a0.2.2.1,a0.2.2.2.1,a0.2.2.2.2,a1.1,a1.2.1,a1.2.2.1,a1.2.2.2.1,a1.2.2.2.2.1,a1.2.2.2.2.2.1,a1.2.2.2.2.2.2.1,a1.2.2.2.2.2.2.2,0,0,y1.1,y1.2.1,y2.1,3,y2.2.2.1,(IntKind.wrap .i64 (a0.2.2.2.1+1)),true,(⟨#[]⟩:ByteArray),y1.2.2.1,y1.2.2.2.1,y1.2.2.2.2,y2.2.2.2.2.2.2.1,y2.2.2.2.2.2.2.2) (fun z3=>
 let z3h:=z3.2.2.2.2
 k (z3h.2.2.1,z3h.2.2.2.1,z3h.2.2.2.2.2.2.2.2.2.2.2.2.1,z3h.2.2.2.2.2.2.2.2.2.2.2.2.2.1,z3h.2.2.2.2.2.2.2.2.2.2.2.2.2.2))
 else
 v0j a1 a0.2.1 (fun y4=>
 vdi (a0.1,a0.2.1,a0.2.2.1,a0.2.2.2.1,a0.2.2.2.2,a1.1,a1.2.1,a1.2.2.1,a1.2.2.2.1,a1.2.2.2.2.1,a1.2.2.2.2.2.1,a1.2.2.2.2.2.2.1,a1.2.2.2.2.2.2.2,0,0,y1.1,y1.2.1,y2.1,3,y2.2.2.1,(IntKind.wrap .i64 (a0.2.2.2.1+1)),y4,(⟨#[]⟩:ByteArray),y1.2.2.1,y1.2.2.2.1,y1.2.2.2.2,y2.2.2.2.2.2.2.1,y2.2.2.2.2.2.2.2) (fun z5=>
 let z5h:=z5.2.2.2.2
 k (z5h.2.2.1,z5h.2.2.2.1,z5h.2.2.2.2.2.2.2.2.2.2.2.2.1,z5h.2.2.2.2.2.2.2.2.2.2.2.2.2.1,z5h.2.2.2.2.2.2.2.2.2.2.2.2.2.2)))))
def v5u:=shut wm8
theorem wwb:v5u=wm8:=vaf _
instance n23n_p (a0:va3)(a1:dTxn):ParC (v5u a0 a1):=by rw [wwb];unfold wm8;(try dsimp only);infer_instance
def wsg (a0:dTxn)(a1:ByteArray)(k:(Bool×ByteArray)→OR):OR:=
 k ((vaj a0.2.2.2.2.2.2.2 a1),a1)
def v5k:=shut wsg
theorem wxt:v5k=wsg:=vaf _
instance n21n_p (a0:dTxn)(a1:ByteArray):ParC (v5k a0 a1):=by rw [wxt];unfold wsg;(try dsimp only);infer_instance
def viw (x:q12T)(k:q12T⊕(q12T⊕q12T)→OR):OR:=
 bif (decide (x.2.2.2.1<x.2.2.1))then
 if 0≤x.2.2.2.1∧x.2.2.2.1<(x.1.length:Int)then
 v5k (rd (Ty.zero tTxn) x.1 x.2.2.2.1) x.2.2.2.2 (fun y3=>
 bif y3.1 then
 k (.inr (.inl (x.1,x.2.2.2.1,x.2.2.1,x.2.2.2.1,y3.2)))
 else
 k (.inl (x.1,x.2.1,x.2.2.1,(IntKind.wrap .i64 (x.2.2.2.1+1)),y3.2)))
 else none
 else
 k (.inr (.inr (x.1,x.2.1,x.2.2.1,x.2.2.2.1,x.2.2.2.2)))
instance n101n_bp0 (x:q12T):ParC (viw x):=by unfold viw;(try dsimp only);infer_instance
def v9v (a0:TL)(a1:ByteArray)(k:(Int×ByteArray)→OR):OR:=
 vab viw Fuel (a0,0,(a0.length:Int),0,a1) (Sum.elim (fun z1=>
 k (z1.2.1,z1.2.2.2.2)) (fun z2=>
 k ((-1:Int),z2.2.2.2.2)))
def vzx:=shut v9v
theorem wio:vzx=v9v:=vaf _
instance n101n_p (a0:TL)(a1:ByteArray):ParC (vzx a0 a1):=by rw [wio];unfold v9v;(try dsimp only);infer_instance
def wmk (a0:va3)(a1:ByteArray)(k:Int→OR):OR:=
 vzx a0.2.2.1 a1 (fun y1=>
 k y1.1)
def vw4:=shut wmk
theorem wvg:vw4=wmk:=vaf _
instance n20n_p (a0:va3)(a1:ByteArray):ParC (vw4 a0 a1):=by rw [wvg];unfold wmk;(try dsimp only);infer_instance
def vov (x:(ByteArray×Int×Int×Int×Int×Int×Int×RL×WL×Bool×ByteArray×Int×Int×Int×Int×Int×Int×Int×Int×Bool×ByteArray×TL×TL×TL×(List Nat)×VL×TL×TL×VL×TL×RL×WL))(k:(ByteArray×Int×Int×Int×Int×Int×Int×RL×WL×Bool×ByteArray×Int×Int×Int×Int×Int×Int×Int×Int×Bool×ByteArray×TL×TL×TL×(List Nat)×VL×TL×TL×VL×TL×RL×WL)⊕(ByteArray×Int×Int×Int×Int×Int×Int×RL×WL×Bool×ByteArray×Int×Int×Int×Int×Int×Int×Int×Int×Bool×ByteArray×TL×TL×TL×(List Nat)×VL×TL×TL×VL×TL×RL×WL)→OR):OR:=
 let xh:=x.2.2.2.2
 let xi:=xh.2.2.2.2
 let xj:=xi.2.2.2.2
 let xk:=xj.2.2.2.2
 let xl:=xk.2.2.2.2
 let xm:=xl.2.2.2.2
 let xn:=xm.2.2.2.2
 let t0:=(xl.2.2.2.1.getD x.2.2.1.toNat (Ty.zero tTxn))
 let t1:=(x.2.2.1.toNat::(x.2.2.1.toNat::xm.1))
 bif (decide (x.2.2.1<x.2.1))then
 if 0≤x.2.2.1∧x.2.2.1<(xl.2.2.2.1.length:Int)then
 bif (hasD xm.1 x.2.2.1.toNat)then
 none
 else
 bif (vai (t0.2.2.2.2.2.2.2) x.1)then
 if xl.2.1.length+[t0].length≤VE.maxLen then
 k (.inl (x.1,x.2.1,(IntKind.wrap .i64 (x.2.2.1+1)),x.2.2.2.1,xh.1,xh.2.1,xh.2.2.1,xh.2.2.2.1,xi.1,xi.2.1,xi.2.2.1,xi.2.2.2.1,xj.1,xj.2.1,xj.2.2.1,xj.2.2.2.1,xk.1,xk.2.1,xk.2.2.1,xk.2.2.2.1,xl.1,(xl.2.1++[t0]),xl.2.2.1,xl.2.2.2.1,t1,xm.2.1,xm.2.2.1,xm.2.2.2.1,xn.1,xn.2.1,xn.2.2.1,xn.2.2.2))
 else none
 else
 if xl.2.2.1.length+[t0].length≤VE.maxLen then
 k (.inl (x.1,x.2.1,(IntKind.wrap .i64 (x.2.2.1+1)),x.2.2.2.1,xh.1,xh.2.1,xh.2.2.1,xh.2.2.2.1,xi.1,xi.2.1,xi.2.2.1,xi.2.2.2.1,xj.1,xj.2.1,xj.2.2.1,xj.2.2.2.1,xk.1,xk.2.1,xk.2.2.1,xk.2.2.2.1,xl.1,xl.2.1,(xl.2.2.1++[t0]),xl.2.2.2.1,t1,xm.2.1,xm.2.2.1,xm.2.2.2.1,xn.1,xn.2.1,xn.2.2.1,xn.2.2.2))
 else none
 else none
 else
 k (.inr (x.1,x.2.1,x.2.2.1,x.2.2.2.1,xh.1,xh.2.1,xh.2.2.1,xh.2.2.2.1,xi.1,xi.2.1,xi.2.2.1,xi.2.2.2.1,xj.1,xj.2.1,xj.2.2.1,xj.2.2.2.1,xk.1,xk.2.1,xk.2.2.1,xk.2.2.2.1,xl.1,xl.2.1,xl.2.2.1,xl.2.2.2.1,xm.1,xm.2.1,xm.2.2.1,xm.2.2.2.1,xn.1,xn.2.1,xn.2.2.1,xn.2.2.2))
instance n12n_bp0 (x:(ByteArray×Int×Int×Int×Int×Int×Int×RL×WL×Bool×ByteArray×Int×Int×Int×Int×Int×Int×Int×Int×Bool×ByteArray×TL×TL×TL×(List Nat)×VL×TL×TL×VL×TL×RL×WL)):ParC (vov x):=by unfold vov;(try dsimp only);infer_instance
def vb1 (x:q74T)(k:q75T→OR):OR:=
 let xh:=x.2.2.2.2
 let xi:=xh.2.2.2.2
 let xj:=xi.2.2.2.2
 let xk:=xj.2.2.2.2
 let xl:=xk.2.2.2.2
 vab vov Fuel (x.1,(xl.2.2.2.2.1.length:Int),0,x.2.1,x.2.2.1,x.2.2.2.1,xh.1,xh.2.1,xh.2.2.1,xh.2.2.2.1,xi.1,xi.2.1,xi.2.2.1,xi.2.2.2.1,xj.1,xj.2.1,xj.2.2.1,xj.2.2.2.1,xk.1,xk.2.1,xk.2.2.1,([]:List dTxn),([]:List dTxn),xl.2.2.2.2.1,([]:List Nat),xk.2.2.2.1,xl.1,xl.2.1,xl.2.2.1,xl.2.2.2.1,xl.2.2.2.2.2.1,xl.2.2.2.2.2.2) (fun z6=>
 let z6h:=z6.2.2.2.2
 let z6i:=z6h.2.2.2.2
 let z6j:=z6i.2.2.2.2
 let z6k:=z6j.2.2.2.2
 let z6l:=z6k.2.2.2.2
 let z6m:=z6l.2.2.2.2
 let z6n:=z6m.2.2.2.2
 if z6l.2.1.length+[(z6j.2.2.2.1,(z6k.1,(z6k.2.1,(z6k.2.2.1,(z6n.2.2.1,(z6n.2.2.2,(z6k.2.2.2.1,z6l.1)))))))].length≤VE.maxLen then
 if(z6l.2.1++[(z6j.2.2.2.1,(z6k.1,(z6k.2.1,(z6k.2.2.1,(z6n.2.2.1,(z6n.2.2.2,(z6k.2.2.2.1,z6l.1)))))))]).length+z6l.2.2.1.length≤VE.maxLen then
 k (z6.1,z6.2.2.2.1,z6h.1,z6h.2.1,z6h.2.2.1,z6h.2.2.2.1,z6i.1,z6i.2.1,z6i.2.2.1,z6j.2.1,(if(IntKind.wrap .i64 (z6.2.2.2.1+(1:Int)))>z6j.2.2.1 then(IntKind.wrap .i64 (z6.2.2.2.1+(1:Int)))else z6j.2.2.1),z6j.2.1,(if(IntKind.wrap .i64 (z6.2.2.2.1+(1:Int)))>z6j.2.2.1 then(IntKind.wrap .i64 (z6.2.2.2.1+(1:Int)))else z6j.2.2.1),z6j.2.2.2.1,z6k.1,z6k.2.1,z6k.2.2.1,z6k.2.2.2.1,z6l.1,z6n.1,z6n.2.1,((z6l.2.1++[(z6j.2.2.2.1,(z6k.1,(z6k.2.1,(z6k.2.2.1,(z6n.2.2.1,(z6n.2.2.2,(z6k.2.2.2.1,z6l.1)))))))])++z6l.2.2.1))
 else none
 else none)
instance n12n_jp5000004 (x:q74T):ParC (vb1 x):=by unfold vb1;(try dsimp only);infer_instance
def wlf (a0:va3)(a1:dTxn)(a2:ByteArray)(k:q86T→OR):OR:=
 vim a0 (fun y1=>
 vtw a1 (fun y2=>
 bif a1.2.2.2.2.2.2.1 then
 vb1 (a2,a1.1,a1.2.1,a1.2.2.1,a1.2.2.2.1,a1.2.2.2.2.1,a1.2.2.2.2.2.1,a1.2.2.2.2.2.2.1,a1.2.2.2.2.2.2.2,0,0,y1.1,y1.2.1,y2.1,2,y2.2.2.1,y2.2.2.2.1,true,a2,([]:List vah),([]:List dTxn),([]:List dTxn),y1.2.2.1,y1.2.2.2.1,y1.2.2.2.2,y2.2.2.2.2.2.2.1,y2.2.2.2.2.2.2.2) (fun z3=>
 let z3h:=z3.2.2.2.2
 let z3i:=z3h.2.2.2.2
 k (z3i.2.1,z3i.2.2.1,z3i.2.2.2.2.2.2.2.2.2.2.2.1,z3i.2.2.2.2.2.2.2.2.2.2.2.2.1,z3i.2.2.2.2.2.2.2.2.2.2.2.2.2))
 else
 v0j a1 a0.2.1 (fun y4=>
 vb1 (a2,a1.1,a1.2.1,a1.2.2.1,a1.2.2.2.1,a1.2.2.2.2.1,a1.2.2.2.2.2.1,a1.2.2.2.2.2.2.1,a1.2.2.2.2.2.2.2,0,0,y1.1,y1.2.1,y2.1,2,y2.2.2.1,y2.2.2.2.1,y4,a2,([]:List vah),([]:List dTxn),([]:List dTxn),y1.2.2.1,y1.2.2.2.1,y1.2.2.2.2,y2.2.2.2.2.2.2.1,y2.2.2.2.2.2.2.2) (fun z5=>
 let z5h:=z5.2.2.2.2
 let z5i:=z5h.2.2.2.2
 k (z5i.2.1,z5i.2.2.1,z5i.2.2.2.2.2.2.2.2.2.2.2.1,z5i.2.2.2.2.2.2.2.2.2.2.2.2.1,z5i.2.2.2.2.2.2.2.2.2.2.2.2.2)))))
def vxb:=shut wlf
theorem wyj:vxb=wlf:=vaf _
instance n12n_p (a0:va3)(a1:dTxn)(a2:ByteArray):ParC (vxb a0 a1 a2):=by rw [wyj];unfold wlf;(try dsimp only);infer_instance
def wud (a0:dTxn)(a1:ByteArray)(k:(Bool×ByteArray)→OR):OR:=
 k ((vaj a0.2.2.2.2.2.2.2 a1),a1)
def vxc:=shut wud
theorem wvv:vxc=wud:=vaf _
instance n09n_p (a0:dTxn)(a1:ByteArray):ParC (vxc a0 a1):=by rw [wvv];unfold wud;(try dsimp only);infer_instance
def vp6 (x:q12T)(k:q12T⊕(q12T⊕q12T)→OR):OR:=
 bif (decide (x.2.2.2.1<x.2.2.1))then
 if 0≤x.2.2.2.1∧x.2.2.2.1<(x.1.length:Int)then
 vxc (rd (Ty.zero tTxn) x.1 x.2.2.2.1) x.2.2.2.2 (fun y3=>
 bif y3.1 then
 k (.inr (.inl (x.1,x.2.2.2.1,x.2.2.1,x.2.2.2.1,y3.2)))
 else
 k (.inl (x.1,x.2.1,x.2.2.1,(IntKind.wrap .i64 (x.2.2.2.1+1)),y3.2)))
 else none
 else
 k (.inr (.inr (x.1,x.2.1,x.2.2.1,x.2.2.2.1,x.2.2.2.2)))
instance n99n_bp0 (x:q12T):ParC (vp6 x):=by unfold vp6;(try dsimp only);infer_instance
def wnh (a0:TL)(a1:ByteArray)(k:(Int×ByteArray)→OR):OR:=
 vab vp6 Fuel (a0,0,(a0.length:Int),0,a1) (Sum.elim (fun z1=>
 k (z1.2.1,z1.2.2.2.2)) (fun z2=>
 k ((-1:Int),z2.2.2.2.2)))
def v3x:=shut wnh
theorem wqe:v3x=wnh:=vaf _
instance n99n_p (a0:TL)(a1:ByteArray):ParC (v3x a0 a1):=by rw [wqe];unfold wnh;(try dsimp only);infer_instance
def vio (x:((Int×Int×TL×(List Nat)×ByteArray)⊕(Int×Int×TL×(List Nat)×ByteArray)))(k:((Int×Int×TL×(List Nat)×ByteArray)⊕(Int×Int×TL×(List Nat)×ByteArray))⊕((Int×Int×TL×(List Nat)×ByteArray)⊕(Int×Int×TL×(List Nat)×ByteArray))→OR):OR:=
 (Sum.elim (fun x=>
 bif (decide (x.2.1<(x.2.2.1.length:Int)))then
 if 0≤x.2.1∧x.2.1<(x.2.2.1.length:Int)then
 bif (hasD x.2.2.2.1 x.2.1.toNat)then
 none
 else
 vxc (x.2.2.1.getD x.2.1.toNat (Ty.zero tTxn)) x.2.2.2.2 (fun y4=>
 bif (!y4.1)then
 if 0≤x.1∧x.1<(x.2.2.1.length:Int)then
 k (.inl (.inr ((IntKind.wrap .i64 (x.1+1)),(IntKind.wrap .i64 (x.2.1+1)),(x.2.2.1.set x.1.toNat (x.2.2.1.getD x.2.1.toNat (Ty.zero tTxn))),(x.2.1.toNat::(x.2.1.toNat::(delD x.1.toNat x.2.2.2.1))),y4.2)))
 else none
 else
 k (.inl (.inl (x.1,(IntKind.wrap .i64 (x.2.1+1)),x.2.2.1,x.2.2.2.1,y4.2))))
 else none
 else
 k (.inr (.inl (x.1,x.2.1,x.2.2.1,x.2.2.2.1,x.2.2.2.2)))) (fun x=>
 bif (decide (x.2.1<(x.2.2.1.length:Int)))then
 if 0≤x.2.1∧x.2.1<(x.2.2.1.length:Int)then
 bif (hasD x.2.2.2.1 x.2.1.toNat)then
 none
 else
 vxc (x.2.2.1.getD x.2.1.toNat (Ty.zero tTxn)) x.2.2.2.2 (fun y5=>
 bif (!y5.1)then
 if 0≤x.1∧x.1<(x.2.2.1.length:Int)then
 k (.inl (.inr ((IntKind.wrap .i64 (x.1+1)),(IntKind.wrap .i64 (x.2.1+1)),(x.2.2.1.set x.1.toNat (x.2.2.1.getD x.2.1.toNat (Ty.zero tTxn))),(x.2.1.toNat::(x.2.1.toNat::(delD x.1.toNat x.2.2.2.1))),y5.2)))
 else none
 else
 k (.inl (.inr (x.1,(IntKind.wrap .i64 (x.2.1+1)),x.2.2.1,x.2.2.2.1,y5.2))))
 else none
 else
 k (.inr (.inr (x.1,x.2.1,x.2.2.1,x.2.2.2.1,x.2.2.2.2))))) x
instance n95n_bp0 (x:((Int×Int×TL×(List Nat)×ByteArray)⊕(Int×Int×TL×(List Nat)×ByteArray))):ParC (vio x):=by
 unfold vio
 rcases x with x|x
 ·simp only [Sum.elim_inl]
  infer_instance
 ·simp only [Sum.elim_inr]
  (try dsimp only)
  infer_instance
def wma (a0:TL)(a1:ByteArray)(k:((TL×ByteArray)⊕(ByteArray×TL))→OR):OR:=
 v3x a0 a1 (fun y1=>
 bif (y1.1==(-1:Int))then
 k (.inl (a0,y1.2))
 else
 vab vio Fuel (.inl (y1.1,(IntKind.wrap .i64 (y1.1+1)),a0,([]:List Nat),y1.2)) (Sum.elim (fun z2=>
 if 0≤z2.1∧z2.1≤(z2.2.2.1.length:Int)then
 if 0≤z2.1∧z2.1≤((z2.2.2.1.take z2.1.toNat++List.replicate (z2.2.2.1.length-z2.1.toNat) (Ty.zero tTxn)).length:Int)then
 bif (geD z2.1.toNat (loD z2.1.toNat z2.2.2.2.1))then
 k (.inr (z2.2.2.2.2,((z2.2.2.1.take z2.1.toNat++List.replicate (z2.2.2.1.length-z2.1.toNat) (Ty.zero tTxn)).take z2.1.toNat)))
 else
 none
 else none
 else none) (fun z3=>
 if 0≤z3.1∧z3.1≤(z3.2.2.1.length:Int)then
 if 0≤z3.1∧z3.1≤((z3.2.2.1.take z3.1.toNat++List.replicate (z3.2.2.1.length-z3.1.toNat) (Ty.zero tTxn)).length:Int)then
 bif (geD z3.1.toNat (loD z3.1.toNat z3.2.2.2.1))then
 k (.inr (z3.2.2.2.2,((z3.2.2.1.take z3.1.toNat++List.replicate (z3.2.2.1.length-z3.1.toNat) (Ty.zero tTxn)).take z3.1.toNat)))
 else
 none
 else none
 else none)))
def v8k:=shut wma
theorem wp5:v8k=wma:=vaf _
instance n95n_p (a0:TL)(a1:ByteArray):ParC (v8k a0 a1):=by rw [wp5];unfold wma;(try dsimp only);exact⟨((n99n_p ..).p.bind fun _=>(vae (vac _) ((vcq (fun x=>(n95n_bp0 x).p) _ _).bind2 (fun _=>(vbw (vbw (vae (vac _) vaw) vaw) vaw)) (fun _=>(vbw (vbw (vae (vac _) vaw) vaw) vaw)))))⟩
def wjl (a0:va3)(a1:ByteArray)(k:q86T→OR):OR:=
 vim a0 (fun y1=>
 v8k y1.2.2.2.2 a1 (Sum.elim (fun y2=>
 k (y1.1,y1.2.1,y1.2.2.1,y1.2.2.2.1,y2.1)) (fun y3=>
 k (y1.1,y1.2.1,y1.2.2.1,y1.2.2.2.1,y3.2))))
def v1e:=shut wjl
theorem wt7:v1e=wjl:=vaf _
instance n08n_p (a0:va3)(a1:ByteArray):ParC (v1e a0 a1):=by rw [wt7];unfold wjl;(try dsimp only);infer_instance
def vpz (x:q78T)(k:q78T⊕q78T→OR):OR:=
 bif (decide (x.2.2.2<x.2.2.1))then
 if 0≤x.2.2.2∧x.2.2.2<(x.2.1.length:Int)then
 k (.inl ((if(rd (Ty.zero tTxn) x.2.1 x.2.2.2).2.2.1<x.1 then(rd (Ty.zero tTxn) x.2.1 x.2.2.2).2.2.1 else x.1),x.2.1,x.2.2.1,(IntKind.wrap .i64 (x.2.2.2+1))))
 else none
 else
 k (.inr (x.1,x.2.1,x.2.2.1,x.2.2.2))
instance n13n_bp0 (x:q78T):ParC (vpz x):=by unfold vpz;(try dsimp only);infer_instance
def wk2 (a0:va3)(a1:TL)(k:Int→OR):OR:=
 vab vpz Fuel (a0.2.2.2.1,a1,(a1.length:Int),0) (fun z1=>
 k z1.1)
def v7j:=shut wk2
theorem wr2:v7j=wk2:=vaf _
instance n13n_p (a0:va3)(a1:TL):ParC (v7j a0 a1):=by rw [wr2];unfold wk2;(try dsimp only);infer_instance
def ws3 (a0:dTxn)(a1:Int)(k:(Bool×Int)→OR):OR:=
 k ((decide (a0.2.2.2.1≤a1)),a1)
def vxr:=shut ws3
theorem wqr:vxr=ws3:=vaf _
instance n26n_p (a0:dTxn)(a1:Int):ParC (vxr a0 a1):=by rw [wqr];unfold ws3;(try dsimp only);infer_instance
def vjt (x:q16T)(k:q16T⊕(q16T⊕q16T)→OR):OR:=
 bif (decide (x.2.2.2.1<x.2.2.1))then
 if 0≤x.2.2.2.1∧x.2.2.2.1<(x.1.length:Int)then
 vxr (rd (Ty.zero tTxn) x.1 x.2.2.2.1) x.2.2.2.2 (fun y3=>
 bif y3.1 then
 k (.inr (.inl (x.1,x.2.2.2.1,x.2.2.1,x.2.2.2.1,y3.2)))
 else
 k (.inl (x.1,x.2.1,x.2.2.1,(IntKind.wrap .i64 (x.2.2.2.1+1)),y3.2)))
 else none
 else
 k (.inr (.inr (x.1,x.2.1,x.2.2.1,x.2.2.2.1,x.2.2.2.2)))
instance n103n_bp0 (x:q16T):ParC (vjt x):=by unfold vjt;(try dsimp only);infer_instance
def v8y (a0:TL)(a1:Int)(k:(Int×Int)→OR):OR:=
 vab vjt Fuel (a0,0,(a0.length:Int),0,a1) (Sum.elim (fun z1=>
 k (z1.2.1,z1.2.2.2.2)) (fun z2=>
 k ((-1:Int),z2.2.2.2.2)))
def vs0:=shut v8y
theorem whv:vs0=v8y:=vaf _
instance n103n_p (a0:TL)(a1:Int):ParC (vs0 a0 a1):=by rw [whv];unfold v8y;(try dsimp only);infer_instance
def vh6 (x:((Int×Int×TL×(List Nat)×Int)⊕(Int×Int×TL×(List Nat)×Int)))(k:((Int×Int×TL×(List Nat)×Int)⊕(Int×Int×TL×(List Nat)×Int))⊕((Int×Int×TL×(List Nat)×Int)⊕(Int×Int×TL×(List Nat)×Int))→OR):OR:=
 (Sum.elim (fun x=>
 bif (decide (x.2.1<(x.2.2.1.length:Int)))then
 if 0≤x.2.1∧x.2.1<(x.2.2.1.length:Int)then
 bif (hasD x.2.2.2.1 x.2.1.toNat)then
 none
 else
 vxr (x.2.2.1.getD x.2.1.toNat (Ty.zero tTxn)) x.2.2.2.2 (fun y4=>
 bif (!y4.1)then
 if 0≤x.1∧x.1<(x.2.2.1.length:Int)then
 k (.inl (.inr ((IntKind.wrap .i64 (x.1+1)),(IntKind.wrap .i64 (x.2.1+1)),(x.2.2.1.set x.1.toNat (x.2.2.1.getD x.2.1.toNat (Ty.zero tTxn))),(x.2.1.toNat::(x.2.1.toNat::(delD x.1.toNat x.2.2.2.1))),y4.2)))
 else none
 else
 k (.inl (.inl (x.1,(IntKind.wrap .i64 (x.2.1+1)),x.2.2.1,x.2.2.2.1,y4.2))))
 else none
 else
 k (.inr (.inl (x.1,x.2.1,x.2.2.1,x.2.2.2.1,x.2.2.2.2)))) (fun x=>
 bif (decide (x.2.1<(x.2.2.1.length:Int)))then
 if 0≤x.2.1∧x.2.1<(x.2.2.1.length:Int)then
 bif (hasD x.2.2.2.1 x.2.1.toNat)then
 none
 else
 vxr (x.2.2.1.getD x.2.1.toNat (Ty.zero tTxn)) x.2.2.2.2 (fun y5=>
 bif (!y5.1)then
 if 0≤x.1∧x.1<(x.2.2.1.length:Int)then
 k (.inl (.inr ((IntKind.wrap .i64 (x.1+1)),(IntKind.wrap .i64 (x.2.1+1)),(x.2.2.1.set x.1.toNat (x.2.2.1.getD x.2.1.toNat (Ty.zero tTxn))),(x.2.1.toNat::(x.2.1.toNat::(delD x.1.toNat x.2.2.2.1))),y5.2)))
 else none
 else
 k (.inl (.inr (x.1,(IntKind.wrap .i64 (x.2.1+1)),x.2.2.1,x.2.2.2.1,y5.2))))
 else none
 else
 k (.inr (.inr (x.1,x.2.1,x.2.2.1,x.2.2.2.1,x.2.2.2.2))))) x
instance n97n_bp0 (x:((Int×Int×TL×(List Nat)×Int)⊕(Int×Int×TL×(List Nat)×Int))):ParC (vh6 x):=by
 unfold vh6
 rcases x with x|x
 ·simp only [Sum.elim_inl]
  infer_instance
 ·simp only [Sum.elim_inr]
  (try dsimp only)
  infer_instance
def wj5 (a0:TL)(a1:Int)(k:((TL×Int)⊕(Int×TL))→OR):OR:=
 vs0 a0 a1 (fun y1=>
 bif (y1.1==(-1:Int))then
 k (.inl (a0,y1.2))
 else
 vab vh6 Fuel (.inl (y1.1,(IntKind.wrap .i64 (y1.1+1)),a0,([]:List Nat),y1.2)) (Sum.elim (fun z2=>
 if 0≤z2.1∧z2.1≤(z2.2.2.1.length:Int)then
 if 0≤z2.1∧z2.1≤((z2.2.2.1.take z2.1.toNat++List.replicate (z2.2.2.1.length-z2.1.toNat) (Ty.zero tTxn)).length:Int)then
 bif (geD z2.1.toNat (loD z2.1.toNat z2.2.2.2.1))then
 k (.inr (z2.2.2.2.2,((z2.2.2.1.take z2.1.toNat++List.replicate (z2.2.2.1.length-z2.1.toNat) (Ty.zero tTxn)).take z2.1.toNat)))
 else
 none
 else none
 else none) (fun z3=>
 if 0≤z3.1∧z3.1≤(z3.2.2.1.length:Int)then
 if 0≤z3.1∧z3.1≤((z3.2.2.1.take z3.1.toNat++List.replicate (z3.2.2.1.length-z3.1.toNat) (Ty.zero tTxn)).length:Int)then
 bif (geD z3.1.toNat (loD z3.1.toNat z3.2.2.2.1))then
 k (.inr (z3.2.2.2.2,((z3.2.2.1.take z3.1.toNat++List.replicate (z3.2.2.1.length-z3.1.toNat) (Ty.zero tTxn)).take z3.1.toNat)))
 else
 none
 else none
 else none)))
def v7n:=shut wj5
theorem wux:v7n=wj5:=vaf _
instance n97n_p (a0:TL)(a1:Int):ParC (v7n a0 a1):=by rw [wux];unfold wj5;(try dsimp only);exact⟨((n103n_p ..).p.bind fun _=>(vae (vac _) ((vcq (fun x=>(n97n_bp0 x).p) _ _).bind2 (fun _=>(vbw (vbw (vae (vac _) vaw) vaw) vaw)) (fun _=>(vbw (vbw (vae (vac _) vaw) vaw) vaw)))))⟩
end
end Go.VE
