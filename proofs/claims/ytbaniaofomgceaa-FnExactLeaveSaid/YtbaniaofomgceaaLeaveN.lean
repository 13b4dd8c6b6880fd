/- Native programs of the functions, written by gen.py. -/
import Derived.Test.YtbaniaofomgceaaT0
namespace Go.VE
noncomputable section
set_option linter.unusedVariables false
set_option linter.unusedSimpArgs false
set_option maxRecDepth 100000
abbrev q0T:Type:=((List vam)×(List vam)×Bool×Int)
abbrev q1T:Type:=((List vam)×Int×(List vam))
abbrev q2T:Type:=((List vam)×Int×Int×Int)
abbrev q3T:Type:=((List dTxn)×(List dTxn)×Bool×Int)
abbrev q4T:Type:=((List dTxn)×Int×(List dTxn))
abbrev q5T:Type:=((List dTxn)×Int×Int×(List dTxn))
abbrev q6T:Type:=((List dTxn)×Int×Int×Int×Int)
abbrev q7T:Type:=((List dTxn)×Int×Int×Int)
abbrev q8T:Type:=((List vaa)×(List vaa)×Bool×Int)
abbrev q9T:Type:=((List vaa)×ByteArray×Int×Int×(List vaa)×Int×Int)
abbrev q10T:Type:=((List vaa)×ByteArray×Int×Int×Int)
abbrev q11T:Type:=((List vaa)×Int×(List vaa)×Int×Int×(List vaa))
abbrev q12T:Type:=((List vaa)×Int×(List vaa)×Int×Int×Bool×ByteArray×ByteArray×Bool×Int×(List vaa))
abbrev q13T:Type:=((List vaa)×Int×(List vaa))
abbrev q14T:Type:=((List vaa)×Int×Int×(List vaa))
abbrev q15T:Type:=((List vaa)×Int×Int×Bool×(List vaa))
abbrev q16T:Type:=((List vaa)×Int×Int×Int)
abbrev q17T:Type:=((List val)×(List val)×Bool×Int)
abbrev q18T:Type:=((List val)×Int×(List val))
abbrev q19T:Type:=((List val)×Int×Int×Int)
abbrev q20T:Type:=(Bool×Int×Int×(List vaa)×(List dTxn)×(List dTxn)×(List dTxn))
abbrev q21T:Type:=(Bool×Int×Int×Int×(List vaa)×(List dTxn)×(List dTxn)×(List dTxn))
abbrev q22T:Type:=(ByteArray×ByteArray×Bool×Int)
abbrev q23T:Type:=(ByteArray×Int×Int×Int×(List vaa))
abbrev q24T:Type:=(Int×(List dTxn)×Int×Int)
abbrev q25T:Type:=(Int×(List vaa)×(List dTxn)×(List dTxn)×(List dTxn))
abbrev q26T:Type:=(Int×(List vaa)×(List dTxn)×(List dTxn))
abbrev q27T:Type:=(Int×Bool×Int×(List vaa)×(List dTxn)×(List dTxn)×Int×Int×(List dTxn)×Int×Int×(List dTxn)×Int×Int×(List vaa)×(List dTxn)×(List dTxn)×(List vaa)×(List dTxn)×(List dTxn)×(List dTxn))
abbrev q28T:Type:=(Int×Bool×Int×(List vaa)×(List dTxn)×(List dTxn)×Int×Int×(List dTxn)×Int×Int×Int×Int×(List vaa)×(List dTxn)×(List dTxn)×(List dTxn)×(List vaa)×(List dTxn)×(List dTxn)×(List dTxn))
abbrev q29T:Type:=(Int×Bool×Int×Int×(List vaa)×(List dTxn)×(List dTxn)×Int×Int×(List dTxn)×Int×Int×(List dTxn)×Int×Int×Int×Int×(List vaa)×(List dTxn)×(List dTxn)×(List vaa)×(List dTxn)×(List dTxn)×(List dTxn)×(List vaa)×(List dTxn)×(List dTxn)×(List dTxn))
abbrev q30T:Type:=(Int×Bool×Int×Int×(List vaa)×(List dTxn)×(List dTxn)×Int×Int×(List dTxn)×Int×Int×Int×Int×Int×Int×(List vaa)×(List dTxn)×(List dTxn)×(List dTxn)×(List vaa)×(List dTxn)×(List dTxn)×(List dTxn)×(List vaa)×(List dTxn)×(List dTxn)×(List dTxn))
abbrev q31T:Type:=(Int×Int×(List dTxn)×(List vaa)×(List dTxn)×(List dTxn)×(List dTxn)×(List vaa)×(List dTxn)×(List dTxn))
abbrev q32T:Type:=(Int×Int×(List dTxn)×Int×(List vaa)×(List dTxn)×(List dTxn))
abbrev q33T:Type:=(Int×Int×(List vaa)×(List dTxn)×(List dTxn)×(List dTxn))
abbrev q34T:Type:=(Int×Int×(List vaa)×(List dTxn)×(List dTxn)×Int×Int×Int×Int×Int×Int×(List vaa)×(List dTxn)×(List dTxn))
abbrev q35T:Type:=(Int×Int×(List vaa)×(List dTxn)×(List dTxn))
abbrev q36T:Type:=(Int×Int×(List vaa)×(List vaa))
abbrev q37T:Type:=(Int×Int×Bool×(List vaa)×(List vaa))
abbrev q38T:Type:=(Int×Int×Int×(List vaa)×(List dTxn)×(List dTxn)×(List dTxn))
abbrev q39T:Type:=(Int×Int×Int×(List vaa)×(List dTxn)×(List dTxn)×Int×Int×(List dTxn))
abbrev q40T:Type:=(Int×Int×Int×(List vaa)×(List vaa))
abbrev q41T:Type:=(Int×Int×Int×Int×(List vaa)×(List dTxn)×(List dTxn)×(List dTxn)×(List dTxn))
abbrev q42T:Type:=(Int×Int×Int×Int×(List vaa)×(List vaa))
abbrev q43T:Type:=(Int×Int×Int×Int×Bool×ByteArray×(List vam)×(List val))
def v48 (a0:vaa)(a1:Int)(k:Int→Option Res):Option Res:=
 bif (decide ((IntKind.wrap .i64 (a1-(a0.1.size:Int)))<(0:Int)))then
 k (-1:Int)
 else
 bif (decide ((IntKind.wrap .i64 ((IntKind.wrap .i64 (a1-(a0.1.size:Int)))-(a0.2.1.size:Int)))<(0:Int)))then
 k (-1:Int)
 else
 k (IntKind.wrap .i64 ((IntKind.wrap .i64 (a1-(a0.1.size:Int)))-(a0.2.1.size:Int)))
def vve:=shut v48
theorem wbw:vve=v48:=vae _
instance n45n_p (a0:vaa)(a1:Int):ParC (vve a0 a1):=by rw [wbw];unfold v48;(try dsimp only);infer_instance
def vj7 (x:q16T)(k:q16T⊕(q16T⊕q16T)→Option Res):Option Res:=
 bif (decide (x.2.2.2<(x.1.length:Int)))then
 if 0≤x.2.2.2∧x.2.2.2<(x.1.length:Int)then
 vve (rd (Ty.zero tVersion) x.1 x.2.2.2) x.2.1 (fun y3=>
 bif (decide (y3<0))then
 k (.inr (.inl (x.1,y3,(-1:Int),x.2.2.2)))
 else
 k (.inl (x.1,y3,x.2.2.1,(IntKind.wrap .i64 (x.2.2.2+1)))))
 else none
 else
 k (.inr (.inr (x.1,x.2.1,x.2.2.1,x.2.2.2)))
instance n46n_bp0 (x:q16T):ParC (vj7 x):=by unfold vj7;(try dsimp only);infer_instance
def v4f (a0:(List vaa))(a1:Int)(k:Int→Option Res):Option Res:=
 bif (decide ((IntKind.wrap .i64 (a1-(a0.length:Int)))<(0:Int)))then
 k (-1:Int)
 else
 vac vj7 Fuel (a0,(IntKind.wrap .i64 (a1-(a0.length:Int))),0,0) (Sum.elim (fun z1=>
 k z1.2.2.1) (fun z2=>
 k z2.2.1))
def vya:=shut v4f
theorem waw:vya=v4f:=vae _
instance n46n_p (a0:(List vaa))(a1:Int):ParC (vya a0 a1):=by rw [waw];unfold v4f;(try dsimp only);infer_instance
def v3o (a0:vam)(a1:Int)(k:Int→Option Res):Option Res:=
 bif (decide ((IntKind.wrap .i64 (a1-(a0.1.size:Int)))<(0:Int)))then
 k (-1:Int)
 else
 bif (decide ((IntKind.wrap .i64 ((IntKind.wrap .i64 (a1-(a0.1.size:Int)))-(a0.2.size:Int)))<(0:Int)))then
 k (-1:Int)
 else
 k (IntKind.wrap .i64 ((IntKind.wrap .i64 (a1-(a0.1.size:Int)))-(a0.2.size:Int)))
def vtt:=shut v3o
theorem v9x:vtt=v3o:=vae _
instance n41n_p (a0:vam)(a1:Int):ParC (vtt a0 a1):=by rw [v9x];unfold v3o;(try dsimp only);infer_instance
def vi3 (x:q2T)(k:q2T⊕(q2T⊕q2T)→Option Res):Option Res:=
 bif (decide (x.2.2.2<(x.1.length:Int)))then
 if 0≤x.2.2.2∧x.2.2.2<(x.1.length:Int)then
 vtt (rd (Ty.zero tRange) x.1 x.2.2.2) x.2.1 (fun y3=>
 bif (decide (y3<0))then
 k (.inr (.inl (x.1,y3,(-1:Int),x.2.2.2)))
 else
 k (.inl (x.1,y3,x.2.2.1,(IntKind.wrap .i64 (x.2.2.2+1)))))
 else none
 else
 k (.inr (.inr (x.1,x.2.1,x.2.2.1,x.2.2.2)))
instance n42n_bp0 (x:q2T):ParC (vi3 x):=by unfold vi3;(try dsimp only);infer_instance
def v3q (a0:(List vam))(a1:Int)(k:Int→Option Res):Option Res:=
 bif (decide ((IntKind.wrap .i64 (a1-(a0.length:Int)))<(0:Int)))then
 k (-1:Int)
 else
 vac vi3 Fuel (a0,(IntKind.wrap .i64 (a1-(a0.length:Int))),0,0) (Sum.elim (fun z1=>
 k z1.2.2.1) (fun z2=>
 k z2.2.1))
def vy7:=shut v3q
theorem wb0:vy7=v3q:=vae _
instance n42n_p (a0:(List vam))(a1:Int):ParC (vy7 a0 a1):=by rw [wb0];unfold v3q;(try dsimp only);infer_instance
def v4r (a0:val)(a1:Int)(k:Int→Option Res):Option Res:=
 bif (decide ((IntKind.wrap .i64 (a1-(a0.1.size:Int)))<(0:Int)))then
 k (-1:Int)
 else
 bif (decide ((IntKind.wrap .i64 ((IntKind.wrap .i64 (a1-(a0.1.size:Int)))-(a0.2.1.size:Int)))<(0:Int)))then
 k (-1:Int)
 else
 k (IntKind.wrap .i64 ((IntKind.wrap .i64 (a1-(a0.1.size:Int)))-(a0.2.1.size:Int)))
def vt5:=shut v4r
theorem v7n:vt5=v4r:=vae _
instance n47n_p (a0:val)(a1:Int):ParC (vt5 a0 a1):=by rw [v7n];unfold v4r;(try dsimp only);infer_instance
def vik (x:q19T)(k:q19T⊕(q19T⊕q19T)→Option Res):Option Res:=
 bif (decide (x.2.2.2<(x.1.length:Int)))then
 if 0≤x.2.2.2∧x.2.2.2<(x.1.length:Int)then
 vt5 (rd (Ty.zero tWrite) x.1 x.2.2.2) x.2.1 (fun y3=>
 bif (decide (y3<0))then
 k (.inr (.inl (x.1,y3,(-1:Int),x.2.2.2)))
 else
 k (.inl (x.1,y3,x.2.2.1,(IntKind.wrap .i64 (x.2.2.2+1)))))
 else none
 else
 k (.inr (.inr (x.1,x.2.1,x.2.2.1,x.2.2.2)))
instance n48n_bp0 (x:q19T):ParC (vik x):=by unfold vik;(try dsimp only);infer_instance
def v21 (a0:(List val))(a1:Int)(k:Int→Option Res):Option Res:=
 bif (decide ((IntKind.wrap .i64 (a1-(a0.length:Int)))<(0:Int)))then
 k (-1:Int)
 else
 vac vik Fuel (a0,(IntKind.wrap .i64 (a1-(a0.length:Int))),0,0) (Sum.elim (fun z1=>
 k z1.2.2.1) (fun z2=>
 k z2.2.1))
def vyn:=shut v21
theorem v9h:vyn=v21:=vae _
instance n48n_p (a0:(List val))(a1:Int):ParC (vyn a0 a1):=by rw [v9h];unfold v21;(try dsimp only);infer_instance
def v5k (a0:dTxn)(a1:Int)(k:Int→Option Res):Option Res:=
 vy7 a0.2.2.2.2.1 a1 (fun y1=>
 bif (decide (y1<0))then
 k (-1:Int)
 else
 vyn a0.2.2.2.2.2.1 y1 (fun y2=>
 bif (decide (y2<0))then
 k (-1:Int)
 else
 bif (decide ((IntKind.wrap .i64 (y2-(a0.2.2.2.2.2.2.2.size:Int)))<(0:Int)))then
 k (-1:Int)
 else
 k (IntKind.wrap .i64 (y2-(a0.2.2.2.2.2.2.2.size:Int)))))
def vvc:=shut v5k
theorem wac:vvc=v5k:=vae _
instance n43n_p (a0:dTxn)(a1:Int):ParC (vvc a0 a1):=by rw [wac];unfold v5k;(try dsimp only);infer_instance
def vio (x:q7T)(k:q7T⊕(q7T⊕q7T)→Option Res):Option Res:=
 bif (decide (x.2.2.2<(x.1.length:Int)))then
 if 0≤x.2.2.2∧x.2.2.2<(x.1.length:Int)then
 vvc (rd (Ty.zero tTxn) x.1 x.2.2.2) x.2.1 (fun y3=>
 bif (decide (y3<0))then
 k (.inr (.inl (x.1,y3,(-1:Int),x.2.2.2)))
 else
 k (.inl (x.1,y3,x.2.2.1,(IntKind.wrap .i64 (x.2.2.2+1)))))
 else none
 else
 k (.inr (.inr (x.1,x.2.1,x.2.2.1,x.2.2.2)))
instance n44n_bp0 (x:q7T):ParC (vio x):=by unfold vio;(try dsimp only);infer_instance
def v28 (a0:(List dTxn))(a1:Int)(k:Int→Option Res):Option Res:=
 bif (decide ((IntKind.wrap .i64 (a1-(a0.length:Int)))<(0:Int)))then
 k (-1:Int)
 else
 vac vio Fuel (a0,(IntKind.wrap .i64 (a1-(a0.length:Int))),0,0) (Sum.elim (fun z1=>
 k z1.2.2.1) (fun z2=>
 k z2.2.1))
def vrs:=shut v28
theorem v7u:vrs=v28:=vae _
instance n44n_p (a0:(List dTxn))(a1:Int):ParC (vrs a0 a1):=by rw [v7u];unfold v28;(try dsimp only);infer_instance
def v3d (a0:vc9)(a1:Int)(k:Int→Option Res):Option Res:=
 vya a0.1 a1 (fun y1=>
 bif (decide (y1<0))then
 k (-1:Int)
 else
 vrs a0.2.1 y1 (fun y2=>
 bif (decide (y2<0))then
 k (-1:Int)
 else
 vrs a0.2.2.1 y2 (fun y3=>
 bif (decide (y3<0))then
 k (-1:Int)
 else
 k y3)))
def vyw:=shut v3d
theorem v83:vyw=v3d:=vae _
instance n39n_p (a0:vc9)(a1:Int):ParC (vyw a0 a1):=by rw [v83];unfold v3d;(try dsimp only);infer_instance
def v4c (a0:va7)(a1:Int)(k:Int→Option Res):Option Res:=
 vyw a0.1 a1 (fun y1=>
 bif (decide (y1<0))then
 k (-1:Int)
 else
 vrs a0.2 y1 (fun y2=>
 bif (decide (y2<0))then
 k (-1:Int)
 else
 k y2))
def vvz:=shut v4c
theorem wbn:vvz=v4c:=vae _
instance n40n_p (a0:va7)(a1:Int):ParC (vvz a0 a1):=by rw [wbn];unfold v4c;(try dsimp only);infer_instance
def v9q (a0:vaa)(k:q22T→Option Res):Option Res:=
 k (a0.1,a0.2.1,a0.2.2.1,a0.2.2.2)
def vtx:=shut v9q
theorem v75:vtx=v9q:=vae _
instance n55n_p (a0:vaa):ParC (vtx a0):=by rw [v75];unfold v9q;(try dsimp only);infer_instance
def vic (x:q13T)(k:q13T⊕q13T→Option Res):Option Res:=
 bif (decide (x.2.1<(x.1.length:Int)))then
 if 0≤x.2.1∧x.2.1<(x.1.length:Int)then
 vtx (rd (Ty.zero tVersion) x.1 x.2.1) (fun y2=>
 if 0≤x.2.1∧x.2.1<(x.2.2.length:Int)then
 k (.inl (x.1,(IntKind.wrap .i64 (x.2.1+1)),(x.2.2.set x.2.1.toNat y2)))
 else none)
 else none
 else
 k (.inr (x.1,x.2.1,x.2.2))
instance n56n_bp0 (x:q13T):ParC (vic x):=by unfold vic;(try dsimp only);infer_instance
def v3a (a0:(List vaa))(k:(List vaa)→Option Res):Option Res:=
 if 0≤(a0.length:Int)∧(a0.length:Int)≤(a0.length:Int)∧(a0.length:Int)≤(VE.maxLen:Int)then
 vac vic Fuel (a0,0,(List.replicate (a0.length:Int).toNat (Ty.zero tVersion))) (fun z1=>
 k z1.2.2)
 else none
def vv1:=shut v3a
theorem wa5:vv1=v3a:=vae _
instance n56n_p (a0:(List vaa)):ParC (vv1 a0):=by rw [wa5];unfold v3a;(try dsimp only);infer_instance
def wau (a0:vam)(k:(ByteArray×ByteArray)→Option Res):Option Res:=
 k (a0.1,a0.2)
def vui:=shut wau
theorem v9n:vui=wau:=vae _
instance n51n_p (a0:vam):ParC (vui a0):=by rw [v9n];unfold wau;(try dsimp only);infer_instance
def vjn (x:q1T)(k:q1T⊕q1T→Option Res):Option Res:=
 bif (decide (x.2.1<(x.1.length:Int)))then
 if 0≤x.2.1∧x.2.1<(x.1.length:Int)then
 vui (rd (Ty.zero tRange) x.1 x.2.1) (fun y2=>
 if 0≤x.2.1∧x.2.1<(x.2.2.length:Int)then
 k (.inl (x.1,(IntKind.wrap .i64 (x.2.1+1)),(x.2.2.set x.2.1.toNat y2)))
 else none)
 else none
 else
 k (.inr (x.1,x.2.1,x.2.2))
instance n52n_bp0 (x:q1T):ParC (vjn x):=by unfold vjn;(try dsimp only);infer_instance
def v5m (a0:(List vam))(k:(List vam)→Option Res):Option Res:=
 if 0≤(a0.length:Int)∧(a0.length:Int)≤(a0.length:Int)∧(a0.length:Int)≤(VE.maxLen:Int)then
 vac vjn Fuel (a0,0,(List.replicate (a0.length:Int).toNat (Ty.zero tRange))) (fun z1=>
 k z1.2.2)
 else none
def vtr:=shut v5m
theorem wag:vtr=v5m:=vae _
instance n52n_p (a0:(List vam)):ParC (vtr a0):=by rw [wag];unfold v5m;(try dsimp only);infer_instance
def waa (a0:val)(k:(ByteArray×ByteArray×Bool)→Option Res):Option Res:=
 k (a0.1,a0.2.1,a0.2.2)
def vvk:=shut waa
theorem wb2:vvk=waa:=vae _
instance n57n_p (a0:val):ParC (vvk a0):=by rw [wb2];unfold waa;(try dsimp only);infer_instance
def viv (x:q18T)(k:q18T⊕q18T→Option Res):Option Res:=
 bif (decide (x.2.1<(x.1.length:Int)))then
 if 0≤x.2.1∧x.2.1<(x.1.length:Int)then
 vvk (rd (Ty.zero tWrite) x.1 x.2.1) (fun y2=>
 if 0≤x.2.1∧x.2.1<(x.2.2.length:Int)then
 k (.inl (x.1,(IntKind.wrap .i64 (x.2.1+1)),(x.2.2.set x.2.1.toNat y2)))
 else none)
 else none
 else
 k (.inr (x.1,x.2.1,x.2.2))
instance n58n_bp0 (x:q18T):ParC (viv x):=by unfold viv;(try dsimp only);infer_instance
def v24 (a0:(List val))(k:(List val)→Option Res):Option Res:=
 if 0≤(a0.length:Int)∧(a0.length:Int)≤(a0.length:Int)∧(a0.length:Int)≤(VE.maxLen:Int)then
 vac viv Fuel (a0,0,(List.replicate (a0.length:Int).toNat (Ty.zero tWrite))) (fun z1=>
 k z1.2.2)
 else none
def vu0:=shut v24
theorem v8d:vu0=v24:=vae _
instance n58n_p (a0:(List val)):ParC (vu0 a0):=by rw [v8d];unfold v24;(try dsimp only);infer_instance
def v26 (a0:dTxn)(k:q43T→Option Res):Option Res:=
 vtr a0.2.2.2.2.1 (fun y1=>
 vu0 a0.2.2.2.2.2.1 (fun y2=>
 k (a0.1,a0.2.1,a0.2.2.1,a0.2.2.2.1,a0.2.2.2.2.2.2.1,a0.2.2.2.2.2.2.2,y1,y2)))
def vqz:=shut v26
theorem v8a:vqz=v26:=vae _
instance n53n_p (a0:dTxn):ParC (vqz a0):=by rw [v8a];unfold v26;(try dsimp only);infer_instance
def vkd (x:q4T)(k:q4T⊕q4T→Option Res):Option Res:=
 bif (decide (x.2.1<(x.1.length:Int)))then
 if 0≤x.2.1∧x.2.1<(x.1.length:Int)then
 vqz (rd (Ty.zero tTxn) x.1 x.2.1) (fun y2=>
 if 0≤x.2.1∧x.2.1<(x.2.2.length:Int)then
 k (.inl (x.1,(IntKind.wrap .i64 (x.2.1+1)),(x.2.2.set x.2.1.toNat (y2.1,(y2.2.1,(y2.2.2.1,(y2.2.2.2.1,(y2.2.2.2.2.2.2.1,(y2.2.2.2.2.2.2.2,(y2.2.2.2.2.1,y2.2.2.2.2.2.1))))))))))
 else none)
 else none
 else
 k (.inr (x.1,x.2.1,x.2.2))
instance n54n_bp0 (x:q4T):ParC (vkd x):=by unfold vkd;(try dsimp only);infer_instance
def v4z (a0:(List dTxn))(k:(List dTxn)→Option Res):Option Res:=
 if 0≤(a0.length:Int)∧(a0.length:Int)≤(a0.length:Int)∧(a0.length:Int)≤(VE.maxLen:Int)then
 vac vkd Fuel (a0,0,(List.replicate (a0.length:Int).toNat (Ty.zero tTxn))) (fun z1=>
 k z1.2.2)
 else none
def vov:=shut v4z
theorem v7y:vov=v4z:=vae _
instance n54n_p (a0:(List dTxn)):ParC (vov a0):=by rw [v7y];unfold v4z;(try dsimp only);infer_instance
def v49 (a0:vc9)(k:q35T→Option Res):Option Res:=
 vv1 a0.1 (fun y1=>
 vov a0.2.1 (fun y2=>
 vov a0.2.2.1 (fun y3=>
 k (a0.2.2.2.1,a0.2.2.2.2,y1,y2,y3))))
def vuz:=shut v49
theorem v9p:vuz=v49:=vae _
instance n49n_p (a0:vc9):ParC (vuz a0):=by rw [v9p];unfold v49;(try dsimp only);infer_instance
def v37 (a0:va7)(k:q33T→Option Res):Option Res:=
 vuz a0.1 (fun y1=>
 vov a0.2 (fun y2=>
 k (y1.1,y1.2.1,y1.2.2.1,y1.2.2.2.1,y1.2.2.2.2,y2)))
def vfc:=shut v37
theorem v8v:vfc=v37:=vae _
instance n50n_p (a0:va7):ParC (vfc a0):=by rw [v8v];unfold v37;(try dsimp only);infer_instance
def v4v (a0:dTxn)(k:q43T→Option Res):Option Res:=
 if([]:List vam).length+a0.2.2.2.2.1.length≤VE.maxLen then
 if([]:List val).length+a0.2.2.2.2.2.1.length≤VE.maxLen then
 k (a0.1,a0.2.1,a0.2.2.1,a0.2.2.2.1,a0.2.2.2.2.2.2.1,a0.2.2.2.2.2.2.2,(([]:List vam)++a0.2.2.2.2.1),(([]:List val)++a0.2.2.2.2.2.1))
 else none
 else none
def voi:=shut v4v
theorem v9e:voi=v4v:=vae _
instance n70n_p (a0:dTxn):ParC (voi a0):=by rw [v9e];unfold v4v;(try dsimp only);infer_instance
def vjj (x:q4T)(k:q4T⊕q4T→Option Res):Option Res:=
 bif (decide (x.2.1<(x.1.length:Int)))then
 if 0≤x.2.1∧x.2.1<(x.1.length:Int)then
 voi (rd (Ty.zero tTxn) x.1 x.2.1) (fun y2=>
 if x.2.2.length+[(y2.1,(y2.2.1,(y2.2.2.1,(y2.2.2.2.1,(y2.2.2.2.2.2.2.1,(y2.2.2.2.2.2.2.2,(y2.2.2.2.2.1,y2.2.2.2.2.2.1)))))))].length≤VE.maxLen then
 k (.inl (x.1,(IntKind.wrap .i64 (x.2.1+(1:Int))),(x.2.2++[(y2.1,(y2.2.1,(y2.2.2.1,(y2.2.2.2.1,(y2.2.2.2.2.2.2.1,(y2.2.2.2.2.2.2.2,(y2.2.2.2.2.1,y2.2.2.2.2.2.1)))))))])))
 else none)
 else none
 else
 k (.inr (x.1,x.2.1,x.2.2))
instance n72n_bp0 (x:q4T):ParC (vjj x):=by unfold vjj;(try dsimp only);infer_instance
def v2z (a0:(List dTxn))(k:(List dTxn)→Option Res):Option Res:=
 vac vjj Fuel (a0,0,([]:List dTxn)) (fun z1=>
 k z1.2.2)
def vo0:=shut v2z
theorem v8c:vo0=v2z:=vae _
instance n72n_p (a0:(List dTxn)):ParC (vo0 a0):=by rw [v8c];unfold v2z;(try dsimp only);infer_instance
def vy0 (a0:vc9)(k:q35T→Option Res):Option Res:=
 if([]:List vaa).length+a0.1.length≤VE.maxLen then
 vo0 a0.2.1 (fun y1=>
 vo0 a0.2.2.1 (fun y2=>
 k (a0.2.2.2.1,a0.2.2.2.2,(([]:List vaa)++a0.1),y1,y2)))
 else none
def vrc:=shut vy0
theorem v3g:vrc=vy0:=vae _
instance n71n_p (a0:vc9):ParC (vrc a0):=by rw [v3g];unfold vy0;(try dsimp only);infer_instance
def v3z (a0:va7)(k:q33T→Option Res):Option Res:=
 vrc a0.1 (fun y1=>
 vo0 a0.2 (fun y2=>
 k (y1.1,y1.2.1,y1.2.2.1,y1.2.2.2.1,y1.2.2.2.2,y2)))
def vxw:=shut v3z
theorem v8u:vxw=v3z:=vae _
instance n73n_p (a0:va7):ParC (vxw a0):=by rw [v8u];unfold v3z;(try dsimp only);infer_instance
def vjc (x:q39T)(k:q39T⊕(q39T⊕q39T)→Option Res):Option Res:=
 let xh:=x.2.2.2.2.2.2.2.2
 bif (decide (x.2.2.1<(xh.length:Int)))then
 if 0≤x.2.2.1∧x.2.2.1<(xh.length:Int)then
 bif ((rd (Ty.zero tTxn) xh x.2.2.1).1==x.1)then
 k (.inr (.inl (x.1,x.2.2.1,x.2.2.1,x.2.2.2.1,x.2.2.2.2.1,x.2.2.2.2.2.1,x.2.2.2.2.2.2.1,x.2.2.2.2.2.2.2.1,xh)))
 else
 k (.inl (x.1,x.2.1,(IntKind.wrap .i64 (x.2.2.1+1)),x.2.2.2.1,x.2.2.2.2.1,x.2.2.2.2.2.1,x.2.2.2.2.2.2.1,x.2.2.2.2.2.2.2.1,xh))
 else none
 else
 k (.inr (.inr (x.1,x.2.1,x.2.2.1,x.2.2.2.1,x.2.2.2.2.1,x.2.2.2.2.2.1,x.2.2.2.2.2.2.1,x.2.2.2.2.2.2.2.1,xh)))
instance n66n_bp0 (x:q39T):ParC (vjc x):=by unfold vjc;(try dsimp only);infer_instance
def v2y (a0:va7)(a1:Int)(k:Int→Option Res):Option Res:=
 vac vjc Fuel (a1,0,0,a0.1.1,a0.1.2.1,a0.1.2.2.1,a0.1.2.2.2.1,a0.1.2.2.2.2,a0.2) (Sum.elim (fun z1=>
 k z1.2.1) (fun _=>
 k (-1:Int)))
def vu2:=shut v2y
theorem wan:vu2=v2y:=vae _
instance n66n_p (a0:va7)(a1:Int):ParC (vu2 a0 a1):=by rw [wan];unfold v2y;(try dsimp only);infer_instance
def viq (x:((List dTxn)×Int×Int))(k:((List dTxn)×Int×Int)⊕((List dTxn)×Int×Int)→Option Res):Option Res:=
 bif (decide (x.2.2<(x.1.length:Int)))then
 if 0≤x.2.2∧x.2.2<(x.1.length:Int)then
 bif (decide ((rd (Ty.zero tTxn) x.1 x.2.2).2.2.1<x.2.1))then
 if 0≤x.2.2∧x.2.2<(x.1.length:Int)then
 k (.inl (x.1,(rd (Ty.zero tTxn) x.1 x.2.2).2.2.1,(IntKind.wrap .i64 (x.2.2+1))))
 else none
 else
 k (.inl (x.1,x.2.1,(IntKind.wrap .i64 (x.2.2+1))))
 else none
 else
 k (.inr (x.1,x.2.1,x.2.2))
instance n65n_bp0 (x:((List dTxn)×Int×Int)):ParC (viq x):=by unfold viq;(try dsimp only);infer_instance
def v3t (a0:vc9)(a1:(List dTxn))(k:Int→Option Res):Option Res:=
 vac viq Fuel (a1,a0.2.2.2.1,0) (fun z1=>
 k z1.2.1)
def vp8:=shut v3t
theorem wae:vp8=v3t:=vae _
instance n65n_p (a0:vc9)(a1:(List dTxn)):ParC (vp8 a0 a1):=by rw [wae];unfold v3t;(try dsimp only);infer_instance
def vjt (x:q10T)(k:q10T⊕q10T→Option Res):Option Res:=
 let t0:=(IntKind.wrap .i64 (x.2.2.2.2+(1:Int)))
 bif (decide (x.2.2.2.2<(x.1.length:Int)))then
 if 0≤x.2.2.2.2∧x.2.2.2.2<(x.1.length:Int)then
 bif (vbm ((rd (Ty.zero tVersion) x.1 x.2.2.2.2).1) x.2.1)then
 if 0≤x.2.2.2.2∧x.2.2.2.2<(x.1.length:Int)then
 bif (decide ((rd (Ty.zero tVersion) x.1 x.2.2.2.2).2.2.2≤x.2.2.1))then
 bif (decide (x.2.2.2.1<0))then
 k (.inl (x.1,x.2.1,x.2.2.1,x.2.2.2.2,t0))
 else
 if 0≤x.2.2.2.2∧x.2.2.2.2<(x.1.length:Int)then
 if 0≤x.2.2.2.1∧x.2.2.2.1<(x.1.length:Int)then
 bif (decide ((rd (Ty.zero tVersion) x.1 x.2.2.2.2).2.2.2>(rd (Ty.zero tVersion) x.1 x.2.2.2.1).2.2.2))then
 k (.inl (x.1,x.2.1,x.2.2.1,x.2.2.2.2,t0))
 else
 k (.inl (x.1,x.2.1,x.2.2.1,x.2.2.2.1,t0))
 else none
 else none
 else
 k (.inl (x.1,x.2.1,x.2.2.1,x.2.2.2.1,t0))
 else none
 else
 k (.inl (x.1,x.2.1,x.2.2.1,x.2.2.2.1,t0))
 else none
 else
 k (.inr (x.1,x.2.1,x.2.2.1,x.2.2.2.1,x.2.2.2.2))
instance n69n_bp0 (x:q10T):ParC (vjt x):=by unfold vjt;(try dsimp only);infer_instance
def v5g (a0:(List vaa))(a1:ByteArray)(a2:Int)(k:Int→Option Res):Option Res:=
 vac vjt Fuel (a0,a1,a2,(-1:Int),0) (fun z1=>
 k z1.2.2.2.1)
def vsp:=shut v5g
theorem v9g:vsp=v5g:=vae _
instance n69n_p (a0:(List vaa))(a1:ByteArray)(a2:Int):ParC (vsp a0 a1 a2):=by rw [v9g];unfold v5g;(try dsimp only);infer_instance
def vb1 (x:q15T)(k:q15T→Option Res):Option Res:=
 bif x.2.2.2.1 then
 if 0≤x.2.2.1∧x.2.2.1<(x.1.length:Int)then
 if x.2.2.2.2.length+[(rd (Ty.zero tVersion) x.1 x.2.2.1)].length≤VE.maxLen then
 k (x.1,x.2.1,x.2.2.1,x.2.2.2.1,(x.2.2.2.2++[(rd (Ty.zero tVersion) x.1 x.2.2.1)]))
 else none
 else none
 else
 k (x.1,x.2.1,x.2.2.1,x.2.2.2.1,x.2.2.2.2)
instance n68n_jp15000007 (x:q15T):ParC (vb1 x):=by unfold vb1;(try dsimp only);infer_instance
def vi0 (x:q14T)(k:q14T⊕q14T→Option Res):Option Res:=
 bif (decide (x.2.2.1<(x.1.length:Int)))then
 if 0≤x.2.2.1∧x.2.2.1<(x.1.length:Int)then
 vsp x.1 ((rd (Ty.zero tVersion) x.1 x.2.2.1).1) x.2.1 (fun y3=>
 if 0≤x.2.2.1∧x.2.2.1<(x.1.length:Int)then
 bif (decide ((rd (Ty.zero tVersion) x.1 x.2.2.1).2.2.2>x.2.1))then
 vb1 (x.1,x.2.1,x.2.2.1,true,x.2.2.2) (fun z4=>
 k (.inl (z4.1,z4.2.1,(IntKind.wrap .i64 (z4.2.2.1+1)),z4.2.2.2.2)))
 else
 vb1 (x.1,x.2.1,x.2.2.1,(y3==x.2.2.1),x.2.2.2) (fun z5=>
 k (.inl (z5.1,z5.2.1,(IntKind.wrap .i64 (z5.2.2.1+1)),z5.2.2.2.2)))
 else none)
 else none
 else
 k (.inr (x.1,x.2.1,x.2.2.1,x.2.2.2))
instance n68n_bp0 (x:q14T):ParC (vi0 x):=by unfold vi0;(try dsimp only);infer_instance
def vbt (x:q37T)(k:q37T→Option Res):Option Res:=
 bif x.2.2.1 then
 if 0≤x.2.1∧x.2.1<(x.2.2.2.1.length:Int)then
 if x.2.2.2.2.length+[(x.2.2.2.1.getD x.2.1.toNat (Ty.zero tVersion))].length≤VE.maxLen then
 k (x.1,x.2.1,x.2.2.1,x.2.2.2.1,(x.2.2.2.2++[(x.2.2.2.1.getD x.2.1.toNat (Ty.zero tVersion))]))
 else none
 else none
 else
 k (x.1,x.2.1,x.2.2.1,x.2.2.2.1,x.2.2.2.2)
instance n68n_jp15000019 (x:q37T):ParC (vbt x):=by unfold vbt;(try dsimp only);infer_instance
def vkc (x:q42T)(k:q42T⊕q42T→Option Res):Option Res:=
 bif (decide (x.2.2.2.1<(x.2.2.2.2.1.length:Int)))then
 if 0≤x.2.2.2.1∧x.2.2.2.1<(x.2.2.2.2.1.length:Int)then
 if 0≤x.2.1∧x.2.1<(x.2.2.2.2.1.length:Int)then
 bif (vbm ((x.2.2.2.2.1.getD x.2.2.2.1.toNat (Ty.zero tVersion)).1) ((x.2.2.2.2.1.getD x.2.1.toNat (Ty.zero tVersion)).1))then
 k (.inl (x.1,x.2.1,(IntKind.wrap .i64 (x.2.2.1+1)),(IntKind.wrap .i64 (x.2.2.2.1+1)),x.2.2.2.2.1,x.2.2.2.2.2))
 else
 k (.inl (x.1,x.2.1,x.2.2.1,(IntKind.wrap .i64 (x.2.2.2.1+1)),x.2.2.2.2.1,x.2.2.2.2.2))
 else none
 else none
 else
 k (.inr (x.1,x.2.1,x.2.2.1,x.2.2.2.1,x.2.2.2.2.1,x.2.2.2.2.2))
instance n68n_bp4 (x:q42T):ParC (vkc x):=by unfold vkc;(try dsimp only);infer_instance
def vhl (x:q36T)(k:q36T⊕q36T→Option Res):Option Res:=
 bif (decide (x.2.1<(x.2.2.1.length:Int)))then
 vac vkc Fuel (x.1,x.2.1,0,0,x.2.2.1,x.2.2.2) (fun z6=>
 if 0≤z6.2.1∧z6.2.1<(z6.2.2.2.2.1.length:Int)then
 bif (!(z6.2.2.2.2.1.getD z6.2.1.toNat (Ty.zero tVersion)).2.2.1)then
 vbt (z6.1,z6.2.1,true,z6.2.2.2.2.1,z6.2.2.2.2.2) (fun z7=>
 k (.inl (z7.1,(IntKind.wrap .i64 (z7.2.1+1)),z7.2.2.2.1,z7.2.2.2.2)))
 else
 if 0≤z6.2.1∧z6.2.1<(z6.2.2.2.2.1.length:Int)then
 bif (decide ((z6.2.2.2.2.1.getD z6.2.1.toNat (Ty.zero tVersion)).2.2.2>z6.1))then
 vbt (z6.1,z6.2.1,true,z6.2.2.2.2.1,z6.2.2.2.2.2) (fun z8=>
 k (.inl (z8.1,(IntKind.wrap .i64 (z8.2.1+1)),z8.2.2.2.1,z8.2.2.2.2)))
 else
 vbt (z6.1,z6.2.1,(decide (z6.2.2.1>1)),z6.2.2.2.2.1,z6.2.2.2.2.2) (fun z9=>
 k (.inl (z9.1,(IntKind.wrap .i64 (z9.2.1+1)),z9.2.2.2.1,z9.2.2.2.2)))
 else none
 else none)
 else
 k (.inr (x.1,x.2.1,x.2.2.1,x.2.2.2))
instance n68n_bp2 (x:q36T):ParC (vhl x):=by unfold vhl;(try dsimp only);exact⟨(var ((vm3 (fun x=>(n68n_bp4 x).p) _ _).bind fun z6=>(vca (var ((n68n_jp15000019 _).p.bind fun z7=>(vah _)) (vca (var ((n68n_jp15000019 _).p.bind fun z8=>(vah _)) ((n68n_jp15000019 _).p.bind fun z9=>(vah _))) vba)) vba)) (vah _))⟩
def v31 (a0:(List vaa))(a1:Int)(k:(List vaa)→Option Res):Option Res:=
 vac vi0 Fuel (a0,a1,0,([]:List vaa)) (fun z1=>
 vac vhl Fuel (z1.2.1,0,z1.2.2.2,([]:List vaa)) (fun z2=>
 k z2.2.2.2))
def vp5:=shut v31
theorem war:vp5=v31:=vae _
instance n68n_p (a0:(List vaa))(a1:Int):ParC (vp5 a0 a1):=by rw [war];unfold v31;(try dsimp only);infer_instance
def vib (x:q34T)(k:q34T⊕q34T→Option Res):Option Res:=
 let xh:=x.2.2.2.2.2.2.2.2
 bif (decide (x.2.1<(x.2.2.2.1.length:Int)))then
 if 0≤x.2.1∧x.2.1<(x.2.2.2.1.length:Int)then
 bif (decide ((rd (Ty.zero tTxn) x.2.2.2.1 x.2.1).2.2.2.1>x.1))then
 if 0≤x.2.1∧x.2.1<(x.2.2.2.1.length:Int)then
 voi (rd (Ty.zero tTxn) x.2.2.2.1 x.2.1) (fun y5=>
 if xh.2.2.2.2.1.length+[(y5.1,(y5.2.1,(y5.2.2.1,(y5.2.2.2.1,(y5.2.2.2.2.2.2.1,(y5.2.2.2.2.2.2.2,(y5.2.2.2.2.1,y5.2.2.2.2.2.1)))))))].length≤VE.maxLen then
 k (.inl (x.1,(IntKind.wrap .i64 (x.2.1+(1:Int))),x.2.2.1,x.2.2.2.1,x.2.2.2.2.1,x.2.2.2.2.2.1,x.2.2.2.2.2.2.1,x.2.2.2.2.2.2.2.1,xh.1,xh.2.1,xh.2.2.1,xh.2.2.2.1,(xh.2.2.2.2.1++[(y5.1,(y5.2.1,(y5.2.2.1,(y5.2.2.2.1,(y5.2.2.2.2.2.2.1,(y5.2.2.2.2.2.2.2,(y5.2.2.2.2.1,y5.2.2.2.2.2.1)))))))]),xh.2.2.2.2.2))
 else none)
 else none
 else
 k (.inl (x.1,(IntKind.wrap .i64 (x.2.1+1)),x.2.2.1,x.2.2.2.1,x.2.2.2.2.1,x.2.2.2.2.2.1,x.2.2.2.2.2.2.1,x.2.2.2.2.2.2.2.1,xh.1,xh.2.1,xh.2.2.1,xh.2.2.2.1,xh.2.2.2.2.1,xh.2.2.2.2.2))
 else none
 else
 k (.inr (x.1,x.2.1,x.2.2.1,x.2.2.2.1,x.2.2.2.2.1,x.2.2.2.2.2.1,x.2.2.2.2.2.2.1,x.2.2.2.2.2.2.2.1,xh.1,xh.2.1,xh.2.2.1,xh.2.2.2.1,xh.2.2.2.2.1,xh.2.2.2.2.2))
instance n67n_bp0 (x:q34T):ParC (vib x):=by unfold vib;(try dsimp only);infer_instance
def v5q (a0:vc9)(a1:(List dTxn))(k:q35T→Option Res):Option Res:=
 vrc a0 (fun y1=>
 vp8 a0 a1 (fun y2=>
 vac vib Fuel (y2,0,a0.1,a0.2.1,a0.2.2.1,a0.2.2.2.1,a0.2.2.2.2,0,0,y1.1,y1.2.1,y1.2.2.1,([]:List dTxn),y1.2.2.2.2) (fun z3=>
 let z3h:=z3.2.2.2.2.2.2.2.2
 vp5 z3.2.2.1 z3.1 (fun y4=>
 k (z3h.2.1,z3h.2.2.1,y4,z3h.2.2.2.2.1,z3h.2.2.2.2.2)))))
def vrk:=shut v5q
theorem v8h:vrk=v5q:=vae _
instance n67n_p (a0:vc9)(a1:(List dTxn)):ParC (vrk a0 a1):=by rw [v8h];unfold v5q;(try dsimp only);infer_instance
def vjf (x:q41T)(k:q41T⊕q41T→Option Res):Option Res:=
 let xh:=x.2.2.2.2.2.2.2.2
 bif (decide (x.2.1<(x.2.2.2.2.2.2.2.1.length:Int)))then
 if 0≤x.2.1∧x.2.1<(x.2.2.2.2.2.2.2.1.length:Int)then
 bif ((x.2.2.2.2.2.2.2.1.getD x.2.1.toNat (Ty.zero tTxn)).1 != x.1)then
 if 0≤x.2.1∧x.2.1<(x.2.2.2.2.2.2.2.1.length:Int)then
 if xh.length+[(x.2.2.2.2.2.2.2.1.getD x.2.1.toNat (Ty.zero tTxn))].length≤VE.maxLen then
 k (.inl (x.1,(IntKind.wrap .i64 (x.2.1+(1:Int))),x.2.2.1,x.2.2.2.1,x.2.2.2.2.1,x.2.2.2.2.2.1,x.2.2.2.2.2.2.1,x.2.2.2.2.2.2.2.1,(xh++[(x.2.2.2.2.2.2.2.1.getD x.2.1.toNat (Ty.zero tTxn))])))
 else none
 else none
 else
 k (.inl (x.1,(IntKind.wrap .i64 (x.2.1+1)),x.2.2.1,x.2.2.2.1,x.2.2.2.2.1,x.2.2.2.2.2.1,x.2.2.2.2.2.2.1,x.2.2.2.2.2.2.2.1,xh))
 else none
 else
 k (.inr (x.1,x.2.1,x.2.2.1,x.2.2.2.1,x.2.2.2.2.1,x.2.2.2.2.2.1,x.2.2.2.2.2.2.1,x.2.2.2.2.2.2.2.1,xh))
instance n74n_bp0 (x:q41T):ParC (vjf x):=by unfold vjf;(try dsimp only);infer_instance
def v4s (a0:Int)(a1:Int)(a2:Int)(a3:(List vaa))(a4:(List dTxn))(a5:(List dTxn))(a6:(List dTxn))(k:q31T→Option Res):Option Res:=
 vac vjf Fuel (a0,0,a1,a2,a3,a4,a5,a6,([]:List dTxn)) (fun z1=>
 let z1h:=z1.2.2.2.2.2.2.2.2
 vrk (z1.2.2.2.2.1,(z1.2.2.2.2.2.1,(z1.2.2.2.2.2.2.1,(z1.2.2.1,z1.2.2.2.1)))) z1h (fun y2=>
 k (y2.1,y2.2.1,z1h,z1.2.2.2.2.1,z1.2.2.2.2.2.1,z1.2.2.2.2.2.2.1,z1.2.2.2.2.2.2.2.1,y2.2.2.1,y2.2.2.2.1,y2.2.2.2.2)))
def vvw:=shut v4s
theorem v7z:vvw=v4s:=vae _
instance n74n_p (a0:Int)(a1:Int)(a2:Int)(a3:(List vaa))(a4:(List dTxn))(a5:(List dTxn))(a6:(List dTxn)):ParC (vvw a0 a1 a2 a3 a4 a5 a6):=by rw [v7z];unfold v4s;(try dsimp only);infer_instance
def vzp (a0:va7)(a1:Int)(k:(q38T⊕q32T)→Option Res):Option Res:=
 vxw a0 (fun y1=>
 vu2 a0 a1 (fun y2=>
 bif (decide (y2<0))then
 k (.inl (y1.1,y1.2.1,1,y1.2.2.1,y1.2.2.2.1,y1.2.2.2.2.1,y1.2.2.2.2.2))
 else
 vvw a1 y1.1 y1.2.1 y1.2.2.1 y1.2.2.2.1 y1.2.2.2.2.1 y1.2.2.2.2.2 (fun y3=>
 let y3h:=y3.2.2.2.2.2.2.2.2
 k (.inr (y3.1,y3.2.1,y3.2.2.1,0,y3.2.2.2.2.2.2.2.1,y3h.1,y3h.2)))))
def vpt:=shut vzp
theorem v3b:vpt=vzp:=vae _
instance n64n_p (a0:va7)(a1:Int):ParC (vpt a0 a1):=by rw [v3b];unfold vzp;(try dsimp only);infer_instance
def v44 (a0:dTxn)(k:q43T→Option Res):Option Res:=
 if a0.2.2.2.2.1.length≤VE.maxLen then
 if a0.2.2.2.2.2.1.length≤VE.maxLen then
 k (a0.1,a0.2.1,a0.2.2.1,a0.2.2.2.1,a0.2.2.2.2.2.2.1,a0.2.2.2.2.2.2.2,a0.2.2.2.2.1,a0.2.2.2.2.2.1)
 else none
 else none
def vtl:=shut v44
theorem wbc:vtl=v44:=vae _
instance n10n_p (a0:dTxn):ParC (vtl a0):=by rw [wbc];unfold v44;(try dsimp only);infer_instance
def vi7 (x:q5T)(k:q5T⊕q5T→Option Res):Option Res:=
 bif (decide (x.2.2.1<x.2.1))then
 if 0≤x.2.2.1∧x.2.2.1<(x.1.length:Int)then
 vtl (rd (Ty.zero tTxn) x.1 x.2.2.1) (fun y2=>
 if x.2.2.2.length+[(y2.1,(y2.2.1,(y2.2.2.1,(y2.2.2.2.1,(y2.2.2.2.2.2.2.1,(y2.2.2.2.2.2.2.2,(y2.2.2.2.2.1,y2.2.2.2.2.2.1)))))))].length≤VE.maxLen then
 k (.inl (x.1,x.2.1,(IntKind.wrap .i64 (x.2.2.1+(1:Int))),(x.2.2.2++[(y2.1,(y2.2.1,(y2.2.2.1,(y2.2.2.2.1,(y2.2.2.2.2.2.2.1,(y2.2.2.2.2.2.2.2,(y2.2.2.2.2.1,y2.2.2.2.2.2.1)))))))])))
 else none)
 else none
 else
 k (.inr (x.1,x.2.1,x.2.2.1,x.2.2.2))
instance n11n_bp0 (x:q5T):ParC (vi7 x):=by unfold vi7;(try dsimp only);infer_instance
def v4x (a0:(List dTxn))(k:(List dTxn)→Option Res):Option Res:=
 vac vi7 Fuel (a0,(a0.length:Int),0,([]:List dTxn)) (fun z1=>
 k z1.2.2.2)
def vo2:=shut v4x
theorem v71:vo2=v4x:=vae _
instance n11n_p (a0:(List dTxn)):ParC (vo2 a0):=by rw [v71];unfold v4x;(try dsimp only);infer_instance
def vzw (a0:vc9)(k:q35T→Option Res):Option Res:=
 if a0.1.length≤VE.maxLen then
 vo2 a0.2.1 (fun y1=>
 vo2 a0.2.2.1 (fun y2=>
 k (a0.2.2.2.1,a0.2.2.2.2,a0.1,y1,y2)))
 else none
def vu9:=shut vzw
theorem v4a:vu9=vzw:=vae _
instance n08n_p (a0:vc9):ParC (vu9 a0):=by rw [v4a];unfold vzw;(try dsimp only);infer_instance
def v4i (a0:va7)(k:q33T→Option Res):Option Res:=
 vu9 a0.1 (fun y1=>
 vo2 a0.2 (fun y2=>
 k (y1.1,y1.2.1,y1.2.2.1,y1.2.2.2.1,y1.2.2.2.2,y2)))
def vzb:=shut v4i
theorem v8w:vzb=v4i:=vae _
instance n09n_p (a0:va7):ParC (vzb a0):=by rw [v8w];unfold v4i;(try dsimp only);infer_instance
def wbz (a0:dTxn)(a1:Int)(k:(Bool×Int)→Option Res):Option Res:=
 k ((a0.1==a1),a1)
def voz:=shut wbz
theorem wb1:voz=wbz:=vae _
instance n14n_p (a0:dTxn)(a1:Int):ParC (voz a0 a1):=by rw [wb1];unfold wbz;(try dsimp only);infer_instance
def vjq (x:q6T)(k:q6T⊕(q6T⊕q6T)→Option Res):Option Res:=
 bif (decide (x.2.2.2.1<x.2.2.1))then
 if 0≤x.2.2.2.1∧x.2.2.2.1<(x.1.length:Int)then
 voz (rd (Ty.zero tTxn) x.1 x.2.2.2.1) x.2.2.2.2 (fun y3=>
 bif y3.1 then
 k (.inr (.inl (x.1,x.2.2.2.1,x.2.2.1,x.2.2.2.1,y3.2)))
 else
 k (.inl (x.1,x.2.1,x.2.2.1,(IntKind.wrap .i64 (x.2.2.2.1+1)),y3.2)))
 else none
 else
 k (.inr (.inr (x.1,x.2.1,x.2.2.1,x.2.2.2.1,x.2.2.2.2)))
instance n63n_bp0 (x:q6T):ParC (vjq x):=by unfold vjq;(try dsimp only);infer_instance
def v4w (a0:(List dTxn))(a1:Int)(k:(Int×Int)→Option Res):Option Res:=
 vac vjq Fuel (a0,0,(a0.length:Int),0,a1) (Sum.elim (fun z1=>
 k (z1.2.1,z1.2.2.2.2)) (fun z2=>
 k ((-1:Int),z2.2.2.2.2)))
def vra:=shut v4w
theorem waz:vra=v4w:=vae _
instance n63n_p (a0:(List dTxn))(a1:Int):ParC (vra a0 a1):=by rw [waz];unfold v4w;(try dsimp only);infer_instance
def ve6 (x:((Int×Int×(List dTxn)×(List Nat)×Int)⊕(Int×Int×(List dTxn)×(List Nat)×Int)))(k:((Int×Int×(List dTxn)×(List Nat)×Int)⊕(Int×Int×(List dTxn)×(List Nat)×Int))⊕((Int×Int×(List dTxn)×(List Nat)×Int)⊕(Int×Int×(List dTxn)×(List Nat)×Int))→Option Res):Option Res:=
 (Sum.elim (fun x=>
 bif (decide (x.2.1<(x.2.2.1.length:Int)))then
 if 0≤x.2.1∧x.2.1<(x.2.2.1.length:Int)then
 bif (hasD x.2.2.2.1 x.2.1.toNat)then
 none
 else
 voz (x.2.2.1.getD x.2.1.toNat (Ty.zero tTxn)) x.2.2.2.2 (fun y4=>
 bif (!y4.1)then
 if 0≤x.1∧x.1<(x.2.2.1.length:Int)then
 k (.inl (.inr ((IntKind.wrap .i64 (x.1+1)),(IntKind.wrap .i64 (x.2.1+1)),(x.2.2.1.set x.1.toNat (x.2.2.1.getD x.2.1.toNat (Ty.zero tTxn))),(x.2.1.toNat::(x.2.1.toNat::(delD x.1.toNat x.2.2.2.1))),y4.2)))
 else none
 else
 k (.inl (.inl (x.1,(IntKind.wrap .i64 (x.2.1+1)),x.2.2.1,x.2.2.2.1,y4.2))))
 else none
 else
 k (.inr (.inl (x.1,x.2.1,x.2.2.1,x.2.2.2.1,x.2.2.2.2)))) (fun x=>
 bif (decide (x.2.1<(x.2.2.1.length:Int)))then
 if 0≤x.2.1∧x.2.1<(x.2.2.1.length:Int)then
 bif (hasD x.2.2.2.1 x.2.1.toNat)then
 none
 else
 voz (x.2.2.1.getD x.2.1.toNat (Ty.zero tTxn)) x.2.2.2.2 (fun y5=>
 bif (!y5.1)then
 if 0≤x.1∧x.1<(x.2.2.1.length:Int)then
 k (.inl (.inr ((IntKind.wrap .i64 (x.1+1)),(IntKind.wrap .i64 (x.2.1+1)),(x.2.2.1.set x.1.toNat (x.2.2.1.getD x.2.1.toNat (Ty.zero tTxn))),(x.2.1.toNat::(x.2.1.toNat::(delD x.1.toNat x.2.2.2.1))),y5.2)))
 else none
 else
 k (.inl (.inr (x.1,(IntKind.wrap .i64 (x.2.1+1)),x.2.2.1,x.2.2.2.1,y5.2))))
 else none
 else
 k (.inr (.inr (x.1,x.2.1,x.2.2.1,x.2.2.2.1,x.2.2.2.2))))) x
instance n60n_bp0 (x:((Int×Int×(List dTxn)×(List Nat)×Int)⊕(Int×Int×(List dTxn)×(List Nat)×Int))):ParC (ve6 x):=by
 unfold ve6
 rcases x with x|x
 ·simp only [Sum.elim_inl]
  infer_instance
 ·simp only [Sum.elim_inr]
  (try dsimp only)
  infer_instance
def v4y (a0:(List dTxn))(a1:Int)(k:(((List dTxn)×Int)⊕(Int×(List dTxn)))→Option Res):Option Res:=
 vra a0 a1 (fun y1=>
 bif (y1.1==(-1:Int))then
 k (.inl (a0,y1.2))
 else
 vac ve6 Fuel (.inl (y1.1,(IntKind.wrap .i64 (y1.1+1)),a0,([]:List Nat),y1.2)) (Sum.elim (fun z2=>
 if 0≤z2.1∧z2.1≤(z2.2.2.1.length:Int)then
 if 0≤z2.1∧z2.1≤((z2.2.2.1.take z2.1.toNat++List.replicate (z2.2.2.1.length-z2.1.toNat) (Ty.zero tTxn)).length:Int)then
 bif (geD z2.1.toNat (loD z2.1.toNat z2.2.2.2.1))then
 k (.inr (z2.2.2.2.2,((z2.2.2.1.take z2.1.toNat++List.replicate (z2.2.2.1.length-z2.1.toNat) (Ty.zero tTxn)).take z2.1.toNat)))
 else
 none
 else none
 else none) (fun z3=>
 if 0≤z3.1∧z3.1≤(z3.2.2.1.length:Int)then
 if 0≤z3.1∧z3.1≤((z3.2.2.1.take z3.1.toNat++List.replicate (z3.2.2.1.length-z3.1.toNat) (Ty.zero tTxn)).length:Int)then
 bif (geD z3.1.toNat (loD z3.1.toNat z3.2.2.2.1))then
 k (.inr (z3.2.2.2.2,((z3.2.2.1.take z3.1.toNat++List.replicate (z3.2.2.1.length-z3.1.toNat) (Ty.zero tTxn)).take z3.1.toNat)))
 else
 none
 else none
 else none)))
def vt0:=shut v4y
theorem v9i:vt0=v4y:=vae _
instance n60n_p (a0:(List dTxn))(a1:Int):ParC (vt0 a0 a1):=by rw [v9i];unfold v4y;(try dsimp only);exact⟨((n63n_p _ _).p.bind fun y1=>(var (vah _) ((vm3 (fun x=>(n60n_bp0 x).p) _ _).bind2 (fun z2=>(vca (vca (var (vah _) vba) vba) vba)) (fun z3=>(vca (vca (var (vah _) vba) vba) vba)))))⟩
def v4q (a0:va7)(a1:Int)(k:q33T→Option Res):Option Res:=
 vzb a0 (fun y1=>
 vt0 y1.2.2.2.2.2 a1 (Sum.elim (fun y2=>
 k (y1.1,y1.2.1,y1.2.2.1,y1.2.2.2.1,y1.2.2.2.2.1,y2.1)) (fun y3=>
 k (y1.1,y1.2.1,y1.2.2.1,y1.2.2.2.1,y1.2.2.2.2.1,y3.2))))
def vye:=shut v4q
theorem v9v:vye=v4q:=vae _
instance n13n_p (a0:va7)(a1:Int):ParC (vye a0 a1):=by rw [v9v];unfold v4q;(try dsimp only);infer_instance
def v9w (a0:dTxn)(a1:Int)(k:(Bool×Int)→Option Res):Option Res:=
 k ((a0.1==a1),a1)
def vty:=shut v9w
theorem v94:vty=v9w:=vae _
instance n03n_p (a0:dTxn)(a1:Int):ParC (vty a0 a1):=by rw [v94];unfold v9w;(try dsimp only);infer_instance
def vil (x:q6T)(k:q6T⊕(q6T⊕q6T)→Option Res):Option Res:=
 bif (decide (x.2.2.2.1<x.2.2.1))then
 if 0≤x.2.2.2.1∧x.2.2.2.1<(x.1.length:Int)then
 vty (rd (Ty.zero tTxn) x.1 x.2.2.2.1) x.2.2.2.2 (fun y3=>
 bif y3.1 then
 k (.inr (.inl (x.1,x.2.2.2.1,x.2.2.1,x.2.2.2.1,y3.2)))
 else
 k (.inl (x.1,x.2.1,x.2.2.1,(IntKind.wrap .i64 (x.2.2.2.1+1)),y3.2)))
 else none
 else
 k (.inr (.inr (x.1,x.2.1,x.2.2.1,x.2.2.2.1,x.2.2.2.2)))
instance n61n_bp0 (x:q6T):ParC (vil x):=by unfold vil;(try dsimp only);infer_instance
def v4l (a0:(List dTxn))(a1:Int)(k:(Int×Int)→Option Res):Option Res:=
 vac vil Fuel (a0,0,(a0.length:Int),0,a1) (Sum.elim (fun z1=>
 k (z1.2.1,z1.2.2.2.2)) (fun z2=>
 k ((-1:Int),z2.2.2.2.2)))
def vys:=shut v4l
theorem wbf:vys=v4l:=vae _
instance n61n_p (a0:(List dTxn))(a1:Int):ParC (vys a0 a1):=by rw [wbf];unfold v4l;(try dsimp only);infer_instance
def v4j (a0:va7)(a1:Int)(k:Int→Option Res):Option Res:=
 vys a0.2 a1 (fun y1=>
 k y1.1)
def vze:=shut v4j
theorem v92:vze=v4j:=vae _
instance n02n_p (a0:va7)(a1:Int):ParC (vze a0 a1):=by rw [v92];unfold v4j;(try dsimp only);infer_instance
def vif (x:q24T)(k:q24T⊕q24T→Option Res):Option Res:=
 bif (decide (x.2.2.2<x.2.2.1))then
 if 0≤x.2.2.2∧x.2.2.2<(x.2.1.length:Int)then
 k (.inl ((if(rd (Ty.zero tTxn) x.2.1 x.2.2.2).2.2.1<x.1 then(rd (Ty.zero tTxn) x.2.1 x.2.2.2).2.2.1 else x.1),x.2.1,x.2.2.1,(IntKind.wrap .i64 (x.2.2.2+1))))
 else none
 else
 k (.inr (x.1,x.2.1,x.2.2.1,x.2.2.2))
instance n01n_bp0 (x:q24T):ParC (vif x):=by unfold vif;(try dsimp only);infer_instance
def v3l (a0:vc9)(a1:(List dTxn))(k:Int→Option Res):Option Res:=
 vac vif Fuel (a0.2.2.2.1,a1,(a1.length:Int),0) (fun z1=>
 k z1.1)
def vuc:=shut v3l
theorem v8s:vuc=v3l:=vae _
instance n01n_p (a0:vc9)(a1:(List dTxn)):ParC (vuc a0 a1):=by rw [v8s];unfold v3l;(try dsimp only);infer_instance
def v98 (a0:dTxn)(a1:Int)(k:(Bool×Int)→Option Res):Option Res:=
 k ((decide (a0.2.2.2.1≤a1)),a1)
def vos:=shut v98
theorem v9c:vos=v98:=vae _
instance n05n_p (a0:dTxn)(a1:Int):ParC (vos a0 a1):=by rw [v9c];unfold v98;(try dsimp only);infer_instance
def vix (x:q6T)(k:q6T⊕(q6T⊕q6T)→Option Res):Option Res:=
 bif (decide (x.2.2.2.1<x.2.2.1))then
 if 0≤x.2.2.2.1∧x.2.2.2.1<(x.1.length:Int)then
 vos (rd (Ty.zero tTxn) x.1 x.2.2.2.1) x.2.2.2.2 (fun y3=>
 bif y3.1 then
 k (.inr (.inl (x.1,x.2.2.2.1,x.2.2.1,x.2.2.2.1,y3.2)))
 else
 k (.inl (x.1,x.2.1,x.2.2.1,(IntKind.wrap .i64 (x.2.2.2.1+1)),y3.2)))
 else none
 else
 k (.inr (.inr (x.1,x.2.1,x.2.2.1,x.2.2.2.1,x.2.2.2.2)))
instance n62n_bp0 (x:q6T):ParC (vix x):=by unfold vix;(try dsimp only);infer_instance
def v4p (a0:(List dTxn))(a1:Int)(k:(Int×Int)→Option Res):Option Res:=
 vac vix Fuel (a0,0,(a0.length:Int),0,a1) (Sum.elim (fun z1=>
 k (z1.2.1,z1.2.2.2.2)) (fun z2=>
 k ((-1:Int),z2.2.2.2.2)))
def vr4:=shut v4p
theorem wbp:vr4=v4p:=vae _
instance n62n_p (a0:(List dTxn))(a1:Int):ParC (vr4 a0 a1):=by rw [wbp];unfold v4p;(try dsimp only);infer_instance
def ve7 (x:((Int×Int×(List dTxn)×(List Nat)×Int)⊕(Int×Int×(List dTxn)×(List Nat)×Int)))(k:((Int×Int×(List dTxn)×(List Nat)×Int)⊕(Int×Int×(List dTxn)×(List Nat)×Int))⊕((Int×Int×(List dTxn)×(List Nat)×Int)⊕(Int×Int×(List dTxn)×(List Nat)×Int))→Option Res):Option Res:=
 (Sum.elim (fun x=>
 bif (decide (x.2.1<(x.2.2.1.length:Int)))then
 if 0≤x.2.1∧x.2.1<(x.2.2.1.length:Int)then
 bif (hasD x.2.2.2.1 x.2.1.toNat)then
 none
 else
 vos (x.2.2.1.getD x.2.1.toNat (Ty.zero tTxn)) x.2.2.2.2 (fun y4=>
 bif (!y4.1)then
 if 0≤x.1∧x.1<(x.2.2.1.length:Int)then
 k (.inl (.inr ((IntKind.wrap .i64 (x.1+1)),(IntKind.wrap .i64 (x.2.1+1)),(x.2.2.1.set x.1.toNat (x.2.2.1.getD x.2.1.toNat (Ty.zero tTxn))),(x.2.1.toNat::(x.2.1.toNat::(delD x.1.toNat x.2.2.2.1))),y4.2)))
 else none
 else
 k (.inl (.inl (x.1,(IntKind.wrap .i64 (x.2.1+1)),x.2.2.1,x.2.2.2.1,y4.2))))
 else none
 else
 k (.inr (.inl (x.1,x.2.1,x.2.2.1,x.2.2.2.1,x.2.2.2.2)))) (fun x=>
 bif (decide (x.2.1<(x.2.2.1.length:Int)))then
 if 0≤x.2.1∧x.2.1<(x.2.2.1.length:Int)then
 bif (hasD x.2.2.2.1 x.2.1.toNat)then
 none
 else
 vos (x.2.2.1.getD x.2.1.toNat (Ty.zero tTxn)) x.2.2.2.2 (fun y5=>
 bif (!y5.1)then
 if 0≤x.1∧x.1<(x.2.2.1.length:Int)then
 k (.inl (.inr ((IntKind.wrap .i64 (x.1+1)),(IntKind.wrap .i64 (x.2.1+1)),(x.2.2.1.set x.1.toNat (x.2.2.1.getD x.2.1.toNat (Ty.zero tTxn))),(x.2.1.toNat::(x.2.1.toNat::(delD x.1.toNat x.2.2.2.1))),y5.2)))
 else none
 else
 k (.inl (.inr (x.1,(IntKind.wrap .i64 (x.2.1+1)),x.2.2.1,x.2.2.2.1,y5.2))))
 else none
 else
 k (.inr (.inr (x.1,x.2.1,x.2.2.1,x.2.2.2.1,x.2.2.2.2))))) x
instance n59n_bp0 (x:((Int×Int×(List dTxn)×(List Nat)×Int)⊕(Int×Int×(List dTxn)×(List Nat)×Int))):ParC (ve7 x):=by
 unfold ve7
 rcases x with x|x
 ·simp only [Sum.elim_inl]
  infer_instance
 ·simp only [Sum.elim_inr]
  (try dsimp only)
  infer_instance
def v5e (a0:(List dTxn))(a1:Int)(k:(((List dTxn)×Int)⊕(Int×(List dTxn)))→Option Res):Option Res:=
 vr4 a0 a1 (fun y1=>
 bif (y1.1==(-1:Int))then
 k (.inl (a0,y1.2))
 else
 vac ve7 Fuel (.inl (y1.1,(IntKind.wrap .i64 (y1.1+1)),a0,([]:List Nat),y1.2)) (Sum.elim (fun z2=>
 if 0≤z2.1∧z2.1≤(z2.2.2.1.length:Int)then
 if 0≤z2.1∧z2.1≤((z2.2.2.1.take z2.1.toNat++List.replicate (z2.2.2.1.length-z2.1.toNat) (Ty.zero tTxn)).length:Int)then
 bif (geD z2.1.toNat (loD z2.1.toNat z2.2.2.2.1))then
 k (.inr (z2.2.2.2.2,((z2.2.2.1.take z2.1.toNat++List.replicate (z2.2.2.1.length-z2.1.toNat) (Ty.zero tTxn)).take z2.1.toNat)))
 else
 none
 else none
 else none) (fun z3=>
 if 0≤z3.1∧z3.1≤(z3.2.2.1.length:Int)then
 if 0≤z3.1∧z3.1≤((z3.2.2.1.take z3.1.toNat++List.replicate (z3.2.2.1.length-z3.1.toNat) (Ty.zero tTxn)).length:Int)then
 bif (geD z3.1.toNat (loD z3.1.toNat z3.2.2.2.1))then
 k (.inr (z3.2.2.2.2,((z3.2.2.1.take z3.1.toNat++List.replicate (z3.2.2.1.length-z3.1.toNat) (Ty.zero tTxn)).take z3.1.toNat)))
 else
 none
 else none
 else none)))
def vuw:=shut v5e
theorem wa9:vuw=v5e:=vae _
instance n59n_p (a0:(List dTxn))(a1:Int):ParC (vuw a0 a1):=by rw [wa9];unfold v5e;(try dsimp only);exact⟨((n62n_p _ _).p.bind fun y1=>(var (vah _) ((vm3 (fun x=>(n59n_bp0 x).p) _ _).bind2 (fun z2=>(vca (vca (var (vah _) vba) vba) vba)) (fun z3=>(vca (vca (var (vah _) vba) vba) vba)))))⟩
def vi6 (x:q9T)(k:q9T⊕q9T→Option Res):Option Res:=
 let t0:=(x.1,x.2.1,x.2.2.1,x.2.2.2.1,x.2.2.2.2.1,x.2.2.2.2.2.1,(IntKind.wrap .i64 (x.2.2.2.2.2.2+(1:Int))))
 bif (decide (x.2.2.2.2.2.2<x.2.2.2.2.2.1))then
 if 0≤x.2.2.2.2.2.2∧x.2.2.2.2.2.2<(x.2.2.2.2.1.length:Int)then
 bif (vbm ((rd (Ty.zero tVersion) x.2.2.2.2.1 x.2.2.2.2.2.2).1) x.2.1)then
 bif (decide ((rd (Ty.zero tVersion) x.2.2.2.2.1 x.2.2.2.2.2.2).2.2.2≤x.2.2.1))then
 bif (decide (x.2.2.2.1<0))then
 k (.inl (x.1,x.2.1,x.2.2.1,x.2.2.2.2.2.2,x.2.2.2.2.1,x.2.2.2.2.2.1,(IntKind.wrap .i64 (x.2.2.2.2.2.2+1))))
 else
 if 0≤x.2.2.2.1∧x.2.2.2.1<(x.1.length:Int)then
 bif (decide ((rd (Ty.zero tVersion) x.2.2.2.2.1 x.2.2.2.2.2.2).2.2.2>(rd (Ty.zero tVersion) x.1 x.2.2.2.1).2.2.2))then
 k (.inl (x.1,x.2.1,x.2.2.1,x.2.2.2.2.2.2,x.2.2.2.2.1,x.2.2.2.2.2.1,(IntKind.wrap .i64 (x.2.2.2.2.2.2+1))))
 else
 k (.inl t0)
 else none
 else
 k (.inl t0)
 else
 k (.inl t0)
 else none
 else
 k (.inr (x.1,x.2.1,x.2.2.1,x.2.2.2.1,x.2.2.2.2.1,x.2.2.2.2.2.1,x.2.2.2.2.2.2))
instance n12n_bp0 (x:q9T):ParC (vi6 x):=by unfold vi6;(try dsimp only);infer_instance
def v5a (a0:(List vaa))(a1:ByteArray)(a2:Int)(k:Int→Option Res):Option Res:=
 vac vi6 Fuel (a0,a1,a2,(-1:Int),a0,(a0.length:Int),0) (fun z1=>
 k z1.2.2.2.1)
def vr0:=shut v5a
theorem v74:vr0=v5a:=vae _
instance n12n_p (a0:(List vaa))(a1:ByteArray)(a2:Int):ParC (vr0 a0 a1 a2):=by rw [v74];unfold v5a;(try dsimp only);infer_instance
def vjw (x:q23T)(k:q23T⊕q23T→Option Res):Option Res:=
 bif (decide (x.2.2.2.1<x.2.2.1))then
 if 0≤x.2.2.2.1∧x.2.2.2.1<(x.2.2.2.2.length:Int)then
 bif (vbm ((x.2.2.2.2.getD x.2.2.2.1.toNat (Ty.zero tVersion)).1) x.1)then
 k (.inl (x.1,(IntKind.wrap .i64 (x.2.1+1)),x.2.2.1,(IntKind.wrap .i64 (x.2.2.2.1+1)),x.2.2.2.2))
 else
 k (.inl (x.1,x.2.1,x.2.2.1,(IntKind.wrap .i64 (x.2.2.2.1+1)),x.2.2.2.2))
 else none
 else
 k (.inr (x.1,x.2.1,x.2.2.1,x.2.2.2.1,x.2.2.2.2))
instance n07n_bp0 (x:q23T):ParC (vjw x):=by unfold vjw;(try dsimp only);infer_instance
def v4o (a0:ByteArray)(a1:(List vaa))(k:(Int×(List vaa))→Option Res):Option Res:=
 vac vjw Fuel (a0,0,(a1.length:Int),0,a1) (fun z1=>
 k (z1.2.1,z1.2.2.2.2))
def vv3:=shut v4o
theorem wbu:vv3=v4o:=vae _
instance n07n_p (a0:ByteArray)(a1:(List vaa)):ParC (vv3 a0 a1):=by rw [wbu];unfold v4o;(try dsimp only);infer_instance
def vb0 (x:q12T)(k:q12T→Option Res):Option Res:=
 let xh:=x.2.2.2.2.2.2.2.2
 bif x.2.2.2.2.2.1 then
 if xh.2.2.length+[(x.2.2.2.2.2.2.1,(x.2.2.2.2.2.2.2.1,(xh.1,xh.2.1)))].length≤VE.maxLen then
 k (x.1,x.2.1,x.2.2.1,x.2.2.2.1,x.2.2.2.2.1,x.2.2.2.2.2.1,x.2.2.2.2.2.2.1,x.2.2.2.2.2.2.2.1,xh.1,xh.2.1,(xh.2.2++[(x.2.2.2.2.2.2.1,(x.2.2.2.2.2.2.2.1,(xh.1,xh.2.1)))]))
 else none
 else
 k (x.1,x.2.1,x.2.2.1,x.2.2.2.1,x.2.2.2.2.1,x.2.2.2.2.2.1,x.2.2.2.2.2.2.1,x.2.2.2.2.2.2.2.1,xh.1,xh.2.1,xh.2.2)
instance n06n_jp15000006 (x:q12T):ParC (vb0 x):=by unfold vb0;(try dsimp only);infer_instance
def vir (x:q11T)(k:q11T⊕q11T→Option Res):Option Res:=
 let t0:=(rd (Ty.zero tVersion) x.2.2.1 x.2.2.2.2.1)
 bif (decide (x.2.2.2.2.1<x.2.2.2.1))then
 if 0≤x.2.2.2.2.1∧x.2.2.2.2.1<(x.2.2.1.length:Int)then
 bif (decide (t0.2.2.2>x.2.1))then
 vb0 (x.1,x.2.1,x.2.2.1,x.2.2.2.1,x.2.2.2.2.1,true,t0.1,t0.2.1,t0.2.2.1,t0.2.2.2,x.2.2.2.2.2) (fun z3=>
 k (.inl (z3.1,z3.2.1,z3.2.2.1,z3.2.2.2.1,(IntKind.wrap .i64 (z3.2.2.2.2.1+1)),z3.2.2.2.2.2.2.2.2.2.2)))
 else
 vr0 x.1 (t0.1) x.2.1 (fun y4=>
 vb0 (x.1,x.2.1,x.2.2.1,x.2.2.2.1,x.2.2.2.2.1,(y4==x.2.2.2.2.1),t0.1,t0.2.1,t0.2.2.1,t0.2.2.2,x.2.2.2.2.2) (fun z5=>
 k (.inl (z5.1,z5.2.1,z5.2.2.1,z5.2.2.2.1,(IntKind.wrap .i64 (z5.2.2.2.2.1+1)),z5.2.2.2.2.2.2.2.2.2.2))))
 else none
 else
 k (.inr (x.1,x.2.1,x.2.2.1,x.2.2.2.1,x.2.2.2.2.1,x.2.2.2.2.2))
instance n06n_bp0 (x:q11T):ParC (vir x):=by unfold vir;(try dsimp only);infer_instance
def vii (x:q40T)(k:q40T⊕q40T→Option Res):Option Res:=
 let t0:=(x.2.2.2.2.getD x.2.2.1.toNat (Ty.zero tVersion))
 bif (decide (x.2.2.1<x.2.1))then
 if 0≤x.2.2.1∧x.2.2.1<(x.2.2.2.2.length:Int)then
 bif (decide (t0.2.2.2>x.1))then
 if x.2.2.2.1.length+[t0].length≤VE.maxLen then
 k (.inl (x.1,x.2.1,(IntKind.wrap .i64 (x.2.2.1+1)),(x.2.2.2.1++[t0]),x.2.2.2.2))
 else none
 else
 bif (!t0.2.2.1)then
 if x.2.2.2.1.length+[t0].length≤VE.maxLen then
 k (.inl (x.1,x.2.1,(IntKind.wrap .i64 (x.2.2.1+1)),(x.2.2.2.1++[t0]),x.2.2.2.2))
 else none
 else
 vv3 (t0.1) x.2.2.2.2 (fun y6=>
 bif (decide (y6.1>1))then
 if x.2.2.2.1.length+[t0].length≤VE.maxLen then
 k (.inl (x.1,x.2.1,(IntKind.wrap .i64 (x.2.2.1+1)),(x.2.2.2.1++[t0]),y6.2))
 else none
 else
 k (.inl (x.1,x.2.1,(IntKind.wrap .i64 (x.2.2.1+1)),x.2.2.2.1,y6.2)))
 else none
 else
 k (.inr (x.1,x.2.1,x.2.2.1,x.2.2.2.1,x.2.2.2.2))
instance n06n_bp2 (x:q40T):ParC (vii x):=by unfold vii;(try dsimp only);infer_instance
def v3u (a0:(List vaa))(a1:Int)(k:(List vaa)→Option Res):Option Res:=
 vac vir Fuel (a0,a1,a0,(a0.length:Int),0,([]:List vaa)) (fun z1=>
 vac vii Fuel (z1.2.1,(z1.2.2.2.2.2.length:Int),0,([]:List vaa),z1.2.2.2.2.2) (fun z2=>
 k z2.2.2.2.1))
def vqc:=shut v3u
theorem v9j:vqc=v3u:=vae _
instance n06n_p (a0:(List vaa))(a1:Int):ParC (vqc a0 a1):=by rw [v9j];unfold v3u;(try dsimp only);infer_instance
def v2x (a0:vc9)(a1:(List dTxn))(k:q35T→Option Res):Option Res:=
 vu9 a0 (fun y1=>
 vuc a0 a1 (fun y2=>
 vuw y1.2.2.2.1 y2 (Sum.elim (fun y3=>
 vqc a0.1 y3.2 (fun y4=>
 k (y1.1,y1.2.1,y4,y3.1,y1.2.2.2.2))) (fun y5=>
 vqc a0.1 y5.1 (fun y6=>
 k (y1.1,y1.2.1,y6,y5.2,y1.2.2.2.2))))))
def vy8:=shut v2x
theorem wba:vy8=v2x:=vae _
instance n04n_p (a0:vc9)(a1:(List dTxn)):ParC (vy8 a0 a1):=by rw [wba];unfold v2x;(try dsimp only);infer_instance
def vzt (a0:va7)(a1:Int)(k:q38T→Option Res):Option Res:=
 vye a0 a1 (fun y1=>
 vze a0 a1 (fun y2=>
 bif (decide (y2<0))then
 k (y1.1,y1.2.1,1,y1.2.2.1,y1.2.2.2.1,y1.2.2.2.2.1,y1.2.2.2.2.2)
 else
 vy8 (y1.2.2.1,(y1.2.2.2.1,(y1.2.2.2.2.1,(y1.1,y1.2.1)))) y1.2.2.2.2.2 (fun y3=>
 k (y3.1,y3.2.1,0,y3.2.2.1,y3.2.2.2.1,y3.2.2.2.2,y1.2.2.2.2.2))))
def vj9:=shut vzt
theorem v5c:vj9=vzt:=vae _
instance n00n_p (a0:va7)(a1:Int):ParC (vj9 a0 a1):=by rw [v5c];unfold vzt;(try dsimp only);infer_instance
def v4h (a0:vaa)(a1:vaa)(k:Bool→Option Res):Option Res:=
 bif (!(vbm a0.1 a1.1))then
 k false
 else
 bif (!(vbm a0.2.1 a1.2.1))then
 k false
 else
 bif (!(a0.2.2.1==a1.2.2.1))then
 k false
 else
 bif (a0.2.2.2 != a1.2.2.2)then
 k false
 else
 k true
def vuq:=shut v4h
theorem v8q:vuq=v4h:=vae _
instance n22n_p (a0:vaa)(a1:vaa):ParC (vuq a0 a1):=by rw [v8q];unfold v4h;(try dsimp only);infer_instance
def vju (x:q8T)(k:q8T⊕(q8T⊕q8T)→Option Res):Option Res:=
 bif (decide (x.2.2.2<(x.1.length:Int)))then
 if 0≤x.2.2.2∧x.2.2.2<(x.1.length:Int)then
 if 0≤x.2.2.2∧x.2.2.2<(x.2.1.length:Int)then
 vuq (rd (Ty.zero tVersion) x.1 x.2.2.2) (rd (Ty.zero tVersion) x.2.1 x.2.2.2) (fun y3=>
 bif (!y3)then
 k (.inr (.inl (x.1,x.2.1,false,x.2.2.2)))
 else
 k (.inl (x.1,x.2.1,x.2.2.1,(IntKind.wrap .i64 (x.2.2.2+1)))))
 else none
 else none
 else
 k (.inr (.inr (x.1,x.2.1,x.2.2.1,x.2.2.2)))
instance n23n_bp0 (x:q8T):ParC (vju x):=by unfold vju;(try dsimp only);infer_instance
def v3c (a0:(List vaa))(a1:(List vaa))(k:Bool→Option Res):Option Res:=
 bif ((a0.length:Int) != (a1.length:Int))then
 k false
 else
 vac vju Fuel (a0,a1,false,0) (Sum.elim (fun z1=>
 k z1.2.2.1) (fun _=>
 k true))
def vv0:=shut v3c
theorem v72:vv0=v3c:=vae _
instance n23n_p (a0:(List vaa))(a1:(List vaa)):ParC (vv0 a0 a1):=by rw [v72];unfold v3c;(try dsimp only);infer_instance
def v27 (a0:vam)(a1:vam)(k:Bool→Option Res):Option Res:=
 bif (!(vbm a0.1 a1.1))then
 k false
 else
 bif (!(vbm a0.2 a1.2))then
 k false
 else
 k true
def vvy:=shut v27
theorem wao:vvy=v27:=vae _
instance n18n_p (a0:vam)(a1:vam):ParC (vvy a0 a1):=by rw [wao];unfold v27;(try dsimp only);infer_instance
def vi1 (x:q0T)(k:q0T⊕(q0T⊕q0T)→Option Res):Option Res:=
 bif (decide (x.2.2.2<(x.1.length:Int)))then
 if 0≤x.2.2.2∧x.2.2.2<(x.1.length:Int)then
 if 0≤x.2.2.2∧x.2.2.2<(x.2.1.length:Int)then
 vvy (rd (Ty.zero tRange) x.1 x.2.2.2) (rd (Ty.zero tRange) x.2.1 x.2.2.2) (fun y3=>
 bif (!y3)then
 k (.inr (.inl (x.1,x.2.1,false,x.2.2.2)))
 else
 k (.inl (x.1,x.2.1,x.2.2.1,(IntKind.wrap .i64 (x.2.2.2+1)))))
 else none
 else none
 else
 k (.inr (.inr (x.1,x.2.1,x.2.2.1,x.2.2.2)))
instance n19n_bp0 (x:q0T):ParC (vi1 x):=by unfold vi1;(try dsimp only);infer_instance
def v4k (a0:(List vam))(a1:(List vam))(k:Bool→Option Res):Option Res:=
 bif ((a0.length:Int) != (a1.length:Int))then
 k false
 else
 vac vi1 Fuel (a0,a1,false,0) (Sum.elim (fun z1=>
 k z1.2.2.1) (fun _=>
 k true))
def vuv:=shut v4k
theorem v7t:vuv=v4k:=vae _
instance n19n_p (a0:(List vam))(a1:(List vam)):ParC (vuv a0 a1):=by rw [v7t];unfold v4k;(try dsimp only);infer_instance
def v5l (a0:val)(a1:val)(k:Bool→Option Res):Option Res:=
 bif (!(vbm a0.1 a1.1))then
 k false
 else
 bif (!(vbm a0.2.1 a1.2.1))then
 k false
 else
 bif (!(a0.2.2==a1.2.2))then
 k false
 else
 k true
def vuo:=shut v5l
theorem v9t:vuo=v5l:=vae _
instance n24n_p (a0:val)(a1:val):ParC (vuo a0 a1):=by rw [v9t];unfold v5l;(try dsimp only);infer_instance
def vjs (x:q17T)(k:q17T⊕(q17T⊕q17T)→Option Res):Option Res:=
 bif (decide (x.2.2.2<(x.1.length:Int)))then
 if 0≤x.2.2.2∧x.2.2.2<(x.1.length:Int)then
 if 0≤x.2.2.2∧x.2.2.2<(x.2.1.length:Int)then
 vuo (rd (Ty.zero tWrite) x.1 x.2.2.2) (rd (Ty.zero tWrite) x.2.1 x.2.2.2) (fun y3=>
 bif (!y3)then
 k (.inr (.inl (x.1,x.2.1,false,x.2.2.2)))
 else
 k (.inl (x.1,x.2.1,x.2.2.1,(IntKind.wrap .i64 (x.2.2.2+1)))))
 else none
 else none
 else
 k (.inr (.inr (x.1,x.2.1,x.2.2.1,x.2.2.2)))
instance n25n_bp0 (x:q17T):ParC (vjs x):=by unfold vjs;(try dsimp only);infer_instance
def v29 (a0:(List val))(a1:(List val))(k:Bool→Option Res):Option Res:=
 bif ((a0.length:Int) != (a1.length:Int))then
 k false
 else
 vac vjs Fuel (a0,a1,false,0) (Sum.elim (fun z1=>
 k z1.2.2.1) (fun _=>
 k true))
def vvf:=shut v29
theorem v8g:vvf=v29:=vae _
instance n25n_p (a0:(List val))(a1:(List val)):ParC (vvf a0 a1):=by rw [v8g];unfold v29;(try dsimp only);infer_instance
def v3y (a0:dTxn)(a1:dTxn)(k:Bool→Option Res):Option Res:=
 bif (a0.1 != a1.1)then
 k false
 else
 bif (a0.2.1 != a1.2.1)then
 k false
 else
 bif (a0.2.2.1 != a1.2.2.1)then
 k false
 else
 bif (a0.2.2.2.1 != a1.2.2.2.1)then
 k false
 else
 vuv a0.2.2.2.2.1 a1.2.2.2.2.1 (fun y1=>
 bif (!y1)then
 k false
 else
 vvf a0.2.2.2.2.2.1 a1.2.2.2.2.2.1 (fun y2=>
 bif (!y2)then
 k false
 else
 bif (!(a0.2.2.2.2.2.2.1==a1.2.2.2.2.2.2.1))then
 k false
 else
 bif (!(vbm a0.2.2.2.2.2.2.2 a1.2.2.2.2.2.2.2))then
 k false
 else
 k true))
def vsg:=shut v3y
theorem v8p:vsg=v3y:=vae _
instance n20n_p (a0:dTxn)(a1:dTxn):ParC (vsg a0 a1):=by rw [v8p];unfold v3y;(try dsimp only);infer_instance
def vjl (x:q3T)(k:q3T⊕(q3T⊕q3T)→Option Res):Option Res:=
 bif (decide (x.2.2.2<(x.1.length:Int)))then
 if 0≤x.2.2.2∧x.2.2.2<(x.1.length:Int)then
 if 0≤x.2.2.2∧x.2.2.2<(x.2.1.length:Int)then
 vsg (rd (Ty.zero tTxn) x.1 x.2.2.2) (rd (Ty.zero tTxn) x.2.1 x.2.2.2) (fun y3=>
 bif (!y3)then
 k (.inr (.inl (x.1,x.2.1,false,x.2.2.2)))
 else
 k (.inl (x.1,x.2.1,x.2.2.1,(IntKind.wrap .i64 (x.2.2.2+1)))))
 else none
 else none
 else
 k (.inr (.inr (x.1,x.2.1,x.2.2.1,x.2.2.2)))
instance n21n_bp0 (x:q3T):ParC (vjl x):=by unfold vjl;(try dsimp only);infer_instance
def v22 (a0:(List dTxn))(a1:(List dTxn))(k:Bool→Option Res):Option Res:=
 bif ((a0.length:Int) != (a1.length:Int))then
 k false
 else
 vac vjl Fuel (a0,a1,false,0) (Sum.elim (fun z1=>
 k z1.2.2.1) (fun _=>
 k true))
def vnd:=shut v22
theorem v73:vnd=v22:=vae _
instance n21n_p (a0:(List dTxn))(a1:(List dTxn)):ParC (vnd a0 a1):=by rw [v73];unfold v22;(try dsimp only);infer_instance
def vyj (a0:vc9)(a1:vc9)(k:Bool→Option Res):Option Res:=
 vv0 a0.1 a1.1 (fun y1=>
 bif (!y1)then
 k false
 else
 vnd a0.2.1 a1.2.1 (fun y2=>
 bif (!y2)then
 k false
 else
 vnd a0.2.2.1 a1.2.2.1 (fun y3=>
 bif (!y3)then
 k false
 else
 bif (a0.2.2.2.1 != a1.2.2.2.1)then
 k false
 else
 bif (a0.2.2.2.2 != a1.2.2.2.2)then
 k false
 else
 k true)))
def vt7:=shut vyj
theorem v40:vt7=vyj:=vae _
instance n16n_p (a0:vc9)(a1:vc9):ParC (vt7 a0 a1):=by rw [v40];unfold vyj;(try dsimp only);infer_instance
def vy5 (a0:va7)(a1:va7)(k:Bool→Option Res):Option Res:=
 vt7 a0.1 a1.1 (fun y1=>
 bif (!y1)then
 k false
 else
 vnd a0.2 a1.2 (fun y2=>
 bif (!y2)then
 k false
 else
 k true))
def vd1:=shut vy5
theorem v35:vd1=vy5:=vae _
instance n17n_p (a0:va7)(a1:va7):ParC (vd1 a0 a1):=by rw [v35];unfold vy5;(try dsimp only);infer_instance
def vlu (x:(Int×ByteArray))(k:(Int×ByteArray)⊕(Int×ByteArray)→Option Res):Option Res:=
 bif (decide (x.1>0))then
 if(vl8 [(IntKind.wrap .u8 (IntKind.wrap .i64 ((48:Int)+(x.1.tmod (10:Int)))))]).size+x.2.size≤1099511627776 then
 k (.inl ((IntKind.wrap .i64 (x.1.tdiv (10:Int))),((vl8 [(IntKind.wrap .u8 (IntKind.wrap .i64 ((48:Int)+(x.1.tmod (10:Int)))))])++x.2)))
 else none
 else
 k (.inr (x.1,x.2))
instance n35n_bp0 (x:(Int×ByteArray)):ParC (vlu x):=by unfold vlu;(try dsimp only);infer_instance
def v47 (a0:Int)(k:ByteArray→Option Res):Option Res:=
 bif (decide (a0≤0))then
 k (⟨#[109,48]⟩:ByteArray)
 else
 vac vlu Fuel (a0,(⟨#[]⟩:ByteArray)) (fun z1=>
 if(⟨#[109]⟩:ByteArray).size+z1.2.size≤1099511627776 then
 k ((⟨#[109]⟩:ByteArray)++z1.2)
 else none)
def vb2:=shut v47
theorem v7w:vb2=v47:=vae _
instance n35n_p (a0:Int):ParC (vb2 a0):=by rw [v7w];unfold v47;(try dsimp only);infer_instance
def vih (x:(Int×Int×(List vaa)))(k:(Int×Int×(List vaa))⊕(Int×Int×(List vaa))→Option Res):Option Res:=
 let t0:=(x.2.2.getD x.2.1.toNat (Ty.zero tVersion))
 let t1:=(IntKind.wrap .i64 ((IntKind.wrap .i64 (x.1+(1:Int)))+(1:Int)))
 let t2:=((t1.tmod (3:Int))==(0:Int))
 bif (decide (x.2.1<(x.2.2.length:Int)))then
 vb2 x.1 (fun y2=>
 if 0≤x.2.1∧x.2.1<(x.2.2.length:Int)then
 vb2 (IntKind.wrap .i64 (x.1+1)) (fun y3=>
 if 0≤x.2.1∧x.2.1<((x.2.2.set x.2.1.toNat (y2,t0.2)).length:Int)then
 if 0≤x.2.1∧x.2.1<(((x.2.2.set x.2.1.toNat (y2,t0.2)).set x.2.1.toNat (((x.2.2.set x.2.1.toNat (y2,t0.2)).getD x.2.1.toNat (Ty.zero tVersion)).1,(y3,((x.2.2.set x.2.1.toNat (y2,t0.2)).getD x.2.1.toNat (Ty.zero tVersion)).2.2))).length:Int)then
 if 0≤x.2.1∧x.2.1<((((x.2.2.set x.2.1.toNat (y2,t0.2)).set x.2.1.toNat (((x.2.2.set x.2.1.toNat (y2,t0.2)).getD x.2.1.toNat (Ty.zero tVersion)).1,(y3,((x.2.2.set x.2.1.toNat (y2,t0.2)).getD x.2.1.toNat (Ty.zero tVersion)).2.2))).set x.2.1.toNat ((((x.2.2.set x.2.1.toNat (y2,t0.2)).set x.2.1.toNat (((x.2.2.set x.2.1.toNat (y2,t0.2)).getD x.2.1.toNat (Ty.zero tVersion)).1,(y3,((x.2.2.set x.2.1.toNat (y2,t0.2)).getD x.2.1.toNat (Ty.zero tVersion)).2.2))).getD x.2.1.toNat (Ty.zero tVersion)).1,((((x.2.2.set x.2.1.toNat (y2,t0.2)).set x.2.1.toNat (((x.2.2.set x.2.1.toNat (y2,t0.2)).getD x.2.1.toNat (Ty.zero tVersion)).1,(y3,((x.2.2.set x.2.1.toNat (y2,t0.2)).getD x.2.1.toNat (Ty.zero tVersion)).2.2))).getD x.2.1.toNat (Ty.zero tVersion)).2.1,(t2,(((x.2.2.set x.2.1.toNat (y2,t0.2)).set x.2.1.toNat (((x.2.2.set x.2.1.toNat (y2,t0.2)).getD x.2.1.toNat (Ty.zero tVersion)).1,(y3,((x.2.2.set x.2.1.toNat (y2,t0.2)).getD x.2.1.toNat (Ty.zero tVersion)).2.2))).getD x.2.1.toNat (Ty.zero tVersion)).2.2.2)))).length:Int)then
 k (.inl ((IntKind.wrap .i64 ((IntKind.wrap .i64 (t1+1))+1)),(IntKind.wrap .i64 (x.2.1+1)),((((x.2.2.set x.2.1.toNat (y2,t0.2)).set x.2.1.toNat (((x.2.2.set x.2.1.toNat (y2,t0.2)).getD x.2.1.toNat (Ty.zero tVersion)).1,(y3,((x.2.2.set x.2.1.toNat (y2,t0.2)).getD x.2.1.toNat (Ty.zero tVersion)).2.2))).set x.2.1.toNat ((((x.2.2.set x.2.1.toNat (y2,t0.2)).set x.2.1.toNat (((x.2.2.set x.2.1.toNat (y2,t0.2)).getD x.2.1.toNat (Ty.zero tVersion)).1,(y3,((x.2.2.set x.2.1.toNat (y2,t0.2)).getD x.2.1.toNat (Ty.zero tVersion)).2.2))).getD x.2.1.toNat (Ty.zero tVersion)).1,((((x.2.2.set x.2.1.toNat (y2,t0.2)).set x.2.1.toNat (((x.2.2.set x.2.1.toNat (y2,t0.2)).getD x.2.1.toNat (Ty.zero tVersion)).1,(y3,((x.2.2.set x.2.1.toNat (y2,t0.2)).getD x.2.1.toNat (Ty.zero tVersion)).2.2))).getD x.2.1.toNat (Ty.zero tVersion)).2.1,(t2,(((x.2.2.set x.2.1.toNat (y2,t0.2)).set x.2.1.toNat (((x.2.2.set x.2.1.toNat (y2,t0.2)).getD x.2.1.toNat (Ty.zero tVersion)).1,(y3,((x.2.2.set x.2.1.toNat (y2,t0.2)).getD x.2.1.toNat (Ty.zero tVersion)).2.2))).getD x.2.1.toNat (Ty.zero tVersion)).2.2.2)))).set x.2.1.toNat (((((x.2.2.set x.2.1.toNat (y2,t0.2)).set x.2.1.toNat (((x.2.2.set x.2.1.toNat (y2,t0.2)).getD x.2.1.toNat (Ty.zero tVersion)).1,(y3,((x.2.2.set x.2.1.toNat (y2,t0.2)).getD x.2.1.toNat (Ty.zero tVersion)).2.2))).set x.2.1.toNat ((((x.2.2.set x.2.1.toNat (y2,t0.2)).set x.2.1.toNat (((x.2.2.set x.2.1.toNat (y2,t0.2)).getD x.2.1.toNat (Ty.zero tVersion)).1,(y3,((x.2.2.set x.2.1.toNat (y2,t0.2)).getD x.2.1.toNat (Ty.zero tVersion)).2.2))).getD x.2.1.toNat (Ty.zero tVersion)).1,((((x.2.2.set x.2.1.toNat (y2,t0.2)).set x.2.1.toNat (((x.2.2.set x.2.1.toNat (y2,t0.2)).getD x.2.1.toNat (Ty.zero tVersion)).1,(y3,((x.2.2.set x.2.1.toNat (y2,t0.2)).getD x.2.1.toNat (Ty.zero tVersion)).2.2))).getD x.2.1.toNat (Ty.zero tVersion)).2.1,(t2,(((x.2.2.set x.2.1.toNat (y2,t0.2)).set x.2.1.toNat (((x.2.2.set x.2.1.toNat (y2,t0.2)).getD x.2.1.toNat (Ty.zero tVersion)).1,(y3,((x.2.2.set x.2.1.toNat (y2,t0.2)).getD x.2.1.toNat (Ty.zero tVersion)).2.2))).getD x.2.1.toNat (Ty.zero tVersion)).2.2.2)))).getD x.2.1.toNat (Ty.zero tVersion)).1,(((((x.2.2.set x.2.1.toNat (y2,t0.2)).set x.2.1.toNat (((x.2.2.set x.2.1.toNat (y2,t0.2)).getD x.2.1.toNat (Ty.zero tVersion)).1,(y3,((x.2.2.set x.2.1.toNat (y2,t0.2)).getD x.2.1.toNat (Ty.zero tVersion)).2.2))).set x.2.1.toNat ((((x.2.2.set x.2.1.toNat (y2,t0.2)).set x.2.1.toNat (((x.2.2.set x.2.1.toNat (y2,t0.2)).getD x.2.1.toNat (Ty.zero tVersion)).1,(y3,((x.2.2.set x.2.1.toNat (y2,t0.2)).getD x.2.1.toNat (Ty.zero tVersion)).2.2))).getD x.2.1.toNat (Ty.zero tVersion)).1,((((x.2.2.set x.2.1.toNat (y2,t0.2)).set x.2.1.toNat (((x.2.2.set x.2.1.toNat (y2,t0.2)).getD x.2.1.toNat (Ty.zero tVersion)).1,(y3,((x.2.2.set x.2.1.toNat (y2,t0.2)).getD x.2.1.toNat (Ty.zero tVersion)).2.2))).getD x.2.1.toNat (Ty.zero tVersion)).2.1,(t2,(((x.2.2.set x.2.1.toNat (y2,t0.2)).set x.2.1.toNat (((x.2.2.set x.2.1.toNat (y2,t0.2)).getD x.2.1.toNat (Ty.zero tVersion)).1,(y3,((x.2.2.set x.2.1.toNat (y2,t0.2)).getD x.2.1.toNat (Ty.zero tVersion)).2.2))).getD x.2.1.toNat (Ty.zero tVersion)).2.2.2)))).getD x.2.1.toNat (Ty.zero tVersion)).2.1,(((((x.2.2.set x.2.1.toNat (y2,t0.2)).set x.2.1.toNat (((x.2.2.set x.2.1.toNat (y2,t0.2)).getD x.2.1.toNat (Ty.zero tVersion)).1,(y3,((x.2.2.set x.2.1.toNat (y2,t0.2)).getD x.2.1.toNat (Ty.zero tVersion)).2.2))).set x.2.1.toNat ((((x.2.2.set x.2.1.toNat (y2,t0.2)).set x.2.1.toNat (((x.2.2.set x.2.1.toNat (y2,t0.2)).getD x.2.1.toNat (Ty.zero tVersion)).1,(y3,((x.2.2.set x.2.1.toNat (y2,t0.2)).getD x.2.1.toNat (Ty.zero tVersion)).2.2))).getD x.2.1.toNat (Ty.zero tVersion)).1,((((x.2.2.set x.2.1.toNat (y2,t0.2)).set x.2.1.toNat (((x.2.2.set x.2.1.toNat (y2,t0.2)).getD x.2.1.toNat (Ty.zero tVersion)).1,(y3,((x.2.2.set x.2.1.toNat (y2,t0.2)).getD x.2.1.toNat (Ty.zero tVersion)).2.2))).getD x.2.1.toNat (Ty.zero tVersion)).2.1,(t2,(((x.2.2.set x.2.1.toNat (y2,t0.2)).set x.2.1.toNat (((x.2.2.set x.2.1.toNat (y2,t0.2)).getD x.2.1.toNat (Ty.zero tVersion)).1,(y3,((x.2.2.set x.2.1.toNat (y2,t0.2)).getD x.2.1.toNat (Ty.zero tVersion)).2.2))).getD x.2.1.toNat (Ty.zero tVersion)).2.2.2)))).getD x.2.1.toNat (Ty.zero tVersion)).2.2.1,(IntKind.wrap .i64 (t1+1))))))))
 else none
 else none
 else none)
 else none)
 else
 k (.inr (x.1,x.2.1,x.2.2))
instance n37n_bp0 (x:(Int×Int×(List vaa))):ParC (vih x):=by unfold vih;(try dsimp only);infer_instance
def v4b (a0:Int)(a1:(List vaa))(k:(Int×(List vaa))→Option Res):Option Res:=
 vac vih Fuel (a0,0,a1) (fun z1=>
 k (z1.1,z1.2.2))
def vzg:=shut v4b
theorem wav:vzg=v4b:=vae _
instance n37n_p (a0:Int)(a1:(List vaa)):ParC (vzg a0 a1):=by rw [wav];unfold v4b;(try dsimp only);infer_instance
def vlm (x:(Int×Int×(List vam)))(k:(Int×Int×(List vam))⊕(Int×Int×(List vam))→Option Res):Option Res:=
 bif (decide (x.2.1<(x.2.2.length:Int)))then
 vb2 x.1 (fun y2=>
 if 0≤x.2.1∧x.2.1<(x.2.2.length:Int)then
 vb2 (IntKind.wrap .i64 (x.1+1)) (fun y3=>
 if 0≤x.2.1∧x.2.1<((x.2.2.set x.2.1.toNat (y2,(x.2.2.getD x.2.1.toNat (Ty.zero tRange)).2)).length:Int)then
 k (.inl ((IntKind.wrap .i64 ((IntKind.wrap .i64 (x.1+1))+1)),(IntKind.wrap .i64 (x.2.1+1)),((x.2.2.set x.2.1.toNat (y2,(x.2.2.getD x.2.1.toNat (Ty.zero tRange)).2)).set x.2.1.toNat (((x.2.2.set x.2.1.toNat (y2,(x.2.2.getD x.2.1.toNat (Ty.zero tRange)).2)).getD x.2.1.toNat (Ty.zero tRange)).1,y3))))
 else none)
 else none)
 else
 k (.inr (x.1,x.2.1,x.2.2))
instance n34n_bp0 (x:(Int×Int×(List vam))):ParC (vlm x):=by unfold vlm;(try dsimp only);infer_instance
def v5o (a0:Int)(a1:(List vam))(k:(Int×(List vam))→Option Res):Option Res:=
 vac vlm Fuel (a0,0,a1) (fun z1=>
 k (z1.1,z1.2.2))
def vz2:=shut v5o
theorem wbl:vz2=v5o:=vae _
instance n34n_p (a0:Int)(a1:(List vam)):ParC (vz2 a0 a1):=by rw [wbl];unfold v5o;(try dsimp only);infer_instance
def vl0 (x:(Int×Int×(List val)))(k:(Int×Int×(List val))⊕(Int×Int×(List val))→Option Res):Option Res:=
 let t0:=(x.2.2.getD x.2.1.toNat (Ty.zero tWrite))
 bif (decide (x.2.1<(x.2.2.length:Int)))then
 vb2 x.1 (fun y2=>
 if 0≤x.2.1∧x.2.1<(x.2.2.length:Int)then
 vb2 (IntKind.wrap .i64 (x.1+1)) (fun y3=>
 if 0≤x.2.1∧x.2.1<((x.2.2.set x.2.1.toNat (y2,t0.2)).length:Int)then
 if 0≤x.2.1∧x.2.1<(((x.2.2.set x.2.1.toNat (y2,t0.2)).set x.2.1.toNat (((x.2.2.set x.2.1.toNat (y2,t0.2)).getD x.2.1.toNat (Ty.zero tWrite)).1,(y3,((x.2.2.set x.2.1.toNat (y2,t0.2)).getD x.2.1.toNat (Ty.zero tWrite)).2.2))).length:Int)then
 k (.inl ((IntKind.wrap .i64 ((IntKind.wrap .i64 ((IntKind.wrap .i64 (x.1+1))+1))+1)),(IntKind.wrap .i64 (x.2.1+1)),(((x.2.2.set x.2.1.toNat (y2,t0.2)).set x.2.1.toNat (((x.2.2.set x.2.1.toNat (y2,t0.2)).getD x.2.1.toNat (Ty.zero tWrite)).1,(y3,((x.2.2.set x.2.1.toNat (y2,t0.2)).getD x.2.1.toNat (Ty.zero tWrite)).2.2))).set x.2.1.toNat ((((x.2.2.set x.2.1.toNat (y2,t0.2)).set x.2.1.toNat (((x.2.2.set x.2.1.toNat (y2,t0.2)).getD x.2.1.toNat (Ty.zero tWrite)).1,(y3,((x.2.2.set x.2.1.toNat (y2,t0.2)).getD x.2.1.toNat (Ty.zero tWrite)).2.2))).getD x.2.1.toNat (Ty.zero tWrite)).1,((((x.2.2.set x.2.1.toNat (y2,t0.2)).set x.2.1.toNat (((x.2.2.set x.2.1.toNat (y2,t0.2)).getD x.2.1.toNat (Ty.zero tWrite)).1,(y3,((x.2.2.set x.2.1.toNat (y2,t0.2)).getD x.2.1.toNat (Ty.zero tWrite)).2.2))).getD x.2.1.toNat (Ty.zero tWrite)).2.1,(((IntKind.wrap .i64 ((IntKind.wrap .i64 (x.1+1))+1)).tmod (3:Int))==(0:Int)))))))
 else none
 else none)
 else none)
 else
 k (.inr (x.1,x.2.1,x.2.2))
instance n38n_bp0 (x:(Int×Int×(List val))):ParC (vl0 x):=by unfold vl0;(try dsimp only);infer_instance
def v30 (a0:Int)(a1:(List val))(k:(Int×(List val))→Option Res):Option Res:=
 vac vl0 Fuel (a0,0,a1) (fun z1=>
 k (z1.1,z1.2.2))
def vyb:=shut v30
theorem v8t:vyb=v30:=vae _
instance n38n_p (a0:Int)(a1:(List val)):ParC (vyb a0 a1):=by rw [v8t];unfold v30;(try dsimp only);infer_instance
def vdg (x:(Int×Int×(List dTxn)))(k:(Int×Int×(List dTxn))→Option Res):Option Res:=
 k (x.1,(IntKind.wrap .i64 (x.2.1+1)),x.2.2)
instance n36n_jp5000003 (x:(Int×Int×(List dTxn))):ParC (vdg x):=by unfold vdg;(try dsimp only);infer_instance
def vdh (x:(Int×Int×(List dTxn)))(k:(Int×Int×(List dTxn))→Option Res):Option Res:=
 k ((IntKind.wrap .i64 (x.1+1)),x.2.1,x.2.2)
instance n36n_jp5000017 (x:(Int×Int×(List dTxn))):ParC (vdh x):=by unfold vdh;(try dsimp only);infer_instance
def vdo (x:(Int×Int×(List dTxn)))(k:(Int×Int×(List dTxn))→Option Res):Option Res:=
 vb2 (IntKind.wrap .i64 (x.1+1)) (fun y10=>
 if 0≤x.2.1∧x.2.1<(x.2.2.length:Int)then
 vdh ((IntKind.wrap .i64 (x.1+1)),x.2.1,(x.2.2.set x.2.1.toNat ((x.2.2.getD x.2.1.toNat (Ty.zero tTxn)).1,((x.2.2.getD x.2.1.toNat (Ty.zero tTxn)).2.1,((x.2.2.getD x.2.1.toNat (Ty.zero tTxn)).2.2.1,((x.2.2.getD x.2.1.toNat (Ty.zero tTxn)).2.2.2.1,((x.2.2.getD x.2.1.toNat (Ty.zero tTxn)).2.2.2.2.1,((x.2.2.getD x.2.1.toNat (Ty.zero tTxn)).2.2.2.2.2.1,((x.2.2.getD x.2.1.toNat (Ty.zero tTxn)).2.2.2.2.2.2.1,y10))))))))) (fun z11=>
 k (z11.1,z11.2.1,z11.2.2))
 else none)
instance n36n_jp5000015 (x:(Int×Int×(List dTxn))):ParC (vdo x):=by unfold vdo;(try dsimp only);infer_instance
def vdl (x:(Int×Int×(List dTxn)))(k:(Int×Int×(List dTxn))→Option Res):Option Res:=
 let t0:=(x.2.2.getD x.2.1.toNat (Ty.zero tTxn))
 if 0≤x.2.1∧x.2.1<(x.2.2.length:Int)then
 vz2 (IntKind.wrap .i64 (x.1+1)) (t0.2.2.2.2.1) (fun y7=>
 if 0≤x.2.1∧x.2.1<((x.2.2.set x.2.1.toNat (t0.1,(t0.2.1,(t0.2.2.1,(t0.2.2.2.1,(y7.2,t0.2.2.2.2.2)))))).length:Int)then
 vyb y7.1 (((x.2.2.set x.2.1.toNat (t0.1,(t0.2.1,(t0.2.2.1,(t0.2.2.2.1,(y7.2,t0.2.2.2.2.2)))))).getD x.2.1.toNat (Ty.zero tTxn)).2.2.2.2.2.1) (fun y8=>
 if 0≤x.2.1∧x.2.1<(((x.2.2.set x.2.1.toNat (t0.1,(t0.2.1,(t0.2.2.1,(t0.2.2.2.1,(y7.2,t0.2.2.2.2.2)))))).set x.2.1.toNat (((x.2.2.set x.2.1.toNat (t0.1,(t0.2.1,(t0.2.2.1,(t0.2.2.2.1,(y7.2,t0.2.2.2.2.2)))))).getD x.2.1.toNat (Ty.zero tTxn)).1,(((x.2.2.set x.2.1.toNat (t0.1,(t0.2.1,(t0.2.2.1,(t0.2.2.2.1,(y7.2,t0.2.2.2.2.2)))))).getD x.2.1.toNat (Ty.zero tTxn)).2.1,(((x.2.2.set x.2.1.toNat (t0.1,(t0.2.1,(t0.2.2.1,(t0.2.2.2.1,(y7.2,t0.2.2.2.2.2)))))).getD x.2.1.toNat (Ty.zero tTxn)).2.2.1,(((x.2.2.set x.2.1.toNat (t0.1,(t0.2.1,(t0.2.2.1,(t0.2.2.2.1,(y7.2,t0.2.2.2.2.2)))))).getD x.2.1.toNat (Ty.zero tTxn)).2.2.2.1,(((x.2.2.set x.2.1.toNat (t0.1,(t0.2.1,(t0.2.2.1,(t0.2.2.2.1,(y7.2,t0.2.2.2.2.2)))))).getD x.2.1.toNat (Ty.zero tTxn)).2.2.2.2.1,(y8.2,((x.2.2.set x.2.1.toNat (t0.1,(t0.2.1,(t0.2.2.1,(t0.2.2.2.1,(y7.2,t0.2.2.2.2.2)))))).getD x.2.1.toNat (Ty.zero tTxn)).2.2.2.2.2.2))))))).length:Int)then
 vdo (y8.1,x.2.1,(((x.2.2.set x.2.1.toNat (t0.1,(t0.2.1,(t0.2.2.1,(t0.2.2.2.1,(y7.2,t0.2.2.2.2.2)))))).set x.2.1.toNat (((x.2.2.set x.2.1.toNat (t0.1,(t0.2.1,(t0.2.2.1,(t0.2.2.2.1,(y7.2,t0.2.2.2.2.2)))))).getD x.2.1.toNat (Ty.zero tTxn)).1,(((x.2.2.set x.2.1.toNat (t0.1,(t0.2.1,(t0.2.2.1,(t0.2.2.2.1,(y7.2,t0.2.2.2.2.2)))))).getD x.2.1.toNat (Ty.zero tTxn)).2.1,(((x.2.2.set x.2.1.toNat (t0.1,(t0.2.1,(t0.2.2.1,(t0.2.2.2.1,(y7.2,t0.2.2.2.2.2)))))).getD x.2.1.toNat (Ty.zero tTxn)).2.2.1,(((x.2.2.set x.2.1.toNat (t0.1,(t0.2.1,(t0.2.2.1,(t0.2.2.2.1,(y7.2,t0.2.2.2.2.2)))))).getD x.2.1.toNat (Ty.zero tTxn)).2.2.2.1,(((x.2.2.set x.2.1.toNat (t0.1,(t0.2.1,(t0.2.2.1,(t0.2.2.2.1,(y7.2,t0.2.2.2.2.2)))))).getD x.2.1.toNat (Ty.zero tTxn)).2.2.2.2.1,(y8.2,((x.2.2.set x.2.1.toNat (t0.1,(t0.2.1,(t0.2.2.1,(t0.2.2.2.1,(y7.2,t0.2.2.2.2.2)))))).getD x.2.1.toNat (Ty.zero tTxn)).2.2.2.2.2.2))))))).set x.2.1.toNat ((((x.2.2.set x.2.1.toNat (t0.1,(t0.2.1,(t0.2.2.1,(t0.2.2.2.1,(y7.2,t0.2.2.2.2.2)))))).set x.2.1.toNat (((x.2.2.set x.2.1.toNat (t0.1,(t0.2.1,(t0.2.2.1,(t0.2.2.2.1,(y7.2,t0.2.2.2.2.2)))))).getD x.2.1.toNat (Ty.zero tTxn)).1,(((x.2.2.set x.2.1.toNat (t0.1,(t0.2.1,(t0.2.2.1,(t0.2.2.2.1,(y7.2,t0.2.2.2.2.2)))))).getD x.2.1.toNat (Ty.zero tTxn)).2.1,(((x.2.2.set x.2.1.toNat (t0.1,(t0.2.1,(t0.2.2.1,(t0.2.2.2.1,(y7.2,t0.2.2.2.2.2)))))).getD x.2.1.toNat (Ty.zero tTxn)).2.2.1,(((x.2.2.set x.2.1.toNat (t0.1,(t0.2.1,(t0.2.2.1,(t0.2.2.2.1,(y7.2,t0.2.2.2.2.2)))))).getD x.2.1.toNat (Ty.zero tTxn)).2.2.2.1,(((x.2.2.set x.2.1.toNat (t0.1,(t0.2.1,(t0.2.2.1,(t0.2.2.2.1,(y7.2,t0.2.2.2.2.2)))))).getD x.2.1.toNat (Ty.zero tTxn)).2.2.2.2.1,(y8.2,((x.2.2.set x.2.1.toNat (t0.1,(t0.2.1,(t0.2.2.1,(t0.2.2.2.1,(y7.2,t0.2.2.2.2.2)))))).getD x.2.1.toNat (Ty.zero tTxn)).2.2.2.2.2.2))))))).getD x.2.1.toNat (Ty.zero tTxn)).1,((((x.2.2.set x.2.1.toNat (t0.1,(t0.2.1,(t0.2.2.1,(t0.2.2.2.1,(y7.2,t0.2.2.2.2.2)))))).set x.2.1.toNat (((x.2.2.set x.2.1.toNat (t0.1,(t0.2.1,(t0.2.2.1,(t0.2.2.2.1,(y7.2,t0.2.2.2.2.2)))))).getD x.2.1.toNat (Ty.zero tTxn)).1,(((x.2.2.set x.2.1.toNat (t0.1,(t0.2.1,(t0.2.2.1,(t0.2.2.2.1,(y7.2,t0.2.2.2.2.2)))))).getD x.2.1.toNat (Ty.zero tTxn)).2.1,(((x.2.2.set x.2.1.toNat (t0.1,(t0.2.1,(t0.2.2.1,(t0.2.2.2.1,(y7.2,t0.2.2.2.2.2)))))).getD x.2.1.toNat (Ty.zero tTxn)).2.2.1,(((x.2.2.set x.2.1.toNat (t0.1,(t0.2.1,(t0.2.2.1,(t0.2.2.2.1,(y7.2,t0.2.2.2.2.2)))))).getD x.2.1.toNat (Ty.zero tTxn)).2.2.2.1,(((x.2.2.set x.2.1.toNat (t0.1,(t0.2.1,(t0.2.2.1,(t0.2.2.2.1,(y7.2,t0.2.2.2.2.2)))))).getD x.2.1.toNat (Ty.zero tTxn)).2.2.2.2.1,(y8.2,((x.2.2.set x.2.1.toNat (t0.1,(t0.2.1,(t0.2.2.1,(t0.2.2.2.1,(y7.2,t0.2.2.2.2.2)))))).getD x.2.1.toNat (Ty.zero tTxn)).2.2.2.2.2.2))))))).getD x.2.1.toNat (Ty.zero tTxn)).2.1,((((x.2.2.set x.2.1.toNat (t0.1,(t0.2.1,(t0.2.2.1,(t0.2.2.2.1,(y7.2,t0.2.2.2.2.2)))))).set x.2.1.toNat (((x.2.2.set x.2.1.toNat (t0.1,(t0.2.1,(t0.2.2.1,(t0.2.2.2.1,(y7.2,t0.2.2.2.2.2)))))).getD x.2.1.toNat (Ty.zero tTxn)).1,(((x.2.2.set x.2.1.toNat (t0.1,(t0.2.1,(t0.2.2.1,(t0.2.2.2.1,(y7.2,t0.2.2.2.2.2)))))).getD x.2.1.toNat (Ty.zero tTxn)).2.1,(((x.2.2.set x.2.1.toNat (t0.1,(t0.2.1,(t0.2.2.1,(t0.2.2.2.1,(y7.2,t0.2.2.2.2.2)))))).getD x.2.1.toNat (Ty.zero tTxn)).2.2.1,(((x.2.2.set x.2.1.toNat (t0.1,(t0.2.1,(t0.2.2.1,(t0.2.2.2.1,(y7.2,t0.2.2.2.2.2)))))).getD x.2.1.toNat (Ty.zero tTxn)).2.2.2.1,(((x.2.2.set x.2.1.toNat (t0.1,(t0.2.1,(t0.2.2.1,(t0.2.2.2.1,(y7.2,t0.2.2.2.2.2)))))).getD x.2.1.toNat (Ty.zero tTxn)).2.2.2.2.1,(y8.2,((x.2.2.set x.2.1.toNat (t0.1,(t0.2.1,(t0.2.2.1,(t0.2.2.2.1,(y7.2,t0.2.2.2.2.2)))))).getD x.2.1.toNat (Ty.zero tTxn)).2.2.2.2.2.2))))))).getD x.2.1.toNat (Ty.zero tTxn)).2.2.1,((((x.2.2.set x.2.1.toNat (t0.1,(t0.2.1,(t0.2.2.1,(t0.2.2.2.1,(y7.2,t0.2.2.2.2.2)))))).set x.2.1.toNat (((x.2.2.set x.2.1.toNat (t0.1,(t0.2.1,(t0.2.2.1,(t0.2.2.2.1,(y7.2,t0.2.2.2.2.2)))))).getD x.2.1.toNat (Ty.zero tTxn)).1,(((x.2.2.set x.2.1.toNat (t0.1,(t0.2.1,(t0.2.2.1,(t0.2.2.2.1,(y7.2,t0.2.2.2.2.2)))))).getD x.2.1.toNat (Ty.zero tTxn)).2.1,(((x.2.2.set x.2.1.toNat (t0.1,(t0.2.1,(t0.2.2.1,(t0.2.2.2.1,(y7.2,t0.2.2.2.2.2)))))).getD x.2.1.toNat (Ty.zero tTxn)).2.2.1,(((x.2.2.set x.2.1.toNat (t0.1,(t0.2.1,(t0.2.2.1,(t0.2.2.2.1,(y7.2,t0.2.2.2.2.2)))))).getD x.2.1.toNat (Ty.zero tTxn)).2.2.2.1,(((x.2.2.set x.2.1.toNat (t0.1,(t0.2.1,(t0.2.2.1,(t0.2.2.2.1,(y7.2,t0.2.2.2.2.2)))))).getD x.2.1.toNat (Ty.zero tTxn)).2.2.2.2.1,(y8.2,((x.2.2.set x.2.1.toNat (t0.1,(t0.2.1,(t0.2.2.1,(t0.2.2.2.1,(y7.2,t0.2.2.2.2.2)))))).getD x.2.1.toNat (Ty.zero tTxn)).2.2.2.2.2.2))))))).getD x.2.1.toNat (Ty.zero tTxn)).2.2.2.1,((((x.2.2.set x.2.1.toNat (t0.1,(t0.2.1,(t0.2.2.1,(t0.2.2.2.1,(y7.2,t0.2.2.2.2.2)))))).set x.2.1.toNat (((x.2.2.set x.2.1.toNat (t0.1,(t0.2.1,(t0.2.2.1,(t0.2.2.2.1,(y7.2,t0.2.2.2.2.2)))))).getD x.2.1.toNat (Ty.zero tTxn)).1,(((x.2.2.set x.2.1.toNat (t0.1,(t0.2.1,(t0.2.2.1,(t0.2.2.2.1,(y7.2,t0.2.2.2.2.2)))))).getD x.2.1.toNat (Ty.zero tTxn)).2.1,(((x.2.2.set x.2.1.toNat (t0.1,(t0.2.1,(t0.2.2.1,(t0.2.2.2.1,(y7.2,t0.2.2.2.2.2)))))).getD x.2.1.toNat (Ty.zero tTxn)).2.2.1,(((x.2.2.set x.2.1.toNat (t0.1,(t0.2.1,(t0.2.2.1,(t0.2.2.2.1,(y7.2,t0.2.2.2.2.2)))))).getD x.2.1.toNat (Ty.zero tTxn)).2.2.2.1,(((x.2.2.set x.2.1.toNat (t0.1,(t0.2.1,(t0.2.2.1,(t0.2.2.2.1,(y7.2,t0.2.2.2.2.2)))))).getD x.2.1.toNat (Ty.zero tTxn)).2.2.2.2.1,(y8.2,((x.2.2.set x.2.1.toNat (t0.1,(t0.2.1,(t0.2.2.1,(t0.2.2.2.1,(y7.2,t0.2.2.2.2.2)))))).getD x.2.1.toNat (Ty.zero tTxn)).2.2.2.2.2.2))))))).getD x.2.1.toNat (Ty.zero tTxn)).2.2.2.2.1,((((x.2.2.set x.2.1.toNat (t0.1,(t0.2.1,(t0.2.2.1,(t0.2.2.2.1,(y7.2,t0.2.2.2.2.2)))))).set x.2.1.toNat (((x.2.2.set x.2.1.toNat (t0.1,(t0.2.1,(t0.2.2.1,(t0.2.2.2.1,(y7.2,t0.2.2.2.2.2)))))).getD x.2.1.toNat (Ty.zero tTxn)).1,(((x.2.2.set x.2.1.toNat (t0.1,(t0.2.1,(t0.2.2.1,(t0.2.2.2.1,(y7.2,t0.2.2.2.2.2)))))).getD x.2.1.toNat (Ty.zero tTxn)).2.1,(((x.2.2.set x.2.1.toNat (t0.1,(t0.2.1,(t0.2.2.1,(t0.2.2.2.1,(y7.2,t0.2.2.2.2.2)))))).getD x.2.1.toNat (Ty.zero tTxn)).2.2.1,(((x.2.2.set x.2.1.toNat (t0.1,(t0.2.1,(t0.2.2.1,(t0.2.2.2.1,(y7.2,t0.2.2.2.2.2)))))).getD x.2.1.toNat (Ty.zero tTxn)).2.2.2.1,(((x.2.2.set x.2.1.toNat (t0.1,(t0.2.1,(t0.2.2.1,(t0.2.2.2.1,(y7.2,t0.2.2.2.2.2)))))).getD x.2.1.toNat (Ty.zero tTxn)).2.2.2.2.1,(y8.2,((x.2.2.set x.2.1.toNat (t0.1,(t0.2.1,(t0.2.2.1,(t0.2.2.2.1,(y7.2,t0.2.2.2.2.2)))))).getD x.2.1.toNat (Ty.zero tTxn)).2.2.2.2.2.2))))))).getD x.2.1.toNat (Ty.zero tTxn)).2.2.2.2.2.1,(((y8.1.tmod (3:Int))==(0:Int)),(((x.2.2.set x.2.1.toNat (t0.1,(t0.2.1,(t0.2.2.1,(t0.2.2.2.1,(y7.2,t0.2.2.2.2.2)))))).set x.2.1.toNat (((x.2.2.set x.2.1.toNat (t0.1,(t0.2.1,(t0.2.2.1,(t0.2.2.2.1,(y7.2,t0.2.2.2.2.2)))))).getD x.2.1.toNat (Ty.zero tTxn)).1,(((x.2.2.set x.2.1.toNat (t0.1,(t0.2.1,(t0.2.2.1,(t0.2.2.2.1,(y7.2,t0.2.2.2.2.2)))))).getD x.2.1.toNat (Ty.zero tTxn)).2.1,(((x.2.2.set x.2.1.toNat (t0.1,(t0.2.1,(t0.2.2.1,(t0.2.2.2.1,(y7.2,t0.2.2.2.2.2)))))).getD x.2.1.toNat (Ty.zero tTxn)).2.2.1,(((x.2.2.set x.2.1.toNat (t0.1,(t0.2.1,(t0.2.2.1,(t0.2.2.2.1,(y7.2,t0.2.2.2.2.2)))))).getD x.2.1.toNat (Ty.zero tTxn)).2.2.2.1,(((x.2.2.set x.2.1.toNat (t0.1,(t0.2.1,(t0.2.2.1,(t0.2.2.2.1,(y7.2,t0.2.2.2.2.2)))))).getD x.2.1.toNat (Ty.zero tTxn)).2.2.2.2.1,(y8.2,((x.2.2.set x.2.1.toNat (t0.1,(t0.2.1,(t0.2.2.1,(t0.2.2.2.1,(y7.2,t0.2.2.2.2.2)))))).getD x.2.1.toNat (Ty.zero tTxn)).2.2.2.2.2.2))))))).getD x.2.1.toNat (Ty.zero tTxn)).2.2.2.2.2.2.2))))))))) (fun z9=>
 k (z9.1,z9.2.1,z9.2.2))
 else none)
 else none)
 else none
instance n36n_jp5000011 (x:(Int×Int×(List dTxn))):ParC (vdl x):=by unfold vdl;(try dsimp only);infer_instance
def vdi (x:(Int×Int×(List dTxn)))(k:(Int×Int×(List dTxn))→Option Res):Option Res:=
 if 0≤x.2.1∧x.2.1<(x.2.2.length:Int)then
 vdl ((IntKind.wrap .i64 (x.1+1)),x.2.1,(x.2.2.set x.2.1.toNat ((x.2.2.getD x.2.1.toNat (Ty.zero tTxn)).1,((x.2.2.getD x.2.1.toNat (Ty.zero tTxn)).2.1,((x.2.2.getD x.2.1.toNat (Ty.zero tTxn)).2.2.1,((IntKind.wrap .i64 (x.1+1)),(x.2.2.getD x.2.1.toNat (Ty.zero tTxn)).2.2.2.2)))))) (fun z6=>
 k (z6.1,z6.2.1,z6.2.2))
 else none
instance n36n_jp5000009 (x:(Int×Int×(List dTxn))):ParC (vdi x):=by unfold vdi;(try dsimp only);infer_instance
def vde (x:(Int×Int×(List dTxn)))(k:(Int×Int×(List dTxn))→Option Res):Option Res:=
 if 0≤x.2.1∧x.2.1<(x.2.2.length:Int)then
 vdi ((IntKind.wrap .i64 (x.1+1)),x.2.1,(x.2.2.set x.2.1.toNat ((x.2.2.getD x.2.1.toNat (Ty.zero tTxn)).1,((x.2.2.getD x.2.1.toNat (Ty.zero tTxn)).2.1,((IntKind.wrap .i64 (x.1+1)),(x.2.2.getD x.2.1.toNat (Ty.zero tTxn)).2.2.2))))) (fun z5=>
 k (z5.1,z5.2.1,z5.2.2))
 else none
instance n36n_jp5000007 (x:(Int×Int×(List dTxn))):ParC (vde x):=by unfold vde;(try dsimp only);infer_instance
def vdk (x:(Int×Int×(List dTxn)))(k:(Int×Int×(List dTxn))→Option Res):Option Res:=
 if 0≤x.2.1∧x.2.1<(x.2.2.length:Int)then
 vde ((IntKind.wrap .i64 (x.1+1)),x.2.1,(x.2.2.set x.2.1.toNat ((x.2.2.getD x.2.1.toNat (Ty.zero tTxn)).1,((IntKind.wrap .i64 (x.1+1)),(x.2.2.getD x.2.1.toNat (Ty.zero tTxn)).2.2)))) (fun z4=>
 k (z4.1,z4.2.1,z4.2.2))
 else none
instance n36n_jp5000005 (x:(Int×Int×(List dTxn))):ParC (vdk x):=by unfold vdk;(try dsimp only);infer_instance
def vj6 (x:(Int×Int×(List dTxn)))(k:(Int×Int×(List dTxn))⊕(Int×Int×(List dTxn))→Option Res):Option Res:=
 bif (decide (x.2.1<(x.2.2.length:Int)))then
 if 0≤x.2.1∧x.2.1<(x.2.2.length:Int)then
 vdk (x.1,x.2.1,(x.2.2.set x.2.1.toNat (x.1,(x.2.2.getD x.2.1.toNat (Ty.zero tTxn)).2))) (fun z2=>
 vdg (z2.1,z2.2.1,z2.2.2) (fun z3=>
 k (.inl (z3.1,z3.2.1,z3.2.2))))
 else none
 else
 k (.inr (x.1,x.2.1,x.2.2))
instance n36n_bp0 (x:(Int×Int×(List dTxn))):ParC (vj6 x):=by unfold vj6;(try dsimp only);infer_instance
def v5p (a0:Int)(a1:(List dTxn))(k:(Int×(List dTxn))→Option Res):Option Res:=
 vac vj6 Fuel (a0,0,a1) (fun z1=>
 k (z1.1,z1.2.2))
def vsl:=shut v5p
theorem wak:vsl=v5p:=vae _
instance n36n_p (a0:Int)(a1:(List dTxn)):ParC (vsl a0 a1):=by rw [wak];unfold v5p;(try dsimp only);infer_instance
def v3j (a0:Int)(a1:Int)(a2:Int)(a3:(List vaa))(a4:(List dTxn))(a5:(List dTxn))(k:q26T→Option Res):Option Res:=
 vzg a2 a3 (fun y1=>
 vsl y1.1 a4 (fun y2=>
 vsl y2.1 a5 (fun y3=>
 k (y3.1,y1.2,y2.2,y3.2))))
def vzm:=shut v3j
theorem v7v:vzm=v3j:=vae _
instance n32n_p (a0:Int)(a1:Int)(a2:Int)(a3:(List vaa))(a4:(List dTxn))(a5:(List dTxn)):ParC (vzm a0 a1 a2 a3 a4 a5):=by rw [v7v];unfold v3j;(try dsimp only);infer_instance
def v3i (a0:Int)(a1:Int)(a2:Int)(a3:(List vaa))(a4:(List dTxn))(a5:(List dTxn))(a6:(List dTxn))(k:q25T→Option Res):Option Res:=
 vzm a0 a1 a2 a3 a4 a5 (fun y1=>
 vsl y1.1 a6 (fun y2=>
 k (y2.1,y1.2.1,y1.2.2.1,y1.2.2.2,y2.2)))
def vmi:=shut v3i
theorem v89:vmi=v3i:=vae _
instance n33n_p (a0:Int)(a1:Int)(a2:Int)(a3:(List vaa))(a4:(List dTxn))(a5:(List dTxn))(a6:(List dTxn)):ParC (vmi a0 a1 a2 a3 a4 a5 a6):=by rw [v89];unfold v3i;(try dsimp only);infer_instance
def vjm (x:q16T)(k:q16T⊕(q16T⊕q16T)→Option Res):Option Res:=
 let t0:=(IntKind.wrap .i64 ((IntKind.wrap .i64 (x.2.1+(1:Int)))+(1:Int)))
 let t1:=(rd (Ty.zero tVersion) x.1 x.2.2.2)
 bif (decide (x.2.2.2<(x.1.length:Int)))then
 if 0≤x.2.2.2∧x.2.2.2<(x.1.length:Int)then
 vb2 x.2.1 (fun y3=>
 bif (!(vbm (t1.1) y3))then
 k (.inr (.inl (x.1,x.2.1,(-1:Int),x.2.2.2)))
 else
 if 0≤x.2.2.2∧x.2.2.2<(x.1.length:Int)then
 vb2 (IntKind.wrap .i64 (x.2.1+1)) (fun y4=>
 bif (!(vbm (t1.2.1) y4))then
 k (.inr (.inl (x.1,(IntKind.wrap .i64 (x.2.1+1)),(-1:Int),x.2.2.2)))
 else
 if 0≤x.2.2.2∧x.2.2.2<(x.1.length:Int)then
 bif (!(t1.2.2.1==((t0.tmod (3:Int))==(0:Int))))then
 k (.inr (.inl (x.1,t0,(-1:Int),x.2.2.2)))
 else
 if 0≤x.2.2.2∧x.2.2.2<(x.1.length:Int)then
 bif (t1.2.2.2 != (IntKind.wrap .i64 (t0+1)))then
 k (.inr (.inl (x.1,(IntKind.wrap .i64 (t0+1)),(-1:Int),x.2.2.2)))
 else
 k (.inl (x.1,(IntKind.wrap .i64 ((IntKind.wrap .i64 (t0+1))+1)),x.2.2.1,(IntKind.wrap .i64 (x.2.2.2+1))))
 else none
 else none)
 else none)
 else none
 else
 k (.inr (.inr (x.1,x.2.1,x.2.2.1,x.2.2.2)))
instance n30n_bp0 (x:q16T):ParC (vjm x):=by unfold vjm;(try dsimp only);infer_instance
def v5d (a0:(List vaa))(a1:Int)(k:Int→Option Res):Option Res:=
 vac vjm Fuel (a0,a1,0,0) (Sum.elim (fun z1=>
 k z1.2.2.1) (fun z2=>
 k z2.2.1))
def vtn:=shut v5d
theorem v7l:vtn=v5d:=vae _
instance n30n_p (a0:(List vaa))(a1:Int):ParC (vtn a0 a1):=by rw [v7l];unfold v5d;(try dsimp only);infer_instance
def vjz (x:q2T)(k:q2T⊕(q2T⊕q2T)→Option Res):Option Res:=
 bif (decide (x.2.2.2<(x.1.length:Int)))then
 if 0≤x.2.2.2∧x.2.2.2<(x.1.length:Int)then
 vb2 x.2.1 (fun y3=>
 bif (!(vbm ((rd (Ty.zero tRange) x.1 x.2.2.2).1) y3))then
 k (.inr (.inl (x.1,x.2.1,(-1:Int),x.2.2.2)))
 else
 if 0≤x.2.2.2∧x.2.2.2<(x.1.length:Int)then
 vb2 (IntKind.wrap .i64 (x.2.1+1)) (fun y4=>
 bif (!(vbm ((rd (Ty.zero tRange) x.1 x.2.2.2).2) y4))then
 k (.inr (.inl (x.1,(IntKind.wrap .i64 (x.2.1+1)),(-1:Int),x.2.2.2)))
 else
 k (.inl (x.1,(IntKind.wrap .i64 ((IntKind.wrap .i64 (x.2.1+1))+1)),x.2.2.1,(IntKind.wrap .i64 (x.2.2.2+1)))))
 else none)
 else none
 else
 k (.inr (.inr (x.1,x.2.1,x.2.2.1,x.2.2.2)))
instance n28n_bp0 (x:q2T):ParC (vjz x):=by unfold vjz;(try dsimp only);infer_instance
def v38 (a0:(List vam))(a1:Int)(k:Int→Option Res):Option Res:=
 vac vjz Fuel (a0,a1,0,0) (Sum.elim (fun z1=>
 k z1.2.2.1) (fun z2=>
 k z2.2.1))
def vqg:=shut v38
theorem wbt:vqg=v38:=vae _
instance n28n_p (a0:(List vam))(a1:Int):ParC (vqg a0 a1):=by rw [wbt];unfold v38;(try dsimp only);infer_instance
def vka (x:q19T)(k:q19T⊕(q19T⊕q19T)→Option Res):Option Res:=
 let t0:=(IntKind.wrap .i64 (x.2.1+(1:Int)))
 bif (decide (x.2.2.2<(x.1.length:Int)))then
 if 0≤x.2.2.2∧x.2.2.2<(x.1.length:Int)then
 vb2 x.2.1 (fun y3=>
 bif (!(vbm ((rd (Ty.zero tWrite) x.1 x.2.2.2).1) y3))then
 k (.inr (.inl (x.1,x.2.1,(-1:Int),x.2.2.2)))
 else
 if 0≤x.2.2.2∧x.2.2.2<(x.1.length:Int)then
 vb2 t0 (fun y4=>
 bif (!(vbm ((rd (Ty.zero tWrite) x.1 x.2.2.2).2.1) y4))then
 k (.inr (.inl (x.1,t0,(-1:Int),x.2.2.2)))
 else
 if 0≤x.2.2.2∧x.2.2.2<(x.1.length:Int)then
 bif (!((rd (Ty.zero tWrite) x.1 x.2.2.2).2.2==(((IntKind.wrap .i64 (t0+1)).tmod (3:Int))==(0:Int))))then
 k (.inr (.inl (x.1,(IntKind.wrap .i64 (t0+1)),(-1:Int),x.2.2.2)))
 else
 k (.inl (x.1,(IntKind.wrap .i64 ((IntKind.wrap .i64 (t0+1))+1)),x.2.2.1,(IntKind.wrap .i64 (x.2.2.2+1))))
 else none)
 else none)
 else none
 else
 k (.inr (.inr (x.1,x.2.1,x.2.2.1,x.2.2.2)))
instance n31n_bp0 (x:q19T):ParC (vka x):=by unfold vka;(try dsimp only);infer_instance
def v4g (a0:(List val))(a1:Int)(k:Int→Option Res):Option Res:=
 vac vka Fuel (a0,a1,0,0) (Sum.elim (fun z1=>
 k z1.2.2.1) (fun z2=>
 k z2.2.1))
def vpz:=shut v4g
theorem v81:vpz=v4g:=vae _
instance n31n_p (a0:(List val))(a1:Int):ParC (vpz a0 a1):=by rw [v81];unfold v4g;(try dsimp only);infer_instance
def vim (x:q7T)(k:q7T⊕(q7T⊕q7T)→Option Res):Option Res:=
 let t0:=(IntKind.wrap .i64 ((IntKind.wrap .i64 (x.2.1+(1:Int)))+(1:Int)))
 let t1:=(rd (Ty.zero tTxn) x.1 x.2.2.2)
 bif (decide (x.2.2.2<(x.1.length:Int)))then
 if 0≤x.2.2.2∧x.2.2.2<(x.1.length:Int)then
 bif (t1.1 != x.2.1)then
 k (.inr (.inl (x.1,x.2.1,(-1:Int),x.2.2.2)))
 else
 if 0≤x.2.2.2∧x.2.2.2<(x.1.length:Int)then
 bif (t1.2.1 != (IntKind.wrap .i64 (x.2.1+1)))then
 k (.inr (.inl (x.1,(IntKind.wrap .i64 (x.2.1+1)),(-1:Int),x.2.2.2)))
 else
 if 0≤x.2.2.2∧x.2.2.2<(x.1.length:Int)then
 bif (t1.2.2.1 != t0)then
 k (.inr (.inl (x.1,t0,(-1:Int),x.2.2.2)))
 else
 if 0≤x.2.2.2∧x.2.2.2<(x.1.length:Int)then
 bif (t1.2.2.2.1 != (IntKind.wrap .i64 (t0+1)))then
 k (.inr (.inl (x.1,(IntKind.wrap .i64 (t0+1)),(-1:Int),x.2.2.2)))
 else
 if 0≤x.2.2.2∧x.2.2.2<(x.1.length:Int)then
 vqg (t1.2.2.2.2.1) (IntKind.wrap .i64 ((IntKind.wrap .i64 (t0+1))+1)) (fun y3=>
 bif (decide (y3<0))then
 k (.inr (.inl (x.1,y3,(-1:Int),x.2.2.2)))
 else
 if 0≤x.2.2.2∧x.2.2.2<(x.1.length:Int)then
 vpz (t1.2.2.2.2.2.1) y3 (fun y4=>
 bif (decide (y4<0))then
 k (.inr (.inl (x.1,y4,(-1:Int),x.2.2.2)))
 else
 if 0≤x.2.2.2∧x.2.2.2<(x.1.length:Int)then
 bif (!(t1.2.2.2.2.2.2.1==((y4.tmod (3:Int))==(0:Int))))then
 k (.inr (.inl (x.1,y4,(-1:Int),x.2.2.2)))
 else
 if 0≤x.2.2.2∧x.2.2.2<(x.1.length:Int)then
 vb2 (IntKind.wrap .i64 (y4+1)) (fun y5=>
 bif (!(vbm (t1.2.2.2.2.2.2.2) y5))then
 k (.inr (.inl (x.1,(IntKind.wrap .i64 (y4+1)),(-1:Int),x.2.2.2)))
 else
 k (.inl (x.1,(IntKind.wrap .i64 ((IntKind.wrap .i64 (y4+1))+1)),x.2.2.1,(IntKind.wrap .i64 (x.2.2.2+1)))))
 else none
 else none)
 else none)
 else none
 else none
 else none
 else none
 else none
 else
 k (.inr (.inr (x.1,x.2.1,x.2.2.1,x.2.2.2)))
instance n29n_bp0 (x:q7T):ParC (vim x):=by unfold vim;(try dsimp only);exact⟨(var (vca (var (vah _) (vca (var (vah _) (vca (var (vah _) (vca (var (vah _) (vca ((n28n_p _ _).p.bind fun y3=>(var (vah _) (vca ((n31n_p _ _).p.bind fun y4=>(var (vah _) (vca (var (vah _) (vca ((n35n_p _).p.bind fun y5=>(var (vah _) (vah _))) vba)) vba))) vba))) vba)) vba)) vba)) vba)) vba) (vah _))⟩
def v5h (a0:(List dTxn))(a1:Int)(k:Int→Option Res):Option Res:=
 vac vim Fuel (a0,a1,0,0) (Sum.elim (fun z1=>
 k z1.2.2.1) (fun z2=>
 k z2.2.1))
def voh:=shut v5h
theorem v8e:voh=v5h:=vae _
instance n29n_p (a0:(List dTxn))(a1:Int):ParC (voh a0 a1):=by rw [v8e];unfold v5h;(try dsimp only);infer_instance
def v5n (a0:vc9)(a1:Int)(k:Int→Option Res):Option Res:=
 vtn a0.1 a1 (fun y1=>
 bif (decide (y1<0))then
 k (-1:Int)
 else
 voh a0.2.1 y1 (fun y2=>
 bif (decide (y2<0))then
 k (-1:Int)
 else
 voh a0.2.2.1 y2 (fun y3=>
 bif (decide (y3<0))then
 k (-1:Int)
 else
 k y3)))
def vz6:=shut v5n
theorem v8n:vz6=v5n:=vae _
instance n26n_p (a0:vc9)(a1:Int):ParC (vz6 a0 a1):=by rw [v8n];unfold v5n;(try dsimp only);infer_instance
def v3r (a0:va7)(a1:Int)(k:Int→Option Res):Option Res:=
 vz6 a0.1 a1 (fun y1=>
 bif (decide (y1<0))then
 k (-1:Int)
 else
 voh a0.2 y1 (fun y2=>
 bif (decide (y2<0))then
 k (-1:Int)
 else
 k y2))
def vm1:=shut v3r
theorem v95:vm1=v3r:=vae _
instance n27n_p (a0:va7)(a1:Int):ParC (vm1 a0 a1):=by rw [v95];unfold v3r;(try dsimp only);infer_instance
def vb9 (x:q21T)(k:q21T→Option Res):Option Res:=
 vm1 ((x.2.2.2.2.1,(x.2.2.2.2.2.1,(x.2.2.2.2.2.2.1,(x.2.2.1,x.2.2.2.1)))),x.2.2.2.2.2.2.2) (1:Int) (fun y47=>
 bif (decide (y47<0))then
 k (false,x.2.1,x.2.2.1,x.2.2.2.1,x.2.2.2.2.1,x.2.2.2.2.2.1,x.2.2.2.2.2.2.1,x.2.2.2.2.2.2.2)
 else
 bif (y47 != x.2.1)then
 k (false,x.2.1,x.2.2.1,x.2.2.2.1,x.2.2.2.2.1,x.2.2.2.2.2.1,x.2.2.2.2.2.2.1,x.2.2.2.2.2.2.2)
 else
 k (true,x.2.1,x.2.2.1,x.2.2.2.1,x.2.2.2.2.1,x.2.2.2.2.2.1,x.2.2.2.2.2.2.1,x.2.2.2.2.2.2.2))
instance n15n_jp5000027 (x:q21T):ParC (vb9 x):=by unfold vb9;(try dsimp only);infer_instance
def vbr (x:(q28T⊕q27T))(k:(q28T⊕(q27T⊕q20T))→Option Res):Option Res:=
 (Sum.elim (fun x=>
 let xh:=x.2.2.2.2.2.2.2.2
 let xhh:=xh.2.2.2.2.2.2.2.2
 vmi xh.2.2.2.1 xh.2.2.2.2.1 (1:Int) xhh.2.1 xhh.2.2.1 xhh.2.2.2.1 xhh.2.2.2.2 (fun y35=>
 vm1 ((y35.2.1,(y35.2.2.1,(y35.2.2.2.1,(xh.2.2.2.1,xh.2.2.2.2.1)))),y35.2.2.2.2) (1:Int) (fun y36=>
 bif (decide (y36<0))then
 k (.inl (x.1,false,x.2.2.1,x.2.2.2.1,x.2.2.2.2.1,x.2.2.2.2.2.1,x.2.2.2.2.2.2.1,x.2.2.2.2.2.2.2.1,xh.1,xh.2.1,xh.2.2.1,xh.2.2.2.1,xh.2.2.2.2.1,xh.2.2.2.2.2.1,xh.2.2.2.2.2.2.1,xh.2.2.2.2.2.2.2.1,xhh.1,y35.2.1,y35.2.2.1,y35.2.2.2.1,y35.2.2.2.2))
 else
 bif (y36 != y35.1)then
 k (.inl (x.1,false,x.2.2.1,x.2.2.2.1,x.2.2.2.2.1,x.2.2.2.2.2.1,x.2.2.2.2.2.2.1,x.2.2.2.2.2.2.2.1,xh.1,xh.2.1,xh.2.2.1,xh.2.2.2.1,xh.2.2.2.2.1,xh.2.2.2.2.2.1,xh.2.2.2.2.2.2.1,xh.2.2.2.2.2.2.2.1,xhh.1,y35.2.1,y35.2.2.1,y35.2.2.2.1,y35.2.2.2.2))
 else
 vfc ((x.2.2.2.1,(x.2.2.2.2.1,(x.2.2.2.2.2.1,(x.2.2.2.2.2.2.1,x.2.2.2.2.2.2.2.1)))),xh.1) (fun y37=>
 vj9 ((y37.2.2.1,(y37.2.2.2.1,(y37.2.2.2.2.1,(y37.1,y37.2.1)))),y37.2.2.2.2.2) x.1 (fun y38=>
 vd1 ((y38.2.2.2.1,(y38.2.2.2.2.1,(y38.2.2.2.2.2.1,(y38.1,y38.2.1)))),y38.2.2.2.2.2.2) ((xh.2.2.2.2.2.1,(xh.2.2.2.2.2.2.1,(xh.2.2.2.2.2.2.2.1,(xh.2.1,xh.2.2.1)))),xhh.1) (fun y39=>
 bif (!y39)then
 k (.inl (x.1,false,x.2.2.1,x.2.2.2.1,x.2.2.2.2.1,x.2.2.2.2.2.1,x.2.2.2.2.2.2.1,x.2.2.2.2.2.2.2.1,xh.1,xh.2.1,xh.2.2.1,xh.2.2.2.1,xh.2.2.2.2.1,xh.2.2.2.2.2.1,xh.2.2.2.2.2.2.1,xh.2.2.2.2.2.2.2.1,xhh.1,y35.2.1,y35.2.2.1,y35.2.2.2.1,y35.2.2.2.2))
 else
 bif (y38.2.2.1 != x.2.2.1)then
 k (.inl (x.1,false,x.2.2.1,x.2.2.2.1,x.2.2.2.2.1,x.2.2.2.2.2.1,x.2.2.2.2.2.2.1,x.2.2.2.2.2.2.2.1,xh.1,xh.2.1,xh.2.2.1,xh.2.2.2.1,xh.2.2.2.2.1,xh.2.2.2.2.2.1,xh.2.2.2.2.2.2.1,xh.2.2.2.2.2.2.2.1,xhh.1,y35.2.1,y35.2.2.1,y35.2.2.2.1,y35.2.2.2.2))
 else
 vb9 (x.2.1,y35.1,xh.2.2.2.1,xh.2.2.2.2.1,y35.2.1,y35.2.2.1,y35.2.2.2.1,y35.2.2.2.2) (fun z40=>
 k (.inr (.inr (z40.1,z40.2.2.1,z40.2.2.2.1,z40.2.2.2.2.1,z40.2.2.2.2.2.1,z40.2.2.2.2.2.2.1,z40.2.2.2.2.2.2.2)))))))))) (fun x=>
 let xh:=x.2.2.2.2.2.2.2.2
 let xhh:=xh.2.2.2.2.2.2.2.2
 vmi xh.2.2.2.2.1 xh.2.2.2.2.2.1 (1:Int) xhh.2.1 xhh.2.2.1 xhh.2.2.2.1 xhh.2.2.2.2 (fun y41=>
 vm1 ((y41.2.1,(y41.2.2.1,(y41.2.2.2.1,(xh.2.2.2.2.1,xh.2.2.2.2.2.1)))),y41.2.2.2.2) (1:Int) (fun y42=>
 bif (decide (y42<0))then
 k (.inr (.inl (x.1,false,x.2.2.1,x.2.2.2.1,x.2.2.2.2.1,x.2.2.2.2.2.1,x.2.2.2.2.2.2.1,x.2.2.2.2.2.2.2.1,xh.1,xh.2.1,xh.2.2.1,xh.2.2.2.1,xh.2.2.2.2.1,xh.2.2.2.2.2.1,xh.2.2.2.2.2.2.1,xh.2.2.2.2.2.2.2.1,xhh.1,y41.2.1,y41.2.2.1,y41.2.2.2.1,y41.2.2.2.2)))
 else
 bif (y42 != y41.1)then
 k (.inr (.inl (x.1,false,x.2.2.1,x.2.2.2.1,x.2.2.2.2.1,x.2.2.2.2.2.1,x.2.2.2.2.2.2.1,x.2.2.2.2.2.2.2.1,xh.1,xh.2.1,xh.2.2.1,xh.2.2.2.1,xh.2.2.2.2.1,xh.2.2.2.2.2.1,xh.2.2.2.2.2.2.1,xh.2.2.2.2.2.2.2.1,xhh.1,y41.2.1,y41.2.2.1,y41.2.2.2.1,y41.2.2.2.2)))
 else
 vfc ((x.2.2.2.1,(x.2.2.2.2.1,(x.2.2.2.2.2.1,(x.2.2.2.2.2.2.1,x.2.2.2.2.2.2.2.1)))),xh.1) (fun y43=>
 vj9 ((y43.2.2.1,(y43.2.2.2.1,(y43.2.2.2.2.1,(y43.1,y43.2.1)))),y43.2.2.2.2.2) x.1 (fun y44=>
 vd1 ((y44.2.2.2.1,(y44.2.2.2.2.1,(y44.2.2.2.2.2.1,(y44.1,y44.2.1)))),y44.2.2.2.2.2.2) ((xh.2.2.2.2.2.2.1,(xh.2.2.2.2.2.2.2.1,(xhh.1,(xh.2.1,xh.2.2.1)))),xh.2.2.2.1) (fun y45=>
 bif (!y45)then
 k (.inr (.inl (x.1,false,x.2.2.1,x.2.2.2.1,x.2.2.2.2.1,x.2.2.2.2.2.1,x.2.2.2.2.2.2.1,x.2.2.2.2.2.2.2.1,xh.1,xh.2.1,xh.2.2.1,xh.2.2.2.1,xh.2.2.2.2.1,xh.2.2.2.2.2.1,xh.2.2.2.2.2.2.1,xh.2.2.2.2.2.2.2.1,xhh.1,y41.2.1,y41.2.2.1,y41.2.2.2.1,y41.2.2.2.2)))
 else
 bif (y44.2.2.1 != x.2.2.1)then
 k (.inr (.inl (x.1,false,x.2.2.1,x.2.2.2.1,x.2.2.2.2.1,x.2.2.2.2.2.1,x.2.2.2.2.2.2.1,x.2.2.2.2.2.2.2.1,xh.1,xh.2.1,xh.2.2.1,xh.2.2.2.1,xh.2.2.2.2.1,xh.2.2.2.2.2.1,xh.2.2.2.2.2.2.1,xh.2.2.2.2.2.2.2.1,xhh.1,y41.2.1,y41.2.2.1,y41.2.2.2.1,y41.2.2.2.2)))
 else
 vb9 (x.2.1,y41.1,xh.2.2.2.2.1,xh.2.2.2.2.2.1,y41.2.1,y41.2.2.1,y41.2.2.2.1,y41.2.2.2.2) (fun z46=>
 k (.inr (.inr (z46.1,z46.2.2.1,z46.2.2.2.1,z46.2.2.2.2.1,z46.2.2.2.2.2.1,z46.2.2.2.2.2.2.1,z46.2.2.2.2.2.2.2))))))))))) x
instance n15n_jp5000016 (x:(q28T⊕q27T)):ParC (vbr x):=by
 unfold vbr
 rcases x with x|x
 ·simp only [Sum.elim_inl]
  exact⟨((n33n_p _ _ _ _ _ _ _).p.bind fun y35=>((n27n_p _ _).p.bind fun y36=>(var (vah _) (var (vah _) ((n50n_p _).p.bind fun y37=>((n00n_p _ _).p.bind fun y38=>((n17n_p _ _).p.bind fun y39=>(var (vah _) (var (vah _) ((n15n_jp5000027 _).p.bind fun z40=>(vah _)))))))))))⟩
 ·simp only [Sum.elim_inr]
  (try dsimp only)
  exact⟨((n33n_p _ _ _ _ _ _ _).p.bind fun y41=>((n27n_p _ _).p.bind fun y42=>(var (vah _) (var (vah _) ((n50n_p _).p.bind fun y43=>((n00n_p _ _).p.bind fun y44=>((n17n_p _ _).p.bind fun y45=>(var (vah _) (var (vah _) ((n15n_jp5000027 _).p.bind fun z46=>(vah _)))))))))))⟩
def vbf (x:(q30T⊕q29T))(k:(q30T⊕(q29T⊕(q28T⊕(q27T⊕q20T))))→Option Res):Option Res:=
 (Sum.elim (fun x=>
 let xh:=x.2.2.2.2.2.2.2.2
 let xhh:=xh.2.2.2.2.2.2.2.2
 let xhhh:=xhh.2.2.2.2.2.2.2.2
 vfc ((x.2.2.2.2.1,(x.2.2.2.2.2.1,(x.2.2.2.2.2.2.1,(x.2.2.2.2.2.2.2.1,xh.1)))),xh.2.1) (fun y21=>
 vd1 ((xhh.2.2.2.2.1,(xhh.2.2.2.2.2.1,(xhh.2.2.2.2.2.2.1,(xh.2.2.2.2.1,xh.2.2.2.2.2.1)))),xhh.2.2.2.2.2.2.2.1) ((y21.2.2.1,(y21.2.2.2.1,(y21.2.2.2.2.1,(y21.1,y21.2.1)))),y21.2.2.2.2.2) (fun y22=>
 bif (!y22)then
 k (.inl (x.1,false,x.2.2.1,x.2.2.2.1,x.2.2.2.2.1,x.2.2.2.2.2.1,x.2.2.2.2.2.2.1,x.2.2.2.2.2.2.2.1,xh.1,xh.2.1,xh.2.2.1,xh.2.2.2.1,xh.2.2.2.2.1,xh.2.2.2.2.2.1,xh.2.2.2.2.2.2.1,xh.2.2.2.2.2.2.2.1,xhh.1,xhh.2.1,xhh.2.2.1,xhh.2.2.2.1,xhh.2.2.2.2.1,xhh.2.2.2.2.2.1,xhh.2.2.2.2.2.2.1,xhh.2.2.2.2.2.2.2.1,xhhh.1,xhhh.2.1,xhhh.2.2.1,xhhh.2.2.2))
 else
 vmi xh.2.2.2.2.1 xh.2.2.2.2.2.1 (1:Int) xhh.2.2.2.2.1 xhh.2.2.2.2.2.1 xhh.2.2.2.2.2.2.1 xhh.2.2.2.2.2.2.2.1 (fun y23=>
 bif (decide (y23.1<0))then
 k (.inl (x.1,false,x.2.2.1,x.2.2.2.1,x.2.2.2.2.1,x.2.2.2.2.2.1,x.2.2.2.2.2.2.1,x.2.2.2.2.2.2.2.1,xh.1,xh.2.1,xh.2.2.1,xh.2.2.2.1,xh.2.2.2.2.1,xh.2.2.2.2.2.1,xh.2.2.2.2.2.2.1,xh.2.2.2.2.2.2.2.1,xhh.1,xhh.2.1,xhh.2.2.1,xhh.2.2.2.1,y23.2.1,y23.2.2.1,y23.2.2.2.1,y23.2.2.2.2,xhhh.1,xhhh.2.1,xhhh.2.2.1,xhhh.2.2.2))
 else
 vd1 ((xhhh.1,(xhhh.2.1,(xhhh.2.2.1,(xh.2.2.2.2.2.2.1,xh.2.2.2.2.2.2.2.1)))),xhhh.2.2.2) ((xhh.1,(xhh.2.1,(xhh.2.2.1,(xh.2.2.1,xh.2.2.2.1)))),xhh.2.2.2.1) (fun y24=>
 bif (!y24)then
 k (.inl (x.1,false,x.2.2.1,x.2.2.2.1,x.2.2.2.2.1,x.2.2.2.2.2.1,x.2.2.2.2.2.2.1,x.2.2.2.2.2.2.2.1,xh.1,xh.2.1,xh.2.2.1,xh.2.2.2.1,xh.2.2.2.2.1,xh.2.2.2.2.2.1,xh.2.2.2.2.2.2.1,xh.2.2.2.2.2.2.2.1,xhh.1,xhh.2.1,xhh.2.2.1,xhh.2.2.2.1,y23.2.1,y23.2.2.1,y23.2.2.2.1,y23.2.2.2.2,xhhh.1,xhhh.2.1,xhhh.2.2.1,xhhh.2.2.2))
 else
 bif (x.2.2.2.1 != x.2.2.1)then
 k (.inl (x.1,false,x.2.2.1,x.2.2.2.1,x.2.2.2.2.1,x.2.2.2.2.2.1,x.2.2.2.2.2.2.1,x.2.2.2.2.2.2.2.1,xh.1,xh.2.1,xh.2.2.1,xh.2.2.2.1,xh.2.2.2.2.1,xh.2.2.2.2.2.1,xh.2.2.2.2.2.2.1,xh.2.2.2.2.2.2.2.1,xhh.1,xhh.2.1,xhh.2.2.1,xhh.2.2.2.1,y23.2.1,y23.2.2.1,y23.2.2.2.1,y23.2.2.2.2,xhhh.1,xhhh.2.1,xhhh.2.2.1,xhhh.2.2.2))
 else
 vbr (.inl (x.1,x.2.1,x.2.2.1,x.2.2.2.2.1,x.2.2.2.2.2.1,x.2.2.2.2.2.2.1,x.2.2.2.2.2.2.2.1,xh.1,xh.2.1,xh.2.2.1,xh.2.2.2.1,xh.2.2.2.2.2.2.1,xh.2.2.2.2.2.2.2.1,xhh.1,xhh.2.1,xhh.2.2.1,xhh.2.2.2.1,xhhh.1,xhhh.2.1,xhhh.2.2.1,xhhh.2.2.2)) (Sum.elim (fun z25=>
 let z25h:=z25.2.2.2.2.2.2.2.2
 let z25hh:=z25h.2.2.2.2.2.2.2.2
 k (.inr (.inr (.inl (z25.1,z25.2.1,z25.2.2.1,z25.2.2.2.1,z25.2.2.2.2.1,z25.2.2.2.2.2.1,z25.2.2.2.2.2.2.1,z25.2.2.2.2.2.2.2.1,z25h.1,z25h.2.1,z25h.2.2.1,z25h.2.2.2.1,z25h.2.2.2.2.1,z25h.2.2.2.2.2.1,z25h.2.2.2.2.2.2.1,z25h.2.2.2.2.2.2.2.1,z25hh.1,z25hh.2.1,z25hh.2.2.1,z25hh.2.2.2.1,z25hh.2.2.2.2))))) (Sum.elim (fun z26=>
 let z26h:=z26.2.2.2.2.2.2.2.2
 let z26hh:=z26h.2.2.2.2.2.2.2.2
 k (.inr (.inr (.inr (.inl (z26.1,z26.2.1,z26.2.2.1,z26.2.2.2.1,z26.2.2.2.2.1,z26.2.2.2.2.2.1,z26.2.2.2.2.2.2.1,z26.2.2.2.2.2.2.2.1,z26h.1,z26h.2.1,z26h.2.2.1,z26h.2.2.2.1,z26h.2.2.2.2.1,z26h.2.2.2.2.2.1,z26h.2.2.2.2.2.2.1,z26h.2.2.2.2.2.2.2.1,z26hh.1,z26hh.2.1,z26hh.2.2.1,z26hh.2.2.2.1,z26hh.2.2.2.2)))))) (fun z27=>
 k (.inr (.inr (.inr (.inr (z27.1,z27.2.1,z27.2.2.1,z27.2.2.2.1,z27.2.2.2.2.1,z27.2.2.2.2.2.1,z27.2.2.2.2.2.2))))))))))))) (fun x=>
 let xh:=x.2.2.2.2.2.2.2.2
 let xhh:=xh.2.2.2.2.2.2.2.2
 let xhhh:=xhh.2.2.2.2.2.2.2.2
 vfc ((x.2.2.2.2.1,(x.2.2.2.2.2.1,(x.2.2.2.2.2.2.1,(x.2.2.2.2.2.2.2.1,xh.1)))),xh.2.1) (fun y28=>
 vd1 ((xhh.2.2.2.2.1,(xhh.2.2.2.2.2.1,(xhh.2.2.2.2.2.2.1,(xh.2.2.2.2.2.1,xh.2.2.2.2.2.2.1)))),xhh.2.2.2.2.2.2.2.1) ((y28.2.2.1,(y28.2.2.2.1,(y28.2.2.2.2.1,(y28.1,y28.2.1)))),y28.2.2.2.2.2) (fun y29=>
 bif (!y29)then
 k (.inr (.inl (x.1,false,x.2.2.1,x.2.2.2.1,x.2.2.2.2.1,x.2.2.2.2.2.1,x.2.2.2.2.2.2.1,x.2.2.2.2.2.2.2.1,xh.1,xh.2.1,xh.2.2.1,xh.2.2.2.1,xh.2.2.2.2.1,xh.2.2.2.2.2.1,xh.2.2.2.2.2.2.1,xh.2.2.2.2.2.2.2.1,xhh.1,xhh.2.1,xhh.2.2.1,xhh.2.2.2.1,xhh.2.2.2.2.1,xhh.2.2.2.2.2.1,xhh.2.2.2.2.2.2.1,xhh.2.2.2.2.2.2.2.1,xhhh.1,xhhh.2.1,xhhh.2.2.1,xhhh.2.2.2)))
 else
 vmi xh.2.2.2.2.2.1 xh.2.2.2.2.2.2.1 (1:Int) xhh.2.2.2.2.1 xhh.2.2.2.2.2.1 xhh.2.2.2.2.2.2.1 xhh.2.2.2.2.2.2.2.1 (fun y30=>
 bif (decide (y30.1<0))then
 k (.inr (.inl (x.1,false,x.2.2.1,x.2.2.2.1,x.2.2.2.2.1,x.2.2.2.2.2.1,x.2.2.2.2.2.2.1,x.2.2.2.2.2.2.2.1,xh.1,xh.2.1,xh.2.2.1,xh.2.2.2.1,xh.2.2.2.2.1,xh.2.2.2.2.2.1,xh.2.2.2.2.2.2.1,xh.2.2.2.2.2.2.2.1,xhh.1,xhh.2.1,xhh.2.2.1,xhh.2.2.2.1,y30.2.1,y30.2.2.1,y30.2.2.2.1,y30.2.2.2.2,xhhh.1,xhhh.2.1,xhhh.2.2.1,xhhh.2.2.2)))
 else
 vd1 ((xhhh.1,(xhhh.2.1,(xhhh.2.2.1,(xh.2.2.2.2.2.2.2.1,xhh.1)))),xhhh.2.2.2) ((xhh.2.1,(xhh.2.2.1,(xhh.2.2.2.1,(xh.2.2.1,xh.2.2.2.1)))),xh.2.2.2.2.1) (fun y31=>
 bif (!y31)then
 k (.inr (.inl (x.1,false,x.2.2.1,x.2.2.2.1,x.2.2.2.2.1,x.2.2.2.2.2.1,x.2.2.2.2.2.2.1,x.2.2.2.2.2.2.2.1,xh.1,xh.2.1,xh.2.2.1,xh.2.2.2.1,xh.2.2.2.2.1,xh.2.2.2.2.2.1,xh.2.2.2.2.2.2.1,xh.2.2.2.2.2.2.2.1,xhh.1,xhh.2.1,xhh.2.2.1,xhh.2.2.2.1,y30.2.1,y30.2.2.1,y30.2.2.2.1,y30.2.2.2.2,xhhh.1,xhhh.2.1,xhhh.2.2.1,xhhh.2.2.2)))
 else
 bif (x.2.2.2.1 != x.2.2.1)then
 k (.inr (.inl (x.1,false,x.2.2.1,x.2.2.2.1,x.2.2.2.2.1,x.2.2.2.2.2.1,x.2.2.2.2.2.2.1,x.2.2.2.2.2.2.2.1,xh.1,xh.2.1,xh.2.2.1,xh.2.2.2.1,xh.2.2.2.2.1,xh.2.2.2.2.2.1,xh.2.2.2.2.2.2.1,xh.2.2.2.2.2.2.2.1,xhh.1,xhh.2.1,xhh.2.2.1,xhh.2.2.2.1,y30.2.1,y30.2.2.1,y30.2.2.2.1,y30.2.2.2.2,xhhh.1,xhhh.2.1,xhhh.2.2.1,xhhh.2.2.2)))
 else
 vbr (.inr (x.1,x.2.1,x.2.2.1,x.2.2.2.2.1,x.2.2.2.2.2.1,x.2.2.2.2.2.2.1,x.2.2.2.2.2.2.2.1,xh.1,xh.2.1,xh.2.2.1,xh.2.2.2.1,xh.2.2.2.2.1,xh.2.2.2.2.2.2.2.1,xhh.1,xhh.2.1,xhh.2.2.1,xhh.2.2.2.1,xhhh.1,xhhh.2.1,xhhh.2.2.1,xhhh.2.2.2)) (Sum.elim (fun z32=>
 let z32h:=z32.2.2.2.2.2.2.2.2
 let z32hh:=z32h.2.2.2.2.2.2.2.2
 k (.inr (.inr (.inl (z32.1,z32.2.1,z32.2.2.1,z32.2.2.2.1,z32.2.2.2.2.1,z32.2.2.2.2.2.1,z32.2.2.2.2.2.2.1,z32.2.2.2.2.2.2.2.1,z32h.1,z32h.2.1,z32h.2.2.1,z32h.2.2.2.1,z32h.2.2.2.2.1,z32h.2.2.2.2.2.1,z32h.2.2.2.2.2.2.1,z32h.2.2.2.2.2.2.2.1,z32hh.1,z32hh.2.1,z32hh.2.2.1,z32hh.2.2.2.1,z32hh.2.2.2.2))))) (Sum.elim (fun z33=>
 let z33h:=z33.2.2.2.2.2.2.2.2
 let z33hh:=z33h.2.2.2.2.2.2.2.2
 k (.inr (.inr (.inr (.inl (z33.1,z33.2.1,z33.2.2.1,z33.2.2.2.1,z33.2.2.2.2.1,z33.2.2.2.2.2.1,z33.2.2.2.2.2.2.1,z33.2.2.2.2.2.2.2.1,z33h.1,z33h.2.1,z33h.2.2.1,z33h.2.2.2.1,z33h.2.2.2.2.1,z33h.2.2.2.2.2.1,z33h.2.2.2.2.2.2.1,z33h.2.2.2.2.2.2.2.1,z33hh.1,z33hh.2.1,z33hh.2.2.1,z33hh.2.2.2.1,z33hh.2.2.2.2)))))) (fun z34=>
 k (.inr (.inr (.inr (.inr (z34.1,z34.2.1,z34.2.2.1,z34.2.2.2.1,z34.2.2.2.2.1,z34.2.2.2.2.2.1,z34.2.2.2.2.2.2)))))))))))))) x
instance n15n_jp5000010 (x:(q30T⊕q29T)):ParC (vbf x):=by
 unfold vbf
 rcases x with x|x
 ·simp only [Sum.elim_inl]
  exact⟨((n50n_p _).p.bind fun y21=>((n17n_p _ _).p.bind fun y22=>(var (vah _) ((n33n_p _ _ _ _ _ _ _).p.bind fun y23=>(var (vah _) ((n17n_p _ _).p.bind fun y24=>(var (vah _) (var (vah _) ((n15n_jp5000016 _).p.bind2 (fun z25=>(vah _)) (fun q=>vel (fun z26=>(vah _)) (fun z27=>(vah _)) q))))))))))⟩
 ·simp only [Sum.elim_inr]
  (try dsimp only)
  exact⟨((n50n_p _).p.bind fun y28=>((n17n_p _ _).p.bind fun y29=>(var (vah _) ((n33n_p _ _ _ _ _ _ _).p.bind fun y30=>(var (vah _) ((n17n_p _ _).p.bind fun y31=>(var (vah _) (var (vah _) ((n15n_jp5000016 _).p.bind2 (fun z32=>(vah _)) (fun q=>vel (fun z33=>(vah _)) (fun z34=>(vah _)) q))))))))))⟩
def v39 (a0:va7)(a1:Int)(k:Bool→Option Res):Option Res:=
 vvz a0 (1048576:Int) (fun y1=>
 bif (decide (y1<0))then
 k true
 else
 vfc a0 (fun y2=>
 vpt ((y2.2.2.1,(y2.2.2.2.1,(y2.2.2.2.2.1,(y2.1,y2.2.1)))),y2.2.2.2.2.2) a1 (Sum.elim (fun y3=>
 vfc a0 (fun y4=>
 vj9 ((y4.2.2.1,(y4.2.2.2.1,(y4.2.2.2.2.1,(y4.1,y4.2.1)))),y4.2.2.2.2.2) a1 (fun y5=>
 vd1 ((y5.2.2.2.1,(y5.2.2.2.2.1,(y5.2.2.2.2.2.1,(y5.1,y5.2.1)))),y5.2.2.2.2.2.2) ((y3.2.2.2.1,(y3.2.2.2.2.1,(y3.2.2.2.2.2.1,(y3.1,y3.2.1)))),y3.2.2.2.2.2.2) (fun y6=>
 bif (!y6)then
 k false
 else
 bif (y5.2.2.1 != y3.2.2.1)then
 k false
 else
 vbf (.inl (a1,false,y3.2.2.1,y5.2.2.1,a0.1.1,a0.1.2.1,a0.1.2.2.1,a0.1.2.2.2.1,a0.1.2.2.2.2,a0.2,y3.1,y3.2.1,y4.1,y4.2.1,y5.1,y5.2.1,y3.2.2.2.1,y3.2.2.2.2.1,y3.2.2.2.2.2.1,y3.2.2.2.2.2.2,y4.2.2.1,y4.2.2.2.1,y4.2.2.2.2.1,y4.2.2.2.2.2,y5.2.2.2.1,y5.2.2.2.2.1,y5.2.2.2.2.2.1,y5.2.2.2.2.2.2)) (Sum.elim (fun z7=>
 k z7.2.1) (Sum.elim (fun z8=>
 k z8.2.1) (Sum.elim (fun z9=>
 k z9.2.1) (Sum.elim (fun z10=>
 k z10.2.1) (fun z11=>
 k z11.1))))))))) (fun y12=>
 vfc a0 (fun y13=>
 vj9 ((y13.2.2.1,(y13.2.2.2.1,(y13.2.2.2.2.1,(y13.1,y13.2.1)))),y13.2.2.2.2.2) a1 (fun y14=>
 vd1 ((y14.2.2.2.1,(y14.2.2.2.2.1,(y14.2.2.2.2.2.1,(y14.1,y14.2.1)))),y14.2.2.2.2.2.2) ((y12.2.2.2.2.1,(y12.2.2.2.2.2.1,(y12.2.2.2.2.2.2,(y12.1,y12.2.1)))),y12.2.2.1) (fun y15=>
 bif (!y15)then
 k false
 else
 bif (y14.2.2.1 != y12.2.2.2.1)then
 k false
 else
 vbf (.inr (a1,false,y12.2.2.2.1,y14.2.2.1,a0.1.1,a0.1.2.1,a0.1.2.2.1,a0.1.2.2.2.1,a0.1.2.2.2.2,a0.2,y12.1,y12.2.1,y12.2.2.1,y13.1,y13.2.1,y14.1,y14.2.1,y12.2.2.2.2.1,y12.2.2.2.2.2.1,y12.2.2.2.2.2.2,y13.2.2.1,y13.2.2.2.1,y13.2.2.2.2.1,y13.2.2.2.2.2,y14.2.2.2.1,y14.2.2.2.2.1,y14.2.2.2.2.2.1,y14.2.2.2.2.2.2)) (Sum.elim (fun z16=>
 k z16.2.1) (Sum.elim (fun z17=>
 k z17.2.1) (Sum.elim (fun z18=>
 k z18.2.1) (Sum.elim (fun z19=>
 k z19.2.1) (fun z20=>
 k z20.1))))))))))))
def vzc:=shut v39
theorem wai:vzc=v39:=vae _
instance n15n_p (a0:va7)(a1:Int):ParC (vzc a0 a1):=by rw [wai];unfold v39;(try dsimp only);exact⟨((n40n_p _ _).p.bind fun y1=>(var (vah _) ((n50n_p _).p.bind fun y2=>((n64n_p _ _).p.bind2 (fun y3=>((n50n_p _).p.bind fun y4=>((n00n_p _ _).p.bind fun y5=>((n17n_p _ _).p.bind fun y6=>(var (vah _) (var (vah _) ((n15n_jp5000010 _).p.bind2 (fun z7=>(vah _)) (fun q=>vel (fun z8=>(vah _)) (fun q=>vel (fun z9=>(vah _)) (fun q=>vel (fun z10=>(vah _)) (fun z11=>(vah _)) q) q) q)))))))) (fun y12=>((n50n_p _).p.bind fun y13=>((n00n_p _ _).p.bind fun y14=>((n17n_p _ _).p.bind fun y15=>(var (vah _) (var (vah _) ((n15n_jp5000010 _).p.bind2 (fun z16=>(vah _)) (fun q=>vel (fun z17=>(vah _)) (fun q=>vel (fun z18=>(vah _)) (fun q=>vel (fun z19=>(vah _)) (fun z20=>(vah _)) q) q) q))))))))))))⟩
def wh1 (args:List AV)(st:St)(k:K1):Option Res:=
 vaf [.agg [.str,.str,.bool,.i],.i] [] args st (fun p q=>vve (p.1.1,(p.1.2.1,(p.1.2.2.1,p.1.2.2.2.1))) p.2.1 (fun(y:Int)=>k (.i y) []))
 (none)
def whs (args:List AV)(st:St)(k:K1):Option Res:=
 vaf [.lst tVersion,.i] [] args st (fun p q=>vya p.1 p.2.1 (fun(y:Int)=>k (.i y) []))
 (none)
def wgd (args:List AV)(st:St)(k:K1):Option Res:=
 vaf [.agg [.str,.str],.i] [] args st (fun p q=>vtt (p.1.1,p.1.2.1) p.2.1 (fun(y:Int)=>k (.i y) []))
 (none)
def whn (args:List AV)(st:St)(k:K1):Option Res:=
 vaf [.lst tRange,.i] [] args st (fun p q=>vy7 p.1 p.2.1 (fun(y:Int)=>k (.i y) []))
 (none)
def wgx (args:List AV)(st:St)(k:K1):Option Res:=
 vaf [.agg [.str,.str,.bool],.i] [] args st (fun p q=>vt5 (p.1.1,(p.1.2.1,p.1.2.2.1)) p.2.1 (fun(y:Int)=>k (.i y) []))
 (none)
def wgr (args:List AV)(st:St)(k:K1):Option Res:=
 vaf [.lst tWrite,.i] [] args st (fun p q=>vyn p.1 p.2.1 (fun(y:Int)=>k (.i y) []))
 (none)
def wgs (args:List AV)(st:St)(k:K1):Option Res:=
 vaf [.agg [.i,.i,.i,.i,.lst tRange,.lst tWrite,.bool,.str],.i] [] args st (fun p q=>vvc (p.1.1,(p.1.2.1,(p.1.2.2.1,(p.1.2.2.2.1,(p.1.2.2.2.2.1,(p.1.2.2.2.2.2.1,(p.1.2.2.2.2.2.2.1,p.1.2.2.2.2.2.2.2.1))))))) p.2.1 (fun(y:Int)=>k (.i y) []))
 (none)
def wf1 (args:List AV)(st:St)(k:K1):Option Res:=
 vaf [.lst tTxn,.i] [] args st (fun p q=>vrs p.1 p.2.1 (fun(y:Int)=>k (.i y) []))
 (none)
def wgi (args:List AV)(st:St)(k:K1):Option Res:=
 vaf [.agg [.lst tVersion,.lst tTxn,.lst tTxn,.i,.i],.i] [] args st (fun p q=>vyw (p.1.1,(p.1.2.1,(p.1.2.2.1,(p.1.2.2.2.1,p.1.2.2.2.2.1)))) p.2.1 (fun(y:Int)=>k (.i y) []))
 (none)
def wgh (args:List AV)(st:St)(k:K1):Option Res:=
 vaf [.agg [.lst tVersion,.lst tTxn,.lst tTxn,.i,.i,.lst tTxn],.i] [] args st (fun p q=>vvz ((p.1.1,(p.1.2.1,(p.1.2.2.1,(p.1.2.2.2.1,p.1.2.2.2.2.1)))),p.1.2.2.2.2.2.1) p.2.1 (fun(y:Int)=>k (.i y) []))
 (none)
def whx (args:List AV)(st:St)(k:K1):Option Res:=
 vaf [.agg [.str,.str,.bool,.i]] [] args st (fun p q=>vtx (p.1.1,(p.1.2.1,(p.1.2.2.1,p.1.2.2.2.1))) (fun(y:q22T)=>k (.agg [.str y.1,.str y.2.1,.bool y.2.2.1,.i y.2.2.2]) []))
 (none)
def wgw (args:List AV)(st:St)(k:K1):Option Res:=
 vaf [.lst tVersion] [] args st (fun p q=>vv1 p.1 (fun(y:(List vaa))=>k (.own 0) [.arr tVersion y]))
 (none)
def wg4 (args:List AV)(st:St)(k:K1):Option Res:=
 vaf [.agg [.str,.str]] [] args st (fun p q=>vui (p.1.1,p.1.2.1) (fun(y:(ByteArray×ByteArray))=>k (.agg [.str y.1,.str y.2]) []))
 (none)
def wf6 (args:List AV)(st:St)(k:K1):Option Res:=
 vaf [.lst tRange] [] args st (fun p q=>vtr p.1 (fun(y:(List vam))=>k (.own 0) [.arr tRange y]))
 (none)
def whd (args:List AV)(st:St)(k:K1):Option Res:=
 vaf [.agg [.str,.str,.bool]] [] args st (fun p q=>vvk (p.1.1,(p.1.2.1,p.1.2.2.1)) (fun(y:(ByteArray×ByteArray×Bool))=>k (.agg [.str y.1,.str y.2.1,.bool y.2.2]) []))
 (none)
def wf4 (args:List AV)(st:St)(k:K1):Option Res:=
 vaf [.lst tWrite] [] args st (fun p q=>vu0 p.1 (fun(y:(List val))=>k (.own 0) [.arr tWrite y]))
 (none)
def wgp (args:List AV)(st:St)(k:K1):Option Res:=
 vaf [.agg [.i,.i,.i,.i,.lst tRange,.lst tWrite,.bool,.str]] [] args st (fun p q=>vqz (p.1.1,(p.1.2.1,(p.1.2.2.1,(p.1.2.2.2.1,(p.1.2.2.2.2.1,(p.1.2.2.2.2.2.1,(p.1.2.2.2.2.2.2.1,p.1.2.2.2.2.2.2.2.1))))))) (fun(y:q43T)=>k (.agg [.i y.1,.i y.2.1,.i y.2.2.1,.i y.2.2.2.1,.own 0,.own 1,.bool y.2.2.2.2.1,.str y.2.2.2.2.2.1]) [.arr tRange y.2.2.2.2.2.2.1,.arr tWrite y.2.2.2.2.2.2.2]))
 (none)
def wh3 (args:List AV)(st:St)(k:K1):Option Res:=
 vaf [.lst tTxn] [] args st (fun p q=>vov p.1 (fun(y:(List dTxn))=>k (.own 0) [.dep tTxn y 0 []]))
 (none)
def wgo (args:List AV)(st:St)(k:K1):Option Res:=
 vaf [.agg [.lst tVersion,.lst tTxn,.lst tTxn,.i,.i]] [] args st (fun p q=>vuz (p.1.1,(p.1.2.1,(p.1.2.2.1,(p.1.2.2.2.1,p.1.2.2.2.2.1)))) (fun(y:q35T)=>k (.agg [.own 0,.own 1,.own 2,.i y.1,.i y.2.1]) [.arr tVersion y.2.2.1,.dep tTxn y.2.2.2.1 0 [],.dep tTxn y.2.2.2.2 0 []]))
 (none)
def whr (args:List AV)(st:St)(k:K1):Option Res:=
 vaf [.agg [.lst tVersion,.lst tTxn,.lst tTxn,.i,.i,.lst tTxn]] [] args st (fun p q=>vfc ((p.1.1,(p.1.2.1,(p.1.2.2.1,(p.1.2.2.2.1,p.1.2.2.2.2.1)))),p.1.2.2.2.2.2.1) (fun(y:q33T)=>k (.agg [.own 0,.own 1,.own 2,.i y.1,.i y.2.1,.own 3]) [.arr tVersion y.2.2.1,.dep tTxn y.2.2.2.1 0 [],.dep tTxn y.2.2.2.2.1 0 [],.dep tTxn y.2.2.2.2.2 0 []]))
 (none)
def wgk (args:List AV)(st:St)(k:K1):Option Res:=
 vaf [.agg [.i,.i,.i,.i,.lst tRange,.lst tWrite,.bool,.str]] [] args st (fun p q=>voi (p.1.1,(p.1.2.1,(p.1.2.2.1,(p.1.2.2.2.1,(p.1.2.2.2.2.1,(p.1.2.2.2.2.2.1,(p.1.2.2.2.2.2.2.1,p.1.2.2.2.2.2.2.2.1))))))) (fun(y:q43T)=>k (.agg [.i y.1,.i y.2.1,.i y.2.2.1,.i y.2.2.2.1,.own 0,.own 1,.bool y.2.2.2.2.1,.str y.2.2.2.2.2.1]) [.arr tRange y.2.2.2.2.2.2.1,.arr tWrite y.2.2.2.2.2.2.2]))
 (none)
def wh2 (args:List AV)(st:St)(k:K1):Option Res:=
 vaf [.lst tTxn] [] args st (fun p q=>vo0 p.1 (fun(y:(List dTxn))=>k (.own 0) [.arr tTxn y]))
 (none)
def whc (args:List AV)(st:St)(k:K1):Option Res:=
 vaf [.agg [.lst tVersion,.lst tTxn,.lst tTxn,.i,.i]] [] args st (fun p q=>vrc (p.1.1,(p.1.2.1,(p.1.2.2.1,(p.1.2.2.2.1,p.1.2.2.2.2.1)))) (fun(y:q35T)=>k (.agg [.own 0,.own 1,.own 2,.i y.1,.i y.2.1]) [.arr tVersion y.2.2.1,.arr tTxn y.2.2.2.1,.arr tTxn y.2.2.2.2]))
 (none)
def wh0 (args:List AV)(st:St)(k:K1):Option Res:=
 vaf [.agg [.lst tVersion,.lst tTxn,.lst tTxn,.i,.i,.lst tTxn]] [] args st (fun p q=>vxw ((p.1.1,(p.1.2.1,(p.1.2.2.1,(p.1.2.2.2.1,p.1.2.2.2.2.1)))),p.1.2.2.2.2.2.1) (fun(y:q33T)=>k (.agg [.own 0,.own 1,.own 2,.i y.1,.i y.2.1,.own 3]) [.arr tVersion y.2.2.1,.arr tTxn y.2.2.2.1,.arr tTxn y.2.2.2.2.1,.arr tTxn y.2.2.2.2.2]))
 (none)
def wg8 (args:List AV)(st:St)(k:K1):Option Res:=
 vaf [.agg [.lst tVersion,.lst tTxn,.lst tTxn,.i,.i,.lst tTxn],.i] [] args st (fun p q=>vu2 ((p.1.1,(p.1.2.1,(p.1.2.2.1,(p.1.2.2.2.1,p.1.2.2.2.2.1)))),p.1.2.2.2.2.2.1) p.2.1 (fun(y:Int)=>k (.i y) []))
 (none)
def wgc (args:List AV)(st:St)(k:K1):Option Res:=
 vaf [.agg [.lst tVersion,.lst tTxn,.lst tTxn,.i,.i],.lst tTxn] [] args st (fun p q=>vp8 (p.1.1,(p.1.2.1,(p.1.2.2.1,(p.1.2.2.2.1,p.1.2.2.2.2.1)))) p.2.1 (fun(y:Int)=>k (.i y) []))
 (none)
def whu (args:List AV)(st:St)(k:K1):Option Res:=
 vaf [.lst tVersion,.str,.i] [] args st (fun p q=>vsp p.1 p.2.1 p.2.2.1 (fun(y:Int)=>k (.i y) []))
 (none)
def wf8 (args:List AV)(st:St)(k:K1):Option Res:=
 vaf [.lst tVersion,.i] [] args st (fun p q=>vp5 p.1 p.2.1 (fun(y:(List vaa))=>k (.own 0) [.arr tVersion y]))
 (none)
def why (args:List AV)(st:St)(k:K1):Option Res:=
 vaf [.agg [.lst tVersion,.lst tTxn,.lst tTxn,.i,.i],.lst tTxn] [] args st (fun p q=>vrk (p.1.1,(p.1.2.1,(p.1.2.2.1,(p.1.2.2.2.1,p.1.2.2.2.2.1)))) p.2.1 (fun(y:q35T)=>k (.agg [.own 0,.own 1,.own 2,.i y.1,.i y.2.1]) [.arr tVersion y.2.2.1,.arr tTxn y.2.2.2.1,.arr tTxn y.2.2.2.2]))
 (none)
def wf9 (args:List AV)(st:St)(k:K1):Option Res:=
 vaf [.bp 0 0,.i] [.box [.own 1,.own 2,.own 3,.i,.i,.own 4],.arr tVersion,.arr tTxn,.arr tTxn,.arr tTxn] args st (fun p q=>vvw p.2.1 q.1.2.2.2.1 q.1.2.2.2.2.1 q.2.1 q.2.2.1 q.2.2.2.1 q.2.2.2.2.1 (fun(y:q31T)=>k (.tup []) [.box [.own 5,.own 6,.own 7,.i y.1,.i y.2.1,.lst tTxn y.2.2.1],.frz tVersion y.2.2.2.1,.frz tTxn y.2.2.2.2.1,.frz tTxn y.2.2.2.2.2.1,.arr tTxn y.2.2.2.2.2.2.1,.arr tVersion y.2.2.2.2.2.2.2.1,.arr tTxn y.2.2.2.2.2.2.2.2.1,.arr tTxn y.2.2.2.2.2.2.2.2.2]))
 (none)
def whe (args:List AV)(st:St)(k:K1):Option Res:=
 vaf [.agg [.lst tVersion,.lst tTxn,.lst tTxn,.i,.i,.lst tTxn],.i] [] args st (fun p q=>vpt ((p.1.1,(p.1.2.1,(p.1.2.2.1,(p.1.2.2.2.1,p.1.2.2.2.2.1)))),p.1.2.2.2.2.2.1) p.2.1 (Sum.elim (fun(y:q38T)=>k (.tup [.agg [.own 0,.own 1,.own 2,.i y.1,.i y.2.1,.own 3],.i y.2.2.1]) [.arr tVersion y.2.2.2.1,.arr tTxn y.2.2.2.2.1,.arr tTxn y.2.2.2.2.2.1,.arr tTxn y.2.2.2.2.2.2]) (fun(y:q32T)=>k (.tup [.agg [.own 0,.own 1,.own 2,.i y.1,.i y.2.1,.lst tTxn y.2.2.1],.i y.2.2.2.1]) [.arr tVersion y.2.2.2.2.1,.arr tTxn y.2.2.2.2.2.1,.arr tTxn y.2.2.2.2.2.2])))
 (none)
def wgv (args:List AV)(st:St)(k:K1):Option Res:=
 vaf [.agg [.i,.i,.i,.i,.lst tRange,.lst tWrite,.bool,.str]] [] args st (fun p q=>vtl (p.1.1,(p.1.2.1,(p.1.2.2.1,(p.1.2.2.2.1,(p.1.2.2.2.2.1,(p.1.2.2.2.2.2.1,(p.1.2.2.2.2.2.2.1,p.1.2.2.2.2.2.2.2.1))))))) (fun(y:q43T)=>k (.agg [.i y.1,.i y.2.1,.i y.2.2.1,.i y.2.2.2.1,.own 0,.own 1,.bool y.2.2.2.2.1,.str y.2.2.2.2.2.1]) [.arr tRange y.2.2.2.2.2.2.1,.arr tWrite y.2.2.2.2.2.2.2]))
 (none)
def wge (args:List AV)(st:St)(k:K1):Option Res:=
 vaf [.lst tTxn] [] args st (fun p q=>vo2 p.1 (fun(y:(List dTxn))=>k (.own 0) [.dep tTxn y 0 []]))
 (none)
def wg5 (args:List AV)(st:St)(k:K1):Option Res:=
 vaf [.agg [.lst tVersion,.lst tTxn,.lst tTxn,.i,.i]] [] args st (fun p q=>vu9 (p.1.1,(p.1.2.1,(p.1.2.2.1,(p.1.2.2.2.1,p.1.2.2.2.2.1)))) (fun(y:q35T)=>k (.agg [.own 0,.own 1,.own 2,.i y.1,.i y.2.1]) [.arr tVersion y.2.2.1,.dep tTxn y.2.2.2.1 0 [],.dep tTxn y.2.2.2.2 0 []]))
 (none)
def wgm (args:List AV)(st:St)(k:K1):Option Res:=
 vaf [.agg [.lst tVersion,.lst tTxn,.lst tTxn,.i,.i,.lst tTxn]] [] args st (fun p q=>vzb ((p.1.1,(p.1.2.1,(p.1.2.2.1,(p.1.2.2.2.1,p.1.2.2.2.2.1)))),p.1.2.2.2.2.2.1) (fun(y:q33T)=>k (.agg [.own 0,.own 1,.own 2,.i y.1,.i y.2.1,.own 3]) [.arr tVersion y.2.2.1,.dep tTxn y.2.2.2.1 0 [],.dep tTxn y.2.2.2.2.1 0 [],.dep tTxn y.2.2.2.2.2 0 []]))
 (none)
def wf2 (args:List AV)(st:St)(k:K1):Option Res:=
 vaf [.agg [.i,.i,.i,.i,.lst tRange,.lst tWrite,.bool,.str],.bp 0 0] [.box [.i]] args st (fun p q=>voz (p.1.1,(p.1.2.1,(p.1.2.2.1,(p.1.2.2.2.1,(p.1.2.2.2.2.1,(p.1.2.2.2.2.2.1,(p.1.2.2.2.2.2.2.1,p.1.2.2.2.2.2.2.2.1))))))) q.1.1 (fun(y:(Bool×Int))=>k (.bool y.1) [.box [.i y.2]]))
 (none)
def wgy (args:List AV)(st:St)(k:K1):Option Res:=
 vaf [.agg [.i,.i,.i,.i,.lst tRange,.lst tWrite,.bool,.str],.bp 0 0] [.box [.i]] args st (fun p q=>vty (p.1.1,(p.1.2.1,(p.1.2.2.1,(p.1.2.2.2.1,(p.1.2.2.2.2.1,(p.1.2.2.2.2.2.1,(p.1.2.2.2.2.2.2.1,p.1.2.2.2.2.2.2.2.1))))))) q.1.1 (fun(y:(Bool×Int))=>k (.bool y.1) [.box [.i y.2]]))
 (none)
def wg6 (args:List AV)(st:St)(k:K1):Option Res:=
 vaf [.agg [.i,.i,.i,.i,.lst tRange,.lst tWrite,.bool,.str],.bp 0 0] [.box [.i]] args st (fun p q=>vos (p.1.1,(p.1.2.1,(p.1.2.2.1,(p.1.2.2.2.1,(p.1.2.2.2.2.1,(p.1.2.2.2.2.2.1,(p.1.2.2.2.2.2.2.1,p.1.2.2.2.2.2.2.2.1))))))) q.1.1 (fun(y:(Bool×Int))=>k (.bool y.1) [.box [.i y.2]]))
 (none)
def va5 (args:List AV)(st:St)(k:K1):Option Res:=
 vaf [.lst tTxn,.fn 71 [.bp 0 0]] [.box [.i]] args st (fun p q=>vra p.1 q.1.1 (fun(y:(Int×Int))=>k (.i y.1) [.box [.i y.2]]))
 (vaf [.lst tTxn,.fn 72 [.bp 0 0]] [.box [.i]] args st (fun p q=>vys p.1 q.1.1 (fun(y:(Int×Int))=>k (.i y.1) [.box [.i y.2]]))
 (vaf [.lst tTxn,.fn 42 [.bp 0 0]] [.box [.i]] args st (fun p q=>vr4 p.1 q.1.1 (fun(y:(Int×Int))=>k (.i y.1) [.box [.i y.2]]))
 (none)))
def vbe (args:List AV)(st:St)(k:K1):Option Res:=
 vaf [.own 0,.fn 71 [.bp 1 0]] [.dep tTxn 0,.box [.i]] args st (fun p q=>vt0 q.1 q.2.1.1 (Sum.elim (fun(y:((List dTxn)×Int))=>k (.own 0) [.dep tTxn y.1 0 [],.box [.i y.2]]) (fun(y:(Int×(List dTxn)))=>k (.own 2) [.gone,.box [.i y.1],.dep tTxn y.2 0 []])))
 (vaf [.own 0,.fn 42 [.bp 1 0]] [.dep tTxn 0,.box [.i]] args st (fun p q=>vuw q.1 q.2.1.1 (Sum.elim (fun(y:((List dTxn)×Int))=>k (.own 0) [.dep tTxn y.1 0 [],.box [.i y.2]]) (fun(y:(Int×(List dTxn)))=>k (.own 2) [.gone,.box [.i y.1],.dep tTxn y.2 0 []])))
 (none))
def whg (args:List AV)(st:St)(k:K1):Option Res:=
 vaf [.agg [.lst tVersion,.lst tTxn,.lst tTxn,.i,.i,.lst tTxn],.i] [] args st (fun p q=>vye ((p.1.1,(p.1.2.1,(p.1.2.2.1,(p.1.2.2.2.1,p.1.2.2.2.2.1)))),p.1.2.2.2.2.2.1) p.2.1 (fun(y:q33T)=>k (.agg [.own 0,.own 1,.own 2,.i y.1,.i y.2.1,.own 3]) [.arr tVersion y.2.2.1,.dep tTxn y.2.2.2.1 0 [],.dep tTxn y.2.2.2.2.1 0 [],.dep tTxn y.2.2.2.2.2 0 []]))
 (none)
def whv (args:List AV)(st:St)(k:K1):Option Res:=
 vaf [.agg [.lst tVersion,.lst tTxn,.lst tTxn,.i,.i,.lst tTxn],.i] [] args st (fun p q=>vze ((p.1.1,(p.1.2.1,(p.1.2.2.1,(p.1.2.2.2.1,p.1.2.2.2.2.1)))),p.1.2.2.2.2.2.1) p.2.1 (fun(y:Int)=>k (.i y) []))
 (none)
def whl (args:List AV)(st:St)(k:K1):Option Res:=
 vaf [.agg [.lst tVersion,.lst tTxn,.lst tTxn,.i,.i],.lst tTxn] [] args st (fun p q=>vuc (p.1.1,(p.1.2.1,(p.1.2.2.1,(p.1.2.2.2.1,p.1.2.2.2.2.1)))) p.2.1 (fun(y:Int)=>k (.i y) []))
 (none)
def wha (args:List AV)(st:St)(k:K1):Option Res:=
 vaf [.lst tVersion,.str,.i] [] args st (fun p q=>vr0 p.1 p.2.1 p.2.2.1 (fun(y:Int)=>k (.i y) []))
 (none)
def whw (args:List AV)(st:St)(k:K1):Option Res:=
 vaf [.str,.bp 0 0] [.box [.own 1],.arr tVersion] args st (fun p q=>vv3 p.1 q.2.1 (fun(y:(Int×(List vaa)))=>k (.i y.1) [.box [.own 1],.arr tVersion y.2]))
 (none)
def wgb (args:List AV)(st:St)(k:K1):Option Res:=
 vaf [.lst tVersion,.i] [] args st (fun p q=>vqc p.1 p.2.1 (fun(y:(List vaa))=>k (.own 0) [.arr tVersion y]))
 (none)
def wht (args:List AV)(st:St)(k:K1):Option Res:=
 vaf [.agg [.lst tVersion,.lst tTxn,.lst tTxn,.i,.i],.lst tTxn] [] args st (fun p q=>vy8 (p.1.1,(p.1.2.1,(p.1.2.2.1,(p.1.2.2.2.1,p.1.2.2.2.2.1)))) p.2.1 (fun(y:q35T)=>k (.agg [.own 0,.own 1,.own 2,.i y.1,.i y.2.1]) [.arr tVersion y.2.2.1,.dep tTxn y.2.2.2.1 0 [],.dep tTxn y.2.2.2.2 0 []]))
 (none)
def wgg (args:List AV)(st:St)(k:K1):Option Res:=
 vaf [.agg [.lst tVersion,.lst tTxn,.lst tTxn,.i,.i,.lst tTxn],.i] [] args st (fun p q=>vj9 ((p.1.1,(p.1.2.1,(p.1.2.2.1,(p.1.2.2.2.1,p.1.2.2.2.2.1)))),p.1.2.2.2.2.2.1) p.2.1 (fun(y:q38T)=>k (.tup [.agg [.own 0,.own 1,.own 2,.i y.1,.i y.2.1,.own 3],.i y.2.2.1]) [.arr tVersion y.2.2.2.1,.dep tTxn y.2.2.2.2.1 0 [],.dep tTxn y.2.2.2.2.2.1 0 [],.dep tTxn y.2.2.2.2.2.2 0 []]))
 (none)
def whi (args:List AV)(st:St)(k:K1):Option Res:=
 vaf [.agg [.str,.str,.bool,.i],.agg [.str,.str,.bool,.i]] [] args st (fun p q=>vuq (p.1.1,(p.1.2.1,(p.1.2.2.1,p.1.2.2.2.1))) (p.2.1.1,(p.2.1.2.1,(p.2.1.2.2.1,p.2.1.2.2.2.1))) (fun(y:Bool)=>k (.bool y) []))
 (none)
def whq (args:List AV)(st:St)(k:K1):Option Res:=
 vaf [.lst tVersion,.lst tVersion] [] args st (fun p q=>vv0 p.1 p.2.1 (fun(y:Bool)=>k (.bool y) []))
 (none)
def wg7 (args:List AV)(st:St)(k:K1):Option Res:=
 vaf [.agg [.str,.str],.agg [.str,.str]] [] args st (fun p q=>vvy (p.1.1,p.1.2.1) (p.2.1.1,p.2.1.2.1) (fun(y:Bool)=>k (.bool y) []))
 (none)
def wg0 (args:List AV)(st:St)(k:K1):Option Res:=
 vaf [.lst tRange,.lst tRange] [] args st (fun p q=>vuv p.1 p.2.1 (fun(y:Bool)=>k (.bool y) []))
 (none)
def wgn (args:List AV)(st:St)(k:K1):Option Res:=
 vaf [.agg [.str,.str,.bool],.agg [.str,.str,.bool]] [] args st (fun p q=>vuo (p.1.1,(p.1.2.1,p.1.2.2.1)) (p.2.1.1,(p.2.1.2.1,p.2.1.2.2.1)) (fun(y:Bool)=>k (.bool y) []))
 (none)
def whb (args:List AV)(st:St)(k:K1):Option Res:=
 vaf [.lst tWrite,.lst tWrite] [] args st (fun p q=>vvf p.1 p.2.1 (fun(y:Bool)=>k (.bool y) []))
 (none)
def wg2 (args:List AV)(st:St)(k:K1):Option Res:=
 vaf [.agg [.i,.i,.i,.i,.lst tRange,.lst tWrite,.bool,.str],.agg [.i,.i,.i,.i,.lst tRange,.lst tWrite,.bool,.str]] [] args st (fun p q=>vsg (p.1.1,(p.1.2.1,(p.1.2.2.1,(p.1.2.2.2.1,(p.1.2.2.2.2.1,(p.1.2.2.2.2.2.1,(p.1.2.2.2.2.2.2.1,p.1.2.2.2.2.2.2.2.1))))))) (p.2.1.1,(p.2.1.2.1,(p.2.1.2.2.1,(p.2.1.2.2.2.1,(p.2.1.2.2.2.2.1,(p.2.1.2.2.2.2.2.1,(p.2.1.2.2.2.2.2.2.1,p.2.1.2.2.2.2.2.2.2.1))))))) (fun(y:Bool)=>k (.bool y) []))
 (none)
def wf5 (args:List AV)(st:St)(k:K1):Option Res:=
 vaf [.lst tTxn,.lst tTxn] [] args st (fun p q=>vnd p.1 p.2.1 (fun(y:Bool)=>k (.bool y) []))
 (none)
def whz (args:List AV)(st:St)(k:K1):Option Res:=
 vaf [.agg [.lst tVersion,.lst tTxn,.lst tTxn,.i,.i],.agg [.lst tVersion,.lst tTxn,.lst tTxn,.i,.i]] [] args st (fun p q=>vt7 (p.1.1,(p.1.2.1,(p.1.2.2.1,(p.1.2.2.2.1,p.1.2.2.2.2.1)))) (p.2.1.1,(p.2.1.2.1,(p.2.1.2.2.1,(p.2.1.2.2.2.1,p.2.1.2.2.2.2.1)))) (fun(y:Bool)=>k (.bool y) []))
 (none)
def whj (args:List AV)(st:St)(k:K1):Option Res:=
 vaf [.agg [.lst tVersion,.lst tTxn,.lst tTxn,.i,.i,.lst tTxn],.agg [.lst tVersion,.lst tTxn,.lst tTxn,.i,.i,.lst tTxn]] [] args st (fun p q=>vd1 ((p.1.1,(p.1.2.1,(p.1.2.2.1,(p.1.2.2.2.1,p.1.2.2.2.2.1)))),p.1.2.2.2.2.2.1) ((p.2.1.1,(p.2.1.2.1,(p.2.1.2.2.1,(p.2.1.2.2.2.1,p.2.1.2.2.2.2.1)))),p.2.1.2.2.2.2.2.1) (fun(y:Bool)=>k (.bool y) []))
 (none)
def wgu (args:List AV)(st:St)(k:K1):Option Res:=
 vaf [.i] [] args st (fun p q=>vb2 p.1 (fun(y:ByteArray)=>k (.str y) []))
 (none)
def ve2 (args:List AV)(st:St)(k:K1):Option Res:=
 vaf [.own 0,.i] [.arr tVersion] args st (fun p q=>vzg p.2.1 q.1 (fun(y:(Int×(List vaa)))=>k (.i y.1) [.arr tVersion y.2]))
 (none)
def vg1 (args:List AV)(st:St)(k:K1):Option Res:=
 vaf [.own 0,.i] [.arr tRange] args st (fun p q=>vz2 p.2.1 q.1 (fun(y:(Int×(List vam)))=>k (.i y.1) [.arr tRange y.2]))
 (none)
def vgt (args:List AV)(st:St)(k:K1):Option Res:=
 vaf [.own 0,.i] [.arr tWrite] args st (fun p q=>vyb p.2.1 q.1 (fun(y:(Int×(List val)))=>k (.i y.1) [.arr tWrite y.2]))
 (none)
def vkb (args:List AV)(st:St)(k:K1):Option Res:=
 vaf [.own 0,.i] [.dep tTxn 0] args st (fun p q=>vsl p.2.1 q.1 (fun(y:(Int×(List dTxn)))=>k (.i y.1) [.dep tTxn y.2 0 []]))
 (none)
def vjh (args:List AV)(st:St)(k:K1):Option Res:=
 vaf [.agg [.own 0,.own 1,.own 2,.i,.i],.i] [.arr tVersion,.dep tTxn 0,.dep tTxn 0] args st (fun p q=>vzm p.1.2.2.2.1 p.1.2.2.2.2.1 p.2.1 q.1 q.2.1 q.2.2.1 (fun(y:q26T)=>k (.i y.1) [.arr tVersion y.2.1,.dep tTxn y.2.2.1 0 [],.dep tTxn y.2.2.2 0 []]))
 (none)
def vg5 (args:List AV)(st:St)(k:K1):Option Res:=
 vaf [.agg [.own 0,.own 1,.own 2,.i,.i,.own 3],.i] [.arr tVersion,.dep tTxn 0,.dep tTxn 0,.dep tTxn 0] args st (fun p q=>vmi p.1.2.2.2.1 p.1.2.2.2.2.1 p.2.1 q.1 q.2.1 q.2.2.1 q.2.2.2.1 (fun(y:q25T)=>k (.i y.1) [.arr tVersion y.2.1,.dep tTxn y.2.2.1 0 [],.dep tTxn y.2.2.2.1 0 [],.dep tTxn y.2.2.2.2 0 []]))
 (none)
def wgf (args:List AV)(st:St)(k:K1):Option Res:=
 vaf [.lst tVersion,.i] [] args st (fun p q=>vtn p.1 p.2.1 (fun(y:Int)=>k (.i y) []))
 (none)
def whh (args:List AV)(st:St)(k:K1):Option Res:=
 vaf [.lst tRange,.i] [] args st (fun p q=>vqg p.1 p.2.1 (fun(y:Int)=>k (.i y) []))
 (none)
def whm (args:List AV)(st:St)(k:K1):Option Res:=
 vaf [.lst tWrite,.i] [] args st (fun p q=>vpz p.1 p.2.1 (fun(y:Int)=>k (.i y) []))
 (none)
def wh4 (args:List AV)(st:St)(k:K1):Option Res:=
 vaf [.lst tTxn,.i] [] args st (fun p q=>voh p.1 p.2.1 (fun(y:Int)=>k (.i y) []))
 (none)
def wg3 (args:List AV)(st:St)(k:K1):Option Res:=
 vaf [.agg [.lst tVersion,.lst tTxn,.lst tTxn,.i,.i],.i] [] args st (fun p q=>vz6 (p.1.1,(p.1.2.1,(p.1.2.2.1,(p.1.2.2.2.1,p.1.2.2.2.2.1)))) p.2.1 (fun(y:Int)=>k (.i y) []))
 (none)
def whp (args:List AV)(st:St)(k:K1):Option Res:=
 vaf [.agg [.lst tVersion,.lst tTxn,.lst tTxn,.i,.i,.lst tTxn],.i] [] args st (fun p q=>vm1 ((p.1.1,(p.1.2.1,(p.1.2.2.1,(p.1.2.2.2.1,p.1.2.2.2.2.1)))),p.1.2.2.2.2.2.1) p.2.1 (fun(y:Int)=>k (.i y) []))
 (none)
def v7k (args:List AV)(st:St)(k:K1):Option Res:=
 vaf [.agg [.lst tVersion,.lst tTxn,.lst tTxn,.i,.i,.lst tTxn],.i] [] args st (fun p q=>vzc ((p.1.1,(p.1.2.1,(p.1.2.2.1,(p.1.2.2.2.1,p.1.2.2.2.2.1)))),p.1.2.2.2.2.2.1) p.2.1 (fun(y:Bool)=>k (.bool y) []))
 (none)
end
end Go.VE
