/- Native programs of the functions, written by gen.py. -/
import Derived.Test.YtaaoeehlfihjdaaGreatPlayedN1
namespace Go.VE
noncomputable section
set_option linter.unusedVariables false
set_option linter.unusedSimpArgs false
set_option maxRecDepth 100000
def vqc (x:q26T)(k:q26T⊕q26T→OR):OR:=
 let xh:=x.2.2.2.2
 let t0:=(x.1,x.2.1,x.2.2.1,x.2.2.2.1,xh.1,xh.2.1,(IntKind.wrap .i64 (xh.2.2+(1:Int))))
 bif (decide (xh.2.2<xh.2.1))then
 if 0≤xh.2.2∧xh.2.2<(xh.1.length:Int)then
 bif (vaj ((rd (Ty.zero tVersion) xh.1 xh.2.2).1) x.2.1)then
 bif (decide ((rd (Ty.zero tVersion) xh.1 xh.2.2).2.2.2≤x.2.2.1))then
 bif (decide (x.2.2.2.1<0))then
 k (.inl (x.1,x.2.1,x.2.2.1,xh.2.2,xh.1,xh.2.1,(IntKind.wrap .i64 (xh.2.2+1))))
 else
 if 0≤x.2.2.2.1∧x.2.2.2.1<(x.1.length:Int)then
 bif (decide ((rd (Ty.zero tVersion) xh.1 xh.2.2).2.2.2>(rd (Ty.zero tVersion) x.1 x.2.2.2.1).2.2.2))then
 k (.inl (x.1,x.2.1,x.2.2.1,xh.2.2,xh.1,xh.2.1,(IntKind.wrap .i64 (xh.2.2+1))))
 else
 k (.inl t0)
 else none
 else
 k (.inl t0)
 else
 k (.inl t0)
 else none
 else
 k (.inr (x.1,x.2.1,x.2.2.1,x.2.2.2.1,xh.1,xh.2.1,xh.2.2))
instance n44n_bp0 (x:q26T):ParC (vqc x):=by unfold vqc;(try dsimp only);infer_instance
def wmm (a0:VL)(a1:ByteArray)(a2:Int)(k:Int→OR):OR:=
 vab vqc Fuel (a0,a1,a2,(-1:Int),a0,(a0.length:Int),0) (fun z1=>
 k z1.2.2.2.1)
def vzw:=shut wmm
theorem wts:vzw=wmm:=vaf _
instance n44n_p (a0:VL)(a1:ByteArray)(a2:Int):ParC (vzw a0 a1 a2):=by rw [wts];unfold wmm;(try dsimp only);infer_instance
def vo4 (x:q73T)(k:q73T⊕q73T→OR):OR:=
 let xh:=x.2.2.2.2
 bif (decide (x.2.2.2.1<x.2.2.1))then
 if 0≤x.2.2.2.1∧x.2.2.2.1<(xh.length:Int)then
 bif (vaj ((xh.getD x.2.2.2.1.toNat (Ty.zero tVersion)).1) x.1)then
 k (.inl (x.1,(IntKind.wrap .i64 (x.2.1+1)),x.2.2.1,(IntKind.wrap .i64 (x.2.2.2.1+1)),xh))
 else
 k (.inl (x.1,x.2.1,x.2.2.1,(IntKind.wrap .i64 (x.2.2.2.1+1)),xh))
 else none
 else
 k (.inr (x.1,x.2.1,x.2.2.1,x.2.2.2.1,xh))
instance n29n_bp0 (x:q73T):ParC (vo4 x):=by unfold vo4;(try dsimp only);infer_instance
def wjw (a0:ByteArray)(a1:VL)(k:(Int×VL)→OR):OR:=
 vab vo4 Fuel (a0,0,(a1.length:Int),0,a1) (fun z1=>
 k (z1.2.1,z1.2.2.2.2))
def v5t:=shut wjw
theorem wqz:v5t=wjw:=vaf _
instance n29n_p (a0:ByteArray)(a1:VL):ParC (v5t a0 a1):=by rw [wqz];unfold wjw;(try dsimp only);infer_instance
def vcz (x:q29T)(k:q29T→OR):OR:=
 let xh:=x.2.2.2.2
 let xi:=xh.2.2.2.2
 bif xh.2.1 then
 if xi.2.2.length+[(xh.2.2.1,(xh.2.2.2.1,(xi.1,xi.2.1)))].length≤VE.maxLen then
 k (x.1,x.2.1,x.2.2.1,x.2.2.2.1,xh.1,xh.2.1,xh.2.2.1,xh.2.2.2.1,xi.1,xi.2.1,(xi.2.2++[(xh.2.2.1,(xh.2.2.2.1,(xi.1,xi.2.1)))]))
 else none
 else
 k (x.1,x.2.1,x.2.2.1,x.2.2.2.1,xh.1,xh.2.1,xh.2.2.1,xh.2.2.2.1,xi.1,xi.2.1,xi.2.2)
instance n28n_jp15000006 (x:q29T):ParC (vcz x):=by unfold vcz;(try dsimp only);infer_instance
def vo7 (x:q28T)(k:q28T⊕q28T→OR):OR:=
 let xh:=x.2.2.2.2
 let t0:=(rd (Ty.zero tVersion) x.2.2.1 xh.1)
 bif (decide (xh.1<x.2.2.2.1))then
 if 0≤xh.1∧xh.1<(x.2.2.1.length:Int)then
 bif (decide (t0.2.2.2>x.2.1))then
 vcz (x.1,x.2.1,x.2.2.1,x.2.2.2.1,xh.1,true,t0.1,t0.2.1,t0.2.2.1,t0.2.2.2,xh.2) (fun z3=>
 k (.inl (z3.1,z3.2.1,z3.2.2.1,z3.2.2.2.1,(IntKind.wrap .i64 (z3.2.2.2.2.1+1)),z3.2.2.2.2.2.2.2.2.2.2)))
 else
 vzw x.1 (t0.1) x.2.1 (fun y4=>
 vcz (x.1,x.2.1,x.2.2.1,x.2.2.2.1,xh.1,(y4==xh.1),t0.1,t0.2.1,t0.2.2.1,t0.2.2.2,xh.2) (fun z5=>
 k (.inl (z5.1,z5.2.1,z5.2.2.1,z5.2.2.2.1,(IntKind.wrap .i64 (z5.2.2.2.2.1+1)),z5.2.2.2.2.2.2.2.2.2.2))))
 else none
 else
 k (.inr (x.1,x.2.1,x.2.2.1,x.2.2.2.1,xh.1,xh.2))
instance n28n_bp0 (x:q28T):ParC (vo7 x):=by unfold vo7;(try dsimp only);infer_instance
def vo1 (x:q90T)(k:q90T⊕q90T→OR):OR:=
 let xh:=x.2.2.2.2
 let t0:=(xh.getD x.2.2.1.toNat (Ty.zero tVersion))
 bif (decide (x.2.2.1<x.2.1))then
 if 0≤x.2.2.1∧x.2.2.1<(xh.length:Int)then
 bif (decide (t0.2.2.2>x.1))then
 if x.2.2.2.1.length+[t0].length≤VE.maxLen then
 k (.inl (x.1,x.2.1,(IntKind.wrap .i64 (x.2.2.1+1)),(x.2.2.2.1++[t0]),xh))
 else none
 else
 bif (!t0.2.2.1)then
 if x.2.2.2.1.length+[t0].length≤VE.maxLen then
 k (.inl (x.1,x.2.1,(IntKind.wrap .i64 (x.2.2.1+1)),(x.2.2.2.1++[t0]),xh))
 else none
 else
 v5t (t0.1) xh (fun y6=>
 bif (decide (y6.1>1))then
 if x.2.2.2.1.length+[t0].length≤VE.maxLen then
 k (.inl (x.1,x.2.1,(IntKind.wrap .i64 (x.2.2.1+1)),(x.2.2.2.1++[t0]),y6.2))
 else none
 else
 k (.inl (x.1,x.2.1,(IntKind.wrap .i64 (x.2.2.1+1)),x.2.2.2.1,y6.2)))
 else none
 else
 k (.inr (x.1,x.2.1,x.2.2.1,x.2.2.2.1,xh))
instance n28n_bp2 (x:q90T):ParC (vo1 x):=by unfold vo1;(try dsimp only);infer_instance
def wkw (a0:VL)(a1:Int)(k:VL→OR):OR:=
 vab vo7 Fuel (a0,a1,a0,(a0.length:Int),0,([]:List vah)) (fun z1=>
 vab vo1 Fuel (z1.2.1,(z1.2.2.2.2.2.length:Int),0,([]:List vah),z1.2.2.2.2.2) (fun z2=>
 k z2.2.2.2.1))
def v0v:=shut wkw
theorem wqo:v0v=wkw:=vaf _
instance n28n_p (a0:VL)(a1:Int):ParC (v0v a0 a1):=by rw [wqo];unfold wkw;(try dsimp only);infer_instance
def wl1 (a0:va3)(a1:TL)(k:q86T→OR):OR:=
 vim a0 (fun y1=>
 v7j a0 a1 (fun y2=>
 v7n y1.2.2.2.1 y2 (Sum.elim (fun y3=>
 v0v a0.1 y3.2 (fun y4=>
 k (y1.1,y1.2.1,y4,y3.1,y1.2.2.2.2))) (fun y5=>
 v0v a0.1 y5.1 (fun y6=>
 k (y1.1,y1.2.1,y6,y5.2,y1.2.2.2.2))))))
def wcr:=shut wl1
theorem wrz:wcr=wl1:=vaf _
instance n25n_p (a0:va3)(a1:TL):ParC (wcr a0 a1):=by rw [wrz];unfold wl1;(try dsimp only);infer_instance
def vax (x:q50T)(k:(q50T⊕q51T)→OR):OR:=
 let xh:=x.2.2.2.2
 let xi:=xh.2.2.2.2
 wcr (xi.2.2.2.2.2.2.1,(xi.2.2.2.2.2.2.2.1,(xi.2.2.2.2.2.2.2.2,(xi.2.1,xi.2.2.1)))) ([]:List dTxn) (fun y30=>
 bif (!x.2.1)then
 vim (x.2.2.1,(x.2.2.2.1,(xh.1,(xh.2.1,xh.2.2.1)))) (fun y31=>
 k (.inl (false,x.2.1,x.2.2.1,x.2.2.2.1,xh.1,xh.2.1,xh.2.2.1,y31.1,y31.2.1,y30.1,y30.2.1,y31.2.2.1,y31.2.2.2.1,y31.2.2.2.2,y30.2.2.1,y30.2.2.2.1,y30.2.2.2.2)))
 else
 vrd (y30.2.2.1,(y30.2.2.2.1,(y30.2.2.2.2,(y30.1,y30.2.1)))) (fun y32=>
 bif (!y32)then
 vim (x.2.2.1,(x.2.2.2.1,(xh.1,(xh.2.1,xh.2.2.1)))) (fun y33=>
 k (.inl (false,x.2.1,x.2.2.1,x.2.2.2.1,xh.1,xh.2.1,xh.2.2.1,y33.1,y33.2.1,y30.1,y30.2.1,y33.2.2.1,y33.2.2.2.1,y33.2.2.2.2,y30.2.2.1,y30.2.2.2.1,y30.2.2.2.2)))
 else
 k (.inr (true,x.2.1,x.2.2.1,x.2.2.2.1,xh.1,xh.2.1,xh.2.2.1,y30.1,y30.2.1,y30.1,y30.2.1,y30.2.2.1,y30.2.2.2.1,y30.2.2.2.2))))
instance n16n_jp5000019 (x:q50T):ParC (vax x):=by unfold vax;(try dsimp only);infer_instance
def vfz (x:q47T)(k:q45T→OR):OR:=
 let xh:=x.2.2.2.2
 let xi:=xh.2.2.2.2
 let xj:=xi.2.2.2.2
 let xk:=xj.2.2.2.2
 let xl:=xk.2.2.2.2
 let t0:=(x.2.1,(x.2.2.1,(x.2.2.2.1,(xh.1,xh.2.1))))
 let t1:=(xh.2.2.2.1,(xi.1,(xi.2.1,(xi.2.2.1,(xi.2.2.2.1,(xj.1,(xj.2.1,xj.2.2.1)))))))
 vim t0 (fun _=>
 bif (xh.2.2.1==(1:Int))then
 v5u t0 t1 (fun y7=>
 vax (x.1,(xi.2.2.1==(IntKind.wrap .i64 (xh.1+1))),x.2.1,x.2.2.1,x.2.2.2.1,xh.1,xh.2.1,xl.2.2.1,xl.2.2.2,y7.1,y7.2.1,([]:List vah),([]:List dTxn),([]:List dTxn),y7.2.2.1,y7.2.2.2.1,y7.2.2.2.2) (Sum.elim (fun z8=>
 let z8h:=z8.2.2.2.2
 k (z8.1,z8.2.2.1,z8.2.2.2.1,z8h.1,z8h.2.1,z8h.2.2.1,z8h.2.2.2.1,z8h.2.2.2.2.1,z8h.2.2.2.2.2.2.2.1,z8h.2.2.2.2.2.2.2.2.1,z8h.2.2.2.2.2.2.2.2.2.1)) (fun z9=>
 let z9h:=z9.2.2.2.2
 k (z9.1,z9.2.2.1,z9.2.2.2.1,z9h.1,z9h.2.1,z9h.2.2.1,z9h.2.2.2.1,z9h.2.2.2.2.1,z9h.2.2.2.2.2.2.2.1,z9h.2.2.2.2.2.2.2.2.1,z9h.2.2.2.2.2.2.2.2.2))))
 else
 bif (xh.2.2.1==(2:Int))then
 bif (decide ((x.2.2.2.1.length:Int)<(3:Int)))then
 vw4 t0 xj.2.2.1 (fun y10=>
 vxb t0 t1 xj.2.2.1 (fun y11=>
 vax (x.1,(decide (y10<0)),x.2.1,x.2.2.1,x.2.2.2.1,xh.1,xh.2.1,xl.2.2.1,xl.2.2.2,y11.1,y11.2.1,([]:List vah),([]:List dTxn),([]:List dTxn),y11.2.2.1,y11.2.2.2.1,y11.2.2.2.2) (Sum.elim (fun z12=>
 let z12h:=z12.2.2.2.2
 k (z12.1,z12.2.2.1,z12.2.2.2.1,z12h.1,z12h.2.1,z12h.2.2.1,z12h.2.2.2.1,z12h.2.2.2.2.1,z12h.2.2.2.2.2.2.2.1,z12h.2.2.2.2.2.2.2.2.1,z12h.2.2.2.2.2.2.2.2.2.1)) (fun z13=>
 let z13h:=z13.2.2.2.2
 k (z13.1,z13.2.2.1,z13.2.2.2.1,z13h.1,z13h.2.1,z13h.2.2.1,z13h.2.2.2.1,z13h.2.2.2.2.1,z13h.2.2.2.2.2.2.2.1,z13h.2.2.2.2.2.2.2.2.1,z13h.2.2.2.2.2.2.2.2.2)))))
 else
 vxb t0 t1 xj.2.2.1 (fun y14=>
 vax (x.1,false,x.2.1,x.2.2.1,x.2.2.2.1,xh.1,xh.2.1,xl.2.2.1,xl.2.2.2,y14.1,y14.2.1,([]:List vah),([]:List dTxn),([]:List dTxn),y14.2.2.1,y14.2.2.2.1,y14.2.2.2.2) (Sum.elim (fun z15=>
 let z15h:=z15.2.2.2.2
 k (z15.1,z15.2.2.1,z15.2.2.2.1,z15h.1,z15h.2.1,z15h.2.2.1,z15h.2.2.2.1,z15h.2.2.2.2.1,z15h.2.2.2.2.2.2.2.1,z15h.2.2.2.2.2.2.2.2.1,z15h.2.2.2.2.2.2.2.2.2.1)) (fun z16=>
 let z16h:=z16.2.2.2.2
 k (z16.1,z16.2.2.1,z16.2.2.2.1,z16h.1,z16h.2.1,z16h.2.2.1,z16h.2.2.2.1,z16h.2.2.2.2.1,z16h.2.2.2.2.2.2.2.1,z16h.2.2.2.2.2.2.2.2.1,z16h.2.2.2.2.2.2.2.2.2))))
 else
 bif (xh.2.2.1==(3:Int))then
 vw4 t0 xj.2.2.2.1 (fun y17=>
 bif (decide (y17≥0))then
 bif xk.1 then
 if 0≤y17∧y17<(x.2.2.2.1.length:Int)then
 v5u t0 (rd (Ty.zero tTxn) x.2.2.2.1 y17) (fun y18=>
 vax (x.1,(decide (y17≥0)),x.2.1,x.2.2.1,x.2.2.2.1,xh.1,xh.2.1,xl.2.2.1,xl.2.2.2,y18.1,y18.2.1,([]:List vah),([]:List dTxn),([]:List dTxn),y18.2.2.1,y18.2.2.2.1,y18.2.2.2.2) (Sum.elim (fun z19=>
 let z19h:=z19.2.2.2.2
 k (z19.1,z19.2.2.1,z19.2.2.2.1,z19h.1,z19h.2.1,z19h.2.2.1,z19h.2.2.2.1,z19h.2.2.2.2.1,z19h.2.2.2.2.2.2.2.1,z19h.2.2.2.2.2.2.2.2.1,z19h.2.2.2.2.2.2.2.2.2.1)) (fun z20=>
 let z20h:=z20.2.2.2.2
 k (z20.1,z20.2.2.1,z20.2.2.2.1,z20h.1,z20h.2.1,z20h.2.2.1,z20h.2.2.2.1,z20h.2.2.2.2.1,z20h.2.2.2.2.2.2.2.1,z20h.2.2.2.2.2.2.2.2.1,z20h.2.2.2.2.2.2.2.2.2))))
 else none
 else
 v1e t0 xj.2.2.2.1 (fun y21=>
 vax (x.1,(decide (y17≥0)),x.2.1,x.2.2.1,x.2.2.2.1,xh.1,xh.2.1,xl.2.2.1,xl.2.2.2,y21.1,y21.2.1,([]:List vah),([]:List dTxn),([]:List dTxn),y21.2.2.1,y21.2.2.2.1,y21.2.2.2.2) (Sum.elim (fun z22=>
 let z22h:=z22.2.2.2.2
 k (z22.1,z22.2.2.1,z22.2.2.2.1,z22h.1,z22h.2.1,z22h.2.2.1,z22h.2.2.2.1,z22h.2.2.2.2.1,z22h.2.2.2.2.2.2.2.1,z22h.2.2.2.2.2.2.2.2.1,z22h.2.2.2.2.2.2.2.2.2.1)) (fun z23=>
 let z23h:=z23.2.2.2.2
 k (z23.1,z23.2.2.1,z23.2.2.2.1,z23h.1,z23h.2.1,z23h.2.2.1,z23h.2.2.2.1,z23h.2.2.2.2.1,z23h.2.2.2.2.2.2.2.1,z23h.2.2.2.2.2.2.2.2.1,z23h.2.2.2.2.2.2.2.2.2))))
 else
 v1e t0 xj.2.2.2.1 (fun y24=>
 vax (x.1,(decide (y17≥0)),x.2.1,x.2.2.1,x.2.2.2.1,xh.1,xh.2.1,xl.2.2.1,xl.2.2.2,y24.1,y24.2.1,([]:List vah),([]:List dTxn),([]:List dTxn),y24.2.2.1,y24.2.2.2.1,y24.2.2.2.2) (Sum.elim (fun z25=>
 let z25h:=z25.2.2.2.2
 k (z25.1,z25.2.2.1,z25.2.2.2.1,z25h.1,z25h.2.1,z25h.2.2.1,z25h.2.2.2.1,z25h.2.2.2.2.1,z25h.2.2.2.2.2.2.2.1,z25h.2.2.2.2.2.2.2.2.1,z25h.2.2.2.2.2.2.2.2.2.1)) (fun z26=>
 let z26h:=z26.2.2.2.2
 k (z26.1,z26.2.2.1,z26.2.2.2.1,z26h.1,z26h.2.1,z26h.2.2.1,z26h.2.2.2.1,z26h.2.2.2.2.1,z26h.2.2.2.2.2.2.2.1,z26h.2.2.2.2.2.2.2.2.1,z26h.2.2.2.2.2.2.2.2.2)))))
 else
 vim (xk.2.1,(xk.2.2.1,(xk.2.2.2.1,(xl.1,xl.2.1)))) (fun y27=>
 vax (x.1,true,x.2.1,x.2.2.1,x.2.2.2.1,xh.1,xh.2.1,xl.2.2.1,xl.2.2.2,y27.1,y27.2.1,([]:List vah),([]:List dTxn),([]:List dTxn),y27.2.2.1,y27.2.2.2.1,y27.2.2.2.2) (Sum.elim (fun z28=>
 let z28h:=z28.2.2.2.2
 k (z28.1,z28.2.2.1,z28.2.2.2.1,z28h.1,z28h.2.1,z28h.2.2.1,z28h.2.2.2.1,z28h.2.2.2.2.1,z28h.2.2.2.2.2.2.2.1,z28h.2.2.2.2.2.2.2.2.1,z28h.2.2.2.2.2.2.2.2.2.1)) (fun z29=>
 let z29h:=z29.2.2.2.2
 k (z29.1,z29.2.2.1,z29.2.2.2.1,z29h.1,z29h.2.1,z29h.2.2.1,z29h.2.2.2.1,z29h.2.2.2.2.1,z29h.2.2.2.2.2.2.2.1,z29h.2.2.2.2.2.2.2.2.1,z29h.2.2.2.2.2.2.2.2.2)))))
instance n16n_jp5000003 (x:q47T):ParC (vfz x):=by unfold vfz;(try dsimp only);exact⟨((n35n_p _).p.bind fun _=>(vae ((n23n_p ..).p.bind fun _=>((n16n_jp5000019 _).p.bind2 (fun _=>(vac _)) (fun _=>(vac _)))) (vae (vae ((n20n_p ..).p.bind fun _=>((n12n_p ..).p.bind fun _=>((n16n_jp5000019 _).p.bind2 (fun _=>(vac _)) (fun _=>(vac _))))) ((n12n_p ..).p.bind fun _=>((n16n_jp5000019 _).p.bind2 (fun _=>(vac _)) (fun _=>(vac _))))) (vae ((n20n_p ..).p.bind fun _=>(vae (vae (vbw ((n23n_p ..).p.bind fun _=>((n16n_jp5000019 _).p.bind2 (fun _=>(vac _)) (fun _=>(vac _)))) vaw) ((n08n_p ..).p.bind fun _=>((n16n_jp5000019 _).p.bind2 (fun _=>(vac _)) (fun _=>(vac _))))) ((n08n_p ..).p.bind fun _=>((n16n_jp5000019 _).p.bind2 (fun _=>(vac _)) (fun _=>(vac _)))))) ((n35n_p _).p.bind fun _=>((n16n_jp5000019 _).p.bind2 (fun _=>(vac _)) (fun _=>(vac _))))))))⟩
def wl4 (a0:va3)(a1:vcg)(k:q88T→OR):OR:=
 vrd a0 (fun y1=>
 bif (!y1)then
 vim a0 (fun y2=>
 k (y2.1,y2.2.1,false,y2.2.2.1,y2.2.2.2.1,y2.2.2.2.2))
 else
 v6k a1 (fun y3=>
 bif (!y3)then
 vim a0 (fun y4=>
 k (y4.1,y4.2.1,false,y4.2.2.1,y4.2.2.2.1,y4.2.2.2.2))
 else
 vfz (false,a0.1,a0.2.1,a0.2.2.1,a0.2.2.2.1,a0.2.2.2.2,a1.1,a1.2.1.1,a1.2.1.2.1,a1.2.1.2.2.1,a1.2.1.2.2.2.1,a1.2.1.2.2.2.2.1,a1.2.1.2.2.2.2.2.1,a1.2.1.2.2.2.2.2.2.1,a1.2.1.2.2.2.2.2.2.2,a1.2.2.1,a1.2.2.2.1,a1.2.2.2.2.1,a1.2.2.2.2.2.1,a1.2.2.2.2.2.2.1,a1.2.2.2.2.2.2.2.1,a1.2.2.2.2.2.2.2.2,0,0) (fun z5=>
 let z5h:=z5.2.2.2.2
 k (z5h.2.2.1,z5h.2.2.2.1,z5.1,z5h.2.2.2.2.1,z5h.2.2.2.2.2.1,z5h.2.2.2.2.2.2))))
def v5j:=shut wl4
theorem wv6:v5j=wl4:=vaf _
instance n16n_p (a0:va3)(a1:vcg):ParC (v5j a0 a1):=by rw [wv6];unfold wl4;(try dsimp only);infer_instance
def wms (a0:vah)(a1:vah)(k:Bool→OR):OR:=
 bif (!(vaj a0.1 a1.1))then
 k false
 else
 bif (!(vaj a0.2.1 a1.2.1))then
 k false
 else
 bif (!(a0.2.2.1==a1.2.2.1))then
 k false
 else
 bif (a0.2.2.2 != a1.2.2.2)then
 k false
 else
 k true
def v8h:=shut wms
theorem wt5:v8h=wms:=vaf _
instance n55n_p (a0:vah)(a1:vah):ParC (v8h a0 a1):=by rw [wt5];unfold wms;(try dsimp only);infer_instance
def vqa (x:q22T)(k:q22T⊕(q22T⊕q22T)→OR):OR:=
 bif (decide (x.2.2.2<(x.1.length:Int)))then
 if 0≤x.2.2.2∧x.2.2.2<(x.1.length:Int)then
 if 0≤x.2.2.2∧x.2.2.2<(x.2.1.length:Int)then
 v8h (rd (Ty.zero tVersion) x.1 x.2.2.2) (rd (Ty.zero tVersion) x.2.1 x.2.2.2) (fun y3=>
 bif (!y3)then
 k (.inr (.inl (x.1,x.2.1,false,x.2.2.2)))
 else
 k (.inl (x.1,x.2.1,x.2.2.1,(IntKind.wrap .i64 (x.2.2.2+1)))))
 else none
 else none
 else
 k (.inr (.inr (x.1,x.2.1,x.2.2.1,x.2.2.2)))
instance n56n_bp0 (x:q22T):ParC (vqa x):=by unfold vqa;(try dsimp only);infer_instance
def wjo (a0:VL)(a1:VL)(k:Bool→OR):OR:=
 bif ((a0.length:Int) != (a1.length:Int))then
 k false
 else
 vab vqa Fuel (a0,a1,false,0) (Sum.elim (fun z1=>
 k z1.2.2.1) (fun _=>
 k true))
def v8g:=shut wjo
theorem wqq:v8g=wjo:=vaf _
instance n56n_p (a0:VL)(a1:VL):ParC (v8g a0 a1):=by rw [wqq];unfold wjo;(try dsimp only);infer_instance
def wm3 (a0:vbz)(a1:vbz)(k:Bool→OR):OR:=
 bif (!(vaj a0.1 a1.1))then
 k false
 else
 bif (!(vaj a0.2 a1.2))then
 k false
 else
 k true
def v7v:=shut wm3
theorem wv4:v7v=wm3:=vaf _
instance n50n_p (a0:vbz)(a1:vbz):ParC (v7v a0 a1):=by rw [wv4];unfold wm3;(try dsimp only);infer_instance
def voa (x:q2T)(k:q2T⊕(q2T⊕q2T)→OR):OR:=
 bif (decide (x.2.2.2<(x.1.length:Int)))then
 if 0≤x.2.2.2∧x.2.2.2<(x.1.length:Int)then
 if 0≤x.2.2.2∧x.2.2.2<(x.2.1.length:Int)then
 v7v (rd (Ty.zero tRange) x.1 x.2.2.2) (rd (Ty.zero tRange) x.2.1 x.2.2.2) (fun y3=>
 bif (!y3)then
 k (.inr (.inl (x.1,x.2.1,false,x.2.2.2)))
 else
 k (.inl (x.1,x.2.1,x.2.2.1,(IntKind.wrap .i64 (x.2.2.2+1)))))
 else none
 else none
 else
 k (.inr (.inr (x.1,x.2.1,x.2.2.1,x.2.2.2)))
instance n51n_bp0 (x:q2T):ParC (voa x):=by unfold voa;(try dsimp only);infer_instance
def wna (a0:RL)(a1:RL)(k:Bool→OR):OR:=
 bif ((a0.length:Int) != (a1.length:Int))then
 k false
 else
 vab voa Fuel (a0,a1,false,0) (Sum.elim (fun z1=>
 k z1.2.2.1) (fun _=>
 k true))
def v6o:=shut wna
theorem wu9:v6o=wna:=vaf _
instance n51n_p (a0:RL)(a1:RL):ParC (v6o a0 a1):=by rw [wu9];unfold wna;(try dsimp only);infer_instance
def wlt (a0:vb9)(a1:vb9)(k:Bool→OR):OR:=
 bif (!(vaj a0.1 a1.1))then
 k false
 else
 bif (!(vaj a0.2.1 a1.2.1))then
 k false
 else
 bif (!(a0.2.2==a1.2.2))then
 k false
 else
 k true
def v68:=shut wlt
theorem wsb:v68=wlt:=vaf _
instance n57n_p (a0:vb9)(a1:vb9):ParC (v68 a0 a1):=by rw [wsb];unfold wlt;(try dsimp only);infer_instance
def vpw (x:q35T)(k:q35T⊕(q35T⊕q35T)→OR):OR:=
 bif (decide (x.2.2.2<(x.1.length:Int)))then
 if 0≤x.2.2.2∧x.2.2.2<(x.1.length:Int)then
 if 0≤x.2.2.2∧x.2.2.2<(x.2.1.length:Int)then
 v68 (rd (Ty.zero tWrite) x.1 x.2.2.2) (rd (Ty.zero tWrite) x.2.1 x.2.2.2) (fun y3=>
 bif (!y3)then
 k (.inr (.inl (x.1,x.2.1,false,x.2.2.2)))
 else
 k (.inl (x.1,x.2.1,x.2.2.1,(IntKind.wrap .i64 (x.2.2.2+1)))))
 else none
 else none
 else
 k (.inr (.inr (x.1,x.2.1,x.2.2.1,x.2.2.2)))
instance n58n_bp0 (x:q35T):ParC (vpw x):=by unfold vpw;(try dsimp only);infer_instance
def wls (a0:WL)(a1:WL)(k:Bool→OR):OR:=
 bif ((a0.length:Int) != (a1.length:Int))then
 k false
 else
 vab vpw Fuel (a0,a1,false,0) (Sum.elim (fun z1=>
 k z1.2.2.1) (fun _=>
 k true))
def v5y:=shut wls
theorem wr1:v5y=wls:=vaf _
instance n58n_p (a0:WL)(a1:WL):ParC (v5y a0 a1):=by rw [wr1];unfold wls;(try dsimp only);infer_instance
def wl0 (a0:dTxn)(a1:dTxn)(k:Bool→OR):OR:=
 bif (a0.1 != a1.1)then
 k false
 else
 bif (a0.2.1 != a1.2.1)then
 k false
 else
 bif (a0.2.2.1 != a1.2.2.1)then
 k false
 else
 bif (a0.2.2.2.1 != a1.2.2.2.1)then
 k false
 else
 v6o a0.2.2.2.2.1 a1.2.2.2.2.1 (fun y1=>
 bif (!y1)then
 k false
 else
 v5y a0.2.2.2.2.2.1 a1.2.2.2.2.2.1 (fun y2=>
 bif (!y2)then
 k false
 else
 bif (!(a0.2.2.2.2.2.2.1==a1.2.2.2.2.2.2.1))then
 k false
 else
 bif (!(vaj a0.2.2.2.2.2.2.2 a1.2.2.2.2.2.2.2))then
 k false
 else
 k true))
def vw0:=shut wl0
theorem ww0:vw0=wl0:=vaf _
instance n53n_p (a0:dTxn)(a1:dTxn):ParC (vw0 a0 a1):=by rw [ww0];unfold wl0;(try dsimp only);infer_instance
def vqb (x:q7T)(k:q7T⊕(q7T⊕q7T)→OR):OR:=
 bif (decide (x.2.2.2<(x.1.length:Int)))then
 if 0≤x.2.2.2∧x.2.2.2<(x.1.length:Int)then
 if 0≤x.2.2.2∧x.2.2.2<(x.2.1.length:Int)then
 vw0 (rd (Ty.zero tTxn) x.1 x.2.2.2) (rd (Ty.zero tTxn) x.2.1 x.2.2.2) (fun y3=>
 bif (!y3)then
 k (.inr (.inl (x.1,x.2.1,false,x.2.2.2)))
 else
 k (.inl (x.1,x.2.1,x.2.2.1,(IntKind.wrap .i64 (x.2.2.2+1)))))
 else none
 else none
 else
 k (.inr (.inr (x.1,x.2.1,x.2.2.1,x.2.2.2)))
instance n54n_bp0 (x:q7T):ParC (vqb x):=by unfold vqb;(try dsimp only);infer_instance
def wkp (a0:TL)(a1:TL)(k:Bool→OR):OR:=
 bif ((a0.length:Int) != (a1.length:Int))then
 k false
 else
 vab vqb Fuel (a0,a1,false,0) (Sum.elim (fun z1=>
 k z1.2.2.1) (fun _=>
 k true))
def vzd:=shut wkp
theorem wuo:vzd=wkp:=vaf _
instance n54n_p (a0:TL)(a1:TL):ParC (vzd a0 a1):=by rw [wuo];unfold wkp;(try dsimp only);infer_instance
def wlj (a0:va3)(a1:va3)(k:Bool→OR):OR:=
 v8g a0.1 a1.1 (fun y1=>
 bif (!y1)then
 k false
 else
 vzd a0.2.1 a1.2.1 (fun y2=>
 bif (!y2)then
 k false
 else
 vzd a0.2.2.1 a1.2.2.1 (fun y3=>
 bif (!y3)then
 k false
 else
 bif (a0.2.2.2.1 != a1.2.2.2.1)then
 k false
 else
 bif (a0.2.2.2.2 != a1.2.2.2.2)then
 k false
 else
 k true)))
def vrq:=shut wlj
theorem wsy:vrq=wlj:=vaf _
instance n49n_p (a0:va3)(a1:va3):ParC (vrq a0 a1):=by rw [wsy];unfold wlj;(try dsimp only);infer_instance
def wkt (a0:vcg)(a1:vcg)(k:Bool→OR):OR:=
 bif (a0.1 != a1.1)then
 k false
 else
 vw0 a0.2.1 a1.2.1 (fun y1=>
 bif (!y1)then
 k false
 else
 bif (!(vaj a0.2.2.1 a1.2.2.1))then
 k false
 else
 bif (!(a0.2.2.2.1==a1.2.2.2.1))then
 k false
 else
 vrq a0.2.2.2.2 a1.2.2.2.2 (fun y2=>
 bif (!y2)then
 k false
 else
 k true))
def v63:=shut wkt
theorem wyk:v63=wkt:=vaf _
instance n52n_p (a0:vcg)(a1:vcg):ParC (v63 a0 a1):=by rw [wyk];unfold wkt;(try dsimp only);infer_instance
def vrv (x:(Int×ByteArray))(k:(Int×ByteArray)⊕(Int×ByteArray)→OR):OR:=
 bif (decide (x.1>0))then
 if(vsp [(IntKind.wrap .u8 (IntKind.wrap .i64 ((48:Int)+(x.1.tmod (10:Int)))))]).size+x.2.size≤1099511627776 then
 k (.inl ((IntKind.wrap .i64 (x.1.tdiv (10:Int))),((vsp [(IntKind.wrap .u8 (IntKind.wrap .i64 ((48:Int)+(x.1.tmod (10:Int)))))])++x.2)))
 else none
 else
 k (.inr (x.1,x.2))
instance n67n_bp0 (x:(Int×ByteArray)):ParC (vrv x):=by unfold vrv;(try dsimp only);infer_instance
def wmc (a0:Int)(k:ByteArray→OR):OR:=
 bif (decide (a0≤0))then
 k (⟨#[109,48]⟩:ByteArray)
 else
 vab vrv Fuel (a0,(⟨#[]⟩:ByteArray)) (fun z1=>
 if(⟨#[109]⟩:ByteArray).size+z1.2.size≤1099511627776 then
 k ((⟨#[109]⟩:ByteArray)++z1.2)
 else none)
def vc9:=shut wmc
theorem wqn:vc9=wmc:=vaf _
instance n67n_p (a0:Int):ParC (vc9 a0):=by rw [wqn];unfold wmc;(try dsimp only);infer_instance
def vn2 (x:(Int×Int×VL))(k:(Int×Int×VL)⊕(Int×Int×VL)→OR):OR:=
 let t0:=(x.2.2.getD x.2.1.toNat (Ty.zero tVersion))
 let t1:=(IntKind.wrap .i64 ((IntKind.wrap .i64 (x.1+(1:Int)))+(1:Int)))
 let t2:=((t1.tmod (3:Int))==(0:Int))
 bif (decide (x.2.1<(x.2.2.length:Int)))then
 vc9 x.1 (fun y2=>
 if 0≤x.2.1∧x.2.1<(x.2.2.length:Int)then
 vc9 (IntKind.wrap .i64 (x.1+1)) (fun y3=>
 if 0≤x.2.1∧x.2.1<((x.2.2.set x.2.1.toNat (y2,t0.2)).length:Int)then
 if 0≤x.2.1∧x.2.1<(((x.2.2.set x.2.1.toNat (y2,t0.2)).set x.2.1.toNat (((x.2.2.set x.2.1.toNat (y2,t0.2)).getD x.2.1.toNat (Ty.zero tVersion)).1,(y3,((x.2.2.set x.2.1.toNat (y2,t0.2)).getD x.2.1.toNat (Ty.zero tVersion)).2.2))).length:Int)then
 if 0≤x.2.1∧x.2.1<((((x.2.2.set x.2.1.toNat (y2,t0.2)).set x.2.1.toNat (((x.2.2.set x.2.1.toNat (y2,t0.2)).getD x.2.1.toNat (Ty.zero tVersion)).1,(y3,((x.2.2.set x.2.1.toNat (y2,t0.2)).getD x.2.1.toNat (Ty.zero tVersion)).2.2))).set x.2.1.toNat ((((x.2.2.set x.2.1.toNat (y2,t0.2)).set x.2.1.toNat (((x.2.2.set x.2.1.toNat (y2,t0.2)).getD x.2.1.toNat (Ty.zero tVersion)).1,(y3,((x.2.2.set x.2.1.toNat (y2,t0.2)).getD x.2.1.toNat (Ty.zero tVersion)).2.2))).getD x.2.1.toNat (Ty.zero tVersion)).1,((((x.2.2.set x.2.1.toNat (y2,t0.2)).set x.2.1.toNat (((x.2.2.set x.2.1.toNat (y2,t0.2)).getD x.2.1.toNat (Ty.zero tVersion)).1,(y3,((x.2.2.set x.2.1.toNat (y2,t0.2)).getD x.2.1.toNat (Ty.zero tVersion)).2.2))).getD x.2.1.toNat (Ty.zero tVersion)).2.1,(t2,(((x.2.2.set x.2.1.toNat (y2,t0.2)).set x.2.1.toNat (((x.2.2.set x.2.1.toNat (y2,t0.2)).getD x.2.1.toNat (Ty.zero tVersion)).1,(y3,((x.2.2.set x.2.1.toNat (y2,t0.2)).getD x.2.1.toNat (Ty.zero tVersion)).2.2))).getD x.2.1.toNat (Ty.zero tVersion)).2.2.2)))).length:Int)then
 k (.inl ((IntKind.wrap .i64 ((IntKind.wrap .i64 (t1+1))+1)),(IntKind.wrap .i64 (x.2.1+1)),((((x.2.2.set x.2.1.toNat (y2,t0.2)).set x.2.1.toNat (((x.2.2.set x.2.1.toNat (y2,t0.2)).getD x.2.1.toNat (Ty.zero tVersion)).1,(y3,((x.2.2.set x.2.1.toNat (y2,t0.2)).getD x.2.1.toNat (Ty.zero tVersion)).2.2))).set x.2.1.toNat ((((x.2.2.set x.2.1.toNat (y2,t0.2)).set x.2.1.toNat (((x.2.2.set x.2.1.toNat (y2,t0.2)).getD x.2.1.toNat (Ty.zero tVersion)).1,(y3,((x.2.2.set x.2.1.toNat (y2,t0.2)).getD x.2.1.toNat (Ty.zero tVersion)).2.2))).getD x.2.1.toNat (Ty.zero tVersion)).1,((((x.2.2.set x.2.1.toNat (y2,t0.2)).set x.2.1.toNat (((x.2.2.set x.2.1.toNat (y2,t0.2)).getD x.2.1.toNat (Ty.zero tVersion)).1,(y3,((x.2.2.set x.2.1.toNat (y2,t0.2)).getD x.2.1.toNat (Ty.zero tVersion)).2.2))).getD x.2.1.toNat (Ty.zero tVersion)).2.1,(t2,(((x.2.2.set x.2.1.toNat (y2,t0.2)).set x.2.1.toNat (((x.2.2.set x.2.1.toNat (y2,t0.2)).getD x.2.1.toNat (Ty.zero tVersion)).1,(y3,((x.2.2.set x.2.1.toNat (y2,t0.2)).getD x.2.1.toNat (Ty.zero tVersion)).2.2))).getD x.2.1.toNat (Ty.zero tVersion)).2.2.2)))).set x.2.1.toNat (((((x.2.2.set x.2.1.toNat (y2,t0.2)).set x.2.1.toNat (((x.2.2.set x.2.1.toNat (y2,t0.2)).getD x.2.1.toNat (Ty.zero tVersion)).1,(y3,((x.2.2.set x.2.1.toNat (y2,t0.2)).getD x.2.1.toNat (Ty.zero tVersion)).2.2))).set x.2.1.toNat ((((x.2.2.set x.2.1.toNat (y2,t0.2)).set x.2.1.toNat (((x.2.2.set x.2.1.toNat (y2,t0.2)).getD x.2.1.toNat (Ty.zero tVersion)).1,(y3,((x.2.2.set x.2.1.toNat (y2,t0.2)).getD x.2.1.toNat (Ty.zero tVersion)).2.2))).getD x.2.1.toNat (Ty.zero tVersion)).1,((((x.2.2.set x.2.1.toNat (y2,t0.2)).set x.2.1.toNat (((x.2.2.set x.2.1.toNat (y2,t0.2)).getD x.2.1.toNat (Ty.zero tVersion)).1,(y3,((x.2.2.set x.2.1.toNat (y2,t0.2)).getD x.2.1.toNat (Ty.zero tVersion)).2.2))).getD x.2.1.toNat (Ty.zero tVersion)).2.1,(t2,(((x.2.2.set x.2.1.toNat (y2,t0.2)).set x.2.1.toNat (((x.2.2.set x.2.1.toNat (y2,t0.2)).getD x.2.1.toNat (Ty.zero tVersion)).1,(y3,((x.2.2.set x.2.1.toNat (y2,t0.2)).getD x.2.1.toNat (Ty.zero tVersion)).2.2))).getD x.2.1.toNat (Ty.zero tVersion)).2.2.2)))).getD x.2.1.toNat (Ty.zero tVersion)).1,(((((x.2.2.set x.2.1.toNat (y2,t0.2)).set x.2.1.toNat (((x.2.2.set x.2.1.toNat (y2,t0.2)).getD x.2.1.toNat (Ty.zero tVersion)).1,(y3,((x.2.2.set x.2.1.toNat (y2,t0.2)).getD x.2.1.toNat (Ty.zero tVersion)).2.2))).set x.2.1.toNat ((((x.2.2.set x.2.1.toNat (y2,t0.2)).set x.2.1.toNat (((x.2.2.set x.2.1.toNat (y2,t0.2)).getD x.2.1.toNat (Ty.zero tVersion)).1,(y3,((x.2.2.set x.2.1.toNat (y2,t0.2)).getD x.2.1.toNat (Ty.zero tVersion)).2.2))).getD x.2.1.toNat (Ty.zero tVersion)).1,((((x.2.2.set x.2.1.toNat (y2,t0.2)).set x.2.1.toNat (((x.2.2.set x.2.1.toNat (y2,t0.2)).getD x.2.1.toNat (Ty.zero tVersion)).1,(y3,((x.2.2.set x.2.1.toNat (y2,t0.2)).getD x.2.1.toNat (Ty.zero tVersion)).2.2))).getD x.2.1.toNat (Ty.zero tVersion)).2.1,(t2,(((x.2.2.set x.2.1.toNat (y2,t0.2)).set x.2.1.toNat (((x.2.2.set x.2.1.toNat (y2,t0.2)).getD x.2.1.toNat (Ty.zero tVersion)).1,(y3,((x.2.2.set x.2.1.toNat (y2,t0.2)).getD x.2.1.toNat (Ty.zero tVersion)).2.2))).getD x.2.1.toNat (Ty.zero tVersion)).2.2.2)))).getD x.2.1.toNat (Ty.zero tVersion)).2.1,(((((x.2.2.set x.2.1.toNat (y2,t0.2)).set x.2.1.toNat (((x.2.2.set x.2.1.toNat (y2,t0.2)).getD x.2.1.toNat (Ty.zero tVersion)).1,(y3,((x.2.2.set x.2.1.toNat (y2,t0.2)).getD x.2.1.toNat (Ty.zero tVersion)).2.2))).set x.2.1.toNat ((((x.2.2.set x.2.1.toNat (y2,t0.2)).set x.2.1.toNat (((x.2.2.set x.2.1.toNat (y2,t0.2)).getD x.2.1.toNat (Ty.zero tVersion)).1,(y3,((x.2.2.set x.2.1.toNat (y2,t0.2)).getD x.2.1.toNat (Ty.zero tVersion)).2.2))).getD x.2.1.toNat (Ty.zero tVersion)).1,((((x.2.2.set x.2.1.toNat (y2,t0.2)).set x.2.1.toNat (((x.2.2.set x.2.1.toNat (y2,t0.2)).getD x.2.1.toNat (Ty.zero tVersion)).1,(y3,((x.2.2.set x.2.1.toNat (y2,t0.2)).getD x.2.1.toNat (Ty.zero tVersion)).2.2))).getD x.2.1.toNat (Ty.zero tVersion)).2.1,(t2,(((x.2.2.set x.2.1.toNat (y2,t0.2)).set x.2.1.toNat (((x.2.2.set x.2.1.toNat (y2,t0.2)).getD x.2.1.toNat (Ty.zero tVersion)).1,(y3,((x.2.2.set x.2.1.toNat (y2,t0.2)).getD x.2.1.toNat (Ty.zero tVersion)).2.2))).getD x.2.1.toNat (Ty.zero tVersion)).2.2.2)))).getD x.2.1.toNat (Ty.zero tVersion)).2.2.1,(IntKind.wrap .i64 (t1+1))))))))
 else none
 else none
 else none)
 else none)
 else
 k (.inr (x.1,x.2.1,x.2.2))
instance n70n_bp0 (x:(Int×Int×VL)):ParC (vn2 x):=by unfold vn2;(try dsimp only);infer_instance
def wl7 (a0:Int)(a1:VL)(k:(Int×VL)→OR):OR:=
 vab vn2 Fuel (a0,0,a1) (fun z1=>
 k (z1.1,z1.2.2))
def wen:=shut wl7
theorem wtu:wen=wl7:=vaf _
instance n70n_p (a0:Int)(a1:VL):ParC (wen a0 a1):=by rw [wtu];unfold wl7;(try dsimp only);infer_instance
def vsi (x:(Int×Int×RL))(k:(Int×Int×RL)⊕(Int×Int×RL)→OR):OR:=
 bif (decide (x.2.1<(x.2.2.length:Int)))then
 vc9 x.1 (fun y2=>
 if 0≤x.2.1∧x.2.1<(x.2.2.length:Int)then
 vc9 (IntKind.wrap .i64 (x.1+1)) (fun y3=>
 if 0≤x.2.1∧x.2.1<((x.2.2.set x.2.1.toNat (y2,(x.2.2.getD x.2.1.toNat (Ty.zero tRange)).2)).length:Int)then
 k (.inl ((IntKind.wrap .i64 ((IntKind.wrap .i64 (x.1+1))+1)),(IntKind.wrap .i64 (x.2.1+1)),((x.2.2.set x.2.1.toNat (y2,(x.2.2.getD x.2.1.toNat (Ty.zero tRange)).2)).set x.2.1.toNat (((x.2.2.set x.2.1.toNat (y2,(x.2.2.getD x.2.1.toNat (Ty.zero tRange)).2)).getD x.2.1.toNat (Ty.zero tRange)).1,y3))))
 else none)
 else none)
 else
 k (.inr (x.1,x.2.1,x.2.2))
instance n65n_bp0 (x:(Int×Int×RL)):ParC (vsi x):=by unfold vsi;(try dsimp only);infer_instance
def wni (a0:Int)(a1:RL)(k:(Int×RL)→OR):OR:=
 vab vsi Fuel (a0,0,a1) (fun z1=>
 k (z1.1,z1.2.2))
def v56:=shut wni
theorem wx9:v56=wni:=vaf _
instance n65n_p (a0:Int)(a1:RL):ParC (v56 a0 a1):=by rw [wx9];unfold wni;(try dsimp only);infer_instance
def vs7 (x:(Int×Int×WL))(k:(Int×Int×WL)⊕(Int×Int×WL)→OR):OR:=
 let t0:=(x.2.2.getD x.2.1.toNat (Ty.zero tWrite))
 bif (decide (x.2.1<(x.2.2.length:Int)))then
 vc9 x.1 (fun y2=>
 if 0≤x.2.1∧x.2.1<(x.2.2.length:Int)then
 vc9 (IntKind.wrap .i64 (x.1+1)) (fun y3=>
 if 0≤x.2.1∧x.2.1<((x.2.2.set x.2.1.toNat (y2,t0.2)).length:Int)then
 if 0≤x.2.1∧x.2.1<(((x.2.2.set x.2.1.toNat (y2,t0.2)).set x.2.1.toNat (((x.2.2.set x.2.1.toNat (y2,t0.2)).getD x.2.1.toNat (Ty.zero tWrite)).1,(y3,((x.2.2.set x.2.1.toNat (y2,t0.2)).getD x.2.1.toNat (Ty.zero tWrite)).2.2))).length:Int)then
 k (.inl ((IntKind.wrap .i64 ((IntKind.wrap .i64 ((IntKind.wrap .i64 (x.1+1))+1))+1)),(IntKind.wrap .i64 (x.2.1+1)),(((x.2.2.set x.2.1.toNat (y2,t0.2)).set x.2.1.toNat (((x.2.2.set x.2.1.toNat (y2,t0.2)).getD x.2.1.toNat (Ty.zero tWrite)).1,(y3,((x.2.2.set x.2.1.toNat (y2,t0.2)).getD x.2.1.toNat (Ty.zero tWrite)).2.2))).set x.2.1.toNat ((((x.2.2.set x.2.1.toNat (y2,t0.2)).set x.2.1.toNat (((x.2.2.set x.2.1.toNat (y2,t0.2)).getD x.2.1.toNat (Ty.zero tWrite)).1,(y3,((x.2.2.set x.2.1.toNat (y2,t0.2)).getD x.2.1.toNat (Ty.zero tWrite)).2.2))).getD x.2.1.toNat (Ty.zero tWrite)).1,((((x.2.2.set x.2.1.toNat (y2,t0.2)).set x.2.1.toNat (((x.2.2.set x.2.1.toNat (y2,t0.2)).getD x.2.1.toNat (Ty.zero tWrite)).1,(y3,((x.2.2.set x.2.1.toNat (y2,t0.2)).getD x.2.1.toNat (Ty.zero tWrite)).2.2))).getD x.2.1.toNat (Ty.zero tWrite)).2.1,(((IntKind.wrap .i64 ((IntKind.wrap .i64 (x.1+1))+1)).tmod (3:Int))==(0:Int)))))))
 else none
 else none)
 else none)
 else
 k (.inr (x.1,x.2.1,x.2.2))
instance n71n_bp0 (x:(Int×Int×WL)):ParC (vs7 x):=by unfold vs7;(try dsimp only);infer_instance
def wkm (a0:Int)(a1:WL)(k:(Int×WL)→OR):OR:=
 vab vs7 Fuel (a0,0,a1) (fun z1=>
 k (z1.1,z1.2.2))
def v7d:=shut wkm
theorem wxb:v7d=wkm:=vaf _
instance n71n_p (a0:Int)(a1:WL):ParC (v7d a0 a1):=by rw [wxb];unfold wkm;(try dsimp only);infer_instance
def vff (x:(Int×Int×TL))(k:(Int×Int×TL)→OR):OR:=
 k (x.1,(IntKind.wrap .i64 (x.2.1+1)),x.2.2)
instance n68n_jp5000003 (x:(Int×Int×TL)):ParC (vff x):=by unfold vff;(try dsimp only);infer_instance
def vfb (x:(Int×Int×TL))(k:(Int×Int×TL)→OR):OR:=
 k ((IntKind.wrap .i64 (x.1+1)),x.2.1,x.2.2)
instance n68n_jp5000017 (x:(Int×Int×TL)):ParC (vfb x):=by unfold vfb;(try dsimp only);infer_instance
def vfq (x:(Int×Int×TL))(k:(Int×Int×TL)→OR):OR:=
 vc9 (IntKind.wrap .i64 (x.1+1)) (fun y10=>
 if 0≤x.2.1∧x.2.1<(x.2.2.length:Int)then
 vfb ((IntKind.wrap .i64 (x.1+1)),x.2.1,(x.2.2.set x.2.1.toNat ((x.2.2.getD x.2.1.toNat (Ty.zero tTxn)).1,((x.2.2.getD x.2.1.toNat (Ty.zero tTxn)).2.1,((x.2.2.getD x.2.1.toNat (Ty.zero tTxn)).2.2.1,((x.2.2.getD x.2.1.toNat (Ty.zero tTxn)).2.2.2.1,((x.2.2.getD x.2.1.toNat (Ty.zero tTxn)).2.2.2.2.1,((x.2.2.getD x.2.1.toNat (Ty.zero tTxn)).2.2.2.2.2.1,((x.2.2.getD x.2.1.toNat (Ty.zero tTxn)).2.2.2.2.2.2.1,y10))))))))) (fun z11=>
 k (z11.1,z11.2.1,z11.2.2))
 else none)
instance n68n_jp5000015 (x:(Int×Int×TL)):ParC (vfq x):=by unfold vfq;(try dsimp only);infer_instance
def vfy (x:(Int×Int×TL))(k:(Int×Int×TL)→OR):OR:=
 let t0:=(x.2.2.getD x.2.1.toNat (Ty.zero tTxn))
 if 0≤x.2.1∧x.2.1<(x.2.2.length:Int)then
 v56 (IntKind.wrap .i64 (x.1+1)) (t0.2.2.2.2.1) (fun y7=>
 if 0≤x.2.1∧x.2.1<((x.2.2.set x.2.1.toNat (t0.1,(t0.2.1,(t0.2.2.1,(t0.2.2.2.1,(y7.2,t0.2.2.2.2.2)))))).length:Int)then
 v7d y7.1 (((x.2.2.set x.2.1.toNat (t0.1,(t0.2.1,(t0.2.2.1,(t0.2.2.2.1,(y7.2,t0.2.2.2.2.2)))))).getD x.2.1.toNat (Ty.zero tTxn)).2.2.2.2.2.1) (fun y8=>
 if 0≤x.2.1∧x.2.1<(((x.2.2.set x.2.1.toNat (t0.1,(t0.2.1,(t0.2.2.1,(t0.2.2.2.1,(y7.2,t0.2.2.2.2.2)))))).set x.2.1.toNat (((x.2.2.set x.2.1.toNat (t0.1,(t0.2.1,(t0.2.2.1,(t0.2.2.2.1,(y7.2,t0.2.2.2.2.2)))))).getD x.2.1.toNat (Ty.zero tTxn)).1,(((x.2.2.set x.2.1.toNat (t0.1,(t0.2.1,(t0.2.2.1,(t0.2.2.2.1,(y7.2,t0.2.2.2.2.2)))))).getD x.2.1.toNat (Ty.zero tTxn)).2.1,(((x.2.2.set x.2.1.toNat (t0.1,(t0.2.1,(t0.2.2.1,(t0.2.2.2.1,(y7.2,t0.2.2.2.2.2)))))).getD x.2.1.toNat (Ty.zero tTxn)).2.2.1,(((x.2.2.set x.2.1.toNat (t0.1,(t0.2.1,(t0.2.2.1,(t0.2.2.2.1,(y7.2,t0.2.2.2.2.2)))))).getD x.2.1.toNat (Ty.zero tTxn)).2.2.2.1,(((x.2.2.set x.2.1.toNat (t0.1,(t0.2.1,(t0.2.2.1,(t0.2.2.2.1,(y7.2,t0.2.2.2.2.2)))))).getD x.2.1.toNat (Ty.zero tTxn)).2.2.2.2.1,(y8.2,((x.2.2.set x.2.1.toNat (t0.1,(t0.2.1,(t0.2.2.1,(t0.2.2.2.1,(y7.2,t0.2.2.2.2.2)))))).getD x.2.1.toNat (Ty.zero tTxn)).2.2.2.2.2.2))))))).length:Int)then
 vfq (y8.1,x.2.1,(((x.2.2.set x.2.1.toNat (t0.1,(t0.2.1,(t0.2.2.1,(t0.2.2.2.1,(y7.2,t0.2.2.2.2.2)))))).set x.2.1.toNat (((x.2.2.set x.2.1.toNat (t0.1,(t0.2.1,(t0.2.2.1,(t0.2.2.2.1,(y7.2,t0.2.2.2.2.2)))))).getD x.2.1.toNat (Ty.zero tTxn)).1,(((x.2.2.set x.2.1.toNat (t0.1,(t0.2.1,(t0.2.2.1,(t0.2.2.2.1,(y7.2,t0.2.2.2.2.2)))))).getD x.2.1.toNat (Ty.zero tTxn)).2.1,(((x.2.2.set x.2.1.toNat (t0.1,(t0.2.1,(t0.2.2.1,(t0.2.2.2.1,(y7.2,t0.2.2.2.2.2)))))).getD x.2.1.toNat (Ty.zero tTxn)).2.2.1,(((x.2.2.set x.2.1.toNat (t0.1,(t0.2.1,(t0.2.2.1,(t0.2.2.2.1,(y7.2,t0.2.2.2.2.2)))))).getD x.2.1.toNat (Ty.zero tTxn)).2.2.2.1,(((x.2.2.set x.2.1.toNat (t0.1,(t0.2.1,(t0.2.2.1,(t0.2.2.2.1,(y7.2,t0.2.2.2.2.2)))))).getD x.2.1.toNat (Ty.zero tTxn)).2.2.2.2.1,(y8.2,((x.2.2.set x.2.1.toNat (t0.1,(t0.2.1,(t0.2.2.1,(t0.2.2.2.1,(y7.2,t0.2.2.2.2.2)))))).getD x.2.1.toNat (Ty.zero tTxn)).2.2.2.2.2.2))))))).set x.2.1.toNat ((((x.2.2.set x.2.1.toNat (t0.1,(t0.2.1,(t0.2.2.1,(t0.2.2.2.1,(y7.2,t0.2.2.2.2.2)))))).set x.2.1.toNat (((x.2.2.set x.2.1.toNat (t0.1,(t0.2.1,(t0.2.2.1,(t0.2.2.2.1,(y7.2,t0.2.2.2.2.2)))))).getD x.2.1.toNat (Ty.zero tTxn)).1,(((x.2.2.set x.2.1.toNat (t0.1,(t0.2.1,(t0.2.2.1,(t0.2.2.2.1,(y7.2,t0.2.2.2.2.2)))))).getD x.2.1.toNat (Ty.zero tTxn)).2.1,(((x.2.2.set x.2.1.toNat (t0.1,(t0.2.1,(t0.2.2.1,(t0.2.2.2.1,(y7.2,t0.2.2.2.2.2)))))).getD x.2.1.toNat (Ty.zero tTxn)).2.2.1,(((x.2.2.set x.2.1.toNat (t0.1,(t0.2.1,(t0.2.2.1,(t0.2.2.2.1,(y7.2,t0.2.2.2.2.2)))))).getD x.2.1.toNat (Ty.zero tTxn)).2.2.2.1,(((x.2.2.set x.2.1.toNat (t0.1,(t0.2.1,(t0.2.2.1,(t0.2.2.2.1,(y7.2,t0.2.2.2.2.2)))))).getD x.2.1.toNat (Ty.zero tTxn)).2.2.2.2.1,(y8.2,((x.2.2.set x.2.1.toNat (t0.1,(t0.2.1,(t0.2.2.1,(t0.2.2.2.1,(y7.2,t0.2.2.2.2.2)))))).getD x.2.1.toNat (Ty.zero tTxn)).2.2.2.2.2.2))))))).getD x.2.1.toNat (Ty.zero tTxn)).1,((((x.2.2.set x.2.1.toNat (t0.1,(t0.2.1,(t0.2.2.1,(t0.2.2.2.1,(y7.2,t0.2.2.2.2.2)))))).set x.2.1.toNat (((x.2.2.set x.2.1.toNat (t0.1,(t0.2.1,(t0.2.2.1,(t0.2.2.2.1,(y7.2,t0.2.2.2.2.2)))))).getD x.2.1.toNat (Ty.zero tTxn)).1,(((x.2.2.set x.2.1.toNat (t0.1,(t0.2.1,(t0.2.2.1,(t0.2.2.2.1,(y7.2,t0.2.2.2.2.2)))))).getD x.2.1.toNat (Ty.zero tTxn)).2.1,(((x.2.2.set x.2.1.toNat (t0.1,(t0.2.1,(t0.2.2.1,(t0.2.2.2.1,(y7.2,t0.2.2.2.2.2)))))).getD x.2.1.toNat (Ty.zero tTxn)).2.2.1,(((x.2.2.set x.2.1.toNat (t0.1,(t0.2.1,(t0.2.2.1,(t0.2.2.2.1,(y7.2,t0.2.2.2.2.2)))))).getD x.2.1.toNat (Ty.zero tTxn)).2.2.2.1,(((x.2.2.set x.2.1.toNat (t0.1,(t0.2.1,(t0.2.2.1,(t0.2.2.2.1,(y7.2,t0.2.2.2.2.2)))))).getD x.2.1.toNat (Ty.zero tTxn)).2.2.2.2.1,(y8.2,((x.2.2.set x.2.1.toNat (t0.1,(t0.2.1,(t0.2.2.1,(t0.2.2.2.1,(y7.2,t0.2.2.2.2.2)))))).getD x.2.1.toNat (Ty.zero tTxn)).2.2.2.2.2.2))))))).getD x.2.1.toNat (Ty.zero tTxn)).2.1,((((x.2.2.set x.2.1.toNat (t0.1,(t0.2.1,(t0.2.2.1,(t0.2.2.2.1,(y7.2,t0.2.2.2.2.2)))))).set x.2.1.toNat (((x.2.2.set x.2.1.toNat (t0.1,(t0.2.1,(t0.2.2.1,(t0.2.2.2.1,(y7.2,t0.2.2.2.2.2)))))).getD x.2.1.toNat (Ty.zero tTxn)).1,(((x.2.2.set x.2.1.toNat (t0.1,(t0.2.1,(t0.2.2.1,(t0.2.2.2.1,(y7.2,t0.2.2.2.2.2)))))).getD x.2.1.toNat (Ty.zero tTxn)).2.1,(((x.2.2.set x.2.1.toNat (t0.1,(t0.2.1,(t0.2.2.1,(t0.2.2.2.1,(y7.2,t0.2.2.2.2.2)))))).getD x.2.1.toNat (Ty.zero tTxn)).2.2.1,(((x.2.2.set x.2.1.toNat (t0.1,(t0.2.1,(t0.2.2.1,(t0.2.2.2.1,(y7.2,t0.2.2.2.2.2)))))).getD x.2.1.toNat (Ty.zero tTxn)).2.2.2.1,(((x.2.2.set x.2.1.toNat (t0.1,(t0.2.1,(t0.2.2.1,(t0.2.2.2.1,(y7.2,t0.2.2.2.2.2)))))).getD x.2.1.toNat (Ty.zero tTxn)).2.2.2.2.1,(y8.2,((x.2.2.set x.2.1.toNat (t0.1,(t0.2.1,(t0.2.2.1,(t0.2.2.2.1,(y7.2,t0.2.2.2.2.2)))))).getD x.2.1.toNat (Ty.zero tTxn)).2.2.2.2.2.2))))))).getD x.2.1.toNat (Ty.zero tTxn)).2.2.1,((((x.2.2.set x.2.1.toNat (t0.1,(t0.2.1,(t0.2.2.1,(t0.2.2.2.1,(y7.2,t0.2.2.2.2.2)))))).set x.2.1.toNat (((x.2.2.set x.2.1.toNat (t0.1,(t0.2.1,(t0.2.2.1,(t0.2.2.2.1,(y7.2,t0.2.2.2.2.2)))))).getD x.2.1.toNat (Ty.zero tTxn)).1,(((x.2.2.set x.2.1.toNat (t0.1,(t0.2.1,(t0.2.2.1,(t0.2.2.2.1,(y7.2,t0.2.2.2.2.2)))))).getD x.2.1.toNat (Ty.zero tTxn)).2.1,(((x.2.2.set x.2.1.toNat (t0.1,(t0.2.1,(t0.2.2.1,(t0.2.2.2.1,(y7.2,t0.2.2.2.2.2)))))).getD x.2.1.toNat (Ty.zero tTxn)).2.2.1,(((x.2.2.set x.2.1.toNat (t0.1,(t0.2.1,(t0.2.2.1,(t0.2.2.2.1,(y7.2,t0.2.2.2.2.2)))))).getD x.2.1.toNat (Ty.zero tTxn)).2.2.2.1,(((x.2.2.set x.2.1.toNat (t0.1,(t0.2.1,(t0.2.2.1,(t0.2.2.2.1,(y7.2,t0.2.2.2.2.2)))))).getD x.2.1.toNat (Ty.zero tTxn)).2.2.2.2.1,(y8.2,((x.2.2.set x.2.1.toNat (t0.1,(t0.2.1,(t0.2.2.1,(t0.2.2.2.1,(y7.2,t0.2.2.2.2.2)))))).getD x.2.1.toNat (Ty.zero tTxn)).2.2.2.2.2.2))))))).getD x.2.1.toNat (Ty.zero tTxn)).2.2.2.1,((((x.2.2.set x.2.1.toNat (t0.1,(t0.2.1,(t0.2.2.1,(t0.2.2.2.1,(y7.2,t0.2.2.2.2.2)))))).set x.2.1.toNat (((x.2.2.set x.2.1.toNat (t0.1,(t0.2.1,(t0.2.2.1,(t0.2.2.2.1,(y7.2,t0.2.2.2.2.2)))))).getD x.2.1.toNat (Ty.zero tTxn)).1,(((x.2.2.set x.2.1.toNat (t0.1,(t0.2.1,(t0.2.2.1,(t0.2.2.2.1,(y7.2,t0.2.2.2.2.2)))))).getD x.2.1.toNat (Ty.zero tTxn)).2.1,(((x.2.2.set x.2.1.toNat (t0.1,(t0.2.1,(t0.2.2.1,(t0.2.2.2.1,(y7.2,t0.2.2.2.2.2)))))).getD x.2.1.toNat (Ty.zero tTxn)).2.2.1,(((x.2.2.set x.2.1.toNat (t0.1,(t0.2.1,(t0.2.2.1,(t0.2.2.2.1,(y7.2,t0.2.2.2.2.2)))))).getD x.2.1.toNat (Ty.zero tTxn)).2.2.2.1,(((x.2.2.set x.2.1.toNat (t0.1,(t0.2.1,(t0.2.2.1,(t0.2.2.2.1,(y7.2,t0.2.2.2.2.2)))))).getD x.2.1.toNat (Ty.zero tTxn)).2.2.2.2.1,(y8.2,((x.2.2.set x.2.1.toNat (t0.1,(t0.2.1,(t0.2.2.1,(t0.2.2.2.1,(y7.2,t0.2.2.2.2.2)))))).getD x.2.1.toNat (Ty.zero tTxn)).2.2.2.2.2.2))))))).getD x.2.1.toNat (Ty.zero tTxn)).2.2.2.2.1,((((x.2.2.set x.2.1.toNat (t0.1,(t0.2.1,(t0.2.2.1,(t0.2.2.2.1,(y7.2,t0.2.2.2.2.2)))))).set x.2.1.toNat (((x.2.2.set x.2.1.toNat (t0.1,(t0.2.1,(t0.2.2.1,(t0.2.2.2.1,(y7.2,t0.2.2.2.2.2)))))).getD x.2.1.toNat (Ty.zero tTxn)).1,(((x.2.2.set x.2.1.toNat (t0.1,(t0.2.1,(t0.2.2.1,(t0.2.2.2.1,(y7.2,t0.2.2.2.2.2)))))).getD x.2.1.toNat (Ty.zero tTxn)).2.1,(((x.2.2.set x.2.1.toNat (t0.1,(t0.2.1,(t0.2.2.1,(t0.2.2.2.1,(y7.2,t0.2.2.2.2.2)))))).getD x.2.1.toNat (Ty.zero tTxn)).2.2.1,(((x.2.2.set x.2.1.toNat (t0.1,(t0.2.1,(t0.2.2.1,(t0.2.2.2.1,(y7.2,t0.2.2.2.2.2)))))).getD x.2.1.toNat (Ty.zero tTxn)).2.2.2.1,(((x.2.2.set x.2.1.toNat (t0.1,(t0.2.1,(t0.2.2.1,(t0.2.2.2.1,(y7.2,t0.2.2.2.2.2)))))).getD x.2.1.toNat (Ty.zero tTxn)).2.2.2.2.1,(y8.2,((x.2.2.set x.2.1.toNat (t0.1,(t0.2.1,(t0.2.2.1,(t0.2.2.2.1,(y7.2,t0.2.2.2.2.2)))))).getD x.2.1.toNat (Ty.zero tTxn)).2.2.2.2.2.2))))))).getD x.2.1.toNat (Ty.zero tTxn)).2.2.2.2.2.1,(((y8.1.tmod (3:Int))==(0:Int)),(((x.2.2.set x.2.1.toNat (t0.1,(t0.2.1,(t0.2.2.1,(t0.2.2.2.1,(y7.2,t0.2.2.2.2.2)))))).set x.2.1.toNat (((x.2.2.set x.2.1.toNat (t0.1,(t0.2.1,(t0.2.2.1,(t0.2.2.2.1,(y7.2,t0.2.2.2.2.2)))))).getD x.2.1.toNat (Ty.zero tTxn)).1,(((x.2.2.set x.2.1.toNat (t0.1,(t0.2.1,(t0.2.2.1,(t0.2.2.2.1,(y7.2,t0.2.2.2.2.2)))))).getD x.2.1.toNat (Ty.zero tTxn)).2.1,(((x.2.2.set x.2.1.toNat (t0.1,(t0.2.1,(t0.2.2.1,(t0.2.2.2.1,(y7.2,t0.2.2.2.2.2)))))).getD x.2.1.toNat (Ty.zero tTxn)).2.2.1,(((x.2.2.set x.2.1.toNat (t0.1,(t0.2.1,(t0.2.2.1,(t0.2.2.2.1,(y7.2,t0.2.2.2.2.2)))))).getD x.2.1.toNat (Ty.zero tTxn)).2.2.2.1,(((x.2.2.set x.2.1.toNat (t0.1,(t0.2.1,(t0.2.2.1,(t0.2.2.2.1,(y7.2,t0.2.2.2.2.2)))))).getD x.2.1.toNat (Ty.zero tTxn)).2.2.2.2.1,(y8.2,((x.2.2.set x.2.1.toNat (t0.1,(t0.2.1,(t0.2.2.1,(t0.2.2.2.1,(y7.2,t0.2.2.2.2.2)))))).getD x.2.1.toNat (Ty.zero tTxn)).2.2.2.2.2.2))))))).getD x.2.1.toNat (Ty.zero tTxn)).2.2.2.2.2.2.2))))))))) (fun z9=>
 k (z9.1,z9.2.1,z9.2.2))
 else none)
 else none)
 else none
instance n68n_jp5000011 (x:(Int×Int×TL)):ParC (vfy x):=by unfold vfy;(try dsimp only);infer_instance
def vfo (x:(Int×Int×TL))(k:(Int×Int×TL)→OR):OR:=
 if 0≤x.2.1∧x.2.1<(x.2.2.length:Int)then
 vfy ((IntKind.wrap .i64 (x.1+1)),x.2.1,(x.2.2.set x.2.1.toNat ((x.2.2.getD x.2.1.toNat (Ty.zero tTxn)).1,((x.2.2.getD x.2.1.toNat (Ty.zero tTxn)).2.1,((x.2.2.getD x.2.1.toNat (Ty.zero tTxn)).2.2.1,((IntKind.wrap .i64 (x.1+1)),(x.2.2.getD x.2.1.toNat (Ty.zero tTxn)).2.2.2.2)))))) (fun z6=>
 k (z6.1,z6.2.1,z6.2.2))
 else none
instance n68n_jp5000009 (x:(Int×Int×TL)):ParC (vfo x):=by unfold vfo;(try dsimp only);infer_instance
def vf3 (x:(Int×Int×TL))(k:(Int×Int×TL)→OR):OR:=
 if 0≤x.2.1∧x.2.1<(x.2.2.length:Int)then
 vfo ((IntKind.wrap .i64 (x.1+1)),x.2.1,(x.2.2.set x.2.1.toNat ((x.2.2.getD x.2.1.toNat (Ty.zero tTxn)).1,((x.2.2.getD x.2.1.toNat (Ty.zero tTxn)).2.1,((IntKind.wrap .i64 (x.1+1)),(x.2.2.getD x.2.1.toNat (Ty.zero tTxn)).2.2.2))))) (fun z5=>
 k (z5.1,z5.2.1,z5.2.2))
 else none
instance n68n_jp5000007 (x:(Int×Int×TL)):ParC (vf3 x):=by unfold vf3;(try dsimp only);infer_instance
def vfa (x:(Int×Int×TL))(k:(Int×Int×TL)→OR):OR:=
 if 0≤x.2.1∧x.2.1<(x.2.2.length:Int)then
 vf3 ((IntKind.wrap .i64 (x.1+1)),x.2.1,(x.2.2.set x.2.1.toNat ((x.2.2.getD x.2.1.toNat (Ty.zero tTxn)).1,((IntKind.wrap .i64 (x.1+1)),(x.2.2.getD x.2.1.toNat (Ty.zero tTxn)).2.2)))) (fun z4=>
 k (z4.1,z4.2.1,z4.2.2))
 else none
instance n68n_jp5000005 (x:(Int×Int×TL)):ParC (vfa x):=by unfold vfa;(try dsimp only);infer_instance
def vp1 (x:(Int×Int×TL))(k:(Int×Int×TL)⊕(Int×Int×TL)→OR):OR:=
 bif (decide (x.2.1<(x.2.2.length:Int)))then
 if 0≤x.2.1∧x.2.1<(x.2.2.length:Int)then
 vfa (x.1,x.2.1,(x.2.2.set x.2.1.toNat (x.1,(x.2.2.getD x.2.1.toNat (Ty.zero tTxn)).2))) (fun z2=>
 vff (z2.1,z2.2.1,z2.2.2) (fun z3=>
 k (.inl (z3.1,z3.2.1,z3.2.2))))
 else none
 else
 k (.inr (x.1,x.2.1,x.2.2))
instance n68n_bp0 (x:(Int×Int×TL)):ParC (vp1 x):=by unfold vp1;(try dsimp only);infer_instance
def wk1 (a0:Int)(a1:TL)(k:(Int×TL)→OR):OR:=
 vab vp1 Fuel (a0,0,a1) (fun z1=>
 k (z1.1,z1.2.2))
def v7w:=shut wk1
theorem wxm:v7w=wk1:=vaf _
instance n68n_p (a0:Int)(a1:TL):ParC (v7w a0 a1):=by rw [wxm];unfold wk1;(try dsimp only);infer_instance
def wkr (a0:Int)(a1:Int)(a2:Int)(a3:VL)(a4:TL)(a5:TL)(k:q82T→OR):OR:=
 wen a2 a3 (fun y1=>
 v7w y1.1 a4 (fun y2=>
 v7w y2.1 a5 (fun y3=>
 k (y3.1,y1.2,y2.2,y3.2))))
def vxk:=shut wkr
theorem wua:vxk=wkr:=vaf _
instance n64n_p (a0:Int)(a1:Int)(a2:Int)(a3:VL)(a4:TL)(a5:TL):ParC (vxk a0 a1 a2 a3 a4 a5):=by rw [wua];unfold wkr;(try dsimp only);infer_instance
def wko (a0:Int)(a1:Int)(a2:Int)(a3:Int)(a4:Bool)(a5:ByteArray)(a6:Int)(a7:RL)(a8:WL)(k:q77T→OR):OR:=
 v56 a6 a7 (fun y1=>
 v7d y1.1 a8 (fun y2=>
 k (y2.1,y1.2,y2.2)))
def wml:=shut wko
theorem wun:wml=wko:=vaf _
instance n69n_p (a0:Int)(a1:Int)(a2:Int)(a3:Int)(a4:Bool)(a5:ByteArray)(a6:Int)(a7:RL)(a8:WL):ParC (wml a0 a1 a2 a3 a4 a5 a6 a7 a8):=by rw [wun];unfold wko;(try dsimp only);infer_instance
def wmw (a0:Int)(a1:Int)(a2:Int)(a3:Int)(a4:Int)(a5:Bool)(a6:ByteArray)(a7:ByteArray)(a8:Bool)(a9:Int)(a10:Int)(a11:Int)(a12:RL)(a13:WL)(a14:VL)(a15:TL)(a16:TL)(k:q76T→OR):OR:=
 wml a1 a2 a3 a4 a5 a6 a11 a12 a13 (fun y1=>
 vxk a9 a10 y1.1 a14 a15 a16 (fun y2=>
 k (y2.1,y1.2.1,y1.2.2,y2.2.1,y2.2.2.1,y2.2.2.2)))
def wd1:=shut wmw
theorem wtf:wd1=wmw:=vaf _
instance n66n_p (a0:Int)(a1:Int)(a2:Int)(a3:Int)(a4:Int)(a5:Bool)(a6:ByteArray)(a7:ByteArray)(a8:Bool)(a9:Int)(a10:Int)(a11:Int)(a12:RL)(a13:WL)(a14:VL)(a15:TL)(a16:TL):ParC (wd1 a0 a1 a2 a3 a4 a5 a6 a7 a8 a9 a10 a11 a12 a13 a14 a15 a16):=by rw [wtf];unfold wmw;(try dsimp only);infer_instance
def vpy (x:q34T)(k:q34T⊕(q34T⊕q34T)→OR):OR:=
 let t0:=(IntKind.wrap .i64 ((IntKind.wrap .i64 (x.2.1+(1:Int)))+(1:Int)))
 let t1:=(rd (Ty.zero tVersion) x.1 x.2.2.2)
 bif (decide (x.2.2.2<(x.1.length:Int)))then
 if 0≤x.2.2.2∧x.2.2.2<(x.1.length:Int)then
 vc9 x.2.1 (fun y3=>
 bif (!(vaj (t1.1) y3))then
 k (.inr (.inl (x.1,x.2.1,(-1:Int),x.2.2.2)))
 else
 if 0≤x.2.2.2∧x.2.2.2<(x.1.length:Int)then
 vc9 (IntKind.wrap .i64 (x.2.1+1)) (fun y4=>
 bif (!(vaj (t1.2.1) y4))then
 k (.inr (.inl (x.1,(IntKind.wrap .i64 (x.2.1+1)),(-1:Int),x.2.2.2)))
 else
 if 0≤x.2.2.2∧x.2.2.2<(x.1.length:Int)then
 bif (!(t1.2.2.1==((t0.tmod (3:Int))==(0:Int))))then
 k (.inr (.inl (x.1,t0,(-1:Int),x.2.2.2)))
 else
 if 0≤x.2.2.2∧x.2.2.2<(x.1.length:Int)then
 bif (t1.2.2.2 != (IntKind.wrap .i64 (t0+1)))then
 k (.inr (.inl (x.1,(IntKind.wrap .i64 (t0+1)),(-1:Int),x.2.2.2)))
 else
 k (.inl (x.1,(IntKind.wrap .i64 ((IntKind.wrap .i64 (t0+1))+1)),x.2.2.1,(IntKind.wrap .i64 (x.2.2.2+1))))
 else none
 else none)
 else none)
 else none
 else
 k (.inr (.inr (x.1,x.2.1,x.2.2.1,x.2.2.2)))
instance n62n_bp0 (x:q34T):ParC (vpy x):=by unfold vpy;(try dsimp only);infer_instance
def wkn (a0:VL)(a1:Int)(k:Int→OR):OR:=
 vab vpy Fuel (a0,a1,0,0) (Sum.elim (fun z1=>
 k z1.2.2.1) (fun z2=>
 k z2.2.1))
def v6h:=shut wkn
theorem wsf:v6h=wkn:=vaf _
instance n62n_p (a0:VL)(a1:Int):ParC (v6h a0 a1):=by rw [wsf];unfold wkn;(try dsimp only);infer_instance
def vpt (x:q6T)(k:q6T⊕(q6T⊕q6T)→OR):OR:=
 bif (decide (x.2.2.2<(x.1.length:Int)))then
 if 0≤x.2.2.2∧x.2.2.2<(x.1.length:Int)then
 vc9 x.2.1 (fun y3=>
 bif (!(vaj ((rd (Ty.zero tRange) x.1 x.2.2.2).1) y3))then
 k (.inr (.inl (x.1,x.2.1,(-1:Int),x.2.2.2)))
 else
 if 0≤x.2.2.2∧x.2.2.2<(x.1.length:Int)then
 vc9 (IntKind.wrap .i64 (x.2.1+1)) (fun y4=>
 bif (!(vaj ((rd (Ty.zero tRange) x.1 x.2.2.2).2) y4))then
 k (.inr (.inl (x.1,(IntKind.wrap .i64 (x.2.1+1)),(-1:Int),x.2.2.2)))
 else
 k (.inl (x.1,(IntKind.wrap .i64 ((IntKind.wrap .i64 (x.2.1+1))+1)),x.2.2.1,(IntKind.wrap .i64 (x.2.2.2+1)))))
 else none)
 else none
 else
 k (.inr (.inr (x.1,x.2.1,x.2.2.1,x.2.2.2)))
instance n60n_bp0 (x:q6T):ParC (vpt x):=by unfold vpt;(try dsimp only);infer_instance
def wly (a0:RL)(a1:Int)(k:Int→OR):OR:=
 vab vpt Fuel (a0,a1,0,0) (Sum.elim (fun z1=>
 k z1.2.2.1) (fun z2=>
 k z2.2.1))
def v2k:=shut wly
theorem ws1:v2k=wly:=vaf _
instance n60n_p (a0:RL)(a1:Int):ParC (v2k a0 a1):=by rw [ws1];unfold wly;(try dsimp only);infer_instance
def voi (x:q42T)(k:q42T⊕(q42T⊕q42T)→OR):OR:=
 let t0:=(IntKind.wrap .i64 (x.2.1+(1:Int)))
 bif (decide (x.2.2.2<(x.1.length:Int)))then
 if 0≤x.2.2.2∧x.2.2.2<(x.1.length:Int)then
 vc9 x.2.1 (fun y3=>
 bif (!(vaj ((rd (Ty.zero tWrite) x.1 x.2.2.2).1) y3))then
 k (.inr (.inl (x.1,x.2.1,(-1:Int),x.2.2.2)))
 else
 if 0≤x.2.2.2∧x.2.2.2<(x.1.length:Int)then
 vc9 t0 (fun y4=>
 bif (!(vaj ((rd (Ty.zero tWrite) x.1 x.2.2.2).2.1) y4))then
 k (.inr (.inl (x.1,t0,(-1:Int),x.2.2.2)))
 else
 if 0≤x.2.2.2∧x.2.2.2<(x.1.length:Int)then
 bif (!((rd (Ty.zero tWrite) x.1 x.2.2.2).2.2==(((IntKind.wrap .i64 (t0+1)).tmod (3:Int))==(0:Int))))then
 k (.inr (.inl (x.1,(IntKind.wrap .i64 (t0+1)),(-1:Int),x.2.2.2)))
 else
 k (.inl (x.1,(IntKind.wrap .i64 ((IntKind.wrap .i64 (t0+1))+1)),x.2.2.1,(IntKind.wrap .i64 (x.2.2.2+1))))
 else none)
 else none)
 else none
 else
 k (.inr (.inr (x.1,x.2.1,x.2.2.1,x.2.2.2)))
instance n63n_bp0 (x:q42T):ParC (voi x):=by unfold voi;(try dsimp only);infer_instance
def wm2 (a0:WL)(a1:Int)(k:Int→OR):OR:=
 vab voi Fuel (a0,a1,0,0) (Sum.elim (fun z1=>
 k z1.2.2.1) (fun z2=>
 k z2.2.1))
def v2s:=shut wm2
theorem wxd:v2s=wm2:=vaf _
instance n63n_p (a0:WL)(a1:Int):ParC (v2s a0 a1):=by rw [wxd];unfold wm2;(try dsimp only);infer_instance
def vos (x:q17T)(k:q17T⊕(q17T⊕q17T)→OR):OR:=
 let t0:=(IntKind.wrap .i64 ((IntKind.wrap .i64 (x.2.1+(1:Int)))+(1:Int)))
 let t1:=(rd (Ty.zero tTxn) x.1 x.2.2.2)
 bif (decide (x.2.2.2<(x.1.length:Int)))then
 if 0≤x.2.2.2∧x.2.2.2<(x.1.length:Int)then
 bif (t1.1 != x.2.1)then
 k (.inr (.inl (x.1,x.2.1,(-1:Int),x.2.2.2)))
 else
 if 0≤x.2.2.2∧x.2.2.2<(x.1.length:Int)then
 bif (t1.2.1 != (IntKind.wrap .i64 (x.2.1+1)))then
 k (.inr (.inl (x.1,(IntKind.wrap .i64 (x.2.1+1)),(-1:Int),x.2.2.2)))
 else
 if 0≤x.2.2.2∧x.2.2.2<(x.1.length:Int)then
 bif (t1.2.2.1 != t0)then
 k (.inr (.inl (x.1,t0,(-1:Int),x.2.2.2)))
 else
 if 0≤x.2.2.2∧x.2.2.2<(x.1.length:Int)then
 bif (t1.2.2.2.1 != (IntKind.wrap .i64 (t0+1)))then
 k (.inr (.inl (x.1,(IntKind.wrap .i64 (t0+1)),(-1:Int),x.2.2.2)))
 else
 if 0≤x.2.2.2∧x.2.2.2<(x.1.length:Int)then
 v2k (t1.2.2.2.2.1) (IntKind.wrap .i64 ((IntKind.wrap .i64 (t0+1))+1)) (fun y3=>
 bif (decide (y3<0))then
 k (.inr (.inl (x.1,y3,(-1:Int),x.2.2.2)))
 else
 if 0≤x.2.2.2∧x.2.2.2<(x.1.length:Int)then
 v2s (t1.2.2.2.2.2.1) y3 (fun y4=>
 bif (decide (y4<0))then
 k (.inr (.inl (x.1,y4,(-1:Int),x.2.2.2)))
 else
 if 0≤x.2.2.2∧x.2.2.2<(x.1.length:Int)then
 bif (!(t1.2.2.2.2.2.2.1==((y4.tmod (3:Int))==(0:Int))))then
 k (.inr (.inl (x.1,y4,(-1:Int),x.2.2.2)))
 else
 if 0≤x.2.2.2∧x.2.2.2<(x.1.length:Int)then
 vc9 (IntKind.wrap .i64 (y4+1)) (fun y5=>
 bif (!(vaj (t1.2.2.2.2.2.2.2) y5))then
 k (.inr (.inl (x.1,(IntKind.wrap .i64 (y4+1)),(-1:Int),x.2.2.2)))
 else
 k (.inl (x.1,(IntKind.wrap .i64 ((IntKind.wrap .i64 (y4+1))+1)),x.2.2.1,(IntKind.wrap .i64 (x.2.2.2+1)))))
 else none
 else none)
 else none)
 else none
 else none
 else none
 else none
 else none
 else
 k (.inr (.inr (x.1,x.2.1,x.2.2.1,x.2.2.2)))
instance n61n_bp0 (x:q17T):ParC (vos x):=by unfold vos;(try dsimp only);exact⟨(vae (vbw (vae (vac _) (vbw (vae (vac _) (vbw (vae (vac _) (vbw (vae (vac _) (vbw ((n60n_p ..).p.bind fun _=>(vae (vac _) (vbw ((n63n_p ..).p.bind fun _=>(vae (vac _) (vbw (vae (vac _) (vbw ((n67n_p _).p.bind fun _=>(vae (vac _) (vac _))) vaw)) vaw))) vaw))) vaw)) vaw)) vaw)) vaw)) vaw) (vac _))⟩
def wlg (a0:TL)(a1:Int)(k:Int→OR):OR:=
 vab vos Fuel (a0,a1,0,0) (Sum.elim (fun z1=>
 k z1.2.2.1) (fun z2=>
 k z2.2.1))
def v04:=shut wlg
theorem wxx:v04=wlg:=vaf _
instance n61n_p (a0:TL)(a1:Int):ParC (v04 a0 a1):=by rw [wxx];unfold wlg;(try dsimp only);infer_instance
def wm1 (a0:va3)(a1:Int)(k:Int→OR):OR:=
 v6h a0.1 a1 (fun y1=>
 bif (decide (y1<0))then
 k (-1:Int)
 else
 v04 a0.2.1 y1 (fun y2=>
 bif (decide (y2<0))then
 k (-1:Int)
 else
 v04 a0.2.2.1 y2 (fun y3=>
 bif (decide (y3<0))then
 k (-1:Int)
 else
 k y3)))
def v1z:=shut wm1
theorem wwz:v1z=wm1:=vaf _
instance n59n_p (a0:va3)(a1:Int):ParC (v1z a0 a1):=by rw [wwz];unfold wm1;(try dsimp only);infer_instance
def vfw (x:q61T)(k:q61T→OR):OR:=
 let xh:=x.2.2.2.2
 v1z (xh.1,(xh.2.1,(xh.2.2,(x.2.2.1,x.2.2.2.1)))) (1:Int) (fun y29=>
 bif (decide (y29<0))then
 k (false,x.2.1,x.2.2.1,x.2.2.2.1,xh.1,xh.2.1,xh.2.2)
 else
 bif (y29 != x.2.1)then
 k (false,x.2.1,x.2.2.1,x.2.2.2.1,xh.1,xh.2.1,xh.2.2)
 else
 k (true,x.2.1,x.2.2.1,x.2.2.2.1,xh.1,xh.2.1,xh.2.2))
instance n48n_jp5000034 (x:q61T):ParC (vfw x):=by unfold vfw;(try dsimp only);infer_instance
def vfi (x:q52T)(k:(q52T⊕q60T)→OR):OR:=
 let xh:=x.2.2.2.2
 let xi:=xh.2.2.2.2
 let xj:=xi.2.2.2.2
 let xk:=xj.2.2.2.2
 let xl:=xk.2.2.2.2
 let xm:=xl.2.2.2.2
 let xn:=xm.2.2.2.2
 vxk xm.2.1 xm.2.2.1 (1:Int) xn.2.2.1 xn.2.2.2.1 xn.2.2.2.2 (fun y22=>
 v1z (y22.2.1,(y22.2.2.1,(y22.2.2.2,(xm.2.1,xm.2.2.1)))) (1:Int) (fun y23=>
 bif (decide (y23<0))then
 k (.inl (false,x.2.1,x.2.2.1,x.2.2.2.1,xh.1,xh.2.1,xh.2.2.1,xh.2.2.2.1,xi.1,xi.2.1,xi.2.2.1,xi.2.2.2.1,xj.1,xj.2.1,xj.2.2.1,xj.2.2.2.1,xk.1,xk.2.1,xk.2.2.1,xk.2.2.2.1,xl.1,xl.2.1,xl.2.2.1,xl.2.2.2.1,xm.1,xm.2.1,xm.2.2.1,xm.2.2.2.1,xn.1,xn.2.1,y22.2.1,y22.2.2.1,y22.2.2.2))
 else
 bif (y23 != y22.1)then
 k (.inl (false,x.2.1,x.2.2.1,x.2.2.2.1,xh.1,xh.2.1,xh.2.2.1,xh.2.2.2.1,xi.1,xi.2.1,xi.2.2.1,xi.2.2.2.1,xj.1,xj.2.1,xj.2.2.1,xj.2.2.2.1,xk.1,xk.2.1,xk.2.2.1,xk.2.2.2.1,xl.1,xl.2.1,xl.2.2.1,xl.2.2.2.1,xm.1,xm.2.1,xm.2.2.1,xm.2.2.2.1,xn.1,xn.2.1,y22.2.1,y22.2.2.1,y22.2.2.2))
 else
 vrl (x.2.2.1,(x.2.2.2.1,(xh.1,(xh.2.1,xh.2.2.1)))) (fun y24=>
 vtq (xh.2.2.2.1,((xi.1,(xi.2.1,(xi.2.2.1,(xi.2.2.2.1,(xj.1,(xj.2.1,(xj.2.2.1,xj.2.2.2.1))))))),(xk.1,(xk.2.1,(xk.2.2.1,(xk.2.2.2.1,(xl.1,(xl.2.1,xl.2.2.1)))))))) (fun y25=>
 let y25h:=y25.2.2.2.2
 let y25i:=y25h.2.2.2.2
 v5j (y24.2.2.1,(y24.2.2.2.1,(y24.2.2.2.2,(y24.1,y24.2.1)))) (y25.1,((y25.2.1,(y25.2.2.1,(y25.2.2.2.1,(y25h.1,(y25i.2.2.2.1,(y25i.2.2.2.2.1,(y25h.2.1,y25h.2.2.1))))))),(y25h.2.2.2.1,(y25i.1,(y25i.2.2.2.2.2.1,(y25i.2.2.2.2.2.2.1,(y25i.2.2.2.2.2.2.2,(y25i.2.1,y25i.2.2.1)))))))) (fun y26=>
 vrq (y26.2.2.2.1,(y26.2.2.2.2.1,(y26.2.2.2.2.2,(y26.1,y26.2.1)))) (xm.2.2.2.1,(xn.1,(xn.2.1,(xl.2.2.2.1,xm.1)))) (fun y27=>
 bif (!y27)then
 k (.inl (false,x.2.1,x.2.2.1,x.2.2.2.1,xh.1,xh.2.1,xh.2.2.1,xh.2.2.2.1,xi.1,xi.2.1,xi.2.2.1,xi.2.2.2.1,xj.1,xj.2.1,xj.2.2.1,xj.2.2.2.1,xk.1,xk.2.1,xk.2.2.1,xk.2.2.2.1,xl.1,xl.2.1,xl.2.2.1,xl.2.2.2.1,xm.1,xm.2.1,xm.2.2.1,xm.2.2.2.1,xn.1,xn.2.1,y22.2.1,y22.2.2.1,y22.2.2.2))
 else
 bif (!(y26.2.2.1==x.2.1))then
 k (.inl (false,x.2.1,x.2.2.1,x.2.2.2.1,xh.1,xh.2.1,xh.2.2.1,xh.2.2.2.1,xi.1,xi.2.1,xi.2.2.1,xi.2.2.2.1,xj.1,xj.2.1,xj.2.2.1,xj.2.2.2.1,xk.1,xk.2.1,xk.2.2.1,xk.2.2.2.1,xl.1,xl.2.1,xl.2.2.1,xl.2.2.2.1,xm.1,xm.2.1,xm.2.2.1,xm.2.2.2.1,xn.1,xn.2.1,y22.2.1,y22.2.2.1,y22.2.2.2))
 else
 vfw (x.1,y22.1,xm.2.1,xm.2.2.1,y22.2.1,y22.2.2.1,y22.2.2.2) (fun z28=>
 k (.inr (z28.1,z28.2.2.1,z28.2.2.2.1,z28.2.2.2.2.1,z28.2.2.2.2.2.1,z28.2.2.2.2.2.2)))))))))
instance n48n_jp5000023 (x:q52T):ParC (vfi x):=by unfold vfi;(try dsimp only);exact⟨((n64n_p ..).p.bind fun _=>((n59n_p ..).p.bind fun _=>(vae (vac _) (vae (vac _) ((n82n_p _).p.bind fun _=>((n85n_p _).p.bind fun _=>((n16n_p ..).p.bind fun _=>((n49n_p ..).p.bind fun _=>(vae (vac _) (vae (vac _) ((n48n_jp5000034 _).p.bind fun _=>(vac _))))))))))))⟩
def vfg (x:q53T)(k:(q53T⊕(q52T⊕q60T))→OR):OR:=
 let xh:=x.2.2.2.2
 let xi:=xh.2.2.2.2
 let xj:=xi.2.2.2.2
 let xk:=xj.2.2.2.2
 let xl:=xk.2.2.2.2
 let xm:=xl.2.2.2.2
 let xn:=xm.2.2.2.2
 let xo:=xn.2.2.2.2
 let xp:=xo.2.2.2.2
 let xq:=xp.2.2.2.2
 let xr:=xq.2.2.2.2
 let xs:=xr.2.2.2.2
 let xt:=xs.2.2.2.2
 vrl (x.2.2.2.1,(xh.1,(xh.2.1,(xh.2.2.1,xh.2.2.2.1)))) (fun y13=>
 vrq (xr.1,(xr.2.1,(xr.2.2.1,(xm.2.2.1,xm.2.2.2.1)))) (y13.2.2.1,(y13.2.2.2.1,(y13.2.2.2.2,(y13.1,y13.2.1)))) (fun y14=>
 bif (!y14)then
 k (.inl (false,x.2.1,x.2.2.1,x.2.2.2.1,xh.1,xh.2.1,xh.2.2.1,xh.2.2.2.1,xi.1,xi.2.1,xi.2.2.1,xi.2.2.2.1,xj.1,xj.2.1,xj.2.2.1,xj.2.2.2.1,xk.1,xk.2.1,xk.2.2.1,xk.2.2.2.1,xl.1,xl.2.1,xl.2.2.1,xl.2.2.2.1,xm.1,xm.2.1,xm.2.2.1,xm.2.2.2.1,xn.1,xn.2.1,xn.2.2.1,xn.2.2.2.1,xo.1,xo.2.1,xo.2.2.1,xo.2.2.2.1,xp.1,xp.2.1,xp.2.2.1,xp.2.2.2.1,xq.1,xq.2.1,xq.2.2.1,xq.2.2.2.1,xr.1,xr.2.1,xr.2.2.1,xr.2.2.2.1,xs.1,xs.2.1,xs.2.2.1,xs.2.2.2.1,xt.1,xt.2.1,xt.2.2))
 else
 vtq (xi.1,((xi.2.1,(xi.2.2.1,(xi.2.2.2.1,(xj.1,(xj.2.1,(xj.2.2.1,(xj.2.2.2.1,xk.1))))))),(xk.2.1,(xk.2.2.1,(xk.2.2.2.1,(xl.1,(xl.2.1,(xl.2.2.1,xl.2.2.2.1)))))))) (fun y15=>
 let y15h:=y15.2.2.2.2
 let y15i:=y15h.2.2.2.2
 v63 (xn.1,((xn.2.1,(xn.2.2.1,(xn.2.2.2.1,(xo.1,(xr.2.2.2.1,(xs.1,(xo.2.1,xo.2.2.1))))))),(xo.2.2.2.1,(xp.1,(xs.2.1,(xs.2.2.1,(xs.2.2.2.1,(xp.2.1,xp.2.2.1)))))))) (y15.1,((y15.2.1,(y15.2.2.1,(y15.2.2.2.1,(y15h.1,(y15i.2.2.2.1,(y15i.2.2.2.2.1,(y15h.2.1,y15h.2.2.1))))))),(y15h.2.2.2.1,(y15i.1,(y15i.2.2.2.2.2.1,(y15i.2.2.2.2.2.2.1,(y15i.2.2.2.2.2.2.2,(y15i.2.1,y15i.2.2.1)))))))) (fun y16=>
 bif (!y16)then
 k (.inl (false,x.2.1,x.2.2.1,x.2.2.2.1,xh.1,xh.2.1,xh.2.2.1,xh.2.2.2.1,xi.1,xi.2.1,xi.2.2.1,xi.2.2.2.1,xj.1,xj.2.1,xj.2.2.1,xj.2.2.2.1,xk.1,xk.2.1,xk.2.2.1,xk.2.2.2.1,xl.1,xl.2.1,xl.2.2.1,xl.2.2.2.1,xm.1,xm.2.1,xm.2.2.1,xm.2.2.2.1,xn.1,xn.2.1,xn.2.2.1,xn.2.2.2.1,xo.1,xo.2.1,xo.2.2.1,xo.2.2.2.1,xp.1,xp.2.1,xp.2.2.1,xp.2.2.2.1,xq.1,xq.2.1,xq.2.2.1,xq.2.2.2.1,xr.1,xr.2.1,xr.2.2.1,xr.2.2.2.1,xs.1,xs.2.1,xs.2.2.1,xs.2.2.2.1,xt.1,xt.2.1,xt.2.2))
 else
 vxk xm.2.2.1 xm.2.2.2.1 (1:Int) xr.1 xr.2.1 xr.2.2.1 (fun y17=>
 wd1 xn.1 xn.2.1 xn.2.2.1 xn.2.2.2.1 xo.1 xo.2.1 xo.2.2.1 xo.2.2.2.1 xp.1 xp.2.1 xp.2.2.1 y17.1 xr.2.2.2.1 xs.1 xs.2.1 xs.2.2.1 xs.2.2.2.1 (fun y18=>
 let y18h:=y18.2.2.2.2
 bif (decide (y18.1<0))then
 k (.inl (false,x.2.1,x.2.2.1,x.2.2.2.1,xh.1,xh.2.1,xh.2.2.1,xh.2.2.2.1,xi.1,xi.2.1,xi.2.2.1,xi.2.2.2.1,xj.1,xj.2.1,xj.2.2.1,xj.2.2.2.1,xk.1,xk.2.1,xk.2.2.1,xk.2.2.2.1,xl.1,xl.2.1,xl.2.2.1,xl.2.2.2.1,xm.1,xm.2.1,xm.2.2.1,xm.2.2.2.1,xn.1,xn.2.1,xn.2.2.1,xn.2.2.2.1,xo.1,xo.2.1,xo.2.2.1,xo.2.2.2.1,xp.1,xp.2.1,xp.2.2.1,xp.2.2.2.1,xq.1,xq.2.1,xq.2.2.1,xq.2.2.2.1,y17.2.1,y17.2.2.1,y17.2.2.2,y18.2.1,y18.2.2.1,y18.2.2.2.1,y18h.1,y18h.2,xt.1,xt.2.1,xt.2.2))
 else
 vrq (xt.1,(xt.2.1,(xt.2.2,(xp.2.2.2.1,xq.1)))) (xq.2.1,(xq.2.2.1,(xq.2.2.2.1,(xm.1,xm.2.1)))) (fun y19=>
 bif (!y19)then
 k (.inl (false,x.2.1,x.2.2.1,x.2.2.2.1,xh.1,xh.2.1,xh.2.2.1,xh.2.2.2.1,xi.1,xi.2.1,xi.2.2.1,xi.2.2.2.1,xj.1,xj.2.1,xj.2.2.1,xj.2.2.2.1,xk.1,xk.2.1,xk.2.2.1,xk.2.2.2.1,xl.1,xl.2.1,xl.2.2.1,xl.2.2.2.1,xm.1,xm.2.1,xm.2.2.1,xm.2.2.2.1,xn.1,xn.2.1,xn.2.2.1,xn.2.2.2.1,xo.1,xo.2.1,xo.2.2.1,xo.2.2.2.1,xp.1,xp.2.1,xp.2.2.1,xp.2.2.2.1,xq.1,xq.2.1,xq.2.2.1,xq.2.2.2.1,y17.2.1,y17.2.2.1,y17.2.2.2,y18.2.1,y18.2.2.1,y18.2.2.2.1,y18h.1,y18h.2,xt.1,xt.2.1,xt.2.2))
 else
 bif (!(x.2.2.1==x.2.1))then
 k (.inl (false,x.2.1,x.2.2.1,x.2.2.2.1,xh.1,xh.2.1,xh.2.2.1,xh.2.2.2.1,xi.1,xi.2.1,xi.2.2.1,xi.2.2.2.1,xj.1,xj.2.1,xj.2.2.1,xj.2.2.2.1,xk.1,xk.2.1,xk.2.2.1,xk.2.2.2.1,xl.1,xl.2.1,xl.2.2.1,xl.2.2.2.1,xm.1,xm.2.1,xm.2.2.1,xm.2.2.2.1,xn.1,xn.2.1,xn.2.2.1,xn.2.2.2.1,xo.1,xo.2.1,xo.2.2.1,xo.2.2.2.1,xp.1,xp.2.1,xp.2.2.1,xp.2.2.2.1,xq.1,xq.2.1,xq.2.2.1,xq.2.2.2.1,y17.2.1,y17.2.2.1,y17.2.2.2,y18.2.1,y18.2.2.1,y18.2.2.2.1,y18h.1,y18h.2,xt.1,xt.2.1,xt.2.2))
 else
 vfi (x.1,x.2.1,x.2.2.2.1,xh.1,xh.2.1,xh.2.2.1,xh.2.2.2.1,xi.1,xi.2.1,xi.2.2.1,xi.2.2.2.1,xj.1,xj.2.1,xj.2.2.1,xj.2.2.2.1,xk.1,xk.2.1,xk.2.2.1,xk.2.2.2.1,xl.1,xl.2.1,xl.2.2.1,xl.2.2.2.1,xm.1,xm.2.1,xp.2.2.2.1,xq.1,xq.2.1,xq.2.2.1,xq.2.2.2.1,xt.1,xt.2.1,xt.2.2) (Sum.elim (fun z20=>
 let z20h:=z20.2.2.2.2
 let z20i:=z20h.2.2.2.2
 let z20j:=z20i.2.2.2.2
 let z20k:=z20j.2.2.2.2
 let z20l:=z20k.2.2.2.2
 let z20m:=z20l.2.2.2.2
 let z20n:=z20m.2.2.2.2
 k (.inr (.inl (z20.1,z20.2.1,z20.2.2.1,z20.2.2.2.1,z20h.1,z20h.2.1,z20h.2.2.1,z20h.2.2.2.1,z20i.1,z20i.2.1,z20i.2.2.1,z20i.2.2.2.1,z20j.1,z20j.2.1,z20j.2.2.1,z20j.2.2.2.1,z20k.1,z20k.2.1,z20k.2.2.1,z20k.2.2.2.1,z20l.1,z20l.2.1,z20l.2.2.1,z20l.2.2.2.1,z20m.1,z20m.2.1,z20m.2.2.1,z20m.2.2.2.1,z20n.1,z20n.2.1,z20n.2.2.1,z20n.2.2.2.1,z20n.2.2.2.2)))) (fun z21=>
 k (.inr (.inr (z21.1,z21.2.1,z21.2.2.1,z21.2.2.2.1,z21.2.2.2.2.1,z21.2.2.2.2.2))))))))))))
instance n48n_jp5000014 (x:q53T):ParC (vfg x):=by unfold vfg;(try dsimp only);exact⟨((n82n_p _).p.bind fun _=>((n49n_p ..).p.bind fun _=>(vae (vac _) ((n85n_p _).p.bind fun _=>((n52n_p ..).p.bind fun _=>(vae (vac _) ((n64n_p ..).p.bind fun _=>((n66n_p ..).p.bind fun _=>(vae (vac _) ((n49n_p ..).p.bind fun _=>(vae (vac _) (vae (vac _) ((n48n_jp5000023 _).p.bind2 (fun _=>(vac _)) (fun _=>(vac _)))))))))))))))⟩
def wjq (a0:va3)(a1:vcg)(k:Bool→OR):OR:=
 v79 a0 (1048576:Int) (fun y1=>
 bif (decide (y1<0))then
 k true
 else
 wcw a1 y1 (fun y2=>
 bif (decide (y2<0))then
 k true
 else
 vrl a0 (fun y3=>
 vtq a1 (fun y4=>
 let y4h:=y4.2.2.2.2
 let y4i:=y4h.2.2.2.2
 v1m (y3.2.2.1,(y3.2.2.2.1,(y3.2.2.2.2,(y3.1,y3.2.1)))) (y4.1,((y4.2.1,(y4.2.2.1,(y4.2.2.2.1,(y4h.1,(y4i.2.2.2.1,(y4i.2.2.2.2.1,(y4h.2.1,y4h.2.2.1))))))),(y4h.2.2.2.1,(y4i.1,(y4i.2.2.2.2.2.1,(y4i.2.2.2.2.2.2.1,(y4i.2.2.2.2.2.2.2,(y4i.2.1,y4i.2.2.1)))))))) (fun y5=>
 vrl a0 (fun y6=>
 vtq a1 (fun y7=>
 let y7h:=y7.2.2.2.2
 let y7i:=y7h.2.2.2.2
 let y7j:=y7i.2.2.2.2
 v5j (y6.2.2.1,(y6.2.2.2.1,(y6.2.2.2.2,(y6.1,y6.2.1)))) (y7.1,((y7.2.1,(y7.2.2.1,(y7.2.2.2.1,(y7h.1,(y7i.2.2.2.1,(y7j.1,(y7h.2.1,y7h.2.2.1))))))),(y7h.2.2.2.1,(y7i.1,(y7j.2.1,(y7j.2.2.1,(y7j.2.2.2,(y7i.2.1,y7i.2.2.1)))))))) (fun y8=>
 vrq (y8.2.2.2.1,(y8.2.2.2.2.1,(y8.2.2.2.2.2,(y8.1,y8.2.1)))) (y5.2.2.2.1,(y5.2.2.2.2.1,(y5.2.2.2.2.2,(y5.1,y5.2.1)))) (fun y9=>
 bif (!y9)then
 k false
 else
 bif (!(y8.2.2.1==y5.2.2.1))then
 k false
 else
 vfg (false,y5.2.2.1,y8.2.2.1,a0.1,a0.2.1,a0.2.2.1,a0.2.2.2.1,a0.2.2.2.2,a1.1,a1.2.1.1,a1.2.1.2.1,a1.2.1.2.2.1,a1.2.1.2.2.2.1,a1.2.1.2.2.2.2.1,a1.2.1.2.2.2.2.2.1,a1.2.1.2.2.2.2.2.2.1,a1.2.1.2.2.2.2.2.2.2,a1.2.2.1,a1.2.2.2.1,a1.2.2.2.2.1,a1.2.2.2.2.2.1,a1.2.2.2.2.2.2.1,a1.2.2.2.2.2.2.2.1,a1.2.2.2.2.2.2.2.2,y5.1,y5.2.1,y6.1,y6.2.1,y7.1,y7.2.1,y7.2.2.1,y7.2.2.2.1,y7h.1,y7h.2.1,y7h.2.2.1,y7h.2.2.2.1,y7i.1,y7i.2.1,y7i.2.2.1,y8.1,y8.2.1,y5.2.2.2.1,y5.2.2.2.2.1,y5.2.2.2.2.2,y6.2.2.1,y6.2.2.2.1,y6.2.2.2.2,y7i.2.2.2.1,y7j.1,y7j.2.1,y7j.2.2.1,y7j.2.2.2,y8.2.2.2.1,y8.2.2.2.2.1,y8.2.2.2.2.2) (Sum.elim (fun z10=>
 k z10.1) (Sum.elim (fun z11=>
 k z11.1) (fun z12=>
 k z12.1))))))))))))
def wlv:=shut wjq
theorem wxz:wlv=wjq:=vaf _
instance n48n_p (a0:va3)(a1:vcg):ParC (wlv a0 a1):=by rw [wxz];unfold wjq;(try dsimp only);exact⟨((n72n_p ..).p.bind fun _=>(vae (vac _) ((n75n_p ..).p.bind fun _=>(vae (vac _) ((n82n_p _).p.bind fun _=>((n85n_p _).p.bind fun _=>((n116n_p ..).p.bind fun _=>((n82n_p _).p.bind fun _=>((n85n_p _).p.bind fun _=>((n16n_p ..).p.bind fun _=>((n49n_p ..).p.bind fun _=>(vae (vac _) (vae (vac _) ((n48n_jp5000014 _).p.bind2 (fun _=>(vac _)) (fun q=>wl6 (fun _=>(vac _)) (fun _=>(vac _)) q)))))))))))))))⟩
def w5m (args:List AV)(st:St)(k:K1):OR:=
 vag [.agg [.str,.str,.bool,.i],.i] [] args st (fun p q=>v65 (p.1.1,(p.1.2.1,(p.1.2.2.1,p.1.2.2.2.1))) p.2.1 (fun(y:Int)=>k (.i y) []))
 (none)
def w31 (args:List AV)(st:St)(k:K1):OR:=
 vag [.lst tVersion,.i] [] args st (fun p q=>wet p.1 p.2.1 (fun(y:Int)=>k (.i y) []))
 (none)
def w5b (args:List AV)(st:St)(k:K1):OR:=
 vag [.agg [.str,.str],.i] [] args st (fun p q=>v55 (p.1.1,p.1.2.1) p.2.1 (fun(y:Int)=>k (.i y) []))
 (none)
def w4n (args:List AV)(st:St)(k:K1):OR:=
 vag [.lst tRange,.i] [] args st (fun p q=>wdt p.1 p.2.1 (fun(y:Int)=>k (.i y) []))
 (none)
def w6a (args:List AV)(st:St)(k:K1):OR:=
 vag [.agg [.str,.str,.bool],.i] [] args st (fun p q=>v69 (p.1.1,(p.1.2.1,p.1.2.2.1)) p.2.1 (fun(y:Int)=>k (.i y) []))
 (none)
def w5p (args:List AV)(st:St)(k:K1):OR:=
 vag [.lst tWrite,.i] [] args st (fun p q=>wdz p.1 p.2.1 (fun(y:Int)=>k (.i y) []))
 (none)
def w4d (args:List AV)(st:St)(k:K1):OR:=
 vag [.agg [.i,.i,.i,.i,.lst tRange,.lst tWrite,.bool,.str],.i] [] args st (fun p q=>vzp (p.1.1,(p.1.2.1,(p.1.2.2.1,(p.1.2.2.2.1,(p.1.2.2.2.2.1,(p.1.2.2.2.2.2.1,(p.1.2.2.2.2.2.2.1,p.1.2.2.2.2.2.2.2.1))))))) p.2.1 (fun(y:Int)=>k (.i y) []))
 (none)
def w5j (args:List AV)(st:St)(k:K1):OR:=
 vag [.lst tTxn,.i] [] args st (fun p q=>v7c p.1 p.2.1 (fun(y:Int)=>k (.i y) []))
 (none)
def w3u (args:List AV)(st:St)(k:K1):OR:=
 vag [.agg [.lst tVersion,.lst tTxn,.lst tTxn,.i,.i],.i] [] args st (fun p q=>v79 (p.1.1,(p.1.2.1,(p.1.2.2.1,(p.1.2.2.2.1,p.1.2.2.2.2.1)))) p.2.1 (fun(y:Int)=>k (.i y) []))
 (none)
def w4p (args:List AV)(st:St)(k:K1):OR:=
 vag [.agg [.i,.i,.i,.i,.i,.lst tRange,.lst tWrite,.bool,.str,.str,.bool,.lst tVersion,.lst tTxn,.lst tTxn,.i,.i],.i] [] args st (fun p q=>wcw (p.1.1,((p.1.2.1,(p.1.2.2.1,(p.1.2.2.2.1,(p.1.2.2.2.2.1,(p.1.2.2.2.2.2.1,(p.1.2.2.2.2.2.2.1,(p.1.2.2.2.2.2.2.2.1,p.1.2.2.2.2.2.2.2.2.1))))))),(p.1.2.2.2.2.2.2.2.2.2.1,(p.1.2.2.2.2.2.2.2.2.2.2.1,(p.1.2.2.2.2.2.2.2.2.2.2.2.1,(p.1.2.2.2.2.2.2.2.2.2.2.2.2.1,(p.1.2.2.2.2.2.2.2.2.2.2.2.2.2.1,(p.1.2.2.2.2.2.2.2.2.2.2.2.2.2.2.1,p.1.2.2.2.2.2.2.2.2.2.2.2.2.2.2.2.1)))))))) p.2.1 (fun(y:Int)=>k (.i y) []))
 (none)
def w35 (args:List AV)(st:St)(k:K1):OR:=
 vag [.agg [.str,.str,.bool,.i]] [] args st (fun p q=>v8d (p.1.1,(p.1.2.1,(p.1.2.2.1,p.1.2.2.2.1))) (fun(y:q68T)=>k (.agg [.str y.1,.str y.2.1,.bool y.2.2.1,.i y.2.2.2]) []))
 (none)
def w55 (args:List AV)(st:St)(k:K1):OR:=
 vag [.lst tVersion] [] args st (fun p q=>v5w p.1 (fun(y:VL)=>k (.own 0) [.arr tVersion y]))
 (none)
def w4g (args:List AV)(st:St)(k:K1):OR:=
 vag [.agg [.str,.str]] [] args st (fun p q=>v7a (p.1.1,p.1.2.1) (fun(y:(ByteArray×ByteArray))=>k (.agg [.str y.1,.str y.2]) []))
 (none)
def w3p (args:List AV)(st:St)(k:K1):OR:=
 vag [.lst tRange] [] args st (fun p q=>v6f p.1 (fun(y:RL)=>k (.own 0) [.arr tRange y]))
 (none)
def w4x (args:List AV)(st:St)(k:K1):OR:=
 vag [.agg [.str,.str,.bool]] [] args st (fun p q=>v7m (p.1.1,(p.1.2.1,p.1.2.2.1)) (fun(y:(ByteArray×ByteArray×Bool))=>k (.agg [.str y.1,.str y.2.1,.bool y.2.2]) []))
 (none)
def w43 (args:List AV)(st:St)(k:K1):OR:=
 vag [.lst tWrite] [] args st (fun p q=>v6p p.1 (fun(y:WL)=>k (.own 0) [.arr tWrite y]))
 (none)
def w5k (args:List AV)(st:St)(k:K1):OR:=
 vag [.agg [.i,.i,.i,.i,.lst tRange,.lst tWrite,.bool,.str]] [] args st (fun p q=>vxa (p.1.1,(p.1.2.1,(p.1.2.2.1,(p.1.2.2.2.1,(p.1.2.2.2.2.1,(p.1.2.2.2.2.2.1,(p.1.2.2.2.2.2.2.1,p.1.2.2.2.2.2.2.2.1))))))) (fun(y:q92T)=>k (.agg [.i y.1,.i y.2.1,.i y.2.2.1,.i y.2.2.2.1,.own 0,.own 1,.bool y.2.2.2.2.1,.str y.2.2.2.2.2.1]) [.arr tRange y.2.2.2.2.2.2.1,.arr tWrite y.2.2.2.2.2.2.2]))
 (none)
def w4o (args:List AV)(st:St)(k:K1):OR:=
 vag [.lst tTxn] [] args st (fun p q=>v0f p.1 (fun(y:TL)=>k (.own 0) [.dep tTxn y 0 []]))
 (none)
def w45 (args:List AV)(st:St)(k:K1):OR:=
 vag [.agg [.lst tVersion,.lst tTxn,.lst tTxn,.i,.i]] [] args st (fun p q=>vrl (p.1.1,(p.1.2.1,(p.1.2.2.1,(p.1.2.2.2.1,p.1.2.2.2.2.1)))) (fun(y:q86T)=>k (.agg [.own 0,.own 1,.own 2,.i y.1,.i y.2.1]) [.arr tVersion y.2.2.1,.dep tTxn y.2.2.2.1 0 [],.dep tTxn y.2.2.2.2 0 []]))
 (none)
def w44 (args:List AV)(st:St)(k:K1):OR:=
 vag [.agg [.i,.i,.i,.i,.i,.lst tRange,.lst tWrite,.bool,.str,.str,.bool,.lst tVersion,.lst tTxn,.lst tTxn,.i,.i]] [] args st (fun p q=>vtq (p.1.1,((p.1.2.1,(p.1.2.2.1,(p.1.2.2.2.1,(p.1.2.2.2.2.1,(p.1.2.2.2.2.2.1,(p.1.2.2.2.2.2.2.1,(p.1.2.2.2.2.2.2.2.1,p.1.2.2.2.2.2.2.2.2.1))))))),(p.1.2.2.2.2.2.2.2.2.2.1,(p.1.2.2.2.2.2.2.2.2.2.2.1,(p.1.2.2.2.2.2.2.2.2.2.2.2.1,(p.1.2.2.2.2.2.2.2.2.2.2.2.2.1,(p.1.2.2.2.2.2.2.2.2.2.2.2.2.2.1,(p.1.2.2.2.2.2.2.2.2.2.2.2.2.2.2.1,p.1.2.2.2.2.2.2.2.2.2.2.2.2.2.2.2.1)))))))) (fun(y:q97T)=>k (.agg [.i y.1,.i y.2.1,.i y.2.2.1,.i y.2.2.2.1,.i y.2.2.2.2.1,.own 0,.own 1,.bool y.2.2.2.2.2.1,.str y.2.2.2.2.2.2.1,.str y.2.2.2.2.2.2.2.1,.bool y.2.2.2.2.2.2.2.2.1,.own 2,.own 3,.own 4,.i y.2.2.2.2.2.2.2.2.2.1,.i y.2.2.2.2.2.2.2.2.2.2.1]) [.arr tRange y.2.2.2.2.2.2.2.2.2.2.2.1,.arr tWrite y.2.2.2.2.2.2.2.2.2.2.2.2.1,.arr tVersion y.2.2.2.2.2.2.2.2.2.2.2.2.2.1,.dep tTxn y.2.2.2.2.2.2.2.2.2.2.2.2.2.2.1 0 [],.dep tTxn y.2.2.2.2.2.2.2.2.2.2.2.2.2.2.2 0 []]))
 (none)
def wx2 (args:List AV)(st:St)(k:K1):OR:=
 vag [.i,.i,.i] [] args st (fun p q=>vch p.1 p.2.1 p.2.2.1 (fun(y:Bool)=>k (.bool y) []))
 (none)
def wq5 (args:List AV)(st:St)(k:K1):OR:=
 vag [.str] [] args st (fun p q=>vfk p.1 (fun(y:Bool)=>k (.bool y) []))
 (none)
def wsi (args:List AV)(st:St)(k:K1):OR:=
 vag [.lst tVersion] [] args st (fun p q=>vsd p.1 (fun(y:Bool)=>k (.bool y) []))
 (none)
def wx4 (args:List AV)(st:St)(k:K1):OR:=
 vag [.agg [.str,.str,.bool]] [] args st (fun p q=>vv9 (p.1.1,(p.1.2.1,p.1.2.2.1)) (fun(y:Bool)=>k (.bool y) []))
 (none)
def wte (args:List AV)(st:St)(k:K1):OR:=
 vag [.lst tWrite] [] args st (fun p q=>vr8 p.1 (fun(y:Bool)=>k (.bool y) []))
 (none)
def wwp (args:List AV)(st:St)(k:K1):OR:=
 vag [.agg [.str,.str]] [] args st (fun p q=>vwd (p.1.1,p.1.2.1) (fun(y:Bool)=>k (.bool y) []))
 (none)
def wrf (args:List AV)(st:St)(k:K1):OR:=
 vag [.agg [.i,.i,.i,.i,.lst tRange,.lst tWrite,.bool,.str]] [] args st (fun p q=>vh5 (p.1.1,(p.1.2.1,(p.1.2.2.1,(p.1.2.2.2.1,(p.1.2.2.2.2.1,(p.1.2.2.2.2.2.1,(p.1.2.2.2.2.2.2.1,p.1.2.2.2.2.2.2.2.1))))))) (fun(y:Bool)=>k (.bool y) []))
 (none)
def www (args:List AV)(st:St)(k:K1):OR:=
 vag [.agg [.lst tVersion,.lst tTxn,.lst tTxn,.i,.i]] [] args st (fun p q=>vir (p.1.1,(p.1.2.1,(p.1.2.2.1,(p.1.2.2.2.1,p.1.2.2.2.2.1)))) (fun(y:Bool)=>k (.bool y) []))
 (none)
def wvd (args:List AV)(st:St)(k:K1):OR:=
 vag [.agg [.i,.i,.i,.i,.lst tRange,.lst tWrite,.bool,.str]] [] args st (fun p q=>vde (p.1.1,(p.1.2.1,(p.1.2.2.1,(p.1.2.2.2.1,(p.1.2.2.2.2.1,(p.1.2.2.2.2.2.1,(p.1.2.2.2.2.2.2.1,p.1.2.2.2.2.2.2.2.1))))))) (fun(y:q92T)=>k (.agg [.i y.1,.i y.2.1,.i y.2.2.1,.i y.2.2.2.1,.own 0,.own 1,.bool y.2.2.2.2.1,.str y.2.2.2.2.2.1]) [.arr tRange y.2.2.2.2.2.2.1,.arr tWrite y.2.2.2.2.2.2.2]))
 (none)
def ws7 (args:List AV)(st:St)(k:K1):OR:=
 vag [.lst tTxn] [] args st (fun p q=>vte p.1 (fun(y:TL)=>k (.own 0) [.arr tTxn y]))
 (none)
def wsw (args:List AV)(st:St)(k:K1):OR:=
 vag [.agg [.lst tVersion,.lst tTxn,.lst tTxn,.i,.i]] [] args st (fun p q=>vdj (p.1.1,(p.1.2.1,(p.1.2.2.1,(p.1.2.2.2.1,p.1.2.2.2.2.1)))) (fun(y:q86T)=>k (.agg [.own 0,.own 1,.own 2,.i y.1,.i y.2.1]) [.arr tVersion y.2.2.1,.arr tTxn y.2.2.2.1,.arr tTxn y.2.2.2.2]))
 (none)
def wsx (args:List AV)(st:St)(k:K1):OR:=
 vag [.agg [.i,.i,.i,.i,.lst tRange,.lst tWrite,.bool,.str]] [] args st (fun p q=>vpu (p.1.1,(p.1.2.1,(p.1.2.2.1,(p.1.2.2.2.1,(p.1.2.2.2.2.1,(p.1.2.2.2.2.2.1,(p.1.2.2.2.2.2.2.1,p.1.2.2.2.2.2.2.2.1))))))) (fun(y:Bool)=>k (.bool y) []))
 (none)
def ww7 (args:List AV)(st:St)(k:K1):OR:=
 vag [.agg [.lst tVersion,.lst tTxn,.lst tTxn,.i,.i]] [] args st (fun p q=>vvu (p.1.1,(p.1.2.1,(p.1.2.2.1,(p.1.2.2.2.1,p.1.2.2.2.2.1)))) (fun(y:Bool)=>k (.bool y) []))
 (none)
def wvx (args:List AV)(st:St)(k:K1):OR:=
 vag [.agg [.i,.i,.i,.i,.i,.lst tRange,.lst tWrite,.bool,.str,.str,.bool,.lst tVersion,.lst tTxn,.lst tTxn,.i,.i]] [] args st (fun p q=>vv5 (p.1.1,((p.1.2.1,(p.1.2.2.1,(p.1.2.2.2.1,(p.1.2.2.2.2.1,(p.1.2.2.2.2.2.1,(p.1.2.2.2.2.2.2.1,(p.1.2.2.2.2.2.2.2.1,p.1.2.2.2.2.2.2.2.2.1))))))),(p.1.2.2.2.2.2.2.2.2.2.1,(p.1.2.2.2.2.2.2.2.2.2.2.1,(p.1.2.2.2.2.2.2.2.2.2.2.2.1,(p.1.2.2.2.2.2.2.2.2.2.2.2.2.1,(p.1.2.2.2.2.2.2.2.2.2.2.2.2.2.1,(p.1.2.2.2.2.2.2.2.2.2.2.2.2.2.2.1,p.1.2.2.2.2.2.2.2.2.2.2.2.2.2.2.2.1)))))))) (fun(y:Bool)=>k (.bool y) []))
 (none)
def wrc (args:List AV)(st:St)(k:K1):OR:=
 vag [.agg [.i,.i,.i,.i,.lst tRange,.lst tWrite,.bool,.str],.agg [.i,.i,.i,.i,.lst tRange,.lst tWrite,.bool,.str]] [] args st (fun p q=>v0o (p.1.1,(p.1.2.1,(p.1.2.2.1,(p.1.2.2.2.1,(p.1.2.2.2.2.1,(p.1.2.2.2.2.2.1,(p.1.2.2.2.2.2.2.1,p.1.2.2.2.2.2.2.2.1))))))) (p.2.1.1,(p.2.1.2.1,(p.2.1.2.2.1,(p.2.1.2.2.2.1,(p.2.1.2.2.2.2.1,(p.2.1.2.2.2.2.2.1,(p.2.1.2.2.2.2.2.2.1,p.2.1.2.2.2.2.2.2.2.1))))))) (fun(y:Bool)=>k (.bool y) []))
 (none)
def wx0 (args:List AV)(st:St)(k:K1):OR:=
 vag [.agg [.str,.str],.str] [] args st (fun p q=>vwk (p.1.1,p.1.2.1) p.2.1 (fun(y:Bool)=>k (.bool y) []))
 (none)
def wx8 (args:List AV)(st:St)(k:K1):OR:=
 vag [.lst tRange,.lst tWrite] [] args st (fun p q=>vwp p.1 p.2.1 (fun(y:Bool)=>k (.bool y) []))
 (none)
def wst (args:List AV)(st:St)(k:K1):OR:=
 vag [.agg [.i,.i,.i,.i,.lst tRange,.lst tWrite,.bool,.str],.agg [.i,.i,.i,.i,.lst tRange,.lst tWrite,.bool,.str]] [] args st (fun p q=>vn8 (p.1.1,(p.1.2.1,(p.1.2.2.1,(p.1.2.2.2.1,(p.1.2.2.2.2.1,(p.1.2.2.2.2.2.1,(p.1.2.2.2.2.2.2.1,p.1.2.2.2.2.2.2.2.1))))))) (p.2.1.1,(p.2.1.2.1,(p.2.1.2.2.1,(p.2.1.2.2.2.1,(p.2.1.2.2.2.2.1,(p.2.1.2.2.2.2.2.1,(p.2.1.2.2.2.2.2.2.1,p.2.1.2.2.2.2.2.2.2.1))))))) (fun(y:Bool)=>k (.bool y) []))
 (none)
def wss (args:List AV)(st:St)(k:K1):OR:=
 vag [.agg [.i,.i,.i,.i,.lst tRange,.lst tWrite,.bool,.str],.lst tTxn] [] args st (fun p q=>vmi (p.1.1,(p.1.2.1,(p.1.2.2.1,(p.1.2.2.2.1,(p.1.2.2.2.2.1,(p.1.2.2.2.2.2.1,(p.1.2.2.2.2.2.2.1,p.1.2.2.2.2.2.2.2.1))))))) p.2.1 (fun(y:Bool)=>k (.bool y) []))
 (none)
def wwg (args:List AV)(st:St)(k:K1):OR:=
 vag [.lst tVersion,.lst tWrite,.i] [] args st (fun p q=>vwi p.1 p.2.1 p.2.2.1 (fun(y:VL)=>k (.own 0) [.arr tVersion y]))
 (none)
def wuf (args:List AV)(st:St)(k:K1):OR:=
 vag [.agg [.lst tVersion,.lst tTxn,.lst tTxn,.i,.i],.agg [.i,.i,.i,.i,.lst tRange,.lst tWrite,.bool,.str]] [] args st (fun p q=>vtd (p.1.1,(p.1.2.1,(p.1.2.2.1,(p.1.2.2.2.1,p.1.2.2.2.2.1)))) (p.2.1.1,(p.2.1.2.1,(p.2.1.2.2.1,(p.2.1.2.2.2.1,(p.2.1.2.2.2.2.1,(p.2.1.2.2.2.2.2.1,(p.2.1.2.2.2.2.2.2.1,p.2.1.2.2.2.2.2.2.2.1))))))) (fun(y:q86T)=>k (.agg [.own 0,.own 1,.own 2,.i y.1,.i y.2.1]) [.arr tVersion y.2.2.1,.arr tTxn y.2.2.2.1,.arr tTxn y.2.2.2.2]))
 (none)
def wse (args:List AV)(st:St)(k:K1):OR:=
 vag [.agg [.lst tVersion,.lst tTxn,.lst tTxn,.i,.i],.str] [] args st (fun p q=>vna (p.1.1,(p.1.2.1,(p.1.2.2.1,(p.1.2.2.2.1,p.1.2.2.2.2.1)))) p.2.1 (fun(y:Int)=>k (.i y) []))
 (none)
def ww1 (args:List AV)(st:St)(k:K1):OR:=
 vag [.agg [.lst tVersion,.lst tTxn,.lst tTxn,.i,.i],.str] [] args st (fun p q=>vr9 (p.1.1,(p.1.2.1,(p.1.2.2.1,(p.1.2.2.2.1,p.1.2.2.2.2.1)))) p.2.1 (fun(y:q86T)=>k (.agg [.own 0,.own 1,.own 2,.i y.1,.i y.2.1]) [.arr tVersion y.2.2.1,.arr tTxn y.2.2.2.1,.arr tTxn y.2.2.2.2]))
 (none)
def wtc (args:List AV)(st:St)(k:K1):OR:=
 vag [.agg [.lst tVersion,.lst tTxn,.lst tTxn,.i,.i],.agg [.i,.i,.i,.i,.lst tRange,.lst tWrite,.bool,.str],.str] [] args st (fun p q=>vtg (p.1.1,(p.1.2.1,(p.1.2.2.1,(p.1.2.2.2.1,p.1.2.2.2.2.1)))) (p.2.1.1,(p.2.1.2.1,(p.2.1.2.2.1,(p.2.1.2.2.2.1,(p.2.1.2.2.2.2.1,(p.2.1.2.2.2.2.2.1,(p.2.1.2.2.2.2.2.2.1,p.2.1.2.2.2.2.2.2.2.1))))))) p.2.2.1 (fun(y:q86T)=>k (.agg [.own 0,.own 1,.own 2,.i y.1,.i y.2.1]) [.arr tVersion y.2.2.1,.arr tTxn y.2.2.2.1,.arr tTxn y.2.2.2.2]))
 (none)
def wu5 (args:List AV)(st:St)(k:K1):OR:=
 vag [.agg [.lst tVersion,.lst tTxn,.lst tTxn,.i,.i],.agg [.i,.i,.i,.i,.i,.lst tRange,.lst tWrite,.bool,.str,.str,.bool,.lst tVersion,.lst tTxn,.lst tTxn,.i,.i]] [] args st (fun p q=>v96 (p.1.1,(p.1.2.1,(p.1.2.2.1,(p.1.2.2.2.1,p.1.2.2.2.2.1)))) (p.2.1.1,((p.2.1.2.1,(p.2.1.2.2.1,(p.2.1.2.2.2.1,(p.2.1.2.2.2.2.1,(p.2.1.2.2.2.2.2.1,(p.2.1.2.2.2.2.2.2.1,(p.2.1.2.2.2.2.2.2.2.1,p.2.1.2.2.2.2.2.2.2.2.1))))))),(p.2.1.2.2.2.2.2.2.2.2.2.1,(p.2.1.2.2.2.2.2.2.2.2.2.2.1,(p.2.1.2.2.2.2.2.2.2.2.2.2.2.1,(p.2.1.2.2.2.2.2.2.2.2.2.2.2.2.1,(p.2.1.2.2.2.2.2.2.2.2.2.2.2.2.2.1,(p.2.1.2.2.2.2.2.2.2.2.2.2.2.2.2.2.1,p.2.1.2.2.2.2.2.2.2.2.2.2.2.2.2.2.2.1)))))))) (Sum.elim (fun(y:q18T)=>k (.tup [.agg [.lst tVersion y.1,.lst tTxn y.2.1,.lst tTxn y.2.2.1,.i y.2.2.2.1,.i y.2.2.2.2.1],.bool y.2.2.2.2.2]) []) (fun(y:q88T)=>k (.tup [.agg [.own 0,.own 1,.own 2,.i y.1,.i y.2.1],.bool y.2.2.1]) [.arr tVersion y.2.2.2.1,.arr tTxn y.2.2.2.2.1,.arr tTxn y.2.2.2.2.2])))
 (none)
def wqp (args:List AV)(st:St)(k:K1):OR:=
 vag [.agg [.lst tVersion,.lst tTxn,.lst tTxn,.i,.i],.lst tTxn] [] args st (fun p q=>vr7 (p.1.1,(p.1.2.1,(p.1.2.2.1,(p.1.2.2.2.1,p.1.2.2.2.2.1)))) p.2.1 (fun(y:Int)=>k (.i y) []))
 (none)
def wuj (args:List AV)(st:St)(k:K1):OR:=
 vag [.lst tVersion,.str,.i] [] args st (fun p q=>vru p.1 p.2.1 p.2.2.1 (fun(y:Int)=>k (.i y) []))
 (none)
def wrs (args:List AV)(st:St)(k:K1):OR:=
 vag [.lst tVersion,.i] [] args st (fun p q=>vsm p.1 p.2.1 (fun(y:VL)=>k (.own 0) [.arr tVersion y]))
 (none)
def wxj (args:List AV)(st:St)(k:K1):OR:=
 vag [.agg [.lst tVersion,.lst tTxn,.lst tTxn,.i,.i],.lst tTxn] [] args st (fun p q=>vta (p.1.1,(p.1.2.1,(p.1.2.2.1,(p.1.2.2.2.1,p.1.2.2.2.2.1)))) p.2.1 (fun(y:q86T)=>k (.agg [.own 0,.own 1,.own 2,.i y.1,.i y.2.1]) [.arr tVersion y.2.2.1,.arr tTxn y.2.2.2.1,.arr tTxn y.2.2.2.2]))
 (none)
def wve (args:List AV)(st:St)(k:K1):OR:=
 vag [.agg [.lst tVersion,.lst tTxn,.lst tTxn,.i,.i],.agg [.i,.i,.i,.i,.i,.lst tRange,.lst tWrite,.bool,.str,.str,.bool,.lst tVersion,.lst tTxn,.lst tTxn,.i,.i]] [] args st (fun p q=>v1m (p.1.1,(p.1.2.1,(p.1.2.2.1,(p.1.2.2.2.1,p.1.2.2.2.2.1)))) (p.2.1.1,((p.2.1.2.1,(p.2.1.2.2.1,(p.2.1.2.2.2.1,(p.2.1.2.2.2.2.1,(p.2.1.2.2.2.2.2.1,(p.2.1.2.2.2.2.2.2.1,(p.2.1.2.2.2.2.2.2.2.1,p.2.1.2.2.2.2.2.2.2.2.1))))))),(p.2.1.2.2.2.2.2.2.2.2.2.1,(p.2.1.2.2.2.2.2.2.2.2.2.2.1,(p.2.1.2.2.2.2.2.2.2.2.2.2.2.1,(p.2.1.2.2.2.2.2.2.2.2.2.2.2.2.1,(p.2.1.2.2.2.2.2.2.2.2.2.2.2.2.2.1,(p.2.1.2.2.2.2.2.2.2.2.2.2.2.2.2.2.1,p.2.1.2.2.2.2.2.2.2.2.2.2.2.2.2.2.2.1)))))))) (fun(y:q88T)=>k (.tup [.agg [.own 0,.own 1,.own 2,.i y.1,.i y.2.1],.bool y.2.2.1]) [.arr tVersion y.2.2.2.1,.arr tTxn y.2.2.2.2.1,.arr tTxn y.2.2.2.2.2]))
 (none)
def w6d (args:List AV)(st:St)(k:K1):OR:=
 vag [.i,.i,.i] [] args st (fun p q=>vej p.1 p.2.1 p.2.2.1 (fun(y:Bool)=>k (.bool y) []))
 (none)
def w5l (args:List AV)(st:St)(k:K1):OR:=
 vag [.str] [] args st (fun p q=>vkb p.1 (fun(y:Bool)=>k (.bool y) []))
 (none)
def w3w (args:List AV)(st:St)(k:K1):OR:=
 vag [.str] [] args st (fun p q=>wd9 p.1 (fun(y:Bool)=>k (.bool y) []))
 (none)
def w4y (args:List AV)(st:St)(k:K1):OR:=
 vag [.str,.str] [] args st (fun p q=>wdp p.1 p.2.1 (fun(y:Int)=>k (.i y) []))
 (none)
def w48 (args:List AV)(st:St)(k:K1):OR:=
 vag [.i] [] args st (fun p q=>wdm p.1 (fun(y:Bool)=>k (.bool y) []))
 (none)
def w42 (args:List AV)(st:St)(k:K1):OR:=
 vag [.i,.i] [] args st (fun p q=>wez p.1 p.2.1 (fun(y:Int)=>k (.i y) []))
 (none)
def w4t (args:List AV)(st:St)(k:K1):OR:=
 vag [.agg [.str,.str,.bool,.i],.agg [.str,.str,.bool,.i]] [] args st (fun p q=>vvl (p.1.1,(p.1.2.1,(p.1.2.2.1,p.1.2.2.2.1))) (p.2.1.1,(p.2.1.2.1,(p.2.1.2.2.1,p.2.1.2.2.2.1))) (fun(y:Int)=>k (.i y) []))
 (none)
def w4b (args:List AV)(st:St)(k:K1):OR:=
 vag [.lst tVersion] [] args st (fun p q=>v0h p.1 (fun(y:Bool)=>k (.bool y) []))
 (none)
def w5v (args:List AV)(st:St)(k:K1):OR:=
 vag [.agg [.str,.str]] [] args st (fun p q=>v77 (p.1.1,p.1.2.1) (fun(y:Bool)=>k (.bool y) []))
 (none)
def w52 (args:List AV)(st:St)(k:K1):OR:=
 vag [.agg [.str,.str,.bool]] [] args st (fun p q=>v6s (p.1.1,(p.1.2.1,p.1.2.2.1)) (fun(y:Bool)=>k (.bool y) []))
 (none)
def w38 (args:List AV)(st:St)(k:K1):OR:=
 vag [.lst tWrite] [] args st (fun p q=>v3s p.1 (fun(y:Bool)=>k (.bool y) []))
 (none)
def w41 (args:List AV)(st:St)(k:K1):OR:=
 vag [.agg [.i,.i,.i,.i,.lst tRange,.lst tWrite,.bool,.str]] [] args st (fun p q=>vl6 (p.1.1,(p.1.2.1,(p.1.2.2.1,(p.1.2.2.2.1,(p.1.2.2.2.2.1,(p.1.2.2.2.2.2.1,(p.1.2.2.2.2.2.2.1,p.1.2.2.2.2.2.2.2.1))))))) (fun(y:Bool)=>k (.bool y) []))
 (none)
def w4s (args:List AV)(st:St)(k:K1):OR:=
 vag [.agg [.i,.i,.i,.i,.lst tRange,.lst tWrite,.bool,.str]] [] args st (fun p q=>vua (p.1.1,(p.1.2.1,(p.1.2.2.1,(p.1.2.2.2.1,(p.1.2.2.2.2.1,(p.1.2.2.2.2.2.1,(p.1.2.2.2.2.2.2.1,p.1.2.2.2.2.2.2.2.1))))))) (fun(y:Bool)=>k (.bool y) []))
 (none)
def w5d (args:List AV)(st:St)(k:K1):OR:=
 vag [.agg [.i,.i,.i,.i,.lst tRange,.lst tWrite,.bool,.str]] [] args st (fun p q=>vxf (p.1.1,(p.1.2.1,(p.1.2.2.1,(p.1.2.2.2.1,(p.1.2.2.2.2.1,(p.1.2.2.2.2.2.1,(p.1.2.2.2.2.2.2.1,p.1.2.2.2.2.2.2.2.1))))))) (fun(y:Bool)=>k (.bool y) []))
 (none)
def vlu (args:List AV)(st:St)(k:K1):OR:=
 vag [.nilS,.i] [] args st (fun p q=>v5z p.2.1 (Sum.elim (fun(y:TL)=>k (.own 0) [.arr tTxn y]) (fun(y:TL)=>k (.own 0) [.dep tTxn y 0 []])))
 (none)
def w51 (args:List AV)(st:St)(k:K1):OR:=
 vag [.lst (.slice tTxn)] [] args st (fun p q=>vw8 p.1 (Sum.elim (fun(y:TL)=>k (.own 0) [.arr tTxn y]) (fun(y:TL)=>k (.own 0) [.dep tTxn y 0 []])))
 (none)
def w49 (args:List AV)(st:St)(k:K1):OR:=
 vag [.agg [.i,.i,.i,.i,.lst tRange,.lst tWrite,.bool,.str],.bp 0 0] [.box [.i,.i,.i,.i,.lst tRange,.lst tWrite,.bool,.str]] args st (fun p q=>v6j (p.1.1,(p.1.2.1,(p.1.2.2.1,(p.1.2.2.2.1,(p.1.2.2.2.2.1,(p.1.2.2.2.2.2.1,(p.1.2.2.2.2.2.2.1,p.1.2.2.2.2.2.2.2.1))))))) q.1.1 q.1.2.1 q.1.2.2.1 q.1.2.2.2.1 q.1.2.2.2.2.1 q.1.2.2.2.2.2.1 q.1.2.2.2.2.2.2.1 q.1.2.2.2.2.2.2.2.1 (fun(y:q62T)=>k (.bool y.1) [.box [.i y.2.1,.i y.2.2.1,.i y.2.2.2.1,.i y.2.2.2.2.1,.lst tRange y.2.2.2.2.2.1,.lst tWrite y.2.2.2.2.2.2.1,.bool y.2.2.2.2.2.2.2.1,.str y.2.2.2.2.2.2.2.2]]))
 (none)
def w4w (args:List AV)(st:St)(k:K1):OR:=
 vag [.agg [.i,.i,.i,.i,.lst tRange,.lst tWrite,.bool,.str],.agg [.i,.i,.i,.i,.lst tRange,.lst tWrite,.bool,.str]] [] args st (fun p q=>v6t (p.1.1,(p.1.2.1,(p.1.2.2.1,(p.1.2.2.2.1,(p.1.2.2.2.2.1,(p.1.2.2.2.2.2.1,(p.1.2.2.2.2.2.2.1,p.1.2.2.2.2.2.2.2.1))))))) (p.2.1.1,(p.2.1.2.1,(p.2.1.2.2.1,(p.2.1.2.2.2.1,(p.2.1.2.2.2.2.1,(p.2.1.2.2.2.2.2.1,(p.2.1.2.2.2.2.2.2.1,p.2.1.2.2.2.2.2.2.2.1))))))) (fun(y:Bool)=>k (.bool y) []))
 (none)
def w5x (args:List AV)(st:St)(k:K1):OR:=
 vag [.agg [.i,.i,.i,.i,.lst tRange,.lst tWrite,.bool,.str],.agg [.i,.i,.i,.i,.lst tRange,.lst tWrite,.bool,.str]] [] args st (fun p q=>weo (p.1.1,(p.1.2.1,(p.1.2.2.1,(p.1.2.2.2.1,(p.1.2.2.2.2.1,(p.1.2.2.2.2.2.1,(p.1.2.2.2.2.2.2.1,p.1.2.2.2.2.2.2.2.1))))))) (p.2.1.1,(p.2.1.2.1,(p.2.1.2.2.1,(p.2.1.2.2.2.1,(p.2.1.2.2.2.2.1,(p.2.1.2.2.2.2.2.1,(p.2.1.2.2.2.2.2.2.1,p.2.1.2.2.2.2.2.2.2.1))))))) (fun(y:Bool)=>k (.bool y) []))
 (none)
def w56 (args:List AV)(st:St)(k:K1):OR:=
 vag [.agg [.str,.str],.str] [] args st (fun p q=>v5q (p.1.1,p.1.2.1) p.2.1 (fun(y:Bool)=>k (.bool y) []))
 (none)
def w4i (args:List AV)(st:St)(k:K1):OR:=
 vag [.lst tRange,.lst tWrite] [] args st (fun p q=>v70 p.1 p.2.1 (fun(y:Bool)=>k (.bool y) []))
 (none)
def w5h (args:List AV)(st:St)(k:K1):OR:=
 vag [.agg [.i,.i,.i,.i,.lst tRange,.lst tWrite,.bool,.str],.agg [.i,.i,.i,.i,.lst tRange,.lst tWrite,.bool,.str]] [] args st (fun p q=>v6n (p.1.1,(p.1.2.1,(p.1.2.2.1,(p.1.2.2.2.1,(p.1.2.2.2.2.1,(p.1.2.2.2.2.2.1,(p.1.2.2.2.2.2.2.1,p.1.2.2.2.2.2.2.2.1))))))) (p.2.1.1,(p.2.1.2.1,(p.2.1.2.2.1,(p.2.1.2.2.2.1,(p.2.1.2.2.2.2.1,(p.2.1.2.2.2.2.2.1,(p.2.1.2.2.2.2.2.2.1,p.2.1.2.2.2.2.2.2.2.1))))))) (fun(y:Bool)=>k (.bool y) []))
 (none)
def w34 (args:List AV)(st:St)(k:K1):OR:=
 vag [.agg [.i,.i,.i,.i,.lst tRange,.lst tWrite,.bool,.str],.bp 0 0] [.box [.i,.i,.i,.i,.lst tRange,.lst tWrite,.bool,.str]] args st (fun p q=>v54 (p.1.1,(p.1.2.1,(p.1.2.2.1,(p.1.2.2.2.1,(p.1.2.2.2.2.1,(p.1.2.2.2.2.2.1,(p.1.2.2.2.2.2.2.1,p.1.2.2.2.2.2.2.2.1))))))) q.1.1 q.1.2.1 q.1.2.2.1 q.1.2.2.2.1 q.1.2.2.2.2.1 q.1.2.2.2.2.2.1 q.1.2.2.2.2.2.2.1 q.1.2.2.2.2.2.2.2.1 (fun(y:q62T)=>k (.bool y.1) [.box [.i y.2.1,.i y.2.2.1,.i y.2.2.2.1,.i y.2.2.2.2.1,.lst tRange y.2.2.2.2.2.1,.lst tWrite y.2.2.2.2.2.2.1,.bool y.2.2.2.2.2.2.2.1,.str y.2.2.2.2.2.2.2.2]]))
 (none)
def w4h (args:List AV)(st:St)(k:K1):OR:=
 vag [.agg [.i,.i,.i,.i,.lst tRange,.lst tWrite,.bool,.str],.bp 0 0] [.box [.i,.i,.i,.i,.dead,.dead,.bool,.str]] args st (fun p q=>vxt (p.1.1,(p.1.2.1,(p.1.2.2.1,(p.1.2.2.2.1,(p.1.2.2.2.2.1,(p.1.2.2.2.2.2.1,(p.1.2.2.2.2.2.2.1,p.1.2.2.2.2.2.2.2.1))))))) q.1.1 q.1.2.1 q.1.2.2.1 q.1.2.2.2.1 q.1.2.2.2.2.2.2.1 q.1.2.2.2.2.2.2.2.1 (fun(y:q63T)=>k (.bool y.1) [.box [.i y.2.1,.i y.2.2.1,.i y.2.2.2.1,.i y.2.2.2.2.1,.dead,.dead,.bool y.2.2.2.2.2.1,.str y.2.2.2.2.2.2]]))
 (none)
def w4q (args:List AV)(st:St)(k:K1):OR:=
 vag [.agg [.i,.i,.i,.i,.lst tRange,.lst tWrite,.bool,.str],.bp 0 0] [.box [.str]] args st (fun p q=>v5k (p.1.1,(p.1.2.1,(p.1.2.2.1,(p.1.2.2.2.1,(p.1.2.2.2.2.1,(p.1.2.2.2.2.2.1,(p.1.2.2.2.2.2.2.1,p.1.2.2.2.2.2.2.2.1))))))) q.1.1 (fun(y:(Bool×ByteArray))=>k (.bool y.1) [.box [.str y.2]]))
 (none)
def w5z (args:List AV)(st:St)(k:K1):OR:=
 vag [.agg [.i,.i,.i,.i,.lst tRange,.lst tWrite,.bool,.str],.bp 0 0] [.box [.str]] args st (fun p q=>vxc (p.1.1,(p.1.2.1,(p.1.2.2.1,(p.1.2.2.2.1,(p.1.2.2.2.2.1,(p.1.2.2.2.2.2.1,(p.1.2.2.2.2.2.2.1,p.1.2.2.2.2.2.2.2.1))))))) q.1.1 (fun(y:(Bool×ByteArray))=>k (.bool y.1) [.box [.str y.2]]))
 (none)
def w4a (args:List AV)(st:St)(k:K1):OR:=
 vag [.agg [.i,.i,.i,.i,.lst tRange,.lst tWrite,.bool,.str],.bp 0 0] [.box [.i]] args st (fun p q=>vxr (p.1.1,(p.1.2.1,(p.1.2.2.1,(p.1.2.2.2.1,(p.1.2.2.2.2.1,(p.1.2.2.2.2.2.1,(p.1.2.2.2.2.2.2.1,p.1.2.2.2.2.2.2.2.1))))))) q.1.1 (fun(y:(Bool×Int))=>k (.bool y.1) [.box [.i y.2]]))
 (none)
def vav (args:List AV)(st:St)(k:K1):OR:=
 vag [.lst tTxn,.fn 163 [.bp 0 0]] [.box [.i,.i,.i,.i,.lst tRange,.lst tWrite,.bool,.str]] args st (fun p q=>v0l p.1 q.1.1 q.1.2.1 q.1.2.2.1 q.1.2.2.2.1 q.1.2.2.2.2.1 q.1.2.2.2.2.2.1 q.1.2.2.2.2.2.2.1 q.1.2.2.2.2.2.2.2.1 (fun(y:q96T)=>k (.i y.1) [.box [.i y.2.1,.i y.2.2.1,.i y.2.2.2.1,.i y.2.2.2.2.1,.lst tRange y.2.2.2.2.2.1,.lst tWrite y.2.2.2.2.2.2.1,.bool y.2.2.2.2.2.2.2.1,.str y.2.2.2.2.2.2.2.2]]))
 (vag [.lst tTxn,.fn 170 [.bp 0 0]] [.box [.i,.i,.i,.i,.lst tRange,.lst tWrite,.bool,.str]] args st (fun p q=>vz6 p.1 q.1.1 q.1.2.1 q.1.2.2.1 q.1.2.2.2.1 q.1.2.2.2.2.1 q.1.2.2.2.2.2.1 q.1.2.2.2.2.2.2.1 q.1.2.2.2.2.2.2.2.1 (fun(y:q96T)=>k (.i y.1) [.box [.i y.2.1,.i y.2.2.1,.i y.2.2.2.1,.i y.2.2.2.2.1,.lst tRange y.2.2.2.2.2.1,.lst tWrite y.2.2.2.2.2.2.1,.bool y.2.2.2.2.2.2.2.1,.str y.2.2.2.2.2.2.2.2]]))
 (vag [.lst tTxn,.fn 122 [.bp 0 0]] [.box [.i,.i,.i,.i,.dead,.dead,.bool,.str]] args st (fun p q=>vr5 p.1 q.1.1 q.1.2.1 q.1.2.2.1 q.1.2.2.2.1 q.1.2.2.2.2.2.2.1 q.1.2.2.2.2.2.2.2.1 (fun(y:q98T)=>k (.i y.1) [.box [.i y.2.1,.i y.2.2.1,.i y.2.2.2.1,.i y.2.2.2.2.1,.dead,.dead,.bool y.2.2.2.2.2.1,.str y.2.2.2.2.2.2]]))
 (vag [.lst tTxn,.fn 100 [.bp 0 0]] [.box [.str]] args st (fun p q=>vzx p.1 q.1.1 (fun(y:(Int×ByteArray))=>k (.i y.1) [.box [.str y.2]]))
 (vag [.lst tTxn,.fn 102 [.bp 0 0]] [.box [.str]] args st (fun p q=>v3x p.1 q.1.1 (fun(y:(Int×ByteArray))=>k (.i y.1) [.box [.str y.2]]))
 (vag [.lst tTxn,.fn 110 [.bp 0 0]] [.box [.i]] args st (fun p q=>vs0 p.1 q.1.1 (fun(y:(Int×Int))=>k (.i y.1) [.box [.i y.2]]))
 (none))))))
def vbg (args:List AV)(st:St)(k:K1):OR:=
 vag [.lst tTxn,.fn 163 [.bp 0 0]] [.box [.i,.i,.i,.i,.lst tRange,.lst tWrite,.bool,.str]] args st (fun p q=>wlp p.1 q.1.1 q.1.2.1 q.1.2.2.1 q.1.2.2.2.1 q.1.2.2.2.2.1 q.1.2.2.2.2.2.1 q.1.2.2.2.2.2.2.1 q.1.2.2.2.2.2.2.2.1 (fun(y:q62T)=>k (.bool y.1) [.box [.i y.2.1,.i y.2.2.1,.i y.2.2.2.1,.i y.2.2.2.2.1,.lst tRange y.2.2.2.2.2.1,.lst tWrite y.2.2.2.2.2.2.1,.bool y.2.2.2.2.2.2.2.1,.str y.2.2.2.2.2.2.2.2]]))
 (vag [.lst tTxn,.fn 170 [.bp 0 0]] [.box [.i,.i,.i,.i,.lst tRange,.lst tWrite,.bool,.str]] args st (fun p q=>wkl p.1 q.1.1 q.1.2.1 q.1.2.2.1 q.1.2.2.2.1 q.1.2.2.2.2.1 q.1.2.2.2.2.2.1 q.1.2.2.2.2.2.2.1 q.1.2.2.2.2.2.2.2.1 (fun(y:q62T)=>k (.bool y.1) [.box [.i y.2.1,.i y.2.2.1,.i y.2.2.2.1,.i y.2.2.2.2.1,.lst tRange y.2.2.2.2.2.1,.lst tWrite y.2.2.2.2.2.2.1,.bool y.2.2.2.2.2.2.2.1,.str y.2.2.2.2.2.2.2.2]]))
 (none))
def vig (args:List AV)(st:St)(k:K1):OR:=
 vag [.lst tTxn,.fn 163 [.bp 0 0]] [.box [.i,.i,.i,.i,.lst tRange,.lst tWrite,.bool,.str]] args st (fun p q=>v6a p.1 q.1.1 q.1.2.1 q.1.2.2.1 q.1.2.2.2.1 q.1.2.2.2.2.1 q.1.2.2.2.2.2.1 q.1.2.2.2.2.2.2.1 q.1.2.2.2.2.2.2.2.1 (fun(y:q62T)=>k (.bool y.1) [.box [.i y.2.1,.i y.2.2.1,.i y.2.2.2.1,.i y.2.2.2.2.1,.lst tRange y.2.2.2.2.2.1,.lst tWrite y.2.2.2.2.2.2.1,.bool y.2.2.2.2.2.2.2.1,.str y.2.2.2.2.2.2.2.2]]))
 (vag [.lst tTxn,.fn 170 [.bp 0 0]] [.box [.i,.i,.i,.i,.lst tRange,.lst tWrite,.bool,.str]] args st (fun p q=>wmp p.1 q.1.1 q.1.2.1 q.1.2.2.1 q.1.2.2.2.1 q.1.2.2.2.2.1 q.1.2.2.2.2.2.1 q.1.2.2.2.2.2.2.1 q.1.2.2.2.2.2.2.2.1 (fun(y:q62T)=>k (.bool y.1) [.box [.i y.2.1,.i y.2.2.1,.i y.2.2.2.1,.i y.2.2.2.2.1,.lst tRange y.2.2.2.2.2.1,.lst tWrite y.2.2.2.2.2.2.1,.bool y.2.2.2.2.2.2.2.1,.str y.2.2.2.2.2.2.2.2]]))
 (none))
def w5u (args:List AV)(st:St)(k:K1):OR:=
 vag [.lst tTxn,.i] [] args st (fun p q=>vuy p.1 p.2.1 (fun(y:Bool)=>k (.bool y) []))
 (none)
def w47 (args:List AV)(st:St)(k:K1):OR:=
 vag [.agg [.lst tVersion,.lst tTxn,.lst tTxn,.i,.i]] [] args st (fun p q=>vrd (p.1.1,(p.1.2.1,(p.1.2.2.1,(p.1.2.2.2.1,p.1.2.2.2.2.1)))) (fun(y:Bool)=>k (.bool y) []))
 (none)
def w5q (args:List AV)(st:St)(k:K1):OR:=
 vag [.agg [.i,.i,.i,.i,.lst tRange,.lst tWrite,.bool,.str]] [] args st (fun p q=>vtw (p.1.1,(p.1.2.1,(p.1.2.2.1,(p.1.2.2.2.1,(p.1.2.2.2.2.1,(p.1.2.2.2.2.2.1,(p.1.2.2.2.2.2.2.1,p.1.2.2.2.2.2.2.2.1))))))) (fun(y:q92T)=>k (.agg [.i y.1,.i y.2.1,.i y.2.2.1,.i y.2.2.2.1,.own 0,.own 1,.bool y.2.2.2.2.1,.str y.2.2.2.2.2.1]) [.arr tRange y.2.2.2.2.2.2.1,.arr tWrite y.2.2.2.2.2.2.2]))
 (none)
def w5c (args:List AV)(st:St)(k:K1):OR:=
 vag [.lst tTxn] [] args st (fun p q=>v0m p.1 (fun(y:TL)=>k (.own 0) [.dep tTxn y 0 []]))
 (none)
def w54 (args:List AV)(st:St)(k:K1):OR:=
 vag [.agg [.lst tVersion,.lst tTxn,.lst tTxn,.i,.i]] [] args st (fun p q=>vim (p.1.1,(p.1.2.1,(p.1.2.2.1,(p.1.2.2.2.1,p.1.2.2.2.2.1)))) (fun(y:q86T)=>k (.agg [.own 0,.own 1,.own 2,.i y.1,.i y.2.1]) [.arr tVersion y.2.2.1,.dep tTxn y.2.2.2.1 0 [],.dep tTxn y.2.2.2.2 0 []]))
 (none)
def w3z (args:List AV)(st:St)(k:K1):OR:=
 vag [.agg [.i,.i,.i,.i,.lst tRange,.lst tWrite,.bool,.str]] [] args st (fun p q=>v5r (p.1.1,(p.1.2.1,(p.1.2.2.1,(p.1.2.2.2.1,(p.1.2.2.2.2.1,(p.1.2.2.2.2.2.1,(p.1.2.2.2.2.2.2.1,p.1.2.2.2.2.2.2.2.1))))))) (fun(y:Bool)=>k (.bool y) []))
 (none)
def w6c (args:List AV)(st:St)(k:K1):OR:=
 vag [.agg [.lst tVersion,.lst tTxn,.lst tTxn,.i,.i]] [] args st (fun p q=>v7u (p.1.1,(p.1.2.1,(p.1.2.2.1,(p.1.2.2.2.1,p.1.2.2.2.2.1)))) (fun(y:Bool)=>k (.bool y) []))
 (none)
def w5f (args:List AV)(st:St)(k:K1):OR:=
 vag [.agg [.i,.i,.i,.i,.i,.lst tRange,.lst tWrite,.bool,.str,.str,.bool,.lst tVersion,.lst tTxn,.lst tTxn,.i,.i]] [] args st (fun p q=>v6k (p.1.1,((p.1.2.1,(p.1.2.2.1,(p.1.2.2.2.1,(p.1.2.2.2.2.1,(p.1.2.2.2.2.2.1,(p.1.2.2.2.2.2.2.1,(p.1.2.2.2.2.2.2.2.1,p.1.2.2.2.2.2.2.2.2.1))))))),(p.1.2.2.2.2.2.2.2.2.2.1,(p.1.2.2.2.2.2.2.2.2.2.2.1,(p.1.2.2.2.2.2.2.2.2.2.2.2.1,(p.1.2.2.2.2.2.2.2.2.2.2.2.2.1,(p.1.2.2.2.2.2.2.2.2.2.2.2.2.2.1,(p.1.2.2.2.2.2.2.2.2.2.2.2.2.2.2.1,p.1.2.2.2.2.2.2.2.2.2.2.2.2.2.2.2.1)))))))) (fun(y:Bool)=>k (.bool y) []))
 (none)
def w4f (args:List AV)(st:St)(k:K1):OR:=
 vag [.agg [.i,.i,.i,.i,.lst tRange,.lst tWrite,.bool,.str],.lst tTxn] [] args st (fun p q=>v0j (p.1.1,(p.1.2.1,(p.1.2.2.1,(p.1.2.2.2.1,(p.1.2.2.2.2.1,(p.1.2.2.2.2.2.1,(p.1.2.2.2.2.2.2.1,p.1.2.2.2.2.2.2.2.1))))))) p.2.1 (fun(y:Bool)=>k (.bool y) []))
 (none)
def w4r (args:List AV)(st:St)(k:K1):OR:=
 vag [.agg [.str,.str,.bool,.i],.bp 0 0] [.box [.str,.str,.bool,.i]] args st (fun p q=>wex (p.1.1,(p.1.2.1,(p.1.2.2.1,p.1.2.2.2.1))) q.1.1 q.1.2.1 q.1.2.2.1 q.1.2.2.2.1 (fun(y:q56T)=>k (.bool y.1) [.box [.str y.2.1,.str y.2.2.1,.bool y.2.2.2.1,.i y.2.2.2.2]]))
 (none)
def vek (args:List AV)(st:St)(k:K1):OR:=
 vag [.lst tVersion,.fn 183 [.bp 0 0]] [.box [.str,.str,.bool,.i]] args st (fun p q=>vwm p.1 q.1.1 q.1.2.1 q.1.2.2.1 q.1.2.2.2.1 (fun(y:q84T)=>k (.i y.1) [.box [.str y.2.1,.str y.2.2.1,.bool y.2.2.2.1,.i y.2.2.2.2]]))
 (none)
def vdm (args:List AV)(st:St)(k:K1):OR:=
 vag [.own 0,.i,.own 1] [.arr tVersion,.arr tVersion] args st (fun p q=>vqe p.2.1 q.1 q.2.1 (fun(y:q23T)=>k (.own 2) [.gone,.arr tVersion y.1,.arr tVersion y.2]))
 (none)
def w5o (args:List AV)(st:St)(k:K1):OR:=
 vag [.lst tVersion,.lst tWrite,.i] [] args st (fun p q=>v61 p.1 p.2.1 p.2.2.1 (fun(y:VL)=>k (.own 0) [.arr tVersion y]))
 (none)
def vbc (args:List AV)(st:St)(k:K1):OR:=
 vag [.own 0,.fn 122 [.bp 1 0]] [.dep tTxn 0,.box [.i,.i,.i,.i,.dead,.dead,.bool,.str]] args st (fun p q=>v67 q.1 q.2.1.1 q.2.1.2.1 q.2.1.2.2.1 q.2.1.2.2.2.1 q.2.1.2.2.2.2.2.2.1 q.2.1.2.2.2.2.2.2.2.1 (Sum.elim (fun(y:q13T)=>k (.own 0) [.dep tTxn y.1 0 [],.box [.i y.2.1,.i y.2.2.1,.i y.2.2.2.1,.i y.2.2.2.2.1,.dead,.dead,.bool y.2.2.2.2.2.1,.str y.2.2.2.2.2.2]]) (fun(y:q93T)=>k (.own 2) [.gone,.box [.i y.1,.i y.2.1,.i y.2.2.1,.i y.2.2.2.1,.dead,.dead,.bool y.2.2.2.2.1,.str y.2.2.2.2.2.1],.dep tTxn y.2.2.2.2.2.2 0 []])))
 (vag [.own 0,.fn 102 [.bp 1 0]] [.dep tTxn 0,.box [.str]] args st (fun p q=>v8k q.1 q.2.1.1 (Sum.elim (fun(y:(TL×ByteArray))=>k (.own 0) [.dep tTxn y.1 0 [],.box [.str y.2]]) (fun(y:(ByteArray×TL))=>k (.own 2) [.gone,.box [.str y.1],.dep tTxn y.2 0 []])))
 (vag [.own 0,.fn 110 [.bp 1 0]] [.dep tTxn 0,.box [.i]] args st (fun p q=>v7n q.1 q.2.1.1 (Sum.elim (fun(y:(TL×Int))=>k (.own 0) [.dep tTxn y.1 0 [],.box [.i y.2]]) (fun(y:(Int×TL))=>k (.own 2) [.gone,.box [.i y.1],.dep tTxn y.2 0 []])))
 (none)))
def w5t (args:List AV)(st:St)(k:K1):OR:=
 vag [.agg [.lst tVersion,.lst tTxn,.lst tTxn,.i,.i],.agg [.i,.i,.i,.i,.lst tRange,.lst tWrite,.bool,.str]] [] args st (fun p q=>v5u (p.1.1,(p.1.2.1,(p.1.2.2.1,(p.1.2.2.2.1,p.1.2.2.2.2.1)))) (p.2.1.1,(p.2.1.2.1,(p.2.1.2.2.1,(p.2.1.2.2.2.1,(p.2.1.2.2.2.2.1,(p.2.1.2.2.2.2.2.1,(p.2.1.2.2.2.2.2.2.1,p.2.1.2.2.2.2.2.2.2.1))))))) (fun(y:q86T)=>k (.agg [.own 0,.own 1,.own 2,.i y.1,.i y.2.1]) [.arr tVersion y.2.2.1,.dep tTxn y.2.2.2.1 0 [],.dep tTxn y.2.2.2.2 0 []]))
 (none)
def w5e (args:List AV)(st:St)(k:K1):OR:=
 vag [.agg [.lst tVersion,.lst tTxn,.lst tTxn,.i,.i],.str] [] args st (fun p q=>vw4 (p.1.1,(p.1.2.1,(p.1.2.2.1,(p.1.2.2.2.1,p.1.2.2.2.2.1)))) p.2.1 (fun(y:Int)=>k (.i y) []))
 (none)
def w3q (args:List AV)(st:St)(k:K1):OR:=
 vag [.agg [.lst tVersion,.lst tTxn,.lst tTxn,.i,.i],.agg [.i,.i,.i,.i,.lst tRange,.lst tWrite,.bool,.str],.str] [] args st (fun p q=>vxb (p.1.1,(p.1.2.1,(p.1.2.2.1,(p.1.2.2.2.1,p.1.2.2.2.2.1)))) (p.2.1.1,(p.2.1.2.1,(p.2.1.2.2.1,(p.2.1.2.2.2.1,(p.2.1.2.2.2.2.1,(p.2.1.2.2.2.2.2.1,(p.2.1.2.2.2.2.2.2.1,p.2.1.2.2.2.2.2.2.2.1))))))) p.2.2.1 (fun(y:q86T)=>k (.agg [.own 0,.own 1,.own 2,.i y.1,.i y.2.1]) [.arr tVersion y.2.2.1,.dep tTxn y.2.2.2.1 0 [],.dep tTxn y.2.2.2.2 0 []]))
 (none)
def w3x (args:List AV)(st:St)(k:K1):OR:=
 vag [.agg [.lst tVersion,.lst tTxn,.lst tTxn,.i,.i],.str] [] args st (fun p q=>v1e (p.1.1,(p.1.2.1,(p.1.2.2.1,(p.1.2.2.2.1,p.1.2.2.2.2.1)))) p.2.1 (fun(y:q86T)=>k (.agg [.own 0,.own 1,.own 2,.i y.1,.i y.2.1]) [.arr tVersion y.2.2.1,.dep tTxn y.2.2.2.1 0 [],.dep tTxn y.2.2.2.2 0 []]))
 (none)
def w40 (args:List AV)(st:St)(k:K1):OR:=
 vag [.agg [.lst tVersion,.lst tTxn,.lst tTxn,.i,.i],.lst tTxn] [] args st (fun p q=>v7j (p.1.1,(p.1.2.1,(p.1.2.2.1,(p.1.2.2.2.1,p.1.2.2.2.2.1)))) p.2.1 (fun(y:Int)=>k (.i y) []))
 (none)
def w4m (args:List AV)(st:St)(k:K1):OR:=
 vag [.lst tVersion,.str,.i] [] args st (fun p q=>vzw p.1 p.2.1 p.2.2.1 (fun(y:Int)=>k (.i y) []))
 (none)
def w3t (args:List AV)(st:St)(k:K1):OR:=
 vag [.str,.bp 0 0] [.box [.own 1],.arr tVersion] args st (fun p q=>v5t p.1 q.2.1 (fun(y:(Int×VL))=>k (.i y.1) [.box [.own 1],.arr tVersion y.2]))
 (none)
def w3y (args:List AV)(st:St)(k:K1):OR:=
 vag [.lst tVersion,.i] [] args st (fun p q=>v0v p.1 p.2.1 (fun(y:VL)=>k (.own 0) [.arr tVersion y]))
 (none)
def w3o (args:List AV)(st:St)(k:K1):OR:=
 vag [.agg [.lst tVersion,.lst tTxn,.lst tTxn,.i,.i],.lst tTxn] [] args st (fun p q=>wcr (p.1.1,(p.1.2.1,(p.1.2.2.1,(p.1.2.2.2.1,p.1.2.2.2.2.1)))) p.2.1 (fun(y:q86T)=>k (.agg [.own 0,.own 1,.own 2,.i y.1,.i y.2.1]) [.arr tVersion y.2.2.1,.dep tTxn y.2.2.2.1 0 [],.dep tTxn y.2.2.2.2 0 []]))
 (none)
def w57 (args:List AV)(st:St)(k:K1):OR:=
 vag [.agg [.lst tVersion,.lst tTxn,.lst tTxn,.i,.i],.agg [.i,.i,.i,.i,.i,.lst tRange,.lst tWrite,.bool,.str,.str,.bool,.lst tVersion,.lst tTxn,.lst tTxn,.i,.i]] [] args st (fun p q=>v5j (p.1.1,(p.1.2.1,(p.1.2.2.1,(p.1.2.2.2.1,p.1.2.2.2.2.1)))) (p.2.1.1,((p.2.1.2.1,(p.2.1.2.2.1,(p.2.1.2.2.2.1,(p.2.1.2.2.2.2.1,(p.2.1.2.2.2.2.2.1,(p.2.1.2.2.2.2.2.2.1,(p.2.1.2.2.2.2.2.2.2.1,p.2.1.2.2.2.2.2.2.2.2.1))))))),(p.2.1.2.2.2.2.2.2.2.2.2.1,(p.2.1.2.2.2.2.2.2.2.2.2.2.1,(p.2.1.2.2.2.2.2.2.2.2.2.2.2.1,(p.2.1.2.2.2.2.2.2.2.2.2.2.2.2.1,(p.2.1.2.2.2.2.2.2.2.2.2.2.2.2.2.1,(p.2.1.2.2.2.2.2.2.2.2.2.2.2.2.2.2.1,p.2.1.2.2.2.2.2.2.2.2.2.2.2.2.2.2.2.1)))))))) (fun(y:q88T)=>k (.tup [.agg [.own 0,.own 1,.own 2,.i y.1,.i y.2.1],.bool y.2.2.1]) [.arr tVersion y.2.2.2.1,.dep tTxn y.2.2.2.2.1 0 [],.dep tTxn y.2.2.2.2.2 0 []]))
 (none)
def w3r (args:List AV)(st:St)(k:K1):OR:=
 vag [.agg [.str,.str,.bool,.i],.agg [.str,.str,.bool,.i]] [] args st (fun p q=>v8h (p.1.1,(p.1.2.1,(p.1.2.2.1,p.1.2.2.2.1))) (p.2.1.1,(p.2.1.2.1,(p.2.1.2.2.1,p.2.1.2.2.2.1))) (fun(y:Bool)=>k (.bool y) []))
 (none)
def w5w (args:List AV)(st:St)(k:K1):OR:=
 vag [.lst tVersion,.lst tVersion] [] args st (fun p q=>v8g p.1 p.2.1 (fun(y:Bool)=>k (.bool y) []))
 (none)
def w39 (args:List AV)(st:St)(k:K1):OR:=
 vag [.agg [.str,.str],.agg [.str,.str]] [] args st (fun p q=>v7v (p.1.1,p.1.2.1) (p.2.1.1,p.2.1.2.1) (fun(y:Bool)=>k (.bool y) []))
 (none)
def w53 (args:List AV)(st:St)(k:K1):OR:=
 vag [.lst tRange,.lst tRange] [] args st (fun p q=>v6o p.1 p.2.1 (fun(y:Bool)=>k (.bool y) []))
 (none)
def w4e (args:List AV)(st:St)(k:K1):OR:=
 vag [.agg [.str,.str,.bool],.agg [.str,.str,.bool]] [] args st (fun p q=>v68 (p.1.1,(p.1.2.1,p.1.2.2.1)) (p.2.1.1,(p.2.1.2.1,p.2.1.2.2.1)) (fun(y:Bool)=>k (.bool y) []))
 (none)
def w5a (args:List AV)(st:St)(k:K1):OR:=
 vag [.lst tWrite,.lst tWrite] [] args st (fun p q=>v5y p.1 p.2.1 (fun(y:Bool)=>k (.bool y) []))
 (none)
def w46 (args:List AV)(st:St)(k:K1):OR:=
 vag [.agg [.i,.i,.i,.i,.lst tRange,.lst tWrite,.bool,.str],.agg [.i,.i,.i,.i,.lst tRange,.lst tWrite,.bool,.str]] [] args st (fun p q=>vw0 (p.1.1,(p.1.2.1,(p.1.2.2.1,(p.1.2.2.2.1,(p.1.2.2.2.2.1,(p.1.2.2.2.2.2.1,(p.1.2.2.2.2.2.2.1,p.1.2.2.2.2.2.2.2.1))))))) (p.2.1.1,(p.2.1.2.1,(p.2.1.2.2.1,(p.2.1.2.2.2.1,(p.2.1.2.2.2.2.1,(p.2.1.2.2.2.2.2.1,(p.2.1.2.2.2.2.2.2.1,p.2.1.2.2.2.2.2.2.2.1))))))) (fun(y:Bool)=>k (.bool y) []))
 (none)
def w59 (args:List AV)(st:St)(k:K1):OR:=
 vag [.lst tTxn,.lst tTxn] [] args st (fun p q=>vzd p.1 p.2.1 (fun(y:Bool)=>k (.bool y) []))
 (none)
def w50 (args:List AV)(st:St)(k:K1):OR:=
 vag [.agg [.lst tVersion,.lst tTxn,.lst tTxn,.i,.i],.agg [.lst tVersion,.lst tTxn,.lst tTxn,.i,.i]] [] args st (fun p q=>vrq (p.1.1,(p.1.2.1,(p.1.2.2.1,(p.1.2.2.2.1,p.1.2.2.2.2.1)))) (p.2.1.1,(p.2.1.2.1,(p.2.1.2.2.1,(p.2.1.2.2.2.1,p.2.1.2.2.2.2.1)))) (fun(y:Bool)=>k (.bool y) []))
 (none)
def w3v (args:List AV)(st:St)(k:K1):OR:=
 vag [.agg [.i,.i,.i,.i,.i,.lst tRange,.lst tWrite,.bool,.str,.str,.bool,.lst tVersion,.lst tTxn,.lst tTxn,.i,.i],.agg [.i,.i,.i,.i,.i,.lst tRange,.lst tWrite,.bool,.str,.str,.bool,.lst tVersion,.lst tTxn,.lst tTxn,.i,.i]] [] args st (fun p q=>v63 (p.1.1,((p.1.2.1,(p.1.2.2.1,(p.1.2.2.2.1,(p.1.2.2.2.2.1,(p.1.2.2.2.2.2.1,(p.1.2.2.2.2.2.2.1,(p.1.2.2.2.2.2.2.2.1,p.1.2.2.2.2.2.2.2.2.1))))))),(p.1.2.2.2.2.2.2.2.2.2.1,(p.1.2.2.2.2.2.2.2.2.2.2.1,(p.1.2.2.2.2.2.2.2.2.2.2.2.1,(p.1.2.2.2.2.2.2.2.2.2.2.2.2.1,(p.1.2.2.2.2.2.2.2.2.2.2.2.2.2.1,(p.1.2.2.2.2.2.2.2.2.2.2.2.2.2.2.1,p.1.2.2.2.2.2.2.2.2.2.2.2.2.2.2.2.1)))))))) (p.2.1.1,((p.2.1.2.1,(p.2.1.2.2.1,(p.2.1.2.2.2.1,(p.2.1.2.2.2.2.1,(p.2.1.2.2.2.2.2.1,(p.2.1.2.2.2.2.2.2.1,(p.2.1.2.2.2.2.2.2.2.1,p.2.1.2.2.2.2.2.2.2.2.1))))))),(p.2.1.2.2.2.2.2.2.2.2.2.1,(p.2.1.2.2.2.2.2.2.2.2.2.2.1,(p.2.1.2.2.2.2.2.2.2.2.2.2.2.1,(p.2.1.2.2.2.2.2.2.2.2.2.2.2.2.1,(p.2.1.2.2.2.2.2.2.2.2.2.2.2.2.2.1,(p.2.1.2.2.2.2.2.2.2.2.2.2.2.2.2.2.1,p.2.1.2.2.2.2.2.2.2.2.2.2.2.2.2.2.2.1)))))))) (fun(y:Bool)=>k (.bool y) []))
 (none)
def w37 (args:List AV)(st:St)(k:K1):OR:=
 vag [.i] [] args st (fun p q=>vc9 p.1 (fun(y:ByteArray)=>k (.str y) []))
 (none)
def vif (args:List AV)(st:St)(k:K1):OR:=
 vag [.own 0,.i] [.arr tVersion] args st (fun p q=>wen p.2.1 q.1 (fun(y:(Int×VL))=>k (.i y.1) [.arr tVersion y.2]))
 (none)
def vlk (args:List AV)(st:St)(k:K1):OR:=
 vag [.own 0,.i] [.arr tRange] args st (fun p q=>v56 p.2.1 q.1 (fun(y:(Int×RL))=>k (.i y.1) [.arr tRange y.2]))
 (none)
def vl8 (args:List AV)(st:St)(k:K1):OR:=
 vag [.own 0,.i] [.arr tWrite] args st (fun p q=>v7d p.2.1 q.1 (fun(y:(Int×WL))=>k (.i y.1) [.arr tWrite y.2]))
 (none)
def vog (args:List AV)(st:St)(k:K1):OR:=
 vag [.own 0,.i] [.dep tTxn 0] args st (fun p q=>v7w p.2.1 q.1 (fun(y:(Int×TL))=>k (.i y.1) [.dep tTxn y.2 0 []]))
 (none)
def vo5 (args:List AV)(st:St)(k:K1):OR:=
 vag [.agg [.own 0,.own 1,.own 2,.i,.i],.i] [.arr tVersion,.dep tTxn 0,.dep tTxn 0] args st (fun p q=>vxk p.1.2.2.2.1 p.1.2.2.2.2.1 p.2.1 q.1 q.2.1 q.2.2.1 (fun(y:q82T)=>k (.i y.1) [.arr tVersion y.2.1,.dep tTxn y.2.2.1 0 [],.dep tTxn y.2.2.2 0 []]))
 (none)
def vrp (args:List AV)(st:St)(k:K1):OR:=
 vag [.agg [.i,.i,.i,.i,.own 0,.own 1,.bool,.str],.i] [.arr tRange,.arr tWrite] args st (fun p q=>wml p.1.1 p.1.2.1 p.1.2.2.1 p.1.2.2.2.1 p.1.2.2.2.2.2.2.1 p.1.2.2.2.2.2.2.2.1 p.2.1 q.1 q.2.1 (fun(y:q77T)=>k (.i y.1) [.arr tRange y.2.1,.arr tWrite y.2.2]))
 (none)
def vlv (args:List AV)(st:St)(k:K1):OR:=
 vag [.agg [.i,.i,.i,.i,.i,.own 0,.own 1,.bool,.str,.str,.bool,.own 2,.own 3,.own 4,.i,.i],.i] [.arr tRange,.arr tWrite,.arr tVersion,.dep tTxn 0,.dep tTxn 0] args st (fun p q=>wd1 p.1.1 p.1.2.1 p.1.2.2.1 p.1.2.2.2.1 p.1.2.2.2.2.1 p.1.2.2.2.2.2.2.2.1 p.1.2.2.2.2.2.2.2.2.1 p.1.2.2.2.2.2.2.2.2.2.1 p.1.2.2.2.2.2.2.2.2.2.2.1 p.1.2.2.2.2.2.2.2.2.2.2.2.2.2.2.1 p.1.2.2.2.2.2.2.2.2.2.2.2.2.2.2.2.1 p.2.1 q.1 q.2.1 q.2.2.1 q.2.2.2.1 q.2.2.2.2.1 (fun(y:q76T)=>k (.i y.1) [.arr tRange y.2.1,.arr tWrite y.2.2.1,.arr tVersion y.2.2.2.1,.dep tTxn y.2.2.2.2.1 0 [],.dep tTxn y.2.2.2.2.2 0 []]))
 (none)
def w58 (args:List AV)(st:St)(k:K1):OR:=
 vag [.lst tVersion,.i] [] args st (fun p q=>v6h p.1 p.2.1 (fun(y:Int)=>k (.i y) []))
 (none)
def w5i (args:List AV)(st:St)(k:K1):OR:=
 vag [.lst tRange,.i] [] args st (fun p q=>v2k p.1 p.2.1 (fun(y:Int)=>k (.i y) []))
 (none)
def w4c (args:List AV)(st:St)(k:K1):OR:=
 vag [.lst tWrite,.i] [] args st (fun p q=>v2s p.1 p.2.1 (fun(y:Int)=>k (.i y) []))
 (none)
def w5y (args:List AV)(st:St)(k:K1):OR:=
 vag [.lst tTxn,.i] [] args st (fun p q=>v04 p.1 p.2.1 (fun(y:Int)=>k (.i y) []))
 (none)
def w30 (args:List AV)(st:St)(k:K1):OR:=
 vag [.agg [.lst tVersion,.lst tTxn,.lst tTxn,.i,.i],.i] [] args st (fun p q=>v1z (p.1.1,(p.1.2.1,(p.1.2.2.1,(p.1.2.2.2.1,p.1.2.2.2.2.1)))) p.2.1 (fun(y:Int)=>k (.i y) []))
 (none)
def wyp (args:List AV)(st:St)(k:K1):OR:=
 vag [.agg [.lst tVersion,.lst tTxn,.lst tTxn,.i,.i],.agg [.i,.i,.i,.i,.i,.lst tRange,.lst tWrite,.bool,.str,.str,.bool,.lst tVersion,.lst tTxn,.lst tTxn,.i,.i]] [] args st (fun p q=>wlv (p.1.1,(p.1.2.1,(p.1.2.2.1,(p.1.2.2.2.1,p.1.2.2.2.2.1)))) (p.2.1.1,((p.2.1.2.1,(p.2.1.2.2.1,(p.2.1.2.2.2.1,(p.2.1.2.2.2.2.1,(p.2.1.2.2.2.2.2.1,(p.2.1.2.2.2.2.2.2.1,(p.2.1.2.2.2.2.2.2.2.1,p.2.1.2.2.2.2.2.2.2.2.1))))))),(p.2.1.2.2.2.2.2.2.2.2.2.1,(p.2.1.2.2.2.2.2.2.2.2.2.2.1,(p.2.1.2.2.2.2.2.2.2.2.2.2.2.1,(p.2.1.2.2.2.2.2.2.2.2.2.2.2.2.1,(p.2.1.2.2.2.2.2.2.2.2.2.2.2.2.2.1,(p.2.1.2.2.2.2.2.2.2.2.2.2.2.2.2.2.1,p.2.1.2.2.2.2.2.2.2.2.2.2.2.2.2.2.2.1)))))))) (fun(y:Bool)=>k (.bool y) []))
 (none)
end
end Go.VE
