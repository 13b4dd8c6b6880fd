/- Native programs of the functions, written by gen.py. -/
import Derived.Test.YteolgjmeigifbaaGreatReadRecordN1
namespace Go.VE
noncomputable section
set_option linter.unusedVariables false
set_option linter.unusedSimpArgs false
set_option maxRecDepth 100000
def vnp (x:q17T)(k:q17T⊕(q17T⊕q17T)→Option Res):Option Res:=
 bif (decide (x.2.2.2<(x.1.length:Int)))then
 if 0≤x.2.2.2∧x.2.2.2<(x.1.length:Int)then
 if 0≤x.2.2.2∧x.2.2.2<(x.2.1.length:Int)then
 v4b (rd (Ty.zero tWrite) x.1 x.2.2.2) (rd (Ty.zero tWrite) x.2.1 x.2.2.2) (fun y3=>
 bif (!y3)then
 k (.inr (.inl (x.1,x.2.1,false,x.2.2.2)))
 else
 k (.inl (x.1,x.2.1,x.2.2.1,(IntKind.wrap .i64 (x.2.2.2+1)))))
 else none
 else none
 else
 k (.inr (.inr (x.1,x.2.1,x.2.2.1,x.2.2.2)))
instance n67n_bp0 (x:q17T):ParC (vnp x):=by unfold vnp;(try dsimp only);infer_instance
def wgv (a0:(List vag))(a1:(List vag))(k:Bool→Option Res):Option Res:=
 bif ((a0.length:Int) != (a1.length:Int))then
 k false
 else
 vae vnp Fuel (a0,a1,false,0) (Sum.elim (fun z1=>
 k z1.2.2.1) (fun _=>
 k true))
def v24:=shut wgv
theorem wqe:v24=wgv:=vaj _
instance n67n_p (a0:(List vag))(a1:(List vag)):ParC (v24 a0 a1):=by rw [wqe];unfold wgv;(try dsimp only);infer_instance
def wh2 (a0:dTxn)(a1:dTxn)(k:Bool→Option Res):Option Res:=
 bif (a0.1 != a1.1)then
 k false
 else
 bif (a0.2.1 != a1.2.1)then
 k false
 else
 bif (a0.2.2.1 != a1.2.2.1)then
 k false
 else
 bif (a0.2.2.2.1 != a1.2.2.2.1)then
 k false
 else
 v36 a0.2.2.2.2.1 a1.2.2.2.2.1 (fun y1=>
 bif (!y1)then
 k false
 else
 v24 a0.2.2.2.2.2.1 a1.2.2.2.2.2.1 (fun y2=>
 bif (!y2)then
 k false
 else
 bif (!(a0.2.2.2.2.2.2.1==a1.2.2.2.2.2.2.1))then
 k false
 else
 bif (!(vap a0.2.2.2.2.2.2.2 a1.2.2.2.2.2.2.2))then
 k false
 else
 k true))
def vv6:=shut wh2
theorem wnb:vv6=wh2:=vaj _
instance n62n_p (a0:dTxn)(a1:dTxn):ParC (vv6 a0 a1):=by rw [wnb];unfold wh2;(try dsimp only);infer_instance
def wgw (a0:vaa)(a1:vaa)(k:Bool→Option Res):Option Res:=
 bif (!(vap a0.1 a1.1))then
 k false
 else
 bif (!(vap a0.2.1 a1.2.1))then
 k false
 else
 bif (!(a0.2.2.1==a1.2.2.1))then
 k false
 else
 bif (a0.2.2.2 != a1.2.2.2)then
 k false
 else
 k true
def v4z:=shut wgw
theorem wml:v4z=wgw:=vaj _
instance n64n_p (a0:vaa)(a1:vaa):ParC (v4z a0 a1):=by rw [wml];unfold wgw;(try dsimp only);infer_instance
def vo9 (x:q12T)(k:q12T⊕(q12T⊕q12T)→Option Res):Option Res:=
 bif (decide (x.2.2.2<(x.1.length:Int)))then
 if 0≤x.2.2.2∧x.2.2.2<(x.1.length:Int)then
 if 0≤x.2.2.2∧x.2.2.2<(x.2.1.length:Int)then
 v4z (rd (Ty.zero tVersion) x.1 x.2.2.2) (rd (Ty.zero tVersion) x.2.1 x.2.2.2) (fun y3=>
 bif (!y3)then
 k (.inr (.inl (x.1,x.2.1,false,x.2.2.2)))
 else
 k (.inl (x.1,x.2.1,x.2.2.1,(IntKind.wrap .i64 (x.2.2.2+1)))))
 else none
 else none
 else
 k (.inr (.inr (x.1,x.2.1,x.2.2.1,x.2.2.2)))
instance n65n_bp0 (x:q12T):ParC (vo9 x):=by unfold vo9;(try dsimp only);infer_instance
def whd (a0:(List vaa))(a1:(List vaa))(k:Bool→Option Res):Option Res:=
 bif ((a0.length:Int) != (a1.length:Int))then
 k false
 else
 vae vo9 Fuel (a0,a1,false,0) (Sum.elim (fun z1=>
 k z1.2.2.1) (fun _=>
 k true))
def v3n:=shut whd
theorem wlv:v3n=whd:=vaj _
instance n65n_p (a0:(List vaa))(a1:(List vaa)):ParC (v3n a0 a1):=by rw [wlv];unfold whd;(try dsimp only);infer_instance
def voi (x:q7T)(k:q7T⊕(q7T⊕q7T)→Option Res):Option Res:=
 bif (decide (x.2.2.2<(x.1.length:Int)))then
 if 0≤x.2.2.2∧x.2.2.2<(x.1.length:Int)then
 if 0≤x.2.2.2∧x.2.2.2<(x.2.1.length:Int)then
 vv6 (rd (Ty.zero tTxn) x.1 x.2.2.2) (rd (Ty.zero tTxn) x.2.1 x.2.2.2) (fun y3=>
 bif (!y3)then
 k (.inr (.inl (x.1,x.2.1,false,x.2.2.2)))
 else
 k (.inl (x.1,x.2.1,x.2.2.1,(IntKind.wrap .i64 (x.2.2.2+1)))))
 else none
 else none
 else
 k (.inr (.inr (x.1,x.2.1,x.2.2.1,x.2.2.2)))
instance n63n_bp0 (x:q7T):ParC (voi x):=by unfold voi;(try dsimp only);infer_instance
def wge (a0:(List dTxn))(a1:(List dTxn))(k:Bool→Option Res):Option Res:=
 bif ((a0.length:Int) != (a1.length:Int))then
 k false
 else
 vae voi Fuel (a0,a1,false,0) (Sum.elim (fun z1=>
 k z1.2.2.1) (fun _=>
 k true))
def v0e:=shut wge
theorem wpo:v0e=wge:=vaj _
instance n63n_p (a0:(List dTxn))(a1:(List dTxn)):ParC (v0e a0 a1):=by rw [wpo];unfold wge;(try dsimp only);infer_instance
def wf0 (a0:vfd)(a1:vfd)(k:Bool→Option Res):Option Res:=
 v3n a0.1 a1.1 (fun y1=>
 bif (!y1)then
 k false
 else
 v0e a0.2.1 a1.2.1 (fun y2=>
 bif (!y2)then
 k false
 else
 v0e a0.2.2.1 a1.2.2.1 (fun y3=>
 bif (!y3)then
 k false
 else
 bif (a0.2.2.2.1 != a1.2.2.2.1)then
 k false
 else
 bif (a0.2.2.2.2 != a1.2.2.2.2)then
 k false
 else
 k true)))
def v4s:=shut wf0
theorem wqk:v4s=wf0:=vaj _
instance n58n_p (a0:vfd)(a1:vfd):ParC (v4s a0 a1):=by rw [wqk];unfold wf0;(try dsimp only);infer_instance
def wic (a0:vcd)(a1:vcd)(k:Bool→Option Res):Option Res:=
 bif (a0.1 != a1.1)then
 k false
 else
 vv6 a0.2.1 a1.2.1 (fun y1=>
 bif (!y1)then
 k false
 else
 bif (!(vap a0.2.2.1 a1.2.2.1))then
 k false
 else
 bif (!(a0.2.2.2.1==a1.2.2.2.1))then
 k false
 else
 v4s a0.2.2.2.2 a1.2.2.2.2 (fun y2=>
 bif (!y2)then
 k false
 else
 k true))
def vp3:=shut wic
theorem wqo:vp3=wic:=vaj _
instance n61n_p (a0:vcd)(a1:vcd):ParC (vp3 a0 a1):=by rw [wqo];unfold wic;(try dsimp only);infer_instance
def vsa (x:(Int×ByteArray))(k:(Int×ByteArray)⊕(Int×ByteArray)→Option Res):Option Res:=
 bif (decide (x.1>0))then
 if(van [(IntKind.wrap .u8 (IntKind.wrap .i64 ((48:Int)+(x.1.tmod (10:Int)))))]).size+x.2.size≤1099511627776 then
 k (.inl ((IntKind.wrap .i64 (x.1.tdiv (10:Int))),((van [(IntKind.wrap .u8 (IntKind.wrap .i64 ((48:Int)+(x.1.tmod (10:Int)))))])++x.2)))
 else none
 else
 k (.inr (x.1,x.2))
instance n78n_bp0 (x:(Int×ByteArray)):ParC (vsa x):=by unfold vsa;(try dsimp only);infer_instance
def wix (a0:Int)(k:ByteArray→Option Res):Option Res:=
 bif (decide (a0≤0))then
 k (⟨#[109,48]⟩:ByteArray)
 else
 vae vsa Fuel (a0,(⟨#[]⟩:ByteArray)) (fun z1=>
 if(⟨#[109]⟩:ByteArray).size+z1.2.size≤1099511627776 then
 k ((⟨#[109]⟩:ByteArray)++z1.2)
 else none)
def vc8:=shut wix
theorem wrd:vc8=wix:=vaj _
instance n78n_p (a0:Int):ParC (vc8 a0):=by rw [wrd];unfold wix;(try dsimp only);infer_instance
def vr1 (x:(Int×Int×(List vai)))(k:(Int×Int×(List vai))⊕(Int×Int×(List vai))→Option Res):Option Res:=
 bif (decide (x.2.1<(x.2.2.length:Int)))then
 vc8 x.1 (fun y2=>
 if 0≤x.2.1∧x.2.1<(x.2.2.length:Int)then
 vc8 (IntKind.wrap .i64 (x.1+1)) (fun y3=>
 if 0≤x.2.1∧x.2.1<((x.2.2.set x.2.1.toNat (y2,(x.2.2.getD x.2.1.toNat (Ty.zero tRange)).2)).length:Int)then
 k (.inl ((IntKind.wrap .i64 ((IntKind.wrap .i64 (x.1+1))+1)),(IntKind.wrap .i64 (x.2.1+1)),((x.2.2.set x.2.1.toNat (y2,(x.2.2.getD x.2.1.toNat (Ty.zero tRange)).2)).set x.2.1.toNat (((x.2.2.set x.2.1.toNat (y2,(x.2.2.getD x.2.1.toNat (Ty.zero tRange)).2)).getD x.2.1.toNat (Ty.zero tRange)).1,y3))))
 else none)
 else none)
 else
 k (.inr (x.1,x.2.1,x.2.2))
instance n76n_bp0 (x:(Int×Int×(List vai))):ParC (vr1 x):=by unfold vr1;(try dsimp only);infer_instance
def v8y (a0:Int)(a1:(List vai))(k:(Int×(List vai))→Option Res):Option Res:=
 vae vr1 Fuel (a0,0,a1) (fun z1=>
 k (z1.1,z1.2.2))
def vzj:=shut v8y
theorem wf7:vzj=v8y:=vaj _
instance n76n_p (a0:Int)(a1:(List vai)):ParC (vzj a0 a1):=by rw [wf7];unfold v8y;(try dsimp only);infer_instance
def vsg (x:(Int×Int×(List vag)))(k:(Int×Int×(List vag))⊕(Int×Int×(List vag))→Option Res):Option Res:=
 let t0:=(x.2.2.getD x.2.1.toNat (Ty.zero tWrite))
 bif (decide (x.2.1<(x.2.2.length:Int)))then
 vc8 x.1 (fun y2=>
 if 0≤x.2.1∧x.2.1<(x.2.2.length:Int)then
 vc8 (IntKind.wrap .i64 (x.1+1)) (fun y3=>
 if 0≤x.2.1∧x.2.1<((x.2.2.set x.2.1.toNat (y2,t0.2)).length:Int)then
 if 0≤x.2.1∧x.2.1<(((x.2.2.set x.2.1.toNat (y2,t0.2)).set x.2.1.toNat (((x.2.2.set x.2.1.toNat (y2,t0.2)).getD x.2.1.toNat (Ty.zero tWrite)).1,(y3,((x.2.2.set x.2.1.toNat (y2,t0.2)).getD x.2.1.toNat (Ty.zero tWrite)).2.2))).length:Int)then
 k (.inl ((IntKind.wrap .i64 ((IntKind.wrap .i64 ((IntKind.wrap .i64 (x.1+1))+1))+1)),(IntKind.wrap .i64 (x.2.1+1)),(((x.2.2.set x.2.1.toNat (y2,t0.2)).set x.2.1.toNat (((x.2.2.set x.2.1.toNat (y2,t0.2)).getD x.2.1.toNat (Ty.zero tWrite)).1,(y3,((x.2.2.set x.2.1.toNat (y2,t0.2)).getD x.2.1.toNat (Ty.zero tWrite)).2.2))).set x.2.1.toNat ((((x.2.2.set x.2.1.toNat (y2,t0.2)).set x.2.1.toNat (((x.2.2.set x.2.1.toNat (y2,t0.2)).getD x.2.1.toNat (Ty.zero tWrite)).1,(y3,((x.2.2.set x.2.1.toNat (y2,t0.2)).getD x.2.1.toNat (Ty.zero tWrite)).2.2))).getD x.2.1.toNat (Ty.zero tWrite)).1,((((x.2.2.set x.2.1.toNat (y2,t0.2)).set x.2.1.toNat (((x.2.2.set x.2.1.toNat (y2,t0.2)).getD x.2.1.toNat (Ty.zero tWrite)).1,(y3,((x.2.2.set x.2.1.toNat (y2,t0.2)).getD x.2.1.toNat (Ty.zero tWrite)).2.2))).getD x.2.1.toNat (Ty.zero tWrite)).2.1,(((IntKind.wrap .i64 ((IntKind.wrap .i64 (x.1+1))+1)).tmod (3:Int))==(0:Int)))))))
 else none
 else none)
 else none)
 else
 k (.inr (x.1,x.2.1,x.2.2))
instance n82n_bp0 (x:(Int×Int×(List vag))):ParC (vsg x):=by unfold vsg;(try dsimp only);infer_instance
def v9d (a0:Int)(a1:(List vag))(k:(Int×(List vag))→Option Res):Option Res:=
 vae vsg Fuel (a0,0,a1) (fun z1=>
 k (z1.1,z1.2.2))
def vyb:=shut v9d
theorem wig:vyb=v9d:=vaj _
instance n82n_p (a0:Int)(a1:(List vag)):ParC (vyb a0 a1):=by rw [wig];unfold v9d;(try dsimp only);infer_instance
def wfp (a0:Int)(a1:Int)(a2:Int)(a3:Int)(a4:Bool)(a5:ByteArray)(a6:Int)(a7:(List vai))(a8:(List vag))(k:q56T→Option Res):Option Res:=
 vzj a6 a7 (fun y1=>
 vyb y1.1 a8 (fun y2=>
 k (y2.1,y1.2,y2.2)))
def wa2:=shut wfp
theorem wq6:wa2=wfp:=vaj _
instance n80n_p (a0:Int)(a1:Int)(a2:Int)(a3:Int)(a4:Bool)(a5:ByteArray)(a6:Int)(a7:(List vai))(a8:(List vag)):ParC (wa2 a0 a1 a2 a3 a4 a5 a6 a7 a8):=by rw [wq6];unfold wfp;(try dsimp only);infer_instance
def vnv (x:(Int×Int×(List vaa)))(k:(Int×Int×(List vaa))⊕(Int×Int×(List vaa))→Option Res):Option Res:=
 let t0:=(x.2.2.getD x.2.1.toNat (Ty.zero tVersion))
 let t1:=(IntKind.wrap .i64 ((IntKind.wrap .i64 (x.1+(1:Int)))+(1:Int)))
 let t2:=((t1.tmod (3:Int))==(0:Int))
 bif (decide (x.2.1<(x.2.2.length:Int)))then
 vc8 x.1 (fun y2=>
 if 0≤x.2.1∧x.2.1<(x.2.2.length:Int)then
 vc8 (IntKind.wrap .i64 (x.1+1)) (fun y3=>
 if 0≤x.2.1∧x.2.1<((x.2.2.set x.2.1.toNat (y2,t0.2)).length:Int)then
 if 0≤x.2.1∧x.2.1<(((x.2.2.set x.2.1.toNat (y2,t0.2)).set x.2.1.toNat (((x.2.2.set x.2.1.toNat (y2,t0.2)).getD x.2.1.toNat (Ty.zero tVersion)).1,(y3,((x.2.2.set x.2.1.toNat (y2,t0.2)).getD x.2.1.toNat (Ty.zero tVersion)).2.2))).length:Int)then
 if 0≤x.2.1∧x.2.1<((((x.2.2.set x.2.1.toNat (y2,t0.2)).set x.2.1.toNat (((x.2.2.set x.2.1.toNat (y2,t0.2)).getD x.2.1.toNat (Ty.zero tVersion)).1,(y3,((x.2.2.set x.2.1.toNat (y2,t0.2)).getD x.2.1.toNat (Ty.zero tVersion)).2.2))).set x.2.1.toNat ((((x.2.2.set x.2.1.toNat (y2,t0.2)).set x.2.1.toNat (((x.2.2.set x.2.1.toNat (y2,t0.2)).getD x.2.1.toNat (Ty.zero tVersion)).1,(y3,((x.2.2.set x.2.1.toNat (y2,t0.2)).getD x.2.1.toNat (Ty.zero tVersion)).2.2))).getD x.2.1.toNat (Ty.zero tVersion)).1,((((x.2.2.set x.2.1.toNat (y2,t0.2)).set x.2.1.toNat (((x.2.2.set x.2.1.toNat (y2,t0.2)).getD x.2.1.toNat (Ty.zero tVersion)).1,(y3,((x.2.2.set x.2.1.toNat (y2,t0.2)).getD x.2.1.toNat (Ty.zero tVersion)).2.2))).getD x.2.1.toNat (Ty.zero tVersion)).2.1,(t2,(((x.2.2.set x.2.1.toNat (y2,t0.2)).set x.2.1.toNat (((x.2.2.set x.2.1.toNat (y2,t0.2)).getD x.2.1.toNat (Ty.zero tVersion)).1,(y3,((x.2.2.set x.2.1.toNat (y2,t0.2)).getD x.2.1.toNat (Ty.zero tVersion)).2.2))).getD x.2.1.toNat (Ty.zero tVersion)).2.2.2)))).length:Int)then
 k (.inl ((IntKind.wrap .i64 ((IntKind.wrap .i64 (t1+1))+1)),(IntKind.wrap .i64 (x.2.1+1)),((((x.2.2.set x.2.1.toNat (y2,t0.2)).set x.2.1.toNat (((x.2.2.set x.2.1.toNat (y2,t0.2)).getD x.2.1.toNat (Ty.zero tVersion)).1,(y3,((x.2.2.set x.2.1.toNat (y2,t0.2)).getD x.2.1.toNat (Ty.zero tVersion)).2.2))).set x.2.1.toNat ((((x.2.2.set x.2.1.toNat (y2,t0.2)).set x.2.1.toNat (((x.2.2.set x.2.1.toNat (y2,t0.2)).getD x.2.1.toNat (Ty.zero tVersion)).1,(y3,((x.2.2.set x.2.1.toNat (y2,t0.2)).getD x.2.1.toNat (Ty.zero tVersion)).2.2))).getD x.2.1.toNat (Ty.zero tVersion)).1,((((x.2.2.set x.2.1.toNat (y2,t0.2)).set x.2.1.toNat (((x.2.2.set x.2.1.toNat (y2,t0.2)).getD x.2.1.toNat (Ty.zero tVersion)).1,(y3,((x.2.2.set x.2.1.toNat (y2,t0.2)).getD x.2.1.toNat (Ty.zero tVersion)).2.2))).getD x.2.1.toNat (Ty.zero tVersion)).2.1,(t2,(((x.2.2.set x.2.1.toNat (y2,t0.2)).set x.2.1.toNat (((x.2.2.set x.2.1.toNat (y2,t0.2)).getD x.2.1.toNat (Ty.zero tVersion)).1,(y3,((x.2.2.set x.2.1.toNat (y2,t0.2)).getD x.2.1.toNat (Ty.zero tVersion)).2.2))).getD x.2.1.toNat (Ty.zero tVersion)).2.2.2)))).set x.2.1.toNat (((((x.2.2.set x.2.1.toNat (y2,t0.2)).set x.2.1.toNat (((x.2.2.set x.2.1.toNat (y2,t0.2)).getD x.2.1.toNat (Ty.zero tVersion)).1,(y3,((x.2.2.set x.2.1.toNat (y2,t0.2)).getD x.2.1.toNat (Ty.zero tVersion)).2.2))).set x.2.1.toNat ((((x.2.2.set x.2.1.toNat (y2,t0.2)).set x.2.1.toNat (((x.2.2.set x.2.1.toNat (y2,t0.2)).getD x.2.1.toNat (Ty.zero tVersion)).1,(y3,((x.2.2.set x.2.1.toNat (y2,t0.2)).getD x.2.1.toNat (Ty.zero tVersion)).2.2))).getD x.2.1.toNat (Ty.zero tVersion)).1,((((x.2.2.set x.2.1.toNat (y2,t0.2)).set x.2.1.toNat (((x.2.2.set x.2.1.toNat (y2,t0.2)).getD x.2.1.toNat (Ty.zero tVersion)).1,(y3,((x.2.2.set x.2.1.toNat (y2,t0.2)).getD x.2.1.toNat (Ty.zero tVersion)).2.2))).getD x.2.1.toNat (Ty.zero tVersion)).2.1,(t2,(((x.2.2.set x.2.1.toNat (y2,t0.2)).set x.2.1.toNat (((x.2.2.set x.2.1.toNat (y2,t0.2)).getD x.2.1.toNat (Ty.zero tVersion)).1,(y3,((x.2.2.set x.2.1.toNat (y2,t0.2)).getD x.2.1.toNat (Ty.zero tVersion)).2.2))).getD x.2.1.toNat (Ty.zero tVersion)).2.2.2)))).getD x.2.1.toNat (Ty.zero tVersion)).1,(((((x.2.2.set x.2.1.toNat (y2,t0.2)).set x.2.1.toNat (((x.2.2.set x.2.1.toNat (y2,t0.2)).getD x.2.1.toNat (Ty.zero tVersion)).1,(y3,((x.2.2.set x.2.1.toNat (y2,t0.2)).getD x.2.1.toNat (Ty.zero tVersion)).2.2))).set x.2.1.toNat ((((x.2.2.set x.2.1.toNat (y2,t0.2)).set x.2.1.toNat (((x.2.2.set x.2.1.toNat (y2,t0.2)).getD x.2.1.toNat (Ty.zero tVersion)).1,(y3,((x.2.2.set x.2.1.toNat (y2,t0.2)).getD x.2.1.toNat (Ty.zero tVersion)).2.2))).getD x.2.1.toNat (Ty.zero tVersion)).1,((((x.2.2.set x.2.1.toNat (y2,t0.2)).set x.2.1.toNat (((x.2.2.set x.2.1.toNat (y2,t0.2)).getD x.2.1.toNat (Ty.zero tVersion)).1,(y3,((x.2.2.set x.2.1.toNat (y2,t0.2)).getD x.2.1.toNat (Ty.zero tVersion)).2.2))).getD x.2.1.toNat (Ty.zero tVersion)).2.1,(t2,(((x.2.2.set x.2.1.toNat (y2,t0.2)).set x.2.1.toNat (((x.2.2.set x.2.1.toNat (y2,t0.2)).getD x.2.1.toNat (Ty.zero tVersion)).1,(y3,((x.2.2.set x.2.1.toNat (y2,t0.2)).getD x.2.1.toNat (Ty.zero tVersion)).2.2))).getD x.2.1.toNat (Ty.zero tVersion)).2.2.2)))).getD x.2.1.toNat (Ty.zero tVersion)).2.1,(((((x.2.2.set x.2.1.toNat (y2,t0.2)).set x.2.1.toNat (((x.2.2.set x.2.1.toNat (y2,t0.2)).getD x.2.1.toNat (Ty.zero tVersion)).1,(y3,((x.2.2.set x.2.1.toNat (y2,t0.2)).getD x.2.1.toNat (Ty.zero tVersion)).2.2))).set x.2.1.toNat ((((x.2.2.set x.2.1.toNat (y2,t0.2)).set x.2.1.toNat (((x.2.2.set x.2.1.toNat (y2,t0.2)).getD x.2.1.toNat (Ty.zero tVersion)).1,(y3,((x.2.2.set x.2.1.toNat (y2,t0.2)).getD x.2.1.toNat (Ty.zero tVersion)).2.2))).getD x.2.1.toNat (Ty.zero tVersion)).1,((((x.2.2.set x.2.1.toNat (y2,t0.2)).set x.2.1.toNat (((x.2.2.set x.2.1.toNat (y2,t0.2)).getD x.2.1.toNat (Ty.zero tVersion)).1,(y3,((x.2.2.set x.2.1.toNat (y2,t0.2)).getD x.2.1.toNat (Ty.zero tVersion)).2.2))).getD x.2.1.toNat (Ty.zero tVersion)).2.1,(t2,(((x.2.2.set x.2.1.toNat (y2,t0.2)).set x.2.1.toNat (((x.2.2.set x.2.1.toNat (y2,t0.2)).getD x.2.1.toNat (Ty.zero tVersion)).1,(y3,((x.2.2.set x.2.1.toNat (y2,t0.2)).getD x.2.1.toNat (Ty.zero tVersion)).2.2))).getD x.2.1.toNat (Ty.zero tVersion)).2.2.2)))).getD x.2.1.toNat (Ty.zero tVersion)).2.2.1,(IntKind.wrap .i64 (t1+1))))))))
 else none
 else none
 else none)
 else none)
 else
 k (.inr (x.1,x.2.1,x.2.2))
instance n81n_bp0 (x:(Int×Int×(List vaa))):ParC (vnv x):=by unfold vnv;(try dsimp only);infer_instance
def wh7 (a0:Int)(a1:(List vaa))(k:(Int×(List vaa))→Option Res):Option Res:=
 vae vnv Fuel (a0,0,a1) (fun z1=>
 k (z1.1,z1.2.2))
def v8p:=shut wh7
theorem wof:v8p=wh7:=vaj _
instance n81n_p (a0:Int)(a1:(List vaa)):ParC (v8p a0 a1):=by rw [wof];unfold wh7;(try dsimp only);infer_instance
def vfl (x:(Int×Int×(List dTxn)))(k:(Int×Int×(List dTxn))→Option Res):Option Res:=
 k (x.1,(IntKind.wrap .i64 (x.2.1+1)),x.2.2)
instance n79n_jp5000003 (x:(Int×Int×(List dTxn))):ParC (vfl x):=by unfold vfl;(try dsimp only);infer_instance
def vft (x:(Int×Int×(List dTxn)))(k:(Int×Int×(List dTxn))→Option Res):Option Res:=
 k ((IntKind.wrap .i64 (x.1+1)),x.2.1,x.2.2)
instance n79n_jp5000017 (x:(Int×Int×(List dTxn))):ParC (vft x):=by unfold vft;(try dsimp only);infer_instance
def vfg (x:(Int×Int×(List dTxn)))(k:(Int×Int×(List dTxn))→Option Res):Option Res:=
 vc8 (IntKind.wrap .i64 (x.1+1)) (fun y10=>
 if 0≤x.2.1∧x.2.1<(x.2.2.length:Int)then
 vft ((IntKind.wrap .i64 (x.1+1)),x.2.1,(x.2.2.set x.2.1.toNat ((x.2.2.getD x.2.1.toNat (Ty.zero tTxn)).1,((x.2.2.getD x.2.1.toNat (Ty.zero tTxn)).2.1,((x.2.2.getD x.2.1.toNat (Ty.zero tTxn)).2.2.1,((x.2.2.getD x.2.1.toNat (Ty.zero tTxn)).2.2.2.1,((x.2.2.getD x.2.1.toNat (Ty.zero tTxn)).2.2.2.2.1,((x.2.2.getD x.2.1.toNat (Ty.zero tTxn)).2.2.2.2.2.1,((x.2.2.getD x.2.1.toNat (Ty.zero tTxn)).2.2.2.2.2.2.1,y10))))))))) (fun z11=>
 k (z11.1,z11.2.1,z11.2.2))
 else none)
instance n79n_jp5000015 (x:(Int×Int×(List dTxn))):ParC (vfg x):=by unfold vfg;(try dsimp only);infer_instance
def vfz (x:(Int×Int×(List dTxn)))(k:(Int×Int×(List dTxn))→Option Res):Option Res:=
 let t0:=(x.2.2.getD x.2.1.toNat (Ty.zero tTxn))
 if 0≤x.2.1∧x.2.1<(x.2.2.length:Int)then
 vzj (IntKind.wrap .i64 (x.1+1)) (t0.2.2.2.2.1) (fun y7=>
 if 0≤x.2.1∧x.2.1<((x.2.2.set x.2.1.toNat (t0.1,(t0.2.1,(t0.2.2.1,(t0.2.2.2.1,(y7.2,t0.2.2.2.2.2)))))).length:Int)then
 vyb y7.1 (((x.2.2.set x.2.1.toNat (t0.1,(t0.2.1,(t0.2.2.1,(t0.2.2.2.1,(y7.2,t0.2.2.2.2.2)))))).getD x.2.1.toNat (Ty.zero tTxn)).2.2.2.2.2.1) (fun y8=>
 if 0≤x.2.1∧x.2.1<(((x.2.2.set x.2.1.toNat (t0.1,(t0.2.1,(t0.2.2.1,(t0.2.2.2.1,(y7.2,t0.2.2.2.2.2)))))).set x.2.1.toNat (((x.2.2.set x.2.1.toNat (t0.1,(t0.2.1,(t0.2.2.1,(t0.2.2.2.1,(y7.2,t0.2.2.2.2.2)))))).getD x.2.1.toNat (Ty.zero tTxn)).1,(((x.2.2.set x.2.1.toNat (t0.1,(t0.2.1,(t0.2.2.1,(t0.2.2.2.1,(y7.2,t0.2.2.2.2.2)))))).getD x.2.1.toNat (Ty.zero tTxn)).2.1,(((x.2.2.set x.2.1.toNat (t0.1,(t0.2.1,(t0.2.2.1,(t0.2.2.2.1,(y7.2,t0.2.2.2.2.2)))))).getD x.2.1.toNat (Ty.zero tTxn)).2.2.1,(((x.2.2.set x.2.1.toNat (t0.1,(t0.2.1,(t0.2.2.1,(t0.2.2.2.1,(y7.2,t0.2.2.2.2.2)))))).getD x.2.1.toNat (Ty.zero tTxn)).2.2.2.1,(((x.2.2.set x.2.1.toNat (t0.1,(t0.2.1,(t0.2.2.1,(t0.2.2.2.1,(y7.2,t0.2.2.2.2.2)))))).getD x.2.1.toNat (Ty.zero tTxn)).2.2.2.2.1,(y8.2,((x.2.2.set x.2.1.toNat (t0.1,(t0.2.1,(t0.2.2.1,(t0.2.2.2.1,(y7.2,t0.2.2.2.2.2)))))).getD x.2.1.toNat (Ty.zero tTxn)).2.2.2.2.2.2))))))).length:Int)then
 vfg (y8.1,x.2.1,(((x.2.2.set x.2.1.toNat (t0.1,(t0.2.1,(t0.2.2.1,(t0.2.2.2.1,(y7.2,t0.2.2.2.2.2)))))).set x.2.1.toNat (((x.2.2.set x.2.1.toNat (t0.1,(t0.2.1,(t0.2.2.1,(t0.2.2.2.1,(y7.2,t0.2.2.2.2.2)))))).getD x.2.1.toNat (Ty.zero tTxn)).1,(((x.2.2.set x.2.1.toNat (t0.1,(t0.2.1,(t0.2.2.1,(t0.2.2.2.1,(y7.2,t0.2.2.2.2.2)))))).getD x.2.1.toNat (Ty.zero tTxn)).2.1,(((x.2.2.set x.2.1.toNat (t0.1,(t0.2.1,(t0.2.2.1,(t0.2.2.2.1,(y7.2,t0.2.2.2.2.2)))))).getD x.2.1.toNat (Ty.zero tTxn)).2.2.1,(((x.2.2.set x.2.1.toNat (t0.1,(t0.2.1,(t0.2.2.1,(t0.2.2.2.1,(y7.2,t0.2.2.2.2.2)))))).getD x.2.1.toNat (Ty.zero tTxn)).2.2.2.1,(((x.2.2.set x.2.1.toNat (t0.1,(t0.2.1,(t0.2.2.1,(t0.2.2.2.1,(y7.2,t0.2.2.2.2.2)))))).getD x.2.1.toNat (Ty.zero tTxn)).2.2.2.2.1,(y8.2,((x.2.2.set x.2.1.toNat (t0.1,(t0.2.1,(t0.2.2.1,(t0.2.2.2.1,(y7.2,t0.2.2.2.2.2)))))).getD x.2.1.toNat (Ty.zero tTxn)).2.2.2.2.2.2))))))).set x.2.1.toNat ((((x.2.2.set x.2.1.toNat (t0.1,(t0.2.1,(t0.2.2.1,(t0.2.2.2.1,(y7.2,t0.2.2.2.2.2)))))).set x.2.1.toNat (((x.2.2.set x.2.1.toNat (t0.1,(t0.2.1,(t0.2.2.1,(t0.2.2.2.1,(y7.2,t0.2.2.2.2.2)))))).getD x.2.1.toNat (Ty.zero tTxn)).1,(((x.2.2.set x.2.1.toNat (t0.1,(t0.2.1,(t0.2.2.1,(t0.2.2.2.1,(y7.2,t0.2.2.2.2.2)))))).getD x.2.1.toNat (Ty.zero tTxn)).2.1,(((x.2.2.set x.2.1.toNat (t0.1,(t0.2.1,(t0.2.2.1,(t0.2.2.2.1,(y7.2,t0.2.2.2.2.2)))))).getD x.2.1.toNat (Ty.zero tTxn)).2.2.1,(((x.2.2.set x.2.1.toNat (t0.1,(t0.2.1,(t0.2.2.1,(t0.2.2.2.1,(y7.2,t0.2.2.2.2.2)))))).getD x.2.1.toNat (Ty.zero tTxn)).2.2.2.1,(((x.2.2.set x.2.1.toNat (t0.1,(t0.2.1,(t0.2.2.1,(t0.2.2.2.1,(y7.2,t0.2.2.2.2.2)))))).getD x.2.1.toNat (Ty.zero tTxn)).2.2.2.2.1,(y8.2,((x.2.2.set x.2.1.toNat (t0.1,(t0.2.1,(t0.2.2.1,(t0.2.2.2.1,(y7.2,t0.2.2.2.2.2)))))).getD x.2.1.toNat (Ty.zero tTxn)).2.2.2.2.2.2))))))).getD x.2.1.toNat (Ty.zero tTxn)).1,((((x.2.2.set x.2.1.toNat (t0.1,(t0.2.1,(t0.2.2.1,(t0.2.2.2.1,(y7.2,t0.2.2.2.2.2)))))).set x.2.1.toNat (((x.2.2.set x.2.1.toNat (t0.1,(t0.2.1,(t0.2.2.1,(t0.2.2.2.1,(y7.2,t0.2.2.2.2.2)))))).getD x.2.1.toNat (Ty.zero tTxn)).1,(((x.2.2.set x.2.1.toNat (t0.1,(t0.2.1,(t0.2.2.1,(t0.2.2.2.1,(y7.2,t0.2.2.2.2.2)))))).getD x.2.1.toNat (Ty.zero tTxn)).2.1,(((x.2.2.set x.2.1.toNat (t0.1,(t0.2.1,(t0.2.2.1,(t0.2.2.2.1,(y7.2,t0.2.2.2.2.2)))))).getD x.2.1.toNat (Ty.zero tTxn)).2.2.1,(((x.2.2.set x.2.1.toNat (t0.1,(t0.2.1,(t0.2.2.1,(t0.2.2.2.1,(y7.2,t0.2.2.2.2.2)))))).getD x.2.1.toNat (Ty.zero tTxn)).2.2.2.1,(((x.2.2.set x.2.1.toNat (t0.1,(t0.2.1,(t0.2.2.1,(t0.2.2.2.1,(y7.2,t0.2.2.2.2.2)))))).getD x.2.1.toNat (Ty.zero tTxn)).2.2.2.2.1,(y8.2,((x.2.2.set x.2.1.toNat (t0.1,(t0.2.1,(t0.2.2.1,(t0.2.2.2.1,(y7.2,t0.2.2.2.2.2)))))).getD x.2.1.toNat (Ty.zero tTxn)).2.2.2.2.2.2))))))).getD x.2.1.toNat (Ty.zero tTxn)).2.1,((((x.2.2.set x.2.1.toNat (t0.1,(t0.2.1,(t0.2.2.1,(t0.2.2.2.1,(y7.2,t0.2.2.2.2.2)))))).set x.2.1.toNat (((x.2.2.set x.2.1.toNat (t0.1,(t0.2.1,(t0.2.2.1,(t0.2.2.2.1,(y7.2,t0.2.2.2.2.2)))))).getD x.2.1.toNat (Ty.zero tTxn)).1,(((x.2.2.set x.2.1.toNat (t0.1,(t0.2.1,(t0.2.2.1,(t0.2.2.2.1,(y7.2,t0.2.2.2.2.2)))))).getD x.2.1.toNat (Ty.zero tTxn)).2.1,(((x.2.2.set x.2.1.toNat (t0.1,(t0.2.1,(t0.2.2.1,(t0.2.2.2.1,(y7.2,t0.2.2.2.2.2)))))).getD x.2.1.toNat (Ty.zero tTxn)).2.2.1,(((x.2.2.set x.2.1.toNat (t0.1,(t0.2.1,(t0.2.2.1,(t0.2.2.2.1,(y7.2,t0.2.2.2.2.2)))))).getD x.2.1.toNat (Ty.zero tTxn)).2.2.2.1,(((x.2.2.set x.2.1.toNat (t0.1,(t0.2.1,(t0.2.2.1,(t0.2.2.2.1,(y7.2,t0.2.2.2.2.2)))))).getD x.2.1.toNat (Ty.zero tTxn)).2.2.2.2.1,(y8.2,((x.2.2.set x.2.1.toNat (t0.1,(t0.2.1,(t0.2.2.1,(t0.2.2.2.1,(y7.2,t0.2.2.2.2.2)))))).getD x.2.1.toNat (Ty.zero tTxn)).2.2.2.2.2.2))))))).getD x.2.1.toNat (Ty.zero tTxn)).2.2.1,((((x.2.2.set x.2.1.toNat (t0.1,(t0.2.1,(t0.2.2.1,(t0.2.2.2.1,(y7.2,t0.2.2.2.2.2)))))).set x.2.1.toNat (((x.2.2.set x.2.1.toNat (t0.1,(t0.2.1,(t0.2.2.1,(t0.2.2.2.1,(y7.2,t0.2.2.2.2.2)))))).getD x.2.1.toNat (Ty.zero tTxn)).1,(((x.2.2.set x.2.1.toNat (t0.1,(t0.2.1,(t0.2.2.1,(t0.2.2.2.1,(y7.2,t0.2.2.2.2.2)))))).getD x.2.1.toNat (Ty.zero tTxn)).2.1,(((x.2.2.set x.2.1.toNat (t0.1,(t0.2.1,(t0.2.2.1,(t0.2.2.2.1,(y7.2,t0.2.2.2.2.2)))))).getD x.2.1.toNat (Ty.zero tTxn)).2.2.1,(((x.2.2.set x.2.1.toNat (t0.1,(t0.2.1,(t0.2.2.1,(t0.2.2.2.1,(y7.2,t0.2.2.2.2.2)))))).getD x.2.1.toNat (Ty.zero tTxn)).2.2.2.1,(((x.2.2.set x.2.1.toNat (t0.1,(t0.2.1,(t0.2.2.1,(t0.2.2.2.1,(y7.2,t0.2.2.2.2.2)))))).getD x.2.1.toNat (Ty.zero tTxn)).2.2.2.2.1,(y8.2,((x.2.2.set x.2.1.toNat (t0.1,(t0.2.1,(t0.2.2.1,(t0.2.2.2.1,(y7.2,t0.2.2.2.2.2)))))).getD x.2.1.toNat (Ty.zero tTxn)).2.2.2.2.2.2))))))).getD x.2.1.toNat (Ty.zero tTxn)).2.2.2.1,((((x.2.2.set x.2.1.toNat (t0.1,(t0.2.1,(t0.2.2.1,(t0.2.2.2.1,(y7.2,t0.2.2.2.2.2)))))).set x.2.1.toNat (((x.2.2.set x.2.1.toNat (t0.1,(t0.2.1,(t0.2.2.1,(t0.2.2.2.1,(y7.2,t0.2.2.2.2.2)))))).getD x.2.1.toNat (Ty.zero tTxn)).1,(((x.2.2.set x.2.1.toNat (t0.1,(t0.2.1,(t0.2.2.1,(t0.2.2.2.1,(y7.2,t0.2.2.2.2.2)))))).getD x.2.1.toNat (Ty.zero tTxn)).2.1,(((x.2.2.set x.2.1.toNat (t0.1,(t0.2.1,(t0.2.2.1,(t0.2.2.2.1,(y7.2,t0.2.2.2.2.2)))))).getD x.2.1.toNat (Ty.zero tTxn)).2.2.1,(((x.2.2.set x.2.1.toNat (t0.1,(t0.2.1,(t0.2.2.1,(t0.2.2.2.1,(y7.2,t0.2.2.2.2.2)))))).getD x.2.1.toNat (Ty.zero tTxn)).2.2.2.1,(((x.2.2.set x.2.1.toNat (t0.1,(t0.2.1,(t0.2.2.1,(t0.2.2.2.1,(y7.2,t0.2.2.2.2.2)))))).getD x.2.1.toNat (Ty.zero tTxn)).2.2.2.2.1,(y8.2,((x.2.2.set x.2.1.toNat (t0.1,(t0.2.1,(t0.2.2.1,(t0.2.2.2.1,(y7.2,t0.2.2.2.2.2)))))).getD x.2.1.toNat (Ty.zero tTxn)).2.2.2.2.2.2))))))).getD x.2.1.toNat (Ty.zero tTxn)).2.2.2.2.1,((((x.2.2.set x.2.1.toNat (t0.1,(t0.2.1,(t0.2.2.1,(t0.2.2.2.1,(y7.2,t0.2.2.2.2.2)))))).set x.2.1.toNat (((x.2.2.set x.2.1.toNat (t0.1,(t0.2.1,(t0.2.2.1,(t0.2.2.2.1,(y7.2,t0.2.2.2.2.2)))))).getD x.2.1.toNat (Ty.zero tTxn)).1,(((x.2.2.set x.2.1.toNat (t0.1,(t0.2.1,(t0.2.2.1,(t0.2.2.2.1,(y7.2,t0.2.2.2.2.2)))))).getD x.2.1.toNat (Ty.zero tTxn)).2.1,(((x.2.2.set x.2.1.toNat (t0.1,(t0.2.1,(t0.2.2.1,(t0.2.2.2.1,(y7.2,t0.2.2.2.2.2)))))).getD x.2.1.toNat (Ty.zero tTxn)).2.2.1,(((x.2.2.set x.2.1.toNat (t0.1,(t0.2.1,(t0.2.2.1,(t0.2.2.2.1,(y7.2,t0.2.2.2.2.2)))))).getD x.2.1.toNat (Ty.zero tTxn)).2.2.2.1,(((x.2.2.set x.2.1.toNat (t0.1,(t0.2.1,(t0.2.2.1,(t0.2.2.2.1,(y7.2,t0.2.2.2.2.2)))))).getD x.2.1.toNat (Ty.zero tTxn)).2.2.2.2.1,(y8.2,((x.2.2.set x.2.1.toNat (t0.1,(t0.2.1,(t0.2.2.1,(t0.2.2.2.1,(y7.2,t0.2.2.2.2.2)))))).getD x.2.1.toNat (Ty.zero tTxn)).2.2.2.2.2.2))))))).getD x.2.1.toNat (Ty.zero tTxn)).2.2.2.2.2.1,(((y8.1.tmod (3:Int))==(0:Int)),(((x.2.2.set x.2.1.toNat (t0.1,(t0.2.1,(t0.2.2.1,(t0.2.2.2.1,(y7.2,t0.2.2.2.2.2)))))).set x.2.1.toNat (((x.2.2.set x.2.1.toNat (t0.1,(t0.2.1,(t0.2.2.1,(t0.2.2.2.1,(y7.2,t0.2.2.2.2.2)))))).getD x.2.1.toNat (Ty.zero tTxn)).1,(((x.2.2.set x.2.1.toNat (t0.1,(t0.2.1,(t0.2.2.1,(t0.2.2.2.1,(y7.2,t0.2.2.2.2.2)))))).getD x.2.1.toNat (Ty.zero tTxn)).2.1,(((x.2.2.set x.2.1.toNat (t0.1,(t0.2.1,(t0.2.2.1,(t0.2.2.2.1,(y7.2,t0.2.2.2.2.2)))))).getD x.2.1.toNat (Ty.zero tTxn)).2.2.1,(((x.2.2.set x.2.1.toNat (t0.1,(t0.2.1,(t0.2.2.1,(t0.2.2.2.1,(y7.2,t0.2.2.2.2.2)))))).getD x.2.1.toNat (Ty.zero tTxn)).2.2.2.1,(((x.2.2.set x.2.1.toNat (t0.1,(t0.2.1,(t0.2.2.1,(t0.2.2.2.1,(y7.2,t0.2.2.2.2.2)))))).getD x.2.1.toNat (Ty.zero tTxn)).2.2.2.2.1,(y8.2,((x.2.2.set x.2.1.toNat (t0.1,(t0.2.1,(t0.2.2.1,(t0.2.2.2.1,(y7.2,t0.2.2.2.2.2)))))).getD x.2.1.toNat (Ty.zero tTxn)).2.2.2.2.2.2))))))).getD x.2.1.toNat (Ty.zero tTxn)).2.2.2.2.2.2.2))))))))) (fun z9=>
 k (z9.1,z9.2.1,z9.2.2))
 else none)
 else none)
 else none
instance n79n_jp5000011 (x:(Int×Int×(List dTxn))):ParC (vfz x):=by unfold vfz;(try dsimp only);infer_instance
def vfv (x:(Int×Int×(List dTxn)))(k:(Int×Int×(List dTxn))→Option Res):Option Res:=
 if 0≤x.2.1∧x.2.1<(x.2.2.length:Int)then
 vfz ((IntKind.wrap .i64 (x.1+1)),x.2.1,(x.2.2.set x.2.1.toNat ((x.2.2.getD x.2.1.toNat (Ty.zero tTxn)).1,((x.2.2.getD x.2.1.toNat (Ty.zero tTxn)).2.1,((x.2.2.getD x.2.1.toNat (Ty.zero tTxn)).2.2.1,((IntKind.wrap .i64 (x.1+1)),(x.2.2.getD x.2.1.toNat (Ty.zero tTxn)).2.2.2.2)))))) (fun z6=>
 k (z6.1,z6.2.1,z6.2.2))
 else none
instance n79n_jp5000009 (x:(Int×Int×(List dTxn))):ParC (vfv x):=by unfold vfv;(try dsimp only);infer_instance
def vf3 (x:(Int×Int×(List dTxn)))(k:(Int×Int×(List dTxn))→Option Res):Option Res:=
 if 0≤x.2.1∧x.2.1<(x.2.2.length:Int)then
 vfv ((IntKind.wrap .i64 (x.1+1)),x.2.1,(x.2.2.set x.2.1.toNat ((x.2.2.getD x.2.1.toNat (Ty.zero tTxn)).1,((x.2.2.getD x.2.1.toNat (Ty.zero tTxn)).2.1,((IntKind.wrap .i64 (x.1+1)),(x.2.2.getD x.2.1.toNat (Ty.zero tTxn)).2.2.2))))) (fun z5=>
 k (z5.1,z5.2.1,z5.2.2))
 else none
instance n79n_jp5000007 (x:(Int×Int×(List dTxn))):ParC (vf3 x):=by unfold vf3;(try dsimp only);infer_instance
def vf4 (x:(Int×Int×(List dTxn)))(k:(Int×Int×(List dTxn))→Option Res):Option Res:=
 if 0≤x.2.1∧x.2.1<(x.2.2.length:Int)then
 vf3 ((IntKind.wrap .i64 (x.1+1)),x.2.1,(x.2.2.set x.2.1.toNat ((x.2.2.getD x.2.1.toNat (Ty.zero tTxn)).1,((IntKind.wrap .i64 (x.1+1)),(x.2.2.getD x.2.1.toNat (Ty.zero tTxn)).2.2)))) (fun z4=>
 k (z4.1,z4.2.1,z4.2.2))
 else none
instance n79n_jp5000005 (x:(Int×Int×(List dTxn))):ParC (vf4 x):=by unfold vf4;(try dsimp only);infer_instance
def voz (x:(Int×Int×(List dTxn)))(k:(Int×Int×(List dTxn))⊕(Int×Int×(List dTxn))→Option Res):Option Res:=
 bif (decide (x.2.1<(x.2.2.length:Int)))then
 if 0≤x.2.1∧x.2.1<(x.2.2.length:Int)then
 vf4 (x.1,x.2.1,(x.2.2.set x.2.1.toNat (x.1,(x.2.2.getD x.2.1.toNat (Ty.zero tTxn)).2))) (fun z2=>
 vfl (z2.1,z2.2.1,z2.2.2) (fun z3=>
 k (.inl (z3.1,z3.2.1,z3.2.2))))
 else none
 else
 k (.inr (x.1,x.2.1,x.2.2))
instance n79n_bp0 (x:(Int×Int×(List dTxn))):ParC (voz x):=by unfold voz;(try dsimp only);infer_instance
def wfo (a0:Int)(a1:(List dTxn))(k:(Int×(List dTxn))→Option Res):Option Res:=
 vae voz Fuel (a0,0,a1) (fun z1=>
 k (z1.1,z1.2.2))
def v42:=shut wfo
theorem wnj:v42=wfo:=vaj _
instance n79n_p (a0:Int)(a1:(List dTxn)):ParC (v42 a0 a1):=by rw [wnj];unfold wfo;(try dsimp only);infer_instance
def wft (a0:Int)(a1:Int)(a2:Int)(a3:(List vaa))(a4:(List dTxn))(a5:(List dTxn))(k:q57T→Option Res):Option Res:=
 v8p a2 a3 (fun y1=>
 v42 y1.1 a4 (fun y2=>
 v42 y2.1 a5 (fun y3=>
 k (y3.1,y1.2,y2.2,y3.2))))
def v8o:=shut wft
theorem wpf:v8o=wft:=vaj _
instance n75n_p (a0:Int)(a1:Int)(a2:Int)(a3:(List vaa))(a4:(List dTxn))(a5:(List dTxn)):ParC (v8o a0 a1 a2 a3 a4 a5):=by rw [wpf];unfold wft;(try dsimp only);infer_instance
def wi9 (a0:Int)(a1:Int)(a2:Int)(a3:Int)(a4:Int)(a5:Bool)(a6:ByteArray)(a7:ByteArray)(a8:Bool)(a9:Int)(a10:Int)(a11:Int)(a12:(List vai))(a13:(List vag))(a14:(List vaa))(a15:(List dTxn))(a16:(List dTxn))(k:q55T→Option Res):Option Res:=
 wa2 a1 a2 a3 a4 a5 a6 a11 a12 a13 (fun y1=>
 v8o a9 a10 y1.1 a14 a15 a16 (fun y2=>
 k (y2.1,y1.2.1,y1.2.2,y2.2.1,y2.2.2.1,y2.2.2.2)))
def v48:=shut wi9
theorem wnf:v48=wi9:=vaj _
instance n77n_p (a0:Int)(a1:Int)(a2:Int)(a3:Int)(a4:Int)(a5:Bool)(a6:ByteArray)(a7:ByteArray)(a8:Bool)(a9:Int)(a10:Int)(a11:Int)(a12:(List vai))(a13:(List vag))(a14:(List vaa))(a15:(List dTxn))(a16:(List dTxn)):ParC (v48 a0 a1 a2 a3 a4 a5 a6 a7 a8 a9 a10 a11 a12 a13 a14 a15 a16):=by rw [wnf];unfold wi9;(try dsimp only);infer_instance
def vpk (x:q6T)(k:q6T⊕(q6T⊕q6T)→Option Res):Option Res:=
 bif (decide (x.2.2.2<(x.1.length:Int)))then
 if 0≤x.2.2.2∧x.2.2.2<(x.1.length:Int)then
 vc8 x.2.1 (fun y3=>
 bif (!(vap ((rd (Ty.zero tRange) x.1 x.2.2.2).1) y3))then
 k (.inr (.inl (x.1,x.2.1,(-1:Int),x.2.2.2)))
 else
 if 0≤x.2.2.2∧x.2.2.2<(x.1.length:Int)then
 vc8 (IntKind.wrap .i64 (x.2.1+1)) (fun y4=>
 bif (!(vap ((rd (Ty.zero tRange) x.1 x.2.2.2).2) y4))then
 k (.inr (.inl (x.1,(IntKind.wrap .i64 (x.2.1+1)),(-1:Int),x.2.2.2)))
 else
 k (.inl (x.1,(IntKind.wrap .i64 ((IntKind.wrap .i64 (x.2.1+1))+1)),x.2.2.1,(IntKind.wrap .i64 (x.2.2.2+1)))))
 else none)
 else none
 else
 k (.inr (.inr (x.1,x.2.1,x.2.2.1,x.2.2.2)))
instance n69n_bp0 (x:q6T):ParC (vpk x):=by unfold vpk;(try dsimp only);infer_instance
def wgs (a0:(List vai))(a1:Int)(k:Int→Option Res):Option Res:=
 vae vpk Fuel (a0,a1,0,0) (Sum.elim (fun z1=>
 k z1.2.2.1) (fun z2=>
 k z2.2.1))
def vt4:=shut wgs
theorem wpy:vt4=wgs:=vaj _
instance n69n_p (a0:(List vai))(a1:Int):ParC (vt4 a0 a1):=by rw [wpy];unfold wgs;(try dsimp only);infer_instance
def voc (x:q20T)(k:q20T⊕(q20T⊕q20T)→Option Res):Option Res:=
 let t0:=(IntKind.wrap .i64 (x.2.1+(1:Int)))
 bif (decide (x.2.2.2<(x.1.length:Int)))then
 if 0≤x.2.2.2∧x.2.2.2<(x.1.length:Int)then
 vc8 x.2.1 (fun y3=>
 bif (!(vap ((rd (Ty.zero tWrite) x.1 x.2.2.2).1) y3))then
 k (.inr (.inl (x.1,x.2.1,(-1:Int),x.2.2.2)))
 else
 if 0≤x.2.2.2∧x.2.2.2<(x.1.length:Int)then
 vc8 t0 (fun y4=>
 bif (!(vap ((rd (Ty.zero tWrite) x.1 x.2.2.2).2.1) y4))then
 k (.inr (.inl (x.1,t0,(-1:Int),x.2.2.2)))
 else
 if 0≤x.2.2.2∧x.2.2.2<(x.1.length:Int)then
 bif (!((rd (Ty.zero tWrite) x.1 x.2.2.2).2.2==(((IntKind.wrap .i64 (t0+1)).tmod (3:Int))==(0:Int))))then
 k (.inr (.inl (x.1,(IntKind.wrap .i64 (t0+1)),(-1:Int),x.2.2.2)))
 else
 k (.inl (x.1,(IntKind.wrap .i64 ((IntKind.wrap .i64 (t0+1))+1)),x.2.2.1,(IntKind.wrap .i64 (x.2.2.2+1))))
 else none)
 else none)
 else none
 else
 k (.inr (.inr (x.1,x.2.1,x.2.2.1,x.2.2.2)))
instance n74n_bp0 (x:q20T):ParC (voc x):=by unfold voc;(try dsimp only);infer_instance
def wf8 (a0:(List vag))(a1:Int)(k:Int→Option Res):Option Res:=
 vae voc Fuel (a0,a1,0,0) (Sum.elim (fun z1=>
 k z1.2.2.1) (fun z2=>
 k z2.2.1))
def vtj:=shut wf8
theorem wmc:vtj=wf8:=vaj _
instance n74n_p (a0:(List vag))(a1:Int):ParC (vtj a0 a1):=by rw [wmc];unfold wf8;(try dsimp only);infer_instance
def whu (a0:dTxn)(a1:Int)(k:Int→Option Res):Option Res:=
 vt4 a0.2.2.2.2.1 a1 (fun y1=>
 bif (decide (y1<0))then
 k (-1:Int)
 else
 vtj a0.2.2.2.2.2.1 y1 (fun y2=>
 bif (decide (y2<0))then
 k (-1:Int)
 else
 k y2))
def wat:=shut whu
theorem wru:wat=whu:=vaj _
instance n71n_p (a0:dTxn)(a1:Int):ParC (wat a0 a1):=by rw [wru];unfold whu;(try dsimp only);infer_instance
def vpy (x:q16T)(k:q16T⊕(q16T⊕q16T)→Option Res):Option Res:=
 let t0:=(IntKind.wrap .i64 ((IntKind.wrap .i64 (x.2.1+(1:Int)))+(1:Int)))
 let t1:=(rd (Ty.zero tVersion) x.1 x.2.2.2)
 bif (decide (x.2.2.2<(x.1.length:Int)))then
 if 0≤x.2.2.2∧x.2.2.2<(x.1.length:Int)then
 vc8 x.2.1 (fun y3=>
 bif (!(vap (t1.1) y3))then
 k (.inr (.inl (x.1,x.2.1,(-1:Int),x.2.2.2)))
 else
 if 0≤x.2.2.2∧x.2.2.2<(x.1.length:Int)then
 vc8 (IntKind.wrap .i64 (x.2.1+1)) (fun y4=>
 bif (!(vap (t1.2.1) y4))then
 k (.inr (.inl (x.1,(IntKind.wrap .i64 (x.2.1+1)),(-1:Int),x.2.2.2)))
 else
 if 0≤x.2.2.2∧x.2.2.2<(x.1.length:Int)then
 bif (!(t1.2.2.1==((t0.tmod (3:Int))==(0:Int))))then
 k (.inr (.inl (x.1,t0,(-1:Int),x.2.2.2)))
 else
 if 0≤x.2.2.2∧x.2.2.2<(x.1.length:Int)then
 bif (t1.2.2.2 != (IntKind.wrap .i64 (t0+1)))then
 k (.inr (.inl (x.1,(IntKind.wrap .i64 (t0+1)),(-1:Int),x.2.2.2)))
 else
 k (.inl (x.1,(IntKind.wrap .i64 ((IntKind.wrap .i64 (t0+1))+1)),x.2.2.1,(IntKind.wrap .i64 (x.2.2.2+1))))
 else none
 else none)
 else none)
 else none
 else
 k (.inr (.inr (x.1,x.2.1,x.2.2.1,x.2.2.2)))
instance n73n_bp0 (x:q16T):ParC (vpy x):=by unfold vpy;(try dsimp only);infer_instance
def wht (a0:(List vaa))(a1:Int)(k:Int→Option Res):Option Res:=
 vae vpy Fuel (a0,a1,0,0) (Sum.elim (fun z1=>
 k z1.2.2.1) (fun z2=>
 k z2.2.1))
def v5d:=shut wht
theorem wp2:v5d=wht:=vaj _
instance n73n_p (a0:(List vaa))(a1:Int):ParC (v5d a0 a1):=by rw [wp2];unfold wht;(try dsimp only);infer_instance
def vo7 (x:q11T)(k:q11T⊕(q11T⊕q11T)→Option Res):Option Res:=
 let t0:=(IntKind.wrap .i64 ((IntKind.wrap .i64 (x.2.1+(1:Int)))+(1:Int)))
 let t1:=(rd (Ty.zero tTxn) x.1 x.2.2.2)
 bif (decide (x.2.2.2<(x.1.length:Int)))then
 if 0≤x.2.2.2∧x.2.2.2<(x.1.length:Int)then
 bif (t1.1 != x.2.1)then
 k (.inr (.inl (x.1,x.2.1,(-1:Int),x.2.2.2)))
 else
 if 0≤x.2.2.2∧x.2.2.2<(x.1.length:Int)then
 bif (t1.2.1 != (IntKind.wrap .i64 (x.2.1+1)))then
 k (.inr (.inl (x.1,(IntKind.wrap .i64 (x.2.1+1)),(-1:Int),x.2.2.2)))
 else
 if 0≤x.2.2.2∧x.2.2.2<(x.1.length:Int)then
 bif (t1.2.2.1 != t0)then
 k (.inr (.inl (x.1,t0,(-1:Int),x.2.2.2)))
 else
 if 0≤x.2.2.2∧x.2.2.2<(x.1.length:Int)then
 bif (t1.2.2.2.1 != (IntKind.wrap .i64 (t0+1)))then
 k (.inr (.inl (x.1,(IntKind.wrap .i64 (t0+1)),(-1:Int),x.2.2.2)))
 else
 if 0≤x.2.2.2∧x.2.2.2<(x.1.length:Int)then
 vt4 (t1.2.2.2.2.1) (IntKind.wrap .i64 ((IntKind.wrap .i64 (t0+1))+1)) (fun y3=>
 bif (decide (y3<0))then
 k (.inr (.inl (x.1,y3,(-1:Int),x.2.2.2)))
 else
 if 0≤x.2.2.2∧x.2.2.2<(x.1.length:Int)then
 vtj (t1.2.2.2.2.2.1) y3 (fun y4=>
 bif (decide (y4<0))then
 k (.inr (.inl (x.1,y4,(-1:Int),x.2.2.2)))
 else
 if 0≤x.2.2.2∧x.2.2.2<(x.1.length:Int)then
 bif (!(t1.2.2.2.2.2.2.1==((y4.tmod (3:Int))==(0:Int))))then
 k (.inr (.inl (x.1,y4,(-1:Int),x.2.2.2)))
 else
 if 0≤x.2.2.2∧x.2.2.2<(x.1.length:Int)then
 vc8 (IntKind.wrap .i64 (y4+1)) (fun y5=>
 bif (!(vap (t1.2.2.2.2.2.2.2) y5))then
 k (.inr (.inl (x.1,(IntKind.wrap .i64 (y4+1)),(-1:Int),x.2.2.2)))
 else
 k (.inl (x.1,(IntKind.wrap .i64 ((IntKind.wrap .i64 (y4+1))+1)),x.2.2.1,(IntKind.wrap .i64 (x.2.2.2+1)))))
 else none
 else none)
 else none)
 else none
 else none
 else none
 else none
 else none
 else
 k (.inr (.inr (x.1,x.2.1,x.2.2.1,x.2.2.2)))
instance n72n_bp0 (x:q11T):ParC (vo7 x):=by unfold vo7;(try dsimp only);exact⟨(vaf (vbo (vaf (vab _) (vbo (vaf (vab _) (vbo (vaf (vab _) (vbo (vaf (vab _) (vbo ((n69n_p _ _).p.bind fun y3=>(vaf (vab _) (vbo ((n74n_p _ _).p.bind fun y4=>(vaf (vab _) (vbo (vaf (vab _) (vbo ((n78n_p _).p.bind fun y5=>(vaf (vab _) (vab _))) va5)) va5))) va5))) va5)) va5)) va5)) va5)) va5) (vab _))⟩
def whr (a0:(List dTxn))(a1:Int)(k:Int→Option Res):Option Res:=
 vae vo7 Fuel (a0,a1,0,0) (Sum.elim (fun z1=>
 k z1.2.2.1) (fun z2=>
 k z2.2.1))
def vzx:=shut whr
theorem woc:vzx=whr:=vaj _
instance n72n_p (a0:(List dTxn))(a1:Int):ParC (vzx a0 a1):=by rw [woc];unfold whr;(try dsimp only);infer_instance
def wfv (a0:vfd)(a1:Int)(k:Int→Option Res):Option Res:=
 v5d a0.1 a1 (fun y1=>
 bif (decide (y1<0))then
 k (-1:Int)
 else
 vzx a0.2.1 y1 (fun y2=>
 bif (decide (y2<0))then
 k (-1:Int)
 else
 vzx a0.2.2.1 y2 (fun y3=>
 bif (decide (y3<0))then
 k (-1:Int)
 else
 k y3)))
def v8x:=shut wfv
theorem wmt:v8x=wfv:=vaj _
instance n68n_p (a0:vfd)(a1:Int):ParC (v8x a0 a1):=by rw [wmt];unfold wfv;(try dsimp only);infer_instance
def wiu (a0:vcd)(a1:Int)(k:Int→Option Res):Option Res:=
 wat a0.2.1 a1 (fun y1=>
 bif (decide (y1<0))then
 k (-1:Int)
 else
 v8x a0.2.2.2.2 y1 (fun y2=>
 bif (decide (y2<0))then
 k (-1:Int)
 else
 k y2))
def vvk:=shut wiu
theorem wmy:vvk=wiu:=vaj _
instance n70n_p (a0:vcd)(a1:Int):ParC (vvk a0 a1):=by rw [wmy];unfold wiu;(try dsimp only);infer_instance
def vdd (x:q35T)(k:q35T→Option Res):Option Res:=
 let xh:=x.2.2.2.2.2.2.2.2
 let xhh:=xh.2.2.2.2.2.2.2.2
 let t0:=(false,x.2.1,x.2.2.1,x.2.2.2.1,x.2.2.2.2.1,x.2.2.2.2.2.1,x.2.2.2.2.2.2.1,x.2.2.2.2.2.2.2.1,xh.1,xh.2.1,xh.2.2.1,xh.2.2.2.1,xh.2.2.2.2.1,xh.2.2.2.2.2.1,xh.2.2.2.2.2.2.1,xh.2.2.2.2.2.2.2.1,xhh.1,xhh.2)
 vvk (x.2.2.1,((x.2.2.2.1,(x.2.2.2.2.1,(x.2.2.2.2.2.1,(x.2.2.2.2.2.2.1,(xh.2.2.2.2.2.1,(xh.2.2.2.2.2.2.1,(x.2.2.2.2.2.2.2.1,xh.1))))))),(xh.2.1,(xh.2.2.1,(xh.2.2.2.2.2.2.2.1,(xhh.1,(xhh.2,(xh.2.2.2.1,xh.2.2.2.2.1)))))))) (1:Int) (fun y23=>
 bif (decide (y23<0))then
 k t0
 else
 bif (y23 != x.2.1)then
 k t0
 else
 k (true,x.2.1,x.2.2.1,x.2.2.2.1,x.2.2.2.2.1,x.2.2.2.2.2.1,x.2.2.2.2.2.2.1,x.2.2.2.2.2.2.2.1,xh.1,xh.2.1,xh.2.2.1,xh.2.2.2.1,xh.2.2.2.2.1,xh.2.2.2.2.2.1,xh.2.2.2.2.2.2.1,xh.2.2.2.2.2.2.2.1,xhh.1,xhh.2))
instance n57n_jp5000018 (x:q35T):ParC (vdd x):=by unfold vdd;(try dsimp only);infer_instance
def vb1 (x:(q37T⊕q37T))(k:(q37T⊕(q37T⊕q34T))→Option Res):Option Res:=
 (Sum.elim (fun x=>
 let xh:=x.2.2.2.2.2.2.2.2
 let xhh:=xh.2.2.2.2.2.2.2.2
 let xhhh:=xhh.2.2.2.2.2.2.2.2
 let xhhhh:=xhhh.2.2.2.2.2.2.2.2
 v48 xh.2.2.2.2.2.2.1 xh.2.2.2.2.2.2.2.1 xhh.1 xhh.2.1 xhh.2.2.1 xhh.2.2.2.1 xhh.2.2.2.2.1 xhh.2.2.2.2.2.1 xhh.2.2.2.2.2.2.1 xhh.2.2.2.2.2.2.2.1 xhhh.1 (1:Int) xhhh.2.2.2.2.2.2.1 xhhh.2.2.2.2.2.2.2.1 xhhhh.1 xhhhh.2.1 xhhhh.2.2 (fun y13=>
 vvk (xh.2.2.2.2.2.2.1,((xh.2.2.2.2.2.2.2.1,(xhh.1,(xhh.2.1,(xhh.2.2.1,(y13.2.1,(y13.2.2.1,(xhh.2.2.2.1,xhh.2.2.2.2.1))))))),(xhh.2.2.2.2.2.1,(xhh.2.2.2.2.2.2.1,(y13.2.2.2.1,(y13.2.2.2.2.1,(y13.2.2.2.2.2,(xhh.2.2.2.2.2.2.2.1,xhhh.1)))))))) (1:Int) (fun y14=>
 bif (decide (y14<0))then
 k (.inl (x.1,false,x.2.2.1,x.2.2.2.1,x.2.2.2.2.1,x.2.2.2.2.2.1,x.2.2.2.2.2.2.1,x.2.2.2.2.2.2.2.1,xh.1,xh.2.1,xh.2.2.1,xh.2.2.2.1,xh.2.2.2.2.1,xh.2.2.2.2.2.1,xh.2.2.2.2.2.2.1,xh.2.2.2.2.2.2.2.1,xhh.1,xhh.2.1,xhh.2.2.1,xhh.2.2.2.1,xhh.2.2.2.2.1,xhh.2.2.2.2.2.1,xhh.2.2.2.2.2.2.1,xhh.2.2.2.2.2.2.2.1,xhhh.1,xhhh.2.1,xhhh.2.2.1,xhhh.2.2.2.1,xhhh.2.2.2.2.1,xhhh.2.2.2.2.2.1,y13.2.1,y13.2.2.1,y13.2.2.2.1,y13.2.2.2.2.1,y13.2.2.2.2.2))
 else
 bif (y14 != y13.1)then
 k (.inl (x.1,false,x.2.2.1,x.2.2.2.1,x.2.2.2.2.1,x.2.2.2.2.2.1,x.2.2.2.2.2.2.1,x.2.2.2.2.2.2.2.1,xh.1,xh.2.1,xh.2.2.1,xh.2.2.2.1,xh.2.2.2.2.1,xh.2.2.2.2.2.1,xh.2.2.2.2.2.2.1,xh.2.2.2.2.2.2.2.1,xhh.1,xhh.2.1,xhh.2.2.1,xhh.2.2.2.1,xhh.2.2.2.2.1,xhh.2.2.2.2.2.1,xhh.2.2.2.2.2.2.1,xhh.2.2.2.2.2.2.2.1,xhhh.1,xhhh.2.1,xhhh.2.2.1,xhhh.2.2.2.1,xhhh.2.2.2.2.1,xhhh.2.2.2.2.2.1,y13.2.1,y13.2.2.1,y13.2.2.2.1,y13.2.2.2.2.1,y13.2.2.2.2.2))
 else
 vrd x.1 (fun y15=>
 let y15h:=y15.2.2.2.2.2.2.2.2
 vp3 (y15.1,((y15.2.1,(y15.2.2.1,(y15.2.2.2.1,(y15.2.2.2.2.1,(y15h.2.2.2.2.1,(y15h.2.2.2.2.2.1,(y15.2.2.2.2.2.1,y15.2.2.2.2.2.2.1))))))),(y15.2.2.2.2.2.2.2.1,(y15h.1,(y15h.2.2.2.2.2.2.1,(y15h.2.2.2.2.2.2.2.1,(y15h.2.2.2.2.2.2.2.2,(y15h.2.1,y15h.2.2.1)))))))) (x.2.2.2.1,((x.2.2.2.2.1,(x.2.2.2.2.2.1,(x.2.2.2.2.2.2.1,(x.2.2.2.2.2.2.2.1,(xhhh.2.1,(xhhh.2.2.1,(xh.1,xh.2.1))))))),(xh.2.2.1,(xh.2.2.2.1,(xhhh.2.2.2.1,(xhhh.2.2.2.2.1,(xhhh.2.2.2.2.2.1,(xh.2.2.2.2.1,xh.2.2.2.2.2.1)))))))) (fun y16=>
 bif (!y16)then
 k (.inl (x.1,false,x.2.2.1,x.2.2.2.1,x.2.2.2.2.1,x.2.2.2.2.2.1,x.2.2.2.2.2.2.1,x.2.2.2.2.2.2.2.1,xh.1,xh.2.1,xh.2.2.1,xh.2.2.2.1,xh.2.2.2.2.1,xh.2.2.2.2.2.1,xh.2.2.2.2.2.2.1,xh.2.2.2.2.2.2.2.1,xhh.1,xhh.2.1,xhh.2.2.1,xhh.2.2.2.1,xhh.2.2.2.2.1,xhh.2.2.2.2.2.1,xhh.2.2.2.2.2.2.1,xhh.2.2.2.2.2.2.2.1,xhhh.1,xhhh.2.1,xhhh.2.2.1,xhhh.2.2.2.1,xhhh.2.2.2.2.1,xhhh.2.2.2.2.2.1,y13.2.1,y13.2.2.1,y13.2.2.2.1,y13.2.2.2.2.1,y13.2.2.2.2.2))
 else
 bif (!(y15h.2.2.2.1==x.2.2.1))then
 k (.inl (x.1,false,x.2.2.1,x.2.2.2.1,x.2.2.2.2.1,x.2.2.2.2.2.1,x.2.2.2.2.2.2.1,x.2.2.2.2.2.2.2.1,xh.1,xh.2.1,xh.2.2.1,xh.2.2.2.1,xh.2.2.2.2.1,xh.2.2.2.2.2.1,xh.2.2.2.2.2.2.1,xh.2.2.2.2.2.2.2.1,xhh.1,xhh.2.1,xhh.2.2.1,xhh.2.2.2.1,xhh.2.2.2.2.1,xhh.2.2.2.2.2.1,xhh.2.2.2.2.2.2.1,xhh.2.2.2.2.2.2.2.1,xhhh.1,xhhh.2.1,xhhh.2.2.1,xhhh.2.2.2.1,xhhh.2.2.2.2.1,xhhh.2.2.2.2.2.1,y13.2.1,y13.2.2.1,y13.2.2.2.1,y13.2.2.2.2.1,y13.2.2.2.2.2))
 else
 vdd (x.2.1,y13.1,xh.2.2.2.2.2.2.1,xh.2.2.2.2.2.2.2.1,xhh.1,xhh.2.1,xhh.2.2.1,xhh.2.2.2.1,xhh.2.2.2.2.1,xhh.2.2.2.2.2.1,xhh.2.2.2.2.2.2.1,xhh.2.2.2.2.2.2.2.1,xhhh.1,y13.2.1,y13.2.2.1,y13.2.2.2.1,y13.2.2.2.2.1,y13.2.2.2.2.2) (fun z17=>
 let z17h:=z17.2.2.2.2.2.2.2.2
 let z17hh:=z17h.2.2.2.2.2.2.2.2
 k (.inr (.inr (z17.1,z17.2.2.1,z17.2.2.2.1,z17.2.2.2.2.1,z17.2.2.2.2.2.1,z17.2.2.2.2.2.2.1,z17.2.2.2.2.2.2.2.1,z17h.1,z17h.2.1,z17h.2.2.1,z17h.2.2.2.1,z17h.2.2.2.2.1,z17h.2.2.2.2.2.1,z17h.2.2.2.2.2.2.1,z17h.2.2.2.2.2.2.2.1,z17hh.1,z17hh.2))))))))) (fun x=>
 let xh:=x.2.2.2.2.2.2.2.2
 let xhh:=xh.2.2.2.2.2.2.2.2
 let xhhh:=xhh.2.2.2.2.2.2.2.2
 let xhhhh:=xhhh.2.2.2.2.2.2.2.2
 v48 xh.2.2.2.2.2.2.1 xh.2.2.2.2.2.2.2.1 xhh.1 xhh.2.1 xhh.2.2.1 xhh.2.2.2.1 xhh.2.2.2.2.1 xhh.2.2.2.2.2.1 xhh.2.2.2.2.2.2.1 xhh.2.2.2.2.2.2.2.1 xhhh.1 (1:Int) xhhh.2.2.2.2.2.2.1 xhhh.2.2.2.2.2.2.2.1 xhhhh.1 xhhhh.2.1 xhhhh.2.2 (fun y18=>
 vvk (xh.2.2.2.2.2.2.1,((xh.2.2.2.2.2.2.2.1,(xhh.1,(xhh.2.1,(xhh.2.2.1,(y18.2.1,(y18.2.2.1,(xhh.2.2.2.1,xhh.2.2.2.2.1))))))),(xhh.2.2.2.2.2.1,(xhh.2.2.2.2.2.2.1,(y18.2.2.2.1,(y18.2.2.2.2.1,(y18.2.2.2.2.2,(xhh.2.2.2.2.2.2.2.1,xhhh.1)))))))) (1:Int) (fun y19=>
 bif (decide (y19<0))then
 k (.inr (.inl (x.1,false,x.2.2.1,x.2.2.2.1,x.2.2.2.2.1,x.2.2.2.2.2.1,x.2.2.2.2.2.2.1,x.2.2.2.2.2.2.2.1,xh.1,xh.2.1,xh.2.2.1,xh.2.2.2.1,xh.2.2.2.2.1,xh.2.2.2.2.2.1,xh.2.2.2.2.2.2.1,xh.2.2.2.2.2.2.2.1,xhh.1,xhh.2.1,xhh.2.2.1,xhh.2.2.2.1,xhh.2.2.2.2.1,xhh.2.2.2.2.2.1,xhh.2.2.2.2.2.2.1,xhh.2.2.2.2.2.2.2.1,xhhh.1,xhhh.2.1,xhhh.2.2.1,xhhh.2.2.2.1,xhhh.2.2.2.2.1,xhhh.2.2.2.2.2.1,y18.2.1,y18.2.2.1,y18.2.2.2.1,y18.2.2.2.2.1,y18.2.2.2.2.2)))
 else
 bif (y19 != y18.1)then
 k (.inr (.inl (x.1,false,x.2.2.1,x.2.2.2.1,x.2.2.2.2.1,x.2.2.2.2.2.1,x.2.2.2.2.2.2.1,x.2.2.2.2.2.2.2.1,xh.1,xh.2.1,xh.2.2.1,xh.2.2.2.1,xh.2.2.2.2.1,xh.2.2.2.2.2.1,xh.2.2.2.2.2.2.1,xh.2.2.2.2.2.2.2.1,xhh.1,xhh.2.1,xhh.2.2.1,xhh.2.2.2.1,xhh.2.2.2.2.1,xhh.2.2.2.2.2.1,xhh.2.2.2.2.2.2.1,xhh.2.2.2.2.2.2.2.1,xhhh.1,xhhh.2.1,xhhh.2.2.1,xhhh.2.2.2.1,xhhh.2.2.2.2.1,xhhh.2.2.2.2.2.1,y18.2.1,y18.2.2.1,y18.2.2.2.1,y18.2.2.2.2.1,y18.2.2.2.2.2)))
 else
 vrd x.1 (fun y20=>
 let y20h:=y20.2.2.2.2.2.2.2.2
 vp3 (y20.1,((y20.2.1,(y20.2.2.1,(y20.2.2.2.1,(y20.2.2.2.2.1,(y20h.2.2.2.2.1,(y20h.2.2.2.2.2.1,(y20.2.2.2.2.2.1,y20.2.2.2.2.2.2.1))))))),(y20.2.2.2.2.2.2.2.1,(y20h.1,(y20h.2.2.2.2.2.2.1,(y20h.2.2.2.2.2.2.2.1,(y20h.2.2.2.2.2.2.2.2,(y20h.2.1,y20h.2.2.1)))))))) (x.2.2.2.1,((x.2.2.2.2.1,(x.2.2.2.2.2.1,(x.2.2.2.2.2.2.1,(x.2.2.2.2.2.2.2.1,(xhhh.2.1,(xhhh.2.2.1,(xh.1,xh.2.1))))))),(xh.2.2.1,(xh.2.2.2.1,(xhhh.2.2.2.1,(xhhh.2.2.2.2.1,(xhhh.2.2.2.2.2.1,(xh.2.2.2.2.1,xh.2.2.2.2.2.1)))))))) (fun y21=>
 bif (!y21)then
 k (.inr (.inl (x.1,false,x.2.2.1,x.2.2.2.1,x.2.2.2.2.1,x.2.2.2.2.2.1,x.2.2.2.2.2.2.1,x.2.2.2.2.2.2.2.1,xh.1,xh.2.1,xh.2.2.1,xh.2.2.2.1,xh.2.2.2.2.1,xh.2.2.2.2.2.1,xh.2.2.2.2.2.2.1,xh.2.2.2.2.2.2.2.1,xhh.1,xhh.2.1,xhh.2.2.1,xhh.2.2.2.1,xhh.2.2.2.2.1,xhh.2.2.2.2.2.1,xhh.2.2.2.2.2.2.1,xhh.2.2.2.2.2.2.2.1,xhhh.1,xhhh.2.1,xhhh.2.2.1,xhhh.2.2.2.1,xhhh.2.2.2.2.1,xhhh.2.2.2.2.2.1,y18.2.1,y18.2.2.1,y18.2.2.2.1,y18.2.2.2.2.1,y18.2.2.2.2.2)))
 else
 bif (!(y20h.2.2.2.1==x.2.2.1))then
 k (.inr (.inl (x.1,false,x.2.2.1,x.2.2.2.1,x.2.2.2.2.1,x.2.2.2.2.2.1,x.2.2.2.2.2.2.1,x.2.2.2.2.2.2.2.1,xh.1,xh.2.1,xh.2.2.1,xh.2.2.2.1,xh.2.2.2.2.1,xh.2.2.2.2.2.1,xh.2.2.2.2.2.2.1,xh.2.2.2.2.2.2.2.1,xhh.1,xhh.2.1,xhh.2.2.1,xhh.2.2.2.1,xhh.2.2.2.2.1,xhh.2.2.2.2.2.1,xhh.2.2.2.2.2.2.1,xhh.2.2.2.2.2.2.2.1,xhhh.1,xhhh.2.1,xhhh.2.2.1,xhhh.2.2.2.1,xhhh.2.2.2.2.1,xhhh.2.2.2.2.2.1,y18.2.1,y18.2.2.1,y18.2.2.2.1,y18.2.2.2.2.1,y18.2.2.2.2.2)))
 else
 vdd (x.2.1,y18.1,xh.2.2.2.2.2.2.1,xh.2.2.2.2.2.2.2.1,xhh.1,xhh.2.1,xhh.2.2.1,xhh.2.2.2.1,xhh.2.2.2.2.1,xhh.2.2.2.2.2.1,xhh.2.2.2.2.2.2.1,xhh.2.2.2.2.2.2.2.1,xhhh.1,y18.2.1,y18.2.2.1,y18.2.2.2.1,y18.2.2.2.2.1,y18.2.2.2.2.2) (fun z22=>
 let z22h:=z22.2.2.2.2.2.2.2.2
 let z22hh:=z22h.2.2.2.2.2.2.2.2
 k (.inr (.inr (z22.1,z22.2.2.1,z22.2.2.2.1,z22.2.2.2.2.1,z22.2.2.2.2.2.1,z22.2.2.2.2.2.2.1,z22.2.2.2.2.2.2.2.1,z22h.1,z22h.2.1,z22h.2.2.1,z22h.2.2.2.1,z22h.2.2.2.2.1,z22h.2.2.2.2.2.1,z22h.2.2.2.2.2.2.1,z22h.2.2.2.2.2.2.2.1,z22hh.1,z22hh.2)))))))))) x
instance n57n_jp5000007 (x:(q37T⊕q37T)):ParC (vb1 x):=by
 unfold vb1
 rcases x with x|x
 ·simp only [Sum.elim_inl]
  exact⟨((n77n_p _ _ _ _ _ _ _ _ _ _ _ _ _ _ _ _ _).p.bind fun y13=>((n70n_p _ _).p.bind fun y14=>(vaf (vab _) (vaf (vab _) ((n08n_p _).p.bind fun y15=>((n61n_p _ _).p.bind fun y16=>(vaf (vab _) (vaf (vab _) ((n57n_jp5000018 _).p.bind fun z17=>(vab _))))))))))⟩
 ·simp only [Sum.elim_inr]
  (try dsimp only)
  exact⟨((n77n_p _ _ _ _ _ _ _ _ _ _ _ _ _ _ _ _ _).p.bind fun y18=>((n70n_p _ _).p.bind fun y19=>(vaf (vab _) (vaf (vab _) ((n08n_p _).p.bind fun y20=>((n61n_p _ _).p.bind fun y21=>(vaf (vab _) (vaf (vab _) ((n57n_jp5000018 _).p.bind fun z22=>(vab _))))))))))⟩
def wgb (a0:ByteArray)(k:Bool→Option Res):Option Res:=
 bif (decide ((a0.size:Int)>(1048576:Int)))then
 k true
 else
 v2x a0 (Sum.elim (fun y1=>
 let y1h:=y1.2.2.2.2.2.2.2.2
 let y1hh:=y1h.2.2.2.2.2.2.2.2
 vrd a0 (fun y2=>
 let y2h:=y2.2.2.2.2.2.2.2.2
 let y2hh:=y2h.2.2.2.2.2.2.2.2
 vp3 (y2.1,((y2.2.1,(y2.2.2.1,(y2.2.2.2.1,(y2.2.2.2.2.1,(y2h.2.2.2.2.1,(y2h.2.2.2.2.2.1,(y2.2.2.2.2.2.1,y2.2.2.2.2.2.2.1))))))),(y2.2.2.2.2.2.2.2.1,(y2h.1,(y2h.2.2.2.2.2.2.1,(y2h.2.2.2.2.2.2.2.1,(y2hh,(y2h.2.1,y2h.2.2.1)))))))) (y1.1,((y1.2.1,(y1.2.2.1,(y1.2.2.2.1,(y1.2.2.2.2.1,(y1h.2.2.2.2.1,(y1h.2.2.2.2.2.1,(y1.2.2.2.2.2.1,y1.2.2.2.2.2.2.1))))))),(y1.2.2.2.2.2.2.2.1,(y1h.1,(y1h.2.2.2.2.2.2.1,(y1h.2.2.2.2.2.2.2.1,(y1hh,(y1h.2.1,y1h.2.2.1)))))))) (fun y3=>
 bif (!y3)then
 k false
 else
 bif (!(y2h.2.2.2.1==y1h.2.2.2.1))then
 k false
 else
 vb1 (.inl (a0,false,y1h.2.2.2.1,y1.1,y1.2.1,y1.2.2.1,y1.2.2.2.1,y1.2.2.2.2.1,y1.2.2.2.2.2.1,y1.2.2.2.2.2.2.1,y1.2.2.2.2.2.2.2.1,y1h.1,y1h.2.1,y1h.2.2.1,y2.1,y2.2.1,y2.2.2.1,y2.2.2.2.1,y2.2.2.2.2.1,y2.2.2.2.2.2.1,y2.2.2.2.2.2.2.1,y2.2.2.2.2.2.2.2.1,y2h.1,y2h.2.1,y2h.2.2.1,y1h.2.2.2.2.1,y1h.2.2.2.2.2.1,y1h.2.2.2.2.2.2.1,y1h.2.2.2.2.2.2.2.1,y1hh,y2h.2.2.2.2.1,y2h.2.2.2.2.2.1,y2h.2.2.2.2.2.2.1,y2h.2.2.2.2.2.2.2.1,y2hh)) (Sum.elim (fun z4=>
 k z4.2.1) (Sum.elim (fun z5=>
 k z5.2.1) (fun z6=>
 k z6.1)))))) (fun y7=>
 let y7h:=y7.2.2.2.2.2.2.2.2
 let y7hh:=y7h.2.2.2.2.2.2.2.2
 vrd a0 (fun y8=>
 let y8h:=y8.2.2.2.2.2.2.2.2
 let y8hh:=y8h.2.2.2.2.2.2.2.2
 vp3 (y8.1,((y8.2.1,(y8.2.2.1,(y8.2.2.2.1,(y8.2.2.2.2.1,(y8h.2.2.2.2.1,(y8h.2.2.2.2.2.1,(y8.2.2.2.2.2.1,y8.2.2.2.2.2.2.1))))))),(y8.2.2.2.2.2.2.2.1,(y8h.1,(y8h.2.2.2.2.2.2.1,(y8h.2.2.2.2.2.2.2.1,(y8hh,(y8h.2.1,y8h.2.2.1)))))))) (y7.1,((y7.2.1,(y7.2.2.1,(y7.2.2.2.1,(y7.2.2.2.2.1,(y7h.2.2.2.2.1,(y7h.2.2.2.2.2.1,(y7.2.2.2.2.2.1,y7.2.2.2.2.2.2.1))))))),(y7.2.2.2.2.2.2.2.1,(y7h.1,(y7h.2.2.2.2.2.2.1,(y7h.2.2.2.2.2.2.2.1,(y7hh,(y7h.2.1,y7h.2.2.1)))))))) (fun y9=>
 bif (!y9)then
 k false
 else
 bif (!(y8h.2.2.2.1==y7h.2.2.2.1))then
 k false
 else
 vb1 (.inr (a0,false,y7h.2.2.2.1,y7.1,y7.2.1,y7.2.2.1,y7.2.2.2.1,y7.2.2.2.2.1,y7.2.2.2.2.2.1,y7.2.2.2.2.2.2.1,y7.2.2.2.2.2.2.2.1,y7h.1,y7h.2.1,y7h.2.2.1,y8.1,y8.2.1,y8.2.2.1,y8.2.2.2.1,y8.2.2.2.2.1,y8.2.2.2.2.2.1,y8.2.2.2.2.2.2.1,y8.2.2.2.2.2.2.2.1,y8h.1,y8h.2.1,y8h.2.2.1,y7h.2.2.2.2.1,y7h.2.2.2.2.2.1,y7h.2.2.2.2.2.2.1,y7h.2.2.2.2.2.2.2.1,y7hh,y8h.2.2.2.2.1,y8h.2.2.2.2.2.1,y8h.2.2.2.2.2.2.1,y8h.2.2.2.2.2.2.2.1,y8hh)) (Sum.elim (fun z10=>
 k z10.2.1) (Sum.elim (fun z11=>
 k z11.2.1) (fun z12=>
 k z12.1)))))))
def wa7:=shut wgb
theorem wqf:wa7=wgb:=vaj _
instance n57n_p (a0:ByteArray):ParC (wa7 a0):=by rw [wqf];unfold wgb;(try dsimp only);exact⟨(vaf (vab _) ((n92n_p _).p.bind2 (fun y1=>((n08n_p _).p.bind fun y2=>((n61n_p _ _).p.bind fun y3=>(vaf (vab _) (vaf (vab _) ((n57n_jp5000007 _).p.bind2 (fun z4=>(vab _)) (fun q=>vfk (fun z5=>(vab _)) (fun z6=>(vab _)) q))))))) (fun y7=>((n08n_p _).p.bind fun y8=>((n61n_p _ _).p.bind fun y9=>(vaf (vab _) (vaf (vab _) ((n57n_jp5000007 _).p.bind2 (fun z10=>(vab _)) (fun q=>vfk (fun z11=>(vab _)) (fun z12=>(vab _)) q)))))))))⟩
def wwy (args:List AV)(st:St)(k:K1):Option Res:=
 val [.int .u32,.str] [] args st (fun p q=>v3d p.1 p.2.1 (fun(y:Int)=>k (.int .u32 y) []))
 (none)
def wqu (args:List AV)(st:St)(k:K1):Option Res:=
 val [.str] [] args st (fun p q=>vuy p.1 (fun(y:Int)=>k (.int .u32 y) []))
 (none)
def wmu (args:List AV)(st:St)(k:K1):Option Res:=
 val [.int .u32] [] args st (fun p q=>vrz p.1 (fun(y:ByteArray)=>k (.str y) []))
 (none)
def wo5 (args:List AV)(st:St)(k:K1):Option Res:=
 val [.str] [] args st (fun p q=>vxl p.1 (fun(y:(ByteArray×Bool))=>k (.tup [.str y.1,.bool y.2]) []))
 (none)
def wqs (args:List AV)(st:St)(k:K1):Option Res:=
 val [.i,.i,.i] [] args st (fun p q=>vci p.1 p.2.1 p.2.2.1 (fun(y:Bool)=>k (.bool y) []))
 (none)
def wnu (args:List AV)(st:St)(k:K1):Option Res:=
 val [.i] [] args st (fun p q=>vb2 p.1 (fun(y:ByteArray)=>k (.str y) []))
 (none)
def wwb (args:List AV)(st:St)(k:K1):Option Res:=
 val [.str,.i] [] args st (fun p q=>v3f p.1 p.2.1 (fun(y:(Int×Int×Bool))=>k (.tup [.i y.1,.i y.2.1,.bool y.2.2]) []))
 (none)
def ww2 (args:List AV)(st:St)(k:K1):Option Res:=
 val [.str,.i] [] args st (fun p q=>waz p.1 p.2.1 (fun(y:(ByteArray×Int×Bool))=>k (.tup [.str y.1,.i y.2.1,.bool y.2.2]) []))
 (none)
def wni (args:List AV)(st:St)(k:K1):Option Res:=
 val [.bp 0 0] [.box [.str,.i,.bool]] args st (fun p q=>vg7 q.1.1 q.1.2.1 q.1.2.2.1 (fun(y:q44T)=>k (.str y.1) [.box [.str y.2.1,.i y.2.2.1,.bool y.2.2.2]]))
 (none)
def woh (args:List AV)(st:St)(k:K1):Option Res:=
 val [.bp 0 0] [.box [.str,.i,.bool]] args st (fun p q=>vop q.1.1 q.1.2.1 q.1.2.2.1 (fun(y:q27T)=>k (.bool y.1) [.box [.str y.2.1,.i y.2.2.1,.bool y.2.2.2]]))
 (none)
def wny (args:List AV)(st:St)(k:K1):Option Res:=
 val [.bp 0 0] [.box [.str,.i,.bool]] args st (fun p q=>ve0 q.1.1 q.1.2.1 q.1.2.2.1 (fun(y:(Int×ByteArray×Int×Bool))=>k (.i y.1) [.box [.str y.2.1,.i y.2.2.1,.bool y.2.2.2]]))
 (none)
def wx5 (args:List AV)(st:St)(k:K1):Option Res:=
 val [.str] [] args st (fun p q=>vjb p.1 (fun(y:Bool)=>k (.bool y) []))
 (none)
def wn4 (args:List AV)(st:St)(k:K1):Option Res:=
 val [.agg [.str,.str,.bool]] [] args st (fun p q=>vup (p.1.1,(p.1.2.1,p.1.2.2.1)) (fun(y:Bool)=>k (.bool y) []))
 (none)
def woz (args:List AV)(st:St)(k:K1):Option Res:=
 val [.lst tWrite] [] args st (fun p q=>vr9 p.1 (fun(y:Bool)=>k (.bool y) []))
 (none)
def wx6 (args:List AV)(st:St)(k:K1):Option Res:=
 val [.agg [.str,.str]] [] args st (fun p q=>v20 (p.1.1,p.1.2.1) (fun(y:Bool)=>k (.bool y) []))
 (none)
def wna (args:List AV)(st:St)(k:K1):Option Res:=
 val [.agg [.i,.i,.i,.i,.lst tRange,.lst tWrite,.bool,.str]] [] args st (fun p q=>vf2 (p.1.1,(p.1.2.1,(p.1.2.2.1,(p.1.2.2.2.1,(p.1.2.2.2.2.1,(p.1.2.2.2.2.2.1,(p.1.2.2.2.2.2.2.1,p.1.2.2.2.2.2.2.2.1))))))) (fun(y:Bool)=>k (.bool y) []))
 (none)
def wx8 (args:List AV)(st:St)(k:K1):Option Res:=
 val [.str,.i] [] args st (fun p q=>v3t p.1 p.2.1 (fun(y:q78T)=>k (.tup [.agg [.i y.1,.i y.2.1,.i y.2.2.1,.i y.2.2.2.1,.own 0,.own 1,.bool y.2.2.2.2.1,.str y.2.2.2.2.2.1],.i y.2.2.2.2.2.2.1,.bool y.2.2.2.2.2.2.2.1]) [.arr tRange y.2.2.2.2.2.2.2.2.1,.arr tWrite y.2.2.2.2.2.2.2.2.2]))
 (none)
def wp6 (args:List AV)(st:St)(k:K1):Option Res:=
 val [.bp 0 0,.i] [.box [.str,.i,.bool]] args st (fun p q=>vsd p.2.1 q.1.1 q.1.2.1 q.1.2.2.1 (fun(y:q46T)=>k (.own 1) [.box [.str y.1,.i y.2.1,.bool y.2.2.1],.arr tTxn y.2.2.2]))
 (none)
def wnp (args:List AV)(st:St)(k:K1):Option Res:=
 val [.lst tVersion] [] args st (fun p q=>vr4 p.1 (fun(y:Bool)=>k (.bool y) []))
 (none)
def wwu (args:List AV)(st:St)(k:K1):Option Res:=
 val [.agg [.lst tVersion,.lst tTxn,.lst tTxn,.i,.i]] [] args st (fun p q=>vrl (p.1.1,(p.1.2.1,(p.1.2.2.1,(p.1.2.2.2.1,p.1.2.2.2.2.1)))) (fun(y:Bool)=>k (.bool y) []))
 (none)
def wwz (args:List AV)(st:St)(k:K1):Option Res:=
 val [.str,.i] [] args st (fun p q=>waj p.1 p.2.1 (Sum.elim (fun(y:q72T)=>k (.tup [.agg [.own 0,.own 1,.own 2,.i y.1,.i y.2.1],.i y.2.2.1,.bool y.2.2.2.1]) [.arr tVersion y.2.2.2.2.1,.dep tTxn y.2.2.2.2.2.1 0,.dep tTxn y.2.2.2.2.2.2 0]) (fun(y:q72T)=>k (.tup [.agg [.own 0,.own 1,.own 2,.i y.1,.i y.2.1],.i y.2.2.1,.bool y.2.2.2.1]) [.arr tVersion y.2.2.2.2.1,.arr tTxn y.2.2.2.2.2.1,.arr tTxn y.2.2.2.2.2.2])))
 (none)
def wo4 (args:List AV)(st:St)(k:K1):Option Res:=
 val [.agg [.i,.i,.i,.i,.lst tRange,.lst tWrite,.bool,.str]] [] args st (fun p q=>vns (p.1.1,(p.1.2.1,(p.1.2.2.1,(p.1.2.2.2.1,(p.1.2.2.2.2.1,(p.1.2.2.2.2.2.1,(p.1.2.2.2.2.2.2.1,p.1.2.2.2.2.2.2.2.1))))))) (fun(y:Bool)=>k (.bool y) []))
 (none)
def wl3 (args:List AV)(st:St)(k:K1):Option Res:=
 val [.agg [.lst tVersion,.lst tTxn,.lst tTxn,.i,.i]] [] args st (fun p q=>vug (p.1.1,(p.1.2.1,(p.1.2.2.1,(p.1.2.2.2.1,p.1.2.2.2.2.1)))) (fun(y:Bool)=>k (.bool y) []))
 (none)
def wwp (args:List AV)(st:St)(k:K1):Option Res:=
 val [.agg [.i,.i,.i,.i,.i,.lst tRange,.lst tWrite,.bool,.str,.str,.bool,.lst tVersion,.lst tTxn,.lst tTxn,.i,.i]] [] args st (fun p q=>v25 (p.1.1,((p.1.2.1,(p.1.2.2.1,(p.1.2.2.2.1,(p.1.2.2.2.2.1,(p.1.2.2.2.2.2.1,(p.1.2.2.2.2.2.2.1,(p.1.2.2.2.2.2.2.2.1,p.1.2.2.2.2.2.2.2.2.1))))))),(p.1.2.2.2.2.2.2.2.2.2.1,(p.1.2.2.2.2.2.2.2.2.2.2.1,(p.1.2.2.2.2.2.2.2.2.2.2.2.1,(p.1.2.2.2.2.2.2.2.2.2.2.2.2.1,(p.1.2.2.2.2.2.2.2.2.2.2.2.2.2.1,(p.1.2.2.2.2.2.2.2.2.2.2.2.2.2.2.1,p.1.2.2.2.2.2.2.2.2.2.2.2.2.2.2.2.1)))))))) (fun(y:Bool)=>k (.bool y) []))
 (none)
def wpz (args:List AV)(st:St)(k:K1):Option Res:=
 val [.str] [] args st (fun p q=>vdi p.1 (fun(y:ByteArray)=>k (.str y) []))
 (none)
def wl6 (args:List AV)(st:St)(k:K1):Option Res:=
 val [.bool] [] args st (fun p q=>vio p.1 (fun(y:ByteArray)=>k (.str y) []))
 (none)
def wxi (args:List AV)(st:St)(k:K1):Option Res:=
 val [.str] [] args st (fun p q=>vw6 p.1 (fun(y:(ByteArray×Bool))=>k (.tup [.str y.1,.bool y.2]) []))
 (none)
def wqx (args:List AV)(st:St)(k:K1):Option Res:=
 val [.agg [.i,.i,.i,.i,.lst tRange,.lst tWrite,.bool,.str]] [] args st (fun p q=>vnt (p.1.1,(p.1.2.1,(p.1.2.2.1,(p.1.2.2.2.1,(p.1.2.2.2.2.1,(p.1.2.2.2.2.2.1,(p.1.2.2.2.2.2.2.1,p.1.2.2.2.2.2.2.2.1))))))) (fun(y:(ByteArray×Bool))=>k (.tup [.str y.1,.bool y.2]) []))
 (none)
def wnk (args:List AV)(st:St)(k:K1):Option Res:=
 val [.lst tTxn] [] args st (fun p q=>vnj p.1 (fun(y:ByteArray)=>k (.str y) []))
 (none)
def wxs (args:List AV)(st:St)(k:K1):Option Res:=
 val [.agg [.lst tVersion,.lst tTxn,.lst tTxn,.i,.i]] [] args st (fun p q=>v46 (p.1.1,(p.1.2.1,(p.1.2.2.1,(p.1.2.2.2.1,p.1.2.2.2.2.1)))) (fun(y:(ByteArray×Bool))=>k (.tup [.str y.1,.bool y.2]) []))
 (none)
def wv9 (args:List AV)(st:St)(k:K1):Option Res:=
 val [.agg [.i,.i,.i,.i,.i,.lst tRange,.lst tWrite,.bool,.str,.str,.bool,.lst tVersion,.lst tTxn,.lst tTxn,.i,.i]] [] args st (fun p q=>vx4 (p.1.1,((p.1.2.1,(p.1.2.2.1,(p.1.2.2.2.1,(p.1.2.2.2.2.1,(p.1.2.2.2.2.2.1,(p.1.2.2.2.2.2.2.1,(p.1.2.2.2.2.2.2.2.1,p.1.2.2.2.2.2.2.2.2.1))))))),(p.1.2.2.2.2.2.2.2.2.2.1,(p.1.2.2.2.2.2.2.2.2.2.2.1,(p.1.2.2.2.2.2.2.2.2.2.2.2.1,(p.1.2.2.2.2.2.2.2.2.2.2.2.2.1,(p.1.2.2.2.2.2.2.2.2.2.2.2.2.2.1,(p.1.2.2.2.2.2.2.2.2.2.2.2.2.2.2.1,p.1.2.2.2.2.2.2.2.2.2.2.2.2.2.2.2.1)))))))) (fun(y:(ByteArray×Bool))=>k (.tup [.str y.1,.bool y.2]) []))
 (none)
def wxn (args:List AV)(st:St)(k:K1):Option Res:=
 val [.str] [] args st (fun p q=>v2x p.1 (Sum.elim (fun(y:q81T)=>k (.tup [.agg [.i y.1,.i y.2.1,.i y.2.2.1,.i y.2.2.2.1,.i y.2.2.2.2.1,.own 0,.own 1,.bool y.2.2.2.2.2.1,.str y.2.2.2.2.2.2.1,.str y.2.2.2.2.2.2.2.1,.bool y.2.2.2.2.2.2.2.2.1,.own 2,.own 3,.own 4,.i y.2.2.2.2.2.2.2.2.2.1,.i y.2.2.2.2.2.2.2.2.2.2.1],.bool y.2.2.2.2.2.2.2.2.2.2.2.1]) [.arr tRange y.2.2.2.2.2.2.2.2.2.2.2.2.1,.arr tWrite y.2.2.2.2.2.2.2.2.2.2.2.2.2.1,.arr tVersion y.2.2.2.2.2.2.2.2.2.2.2.2.2.2.1,.arr tTxn y.2.2.2.2.2.2.2.2.2.2.2.2.2.2.2.1,.arr tTxn y.2.2.2.2.2.2.2.2.2.2.2.2.2.2.2.2]) (fun(y:q81T)=>k (.tup [.agg [.i y.1,.i y.2.1,.i y.2.2.1,.i y.2.2.2.1,.i y.2.2.2.2.1,.own 0,.own 1,.bool y.2.2.2.2.2.1,.str y.2.2.2.2.2.2.1,.str y.2.2.2.2.2.2.2.1,.bool y.2.2.2.2.2.2.2.2.1,.own 2,.own 3,.own 4,.i y.2.2.2.2.2.2.2.2.2.1,.i y.2.2.2.2.2.2.2.2.2.2.1],.bool y.2.2.2.2.2.2.2.2.2.2.2.1]) [.arr tRange y.2.2.2.2.2.2.2.2.2.2.2.2.1,.arr tWrite y.2.2.2.2.2.2.2.2.2.2.2.2.2.1,.arr tVersion y.2.2.2.2.2.2.2.2.2.2.2.2.2.2.1,.dep tTxn y.2.2.2.2.2.2.2.2.2.2.2.2.2.2.2.1 0,.dep tTxn y.2.2.2.2.2.2.2.2.2.2.2.2.2.2.2.2 0])))
 (none)
def wxc (args:List AV)(st:St)(k:K1):Option Res:=
 val [.int .u32,.str] [] args st (fun p q=>wa9 p.1 p.2.1 (fun(y:Int)=>k (.int .u32 y) []))
 (none)
def wxl (args:List AV)(st:St)(k:K1):Option Res:=
 val [.str] [] args st (fun p q=>v86 p.1 (fun(y:Int)=>k (.int .u32 y) []))
 (none)
def wx3 (args:List AV)(st:St)(k:K1):Option Res:=
 val [.str] [] args st (fun p q=>vyv p.1 (fun(y:(ByteArray×Bool))=>k (.tup [.str y.1,.bool y.2]) []))
 (none)
def wxz (args:List AV)(st:St)(k:K1):Option Res:=
 val [.str] [] args st (fun p q=>v9s p.1 (fun(y:(ByteArray×Bool))=>k (.tup [.str y.1,.bool y.2]) []))
 (none)
def wx0 (args:List AV)(st:St)(k:K1):Option Res:=
 val [.i,.i,.i] [] args st (fun p q=>vdl p.1 p.2.1 p.2.2.1 (fun(y:Bool)=>k (.bool y) []))
 (none)
def wwo (args:List AV)(st:St)(k:K1):Option Res:=
 val [.i] [] args st (fun p q=>vpi p.1 (fun(y:(ByteArray×Bool))=>k (.tup [.str y.1,.bool y.2]) []))
 (none)
def wxw (args:List AV)(st:St)(k:K1):Option Res:=
 val [.str,.i] [] args st (fun p q=>v2q p.1 p.2.1 (fun(y:(Int×Int×Bool))=>k (.tup [.i y.1,.i y.2.1,.bool y.2.2]) []))
 (none)
def wwt (args:List AV)(st:St)(k:K1):Option Res:=
 val [.str,.i] [] args st (fun p q=>v9x p.1 p.2.1 (fun(y:(ByteArray×Int×Bool))=>k (.tup [.str y.1,.i y.2.1,.bool y.2.2]) []))
 (none)
def wxk (args:List AV)(st:St)(k:K1):Option Res:=
 val [.bp 0 0] [.box [.str,.i,.bool]] args st (fun p q=>vgc q.1.1 q.1.2.1 q.1.2.2.1 (fun(y:q44T)=>k (.str y.1) [.box [.str y.2.1,.i y.2.2.1,.bool y.2.2.2]]))
 (none)
def wxe (args:List AV)(st:St)(k:K1):Option Res:=
 val [.bp 0 0] [.box [.str,.i,.bool]] args st (fun p q=>vrf q.1.1 q.1.2.1 q.1.2.2.1 (fun(y:q27T)=>k (.bool y.1) [.box [.str y.2.1,.i y.2.2.1,.bool y.2.2.2]]))
 (none)
def wyi (args:List AV)(st:St)(k:K1):Option Res:=
 val [.bp 0 0] [.box [.str,.i,.bool]] args st (fun p q=>vgz q.1.1 q.1.2.1 q.1.2.2.1 (fun(y:(Int×ByteArray×Int×Bool))=>k (.i y.1) [.box [.str y.2.1,.i y.2.2.1,.bool y.2.2.2]]))
 (none)
def v9l (args:List AV)(st:St)(k:K1):Option Res:=
 val [.bp 0 0,.bp 1 0] [.box [.bp 2 0],.box [.nilS,.nilS,.nilS,.i,.i],.box [.str,.i,.bool]] args st (fun p q=>wpc q.2.1.2.2.2.1 q.2.1.2.2.2.2.1 q.2.2.1.1 q.2.2.1.2.1 q.2.2.1.2.2.1 (fun(y:q65T)=>k (.tup []) [.box [.bp 2 0],.box [.own 3,.nilS,.nilS,.i y.1,.i y.2.1],.box [.str y.2.2.1,.i y.2.2.2.1,.bool y.2.2.2.2.1],.arr tVersion y.2.2.2.2.2]))
 (val [.bp 0 0,.bp 1 0] [.box [.bp 2 0],.box [.own 3,.nilS,.nilS,.i,.i],.box [.str,.i,.bool],.arr tVersion] args st (fun p q=>whn q.2.1.2.2.2.1 q.2.1.2.2.2.2.1 q.2.2.1.1 q.2.2.1.2.1 q.2.2.1.2.2.1 q.2.2.2.1 (fun(y:q65T)=>k (.tup []) [.box [.bp 2 0],.box [.own 4,.nilS,.nilS,.i y.1,.i y.2.1],.box [.str y.2.2.1,.i y.2.2.2.1,.bool y.2.2.2.2.1],.gone,.arr tVersion y.2.2.2.2.2]))
 (none))
def vf6 (args:List AV)(st:St)(k:K1):Option Res:=
 val [.bp 0 0,.fn 159 [.bp 1 0,.bp 2 0]] [.box [.str,.i,.bool],.box [.bp 0 0],.box [.nilS,.nilS,.nilS,.i,.i]] args st (fun p q=>v9g q.1.1 q.1.2.1 q.1.2.2.1 q.2.2.1.2.2.2.1 q.2.2.1.2.2.2.2.1 (fun(y:q49T)=>k (.tup []) [.box [.str y.1,.i y.2.1,.bool y.2.2.1],.box [.bp 0 0],.box [.own 3,.nilS,.nilS,.i y.2.2.2.1,.i y.2.2.2.2.1],.arr tVersion y.2.2.2.2.2]))
 (none)
def wak (args:List AV)(st:St)(k:K1):Option Res:=
 val [.bp 0 0,.bp 1 0] [.box [.i,.i,.i,.i,.nilS,.nilS,.bool,.str],.box [.bp 2 0],.box [.str,.i,.bool]] args st (fun p q=>wp5 q.1.1 q.1.2.1 q.1.2.2.1 q.1.2.2.2.1 q.1.2.2.2.2.2.2.1 q.1.2.2.2.2.2.2.2.1 q.2.2.1.1 q.2.2.1.2.1 q.2.2.1.2.2.1 (fun(y:q76T)=>k (.tup []) [.box [.i y.1,.i y.2.1,.i y.2.2.1,.i y.2.2.2.1,.own 3,.nilS,.bool y.2.2.2.2.1,.str y.2.2.2.2.2.1],.box [.bp 2 0],.box [.str y.2.2.2.2.2.2.1,.i y.2.2.2.2.2.2.2.1,.bool y.2.2.2.2.2.2.2.2.1],.arr tRange y.2.2.2.2.2.2.2.2.2]))
 (val [.bp 0 0,.bp 1 0] [.box [.i,.i,.i,.i,.own 2,.nilS,.bool,.str],.box [.bp 3 0],.arr tRange,.box [.str,.i,.bool]] args st (fun p q=>wfg q.1.1 q.1.2.1 q.1.2.2.1 q.1.2.2.2.1 q.1.2.2.2.2.2.2.1 q.1.2.2.2.2.2.2.2.1 q.2.2.1 q.2.2.2.1.1 q.2.2.2.1.2.1 q.2.2.2.1.2.2.1 (fun(y:q76T)=>k (.tup []) [.box [.i y.1,.i y.2.1,.i y.2.2.1,.i y.2.2.2.1,.own 4,.nilS,.bool y.2.2.2.2.1,.str y.2.2.2.2.2.1],.box [.bp 3 0],.gone,.box [.str y.2.2.2.2.2.2.1,.i y.2.2.2.2.2.2.2.1,.bool y.2.2.2.2.2.2.2.2.1],.arr tRange y.2.2.2.2.2.2.2.2.2]))
 (none))
def vcr (args:List AV)(st:St)(k:K1):Option Res:=
 val [.bp 0 0,.fn 162 [.bp 1 0,.bp 2 0]] [.box [.str,.i,.bool],.box [.i,.i,.i,.i,.nilS,.nilS,.bool,.str],.box [.bp 0 0]] args st (fun p q=>wag q.1.1 q.1.2.1 q.1.2.2.1 q.2.1.1 q.2.1.2.1 q.2.1.2.2.1 q.2.1.2.2.2.1 q.2.1.2.2.2.2.2.2.1 q.2.1.2.2.2.2.2.2.2.1 (fun(y:q51T)=>k (.tup []) [.box [.str y.1,.i y.2.1,.bool y.2.2.1],.box [.i y.2.2.2.1,.i y.2.2.2.2.1,.i y.2.2.2.2.2.1,.i y.2.2.2.2.2.2.1,.own 3,.nilS,.bool y.2.2.2.2.2.2.2.1,.str y.2.2.2.2.2.2.2.2.1],.box [.bp 0 0],.arr tRange y.2.2.2.2.2.2.2.2.2]))
 (vf6 args st k)
def v9m (args:List AV)(st:St)(k:K1):Option Res:=
 val [.bp 0 0,.bp 1 0] [.box [.bp 2 0],.box [.i,.i,.i,.i,.own 3,.nilS,.bool,.str],.box [.str,.i,.bool],.arr tRange] args st (fun p q=>wrc q.2.1.1 q.2.1.2.1 q.2.1.2.2.1 q.2.1.2.2.2.1 q.2.1.2.2.2.2.2.2.1 q.2.1.2.2.2.2.2.2.2.1 q.2.2.1.1 q.2.2.1.2.1 q.2.2.1.2.2.1 q.2.2.2.1 (fun(y:q75T)=>k (.tup []) [.box [.bp 2 0],.box [.i y.1,.i y.2.1,.i y.2.2.1,.i y.2.2.2.1,.own 3,.own 4,.bool y.2.2.2.2.1,.str y.2.2.2.2.2.1],.box [.str y.2.2.2.2.2.2.1,.i y.2.2.2.2.2.2.2.1,.bool y.2.2.2.2.2.2.2.2.1],.arr tRange y.2.2.2.2.2.2.2.2.2.1,.arr tWrite y.2.2.2.2.2.2.2.2.2.2]))
 (val [.bp 0 0,.bp 1 0] [.box [.bp 2 0],.box [.i,.i,.i,.i,.own 3,.own 4,.bool,.str],.box [.str,.i,.bool],.arr tRange,.arr tWrite] args st (fun p q=>wir q.2.1.1 q.2.1.2.1 q.2.1.2.2.1 q.2.1.2.2.2.1 q.2.1.2.2.2.2.2.2.1 q.2.1.2.2.2.2.2.2.2.1 q.2.2.1.1 q.2.2.1.2.1 q.2.2.1.2.2.1 q.2.2.2.1 q.2.2.2.2.1 (fun(y:q75T)=>k (.tup []) [.box [.bp 2 0],.box [.i y.1,.i y.2.1,.i y.2.2.1,.i y.2.2.2.1,.own 3,.own 5,.bool y.2.2.2.2.1,.str y.2.2.2.2.2.1],.box [.str y.2.2.2.2.2.2.1,.i y.2.2.2.2.2.2.2.1,.bool y.2.2.2.2.2.2.2.2.1],.arr tRange y.2.2.2.2.2.2.2.2.2.1,.gone,.arr tWrite y.2.2.2.2.2.2.2.2.2.2]))
 (none))
def vco (args:List AV)(st:St)(k:K1):Option Res:=
 val [.bp 0 0,.fn 163 [.bp 1 0,.bp 2 0]] [.box [.str,.i,.bool],.box [.bp 0 0],.box [.i,.i,.i,.i,.own 3,.nilS,.bool,.str],.arr tRange] args st (fun p q=>wah q.1.1 q.1.2.1 q.1.2.2.1 q.2.2.1.1 q.2.2.1.2.1 q.2.2.1.2.2.1 q.2.2.1.2.2.2.1 q.2.2.1.2.2.2.2.2.2.1 q.2.2.1.2.2.2.2.2.2.2.1 q.2.2.2.1 (fun(y:q50T)=>k (.tup []) [.box [.str y.1,.i y.2.1,.bool y.2.2.1],.box [.bp 0 0],.box [.i y.2.2.2.1,.i y.2.2.2.2.1,.i y.2.2.2.2.2.1,.i y.2.2.2.2.2.2.1,.own 3,.own 4,.bool y.2.2.2.2.2.2.2.1,.str y.2.2.2.2.2.2.2.2.1],.arr tRange y.2.2.2.2.2.2.2.2.2.1,.arr tWrite y.2.2.2.2.2.2.2.2.2.2]))
 (vcr args st k)
def wxx (args:List AV)(st:St)(k:K1):Option Res:=
 val [.str] [] args st (fun p q=>vjs p.1 (fun(y:Bool)=>k (.bool y) []))
 (none)
def wwn (args:List AV)(st:St)(k:K1):Option Res:=
 val [.agg [.str,.str]] [] args st (fun p q=>v28 (p.1.1,p.1.2.1) (fun(y:Bool)=>k (.bool y) []))
 (none)
def wx2 (args:List AV)(st:St)(k:K1):Option Res:=
 val [.agg [.str,.str,.bool]] [] args st (fun p q=>v3m (p.1.1,(p.1.2.1,p.1.2.2.1)) (fun(y:Bool)=>k (.bool y) []))
 (none)
def wxy (args:List AV)(st:St)(k:K1):Option Res:=
 val [.lst tWrite] [] args st (fun p q=>vye p.1 (fun(y:Bool)=>k (.bool y) []))
 (none)
def wyg (args:List AV)(st:St)(k:K1):Option Res:=
 val [.agg [.i,.i,.i,.i,.lst tRange,.lst tWrite,.bool,.str]] [] args st (fun p q=>vhg (p.1.1,(p.1.2.1,(p.1.2.2.1,(p.1.2.2.2.1,(p.1.2.2.2.2.1,(p.1.2.2.2.2.2.1,(p.1.2.2.2.2.2.2.1,p.1.2.2.2.2.2.2.2.1))))))) (fun(y:Bool)=>k (.bool y) []))
 (none)
def wxd (args:List AV)(st:St)(k:K1):Option Res:=
 val [.bp 0 0] [.box [.str,.i,.bool]] args st (fun p q=>vrm q.1.1 q.1.2.1 q.1.2.2.1 (fun(y:q75T)=>k (.agg [.i y.1,.i y.2.1,.i y.2.2.1,.i y.2.2.2.1,.own 1,.own 2,.bool y.2.2.2.2.1,.str y.2.2.2.2.2.1]) [.box [.str y.2.2.2.2.2.2.1,.i y.2.2.2.2.2.2.2.1,.bool y.2.2.2.2.2.2.2.2.1],.arr tRange y.2.2.2.2.2.2.2.2.2.1,.arr tWrite y.2.2.2.2.2.2.2.2.2.2]))
 (none)
def wqc (args:List AV)(st:St)(k:K1):Option Res:=
 val [.bp 0 0,.bp 1 0] [.box [.own 2,.nilS,.nilS,.i,.i],.box [.bp 3 0],.arr tVersion,.box [.str,.i,.bool]] args st (fun p q=>wrf q.1.2.2.2.1 q.1.2.2.2.2.1 q.2.2.1 q.2.2.2.1.1 q.2.2.2.1.2.1 q.2.2.2.1.2.2.1 (fun(y:q63T)=>k (.tup []) [.box [.own 2,.own 4,.nilS,.i y.1,.i y.2.1],.box [.bp 3 0],.arr tVersion y.2.2.1,.box [.str y.2.2.2.1,.i y.2.2.2.2.1,.bool y.2.2.2.2.2.1],.dep tTxn y.2.2.2.2.2.2 0]))
 (none)
def v6k (args:List AV)(st:St)(k:K1):Option Res:=
 val [.bp 0 0,.bp 1 0] [.box [.own 2,.own 3,.nilS,.i,.i],.box [.bp 4 0],.arr tVersion,.dep tTxn 0,.box [.str,.i,.bool]] args st (fun p q=>wi0 q.1.2.2.2.1 q.1.2.2.2.2.1 q.2.2.1 q.2.2.2.1 q.2.2.2.2.1.1 q.2.2.2.2.1.2.1 q.2.2.2.2.1.2.2.1 (fun(y:q63T)=>k (.tup []) [.box [.own 2,.own 5,.nilS,.i y.1,.i y.2.1],.box [.bp 4 0],.arr tVersion y.2.2.1,.gone,.box [.str y.2.2.2.1,.i y.2.2.2.2.1,.bool y.2.2.2.2.2.1],.dep tTxn y.2.2.2.2.2.2 0]))
 (wqc args st k)
def vcq (args:List AV)(st:St)(k:K1):Option Res:=
 val [.bp 0 0,.fn 160 [.bp 1 0,.bp 2 0]] [.box [.str,.i,.bool],.box [.own 3,.nilS,.nilS,.i,.i],.box [.bp 0 0],.arr tVersion] args st (fun p q=>v3w q.1.1 q.1.2.1 q.1.2.2.1 q.2.1.2.2.2.1 q.2.1.2.2.2.2.1 q.2.2.2.1 (fun(y:q48T)=>k (.tup []) [.box [.str y.1,.i y.2.1,.bool y.2.2.1],.box [.own 3,.own 4,.nilS,.i y.2.2.2.1,.i y.2.2.2.2.1],.box [.bp 0 0],.arr tVersion y.2.2.2.2.2.1,.dep tTxn y.2.2.2.2.2.2 0]))
 (vco args st k)
def wn8 (args:List AV)(st:St)(k:K1):Option Res:=
 val [.bp 0 0,.bp 1 0] [.box [.own 2,.own 3,.nilS,.i,.i],.box [.bp 4 0],.arr tVersion,.dep tTxn 0,.box [.str,.i,.bool]] args st (fun p q=>wpe q.1.2.2.2.1 q.1.2.2.2.2.1 q.2.2.1 q.2.2.2.1 q.2.2.2.2.1.1 q.2.2.2.2.1.2.1 q.2.2.2.2.1.2.2.1 (fun(y:q62T)=>k (.tup []) [.box [.own 2,.own 3,.own 5,.i y.1,.i y.2.1],.box [.bp 4 0],.arr tVersion y.2.2.1,.dep tTxn y.2.2.2.1 0,.box [.str y.2.2.2.2.1,.i y.2.2.2.2.2.1,.bool y.2.2.2.2.2.2.1],.dep tTxn y.2.2.2.2.2.2.2 0]))
 (none)
def v5o (args:List AV)(st:St)(k:K1):Option Res:=
 val [.bp 0 0,.bp 1 0] [.box [.own 2,.own 3,.own 4,.i,.i],.box [.bp 5 0],.arr tVersion,.dep tTxn 0,.dep tTxn 0,.box [.str,.i,.bool]] args st (fun p q=>wh5 q.1.2.2.2.1 q.1.2.2.2.2.1 q.2.2.1 q.2.2.2.1 q.2.2.2.2.1 q.2.2.2.2.2.1.1 q.2.2.2.2.2.1.2.1 q.2.2.2.2.2.1.2.2.1 (fun(y:q62T)=>k (.tup []) [.box [.own 2,.own 3,.own 6,.i y.1,.i y.2.1],.box [.bp 5 0],.arr tVersion y.2.2.1,.dep tTxn y.2.2.2.1 0,.gone,.box [.str y.2.2.2.2.1,.i y.2.2.2.2.2.1,.bool y.2.2.2.2.2.2.1],.dep tTxn y.2.2.2.2.2.2.2 0]))
 (wn8 args st k)
def vdh (args:List AV)(st:St)(k:K1):Option Res:=
 val [.bp 0 0,.fn 161 [.bp 1 0,.bp 2 0]] [.box [.str,.i,.bool],.box [.own 3,.own 4,.nilS,.i,.i],.box [.bp 0 0],.arr tVersion,.dep tTxn 0] args st (fun p q=>v3b q.1.1 q.1.2.1 q.1.2.2.1 q.2.1.2.2.2.1 q.2.1.2.2.2.2.1 q.2.2.2.1 q.2.2.2.2.1 (fun(y:q47T)=>k (.tup []) [.box [.str y.1,.i y.2.1,.bool y.2.2.1],.box [.own 3,.own 4,.own 5,.i y.2.2.2.1,.i y.2.2.2.2.1],.box [.bp 0 0],.arr tVersion y.2.2.2.2.2.1,.dep tTxn y.2.2.2.2.2.2.1 0,.dep tTxn y.2.2.2.2.2.2.2 0]))
 (vcq args st k)
def wyb (args:List AV)(st:St)(k:K1):Option Res:=
 val [.str] [] args st (fun p q=>wbh p.1 (fun(y:Bool)=>k (.bool y) []))
 (none)
def wye (args:List AV)(st:St)(k:K1):Option Res:=
 val [.str,.str] [] args st (fun p q=>v9i p.1 p.2.1 (fun(y:Int)=>k (.i y) []))
 (none)
def wwr (args:List AV)(st:St)(k:K1):Option Res:=
 val [.i] [] args st (fun p q=>v9c p.1 (fun(y:Bool)=>k (.bool y) []))
 (none)
def wxa (args:List AV)(st:St)(k:K1):Option Res:=
 val [.i,.i] [] args st (fun p q=>wbd p.1 p.2.1 (fun(y:Int)=>k (.i y) []))
 (none)
def wwi (args:List AV)(st:St)(k:K1):Option Res:=
 val [.agg [.str,.str,.bool,.i],.agg [.str,.str,.bool,.i]] [] args st (fun p q=>vv1 (p.1.1,(p.1.2.1,(p.1.2.2.1,p.1.2.2.2.1))) (p.2.1.1,(p.2.1.2.1,(p.2.1.2.2.1,p.2.1.2.2.2.1))) (fun(y:Int)=>k (.i y) []))
 (none)
def ww0 (args:List AV)(st:St)(k:K1):Option Res:=
 val [.lst tVersion] [] args st (fun p q=>vzv p.1 (fun(y:Bool)=>k (.bool y) []))
 (none)
def wxr (args:List AV)(st:St)(k:K1):Option Res:=
 val [.agg [.i,.i,.i,.i,.lst tRange,.lst tWrite,.bool,.str]] [] args st (fun p q=>vvi (p.1.1,(p.1.2.1,(p.1.2.2.1,(p.1.2.2.2.1,(p.1.2.2.2.2.1,(p.1.2.2.2.2.2.1,(p.1.2.2.2.2.2.2.1,p.1.2.2.2.2.2.2.2.1))))))) (fun(y:Bool)=>k (.bool y) []))
 (none)
def wya (args:List AV)(st:St)(k:K1):Option Res:=
 val [.agg [.i,.i,.i,.i,.lst tRange,.lst tWrite,.bool,.str]] [] args st (fun p q=>vvg (p.1.1,(p.1.2.1,(p.1.2.2.1,(p.1.2.2.2.1,(p.1.2.2.2.2.1,(p.1.2.2.2.2.2.1,(p.1.2.2.2.2.2.2.1,p.1.2.2.2.2.2.2.2.1))))))) (fun(y:Bool)=>k (.bool y) []))
 (none)
def vly (args:List AV)(st:St)(k:K1):Option Res:=
 val [.nilS,.i] [] args st (fun p q=>v4u p.2.1 (Sum.elim (fun(y:(List dTxn))=>k (.own 0) [.arr tTxn y]) (fun(y:(List dTxn))=>k (.own 0) [.dep tTxn y 0])))
 (none)
def ww3 (args:List AV)(st:St)(k:K1):Option Res:=
 val [.lst (.slice tTxn)] [] args st (fun p q=>vvv p.1 (Sum.elim (fun(y:(List dTxn))=>k (.own 0) [.arr tTxn y]) (fun(y:(List dTxn))=>k (.own 0) [.dep tTxn y 0])))
 (none)
def ww6 (args:List AV)(st:St)(k:K1):Option Res:=
 val [.agg [.i,.i,.i,.i,.lst tRange,.lst tWrite,.bool,.str],.bp 0 0] [.box [.i,.i,.i,.i,.lst tRange,.lst tWrite,.bool,.str]] args st (fun p q=>v31 (p.1.1,(p.1.2.1,(p.1.2.2.1,(p.1.2.2.2.1,(p.1.2.2.2.2.1,(p.1.2.2.2.2.2.1,(p.1.2.2.2.2.2.2.1,p.1.2.2.2.2.2.2.2.1))))))) q.1.1 q.1.2.1 q.1.2.2.1 q.1.2.2.2.1 q.1.2.2.2.2.1 q.1.2.2.2.2.2.1 q.1.2.2.2.2.2.2.1 q.1.2.2.2.2.2.2.2.1 (fun(y:q31T)=>k (.bool y.1) [.box [.i y.2.1,.i y.2.2.1,.i y.2.2.2.1,.i y.2.2.2.2.1,.lst tRange y.2.2.2.2.2.1,.lst tWrite y.2.2.2.2.2.2.1,.bool y.2.2.2.2.2.2.2.1,.str y.2.2.2.2.2.2.2.2]]))
 (none)
def vgb (args:List AV)(st:St)(k:K1):Option Res:=
 val [.lst tTxn,.fn 214 [.bp 0 0]] [.box [.i,.i,.i,.i,.lst tRange,.lst tWrite,.bool,.str]] args st (fun p q=>v83 p.1 q.1.1 q.1.2.1 q.1.2.2.1 q.1.2.2.2.1 q.1.2.2.2.2.1 q.1.2.2.2.2.2.1 q.1.2.2.2.2.2.2.1 q.1.2.2.2.2.2.2.2.1 (fun(y:q80T)=>k (.i y.1) [.box [.i y.2.1,.i y.2.2.1,.i y.2.2.2.1,.i y.2.2.2.2.1,.lst tRange y.2.2.2.2.2.1,.lst tWrite y.2.2.2.2.2.2.1,.bool y.2.2.2.2.2.2.2.1,.str y.2.2.2.2.2.2.2.2]]))
 (none)
def vev (args:List AV)(st:St)(k:K1):Option Res:=
 val [.lst tTxn,.fn 214 [.bp 0 0]] [.box [.i,.i,.i,.i,.lst tRange,.lst tWrite,.bool,.str]] args st (fun p q=>whs p.1 q.1.1 q.1.2.1 q.1.2.2.1 q.1.2.2.2.1 q.1.2.2.2.2.1 q.1.2.2.2.2.2.1 q.1.2.2.2.2.2.2.1 q.1.2.2.2.2.2.2.2.1 (fun(y:q31T)=>k (.bool y.1) [.box [.i y.2.1,.i y.2.2.1,.i y.2.2.2.1,.i y.2.2.2.2.1,.lst tRange y.2.2.2.2.2.1,.lst tWrite y.2.2.2.2.2.2.1,.bool y.2.2.2.2.2.2.2.1,.str y.2.2.2.2.2.2.2.2]]))
 (none)
def vz5 (args:List AV)(st:St)(k:K1):Option Res:=
 val [.lst tTxn,.fn 214 [.bp 0 0]] [.box [.i,.i,.i,.i,.lst tRange,.lst tWrite,.bool,.str]] args st (fun p q=>v5c p.1 q.1.1 q.1.2.1 q.1.2.2.1 q.1.2.2.2.1 q.1.2.2.2.2.1 q.1.2.2.2.2.2.1 q.1.2.2.2.2.2.2.1 q.1.2.2.2.2.2.2.2.1 (fun(y:q31T)=>k (.bool y.1) [.box [.i y.2.1,.i y.2.2.1,.i y.2.2.2.1,.i y.2.2.2.2.1,.lst tRange y.2.2.2.2.2.1,.lst tWrite y.2.2.2.2.2.2.1,.bool y.2.2.2.2.2.2.2.1,.str y.2.2.2.2.2.2.2.2]]))
 (none)
def wyj (args:List AV)(st:St)(k:K1):Option Res:=
 val [.lst tTxn,.i] [] args st (fun p q=>vt8 p.1 p.2.1 (fun(y:Bool)=>k (.bool y) []))
 (none)
def wxp (args:List AV)(st:St)(k:K1):Option Res:=
 val [.agg [.lst tVersion,.lst tTxn,.lst tTxn,.i,.i]] [] args st (fun p q=>vrk (p.1.1,(p.1.2.1,(p.1.2.2.1,(p.1.2.2.2.1,p.1.2.2.2.2.1)))) (fun(y:Bool)=>k (.bool y) []))
 (none)
def wxq (args:List AV)(st:St)(k:K1):Option Res:=
 val [.bp 0 0] [.box [.str,.i,.bool]] args st (fun p q=>v26 q.1.1 q.1.2.1 q.1.2.2.1 (fun(y:q64T)=>k (.agg [.own 1,.own 2,.own 3,.i y.1,.i y.2.1]) [.box [.str y.2.2.1,.i y.2.2.2.1,.bool y.2.2.2.2.1],.arr tVersion y.2.2.2.2.2.1,.dep tTxn y.2.2.2.2.2.2.1 0,.dep tTxn y.2.2.2.2.2.2.2 0]))
 (none)
def ww1 (args:List AV)(st:St)(k:K1):Option Res:=
 val [.agg [.i,.i,.i,.i,.lst tRange,.lst tWrite,.bool,.str]] [] args st (fun p q=>v3y (p.1.1,(p.1.2.1,(p.1.2.2.1,(p.1.2.2.2.1,(p.1.2.2.2.2.1,(p.1.2.2.2.2.2.1,(p.1.2.2.2.2.2.2.1,p.1.2.2.2.2.2.2.2.1))))))) (fun(y:Bool)=>k (.bool y) []))
 (none)
def wwf (args:List AV)(st:St)(k:K1):Option Res:=
 val [.agg [.lst tVersion,.lst tTxn,.lst tTxn,.i,.i]] [] args st (fun p q=>v3u (p.1.1,(p.1.2.1,(p.1.2.2.1,(p.1.2.2.2.1,p.1.2.2.2.2.1)))) (fun(y:Bool)=>k (.bool y) []))
 (none)
def wwc (args:List AV)(st:St)(k:K1):Option Res:=
 val [.agg [.i,.i,.i,.i,.i,.lst tRange,.lst tWrite,.bool,.str,.str,.bool,.lst tVersion,.lst tTxn,.lst tTxn,.i,.i]] [] args st (fun p q=>v21 (p.1.1,((p.1.2.1,(p.1.2.2.1,(p.1.2.2.2.1,(p.1.2.2.2.2.1,(p.1.2.2.2.2.2.1,(p.1.2.2.2.2.2.2.1,(p.1.2.2.2.2.2.2.2.1,p.1.2.2.2.2.2.2.2.2.1))))))),(p.1.2.2.2.2.2.2.2.2.2.1,(p.1.2.2.2.2.2.2.2.2.2.2.1,(p.1.2.2.2.2.2.2.2.2.2.2.2.1,(p.1.2.2.2.2.2.2.2.2.2.2.2.2.1,(p.1.2.2.2.2.2.2.2.2.2.2.2.2.2.1,(p.1.2.2.2.2.2.2.2.2.2.2.2.2.2.2.1,p.1.2.2.2.2.2.2.2.2.2.2.2.2.2.2.2.1)))))))) (fun(y:Bool)=>k (.bool y) []))
 (none)
def wwj (args:List AV)(st:St)(k:K1):Option Res:=
 val [.str] [] args st (fun p q=>v4p p.1 (fun(y:(ByteArray×Bool))=>k (.tup [.str y.1,.bool y.2]) []))
 (none)
def wyd (args:List AV)(st:St)(k:K1):Option Res:=
 val [.bp 0 0,.lst .str] [.box [.own 1],.arr (.int .u8)] args st (fun p q=>vhc p.2.1 q.2.1 (Sum.elim (fun(y:(List Int))=>k (.tup []) [.box [.own 1],.arr (.int .u8) y]) (fun(y:(List Int))=>k (.tup []) [.box [.own 2],.gone,.arr (.int .u8) y])))
 (none)
def wyk (args:List AV)(st:St)(k:K1):Option Res:=
 val [.bp 0 0,.bool] [.box [.own 1],.arr (.int .u8)] args st (fun p q=>vgd p.2.1 q.2.1 (fun(y:(List Int))=>k (.tup []) [.box [.own 2],.gone,.arr (.int .u8) y]))
 (none)
def v9y (args:List AV)(st:St)(k:K1):Option Res:=
 val [.bp 0 0,.lst (.i)] [.box [.nilS]] args st (fun p q=>vs7 p.2.1 (fun(y:(List Int))=>k (.tup []) [.box [.own 1],.arr (.int .u8) y]))
 (val [.bp 0 0,.lst (.i)] [.box [.own 1],.arr (.int .u8)] args st (fun p q=>vn5 p.2.1 q.2.1 (Sum.elim (fun(y:(List Int))=>k (.tup []) [.box [.own 1],.arr (.int .u8) y]) (fun(y:(List Int))=>k (.tup []) [.box [.own 2],.gone,.arr (.int .u8) y])))
 (none))
def wxu (args:List AV)(st:St)(k:K1):Option Res:=
 val [.agg [.i,.i,.i,.i,.lst tRange,.lst tWrite,.bool,.str]] [] args st (fun p q=>vw0 (p.1.1,(p.1.2.1,(p.1.2.2.1,(p.1.2.2.2.1,(p.1.2.2.2.2.1,(p.1.2.2.2.2.2.1,(p.1.2.2.2.2.2.2.1,p.1.2.2.2.2.2.2.2.1))))))) (fun(y:(ByteArray×Bool))=>k (.tup [.str y.1,.bool y.2]) []))
 (none)
def wwv (args:List AV)(st:St)(k:K1):Option Res:=
 val [.agg [.lst tVersion,.lst tTxn,.lst tTxn,.i,.i]] [] args st (fun p q=>v4m (p.1.1,(p.1.2.1,(p.1.2.2.1,(p.1.2.2.2.1,p.1.2.2.2.2.1)))) (fun(y:(ByteArray×Bool))=>k (.tup [.str y.1,.bool y.2]) []))
 (none)
def wyh (args:List AV)(st:St)(k:K1):Option Res:=
 val [.agg [.i,.i,.i,.i,.i,.lst tRange,.lst tWrite,.bool,.str,.str,.bool,.lst tVersion,.lst tTxn,.lst tTxn,.i,.i]] [] args st (fun p q=>waa (p.1.1,((p.1.2.1,(p.1.2.2.1,(p.1.2.2.2.1,(p.1.2.2.2.2.1,(p.1.2.2.2.2.2.1,(p.1.2.2.2.2.2.2.1,(p.1.2.2.2.2.2.2.2.1,p.1.2.2.2.2.2.2.2.2.1))))))),(p.1.2.2.2.2.2.2.2.2.2.1,(p.1.2.2.2.2.2.2.2.2.2.2.1,(p.1.2.2.2.2.2.2.2.2.2.2.2.1,(p.1.2.2.2.2.2.2.2.2.2.2.2.2.1,(p.1.2.2.2.2.2.2.2.2.2.2.2.2.2.1,(p.1.2.2.2.2.2.2.2.2.2.2.2.2.2.2.1,p.1.2.2.2.2.2.2.2.2.2.2.2.2.2.2.2.1)))))))) (fun(y:(ByteArray×Bool))=>k (.tup [.str y.1,.bool y.2]) []))
 (none)
def wws (args:List AV)(st:St)(k:K1):Option Res:=
 val [.str] [] args st (fun p q=>vrd p.1 (fun(y:q81T)=>k (.tup [.agg [.i y.1,.i y.2.1,.i y.2.2.1,.i y.2.2.2.1,.i y.2.2.2.2.1,.own 0,.own 1,.bool y.2.2.2.2.2.1,.str y.2.2.2.2.2.2.1,.str y.2.2.2.2.2.2.2.1,.bool y.2.2.2.2.2.2.2.2.1,.own 2,.own 3,.own 4,.i y.2.2.2.2.2.2.2.2.2.1,.i y.2.2.2.2.2.2.2.2.2.2.1],.bool y.2.2.2.2.2.2.2.2.2.2.2.1]) [.arr tRange y.2.2.2.2.2.2.2.2.2.2.2.2.1,.arr tWrite y.2.2.2.2.2.2.2.2.2.2.2.2.2.1,.arr tVersion y.2.2.2.2.2.2.2.2.2.2.2.2.2.2.1,.dep tTxn y.2.2.2.2.2.2.2.2.2.2.2.2.2.2.2.1 0,.dep tTxn y.2.2.2.2.2.2.2.2.2.2.2.2.2.2.2.2 0]))
 (none)
def wxv (args:List AV)(st:St)(k:K1):Option Res:=
 val [.agg [.str,.str],.agg [.str,.str]] [] args st (fun p q=>v4y (p.1.1,p.1.2.1) (p.2.1.1,p.2.1.2.1) (fun(y:Bool)=>k (.bool y) []))
 (none)
def wxm (args:List AV)(st:St)(k:K1):Option Res:=
 val [.lst tRange,.lst tRange] [] args st (fun p q=>v36 p.1 p.2.1 (fun(y:Bool)=>k (.bool y) []))
 (none)
def wxh (args:List AV)(st:St)(k:K1):Option Res:=
 val [.agg [.str,.str,.bool],.agg [.str,.str,.bool]] [] args st (fun p q=>v4b (p.1.1,(p.1.2.1,p.1.2.2.1)) (p.2.1.1,(p.2.1.2.1,p.2.1.2.2.1)) (fun(y:Bool)=>k (.bool y) []))
 (none)
def wx7 (args:List AV)(st:St)(k:K1):Option Res:=
 val [.lst tWrite,.lst tWrite] [] args st (fun p q=>v24 p.1 p.2.1 (fun(y:Bool)=>k (.bool y) []))
 (none)
def www (args:List AV)(st:St)(k:K1):Option Res:=
 val [.agg [.i,.i,.i,.i,.lst tRange,.lst tWrite,.bool,.str],.agg [.i,.i,.i,.i,.lst tRange,.lst tWrite,.bool,.str]] [] args st (fun p q=>vv6 (p.1.1,(p.1.2.1,(p.1.2.2.1,(p.1.2.2.2.1,(p.1.2.2.2.2.1,(p.1.2.2.2.2.2.1,(p.1.2.2.2.2.2.2.1,p.1.2.2.2.2.2.2.2.1))))))) (p.2.1.1,(p.2.1.2.1,(p.2.1.2.2.1,(p.2.1.2.2.2.1,(p.2.1.2.2.2.2.1,(p.2.1.2.2.2.2.2.1,(p.2.1.2.2.2.2.2.2.1,p.2.1.2.2.2.2.2.2.2.1))))))) (fun(y:Bool)=>k (.bool y) []))
 (none)
def wxt (args:List AV)(st:St)(k:K1):Option Res:=
 val [.agg [.str,.str,.bool,.i],.agg [.str,.str,.bool,.i]] [] args st (fun p q=>v4z (p.1.1,(p.1.2.1,(p.1.2.2.1,p.1.2.2.2.1))) (p.2.1.1,(p.2.1.2.1,(p.2.1.2.2.1,p.2.1.2.2.2.1))) (fun(y:Bool)=>k (.bool y) []))
 (none)
def ww4 (args:List AV)(st:St)(k:K1):Option Res:=
 val [.lst tVersion,.lst tVersion] [] args st (fun p q=>v3n p.1 p.2.1 (fun(y:Bool)=>k (.bool y) []))
 (none)
def wwq (args:List AV)(st:St)(k:K1):Option Res:=
 val [.lst tTxn,.lst tTxn] [] args st (fun p q=>v0e p.1 p.2.1 (fun(y:Bool)=>k (.bool y) []))
 (none)
def wyn (args:List AV)(st:St)(k:K1):Option Res:=
 val [.agg [.lst tVersion,.lst tTxn,.lst tTxn,.i,.i],.agg [.lst tVersion,.lst tTxn,.lst tTxn,.i,.i]] [] args st (fun p q=>v4s (p.1.1,(p.1.2.1,(p.1.2.2.1,(p.1.2.2.2.1,p.1.2.2.2.2.1)))) (p.2.1.1,(p.2.1.2.1,(p.2.1.2.2.1,(p.2.1.2.2.2.1,p.2.1.2.2.2.2.1)))) (fun(y:Bool)=>k (.bool y) []))
 (none)
def wwa (args:List AV)(st:St)(k:K1):Option Res:=
 val [.agg [.i,.i,.i,.i,.i,.lst tRange,.lst tWrite,.bool,.str,.str,.bool,.lst tVersion,.lst tTxn,.lst tTxn,.i,.i],.agg [.i,.i,.i,.i,.i,.lst tRange,.lst tWrite,.bool,.str,.str,.bool,.lst tVersion,.lst tTxn,.lst tTxn,.i,.i]] [] args st (fun p q=>vp3 (p.1.1,((p.1.2.1,(p.1.2.2.1,(p.1.2.2.2.1,(p.1.2.2.2.2.1,(p.1.2.2.2.2.2.1,(p.1.2.2.2.2.2.2.1,(p.1.2.2.2.2.2.2.2.1,p.1.2.2.2.2.2.2.2.2.1))))))),(p.1.2.2.2.2.2.2.2.2.2.1,(p.1.2.2.2.2.2.2.2.2.2.2.1,(p.1.2.2.2.2.2.2.2.2.2.2.2.1,(p.1.2.2.2.2.2.2.2.2.2.2.2.2.1,(p.1.2.2.2.2.2.2.2.2.2.2.2.2.2.1,(p.1.2.2.2.2.2.2.2.2.2.2.2.2.2.2.1,p.1.2.2.2.2.2.2.2.2.2.2.2.2.2.2.2.1)))))))) (p.2.1.1,((p.2.1.2.1,(p.2.1.2.2.1,(p.2.1.2.2.2.1,(p.2.1.2.2.2.2.1,(p.2.1.2.2.2.2.2.1,(p.2.1.2.2.2.2.2.2.1,(p.2.1.2.2.2.2.2.2.2.1,p.2.1.2.2.2.2.2.2.2.2.1))))))),(p.2.1.2.2.2.2.2.2.2.2.2.1,(p.2.1.2.2.2.2.2.2.2.2.2.2.1,(p.2.1.2.2.2.2.2.2.2.2.2.2.2.1,(p.2.1.2.2.2.2.2.2.2.2.2.2.2.2.1,(p.2.1.2.2.2.2.2.2.2.2.2.2.2.2.2.1,(p.2.1.2.2.2.2.2.2.2.2.2.2.2.2.2.2.1,p.2.1.2.2.2.2.2.2.2.2.2.2.2.2.2.2.2.1)))))))) (fun(y:Bool)=>k (.bool y) []))
 (none)
def wv7 (args:List AV)(st:St)(k:K1):Option Res:=
 val [.i] [] args st (fun p q=>vc8 p.1 (fun(y:ByteArray)=>k (.str y) []))
 (none)
def vmg (args:List AV)(st:St)(k:K1):Option Res:=
 val [.own 0,.i] [.arr tRange] args st (fun p q=>vzj p.2.1 q.1 (fun(y:(Int×(List vai)))=>k (.i y.1) [.arr tRange y.2]))
 (none)
def vmd (args:List AV)(st:St)(k:K1):Option Res:=
 val [.own 0,.i] [.arr tWrite] args st (fun p q=>vyb p.2.1 q.1 (fun(y:(Int×(List vag)))=>k (.i y.1) [.arr tWrite y.2]))
 (none)
def vrn (args:List AV)(st:St)(k:K1):Option Res:=
 val [.agg [.i,.i,.i,.i,.own 0,.own 1,.bool,.str],.i] [.arr tRange,.arr tWrite] args st (fun p q=>wa2 p.1.1 p.1.2.1 p.1.2.2.1 p.1.2.2.2.1 p.1.2.2.2.2.2.2.1 p.1.2.2.2.2.2.2.2.1 p.2.1 q.1 q.2.1 (fun(y:q56T)=>k (.i y.1) [.arr tRange y.2.1,.arr tWrite y.2.2]))
 (none)
def viz (args:List AV)(st:St)(k:K1):Option Res:=
 val [.own 0,.i] [.arr tVersion] args st (fun p q=>v8p p.2.1 q.1 (fun(y:(Int×(List vaa)))=>k (.i y.1) [.arr tVersion y.2]))
 (none)
def vo5 (args:List AV)(st:St)(k:K1):Option Res:=
 val [.own 0,.i] [.dep tTxn 0] args st (fun p q=>v42 p.2.1 q.1 (fun(y:(Int×(List dTxn)))=>k (.i y.1) [.dep tTxn y.2 0]))
 (none)
def vo6 (args:List AV)(st:St)(k:K1):Option Res:=
 val [.agg [.own 0,.own 1,.own 2,.i,.i],.i] [.arr tVersion,.dep tTxn 0,.dep tTxn 0] args st (fun p q=>v8o p.1.2.2.2.1 p.1.2.2.2.2.1 p.2.1 q.1 q.2.1 q.2.2.1 (fun(y:q57T)=>k (.i y.1) [.arr tVersion y.2.1,.dep tTxn y.2.2.1 0,.dep tTxn y.2.2.2 0]))
 (none)
def vmf (args:List AV)(st:St)(k:K1):Option Res:=
 val [.agg [.i,.i,.i,.i,.i,.own 0,.own 1,.bool,.str,.str,.bool,.own 2,.own 3,.own 4,.i,.i],.i] [.arr tRange,.arr tWrite,.arr tVersion,.dep tTxn 0,.dep tTxn 0] args st (fun p q=>v48 p.1.1 p.1.2.1 p.1.2.2.1 p.1.2.2.2.1 p.1.2.2.2.2.1 p.1.2.2.2.2.2.2.2.1 p.1.2.2.2.2.2.2.2.2.1 p.1.2.2.2.2.2.2.2.2.2.1 p.1.2.2.2.2.2.2.2.2.2.2.1 p.1.2.2.2.2.2.2.2.2.2.2.2.2.2.2.1 p.1.2.2.2.2.2.2.2.2.2.2.2.2.2.2.2.1 p.2.1 q.1 q.2.1 q.2.2.1 q.2.2.2.1 q.2.2.2.2.1 (fun(y:q55T)=>k (.i y.1) [.arr tRange y.2.1,.arr tWrite y.2.2.1,.arr tVersion y.2.2.2.1,.dep tTxn y.2.2.2.2.1 0,.dep tTxn y.2.2.2.2.2 0]))
 (none)
def wx1 (args:List AV)(st:St)(k:K1):Option Res:=
 val [.lst tRange,.i] [] args st (fun p q=>vt4 p.1 p.2.1 (fun(y:Int)=>k (.i y) []))
 (none)
def wwl (args:List AV)(st:St)(k:K1):Option Res:=
 val [.lst tWrite,.i] [] args st (fun p q=>vtj p.1 p.2.1 (fun(y:Int)=>k (.i y) []))
 (none)
def wwm (args:List AV)(st:St)(k:K1):Option Res:=
 val [.agg [.i,.i,.i,.i,.lst tRange,.lst tWrite,.bool,.str],.i] [] args st (fun p q=>wat (p.1.1,(p.1.2.1,(p.1.2.2.1,(p.1.2.2.2.1,(p.1.2.2.2.2.1,(p.1.2.2.2.2.2.1,(p.1.2.2.2.2.2.2.1,p.1.2.2.2.2.2.2.2.1))))))) p.2.1 (fun(y:Int)=>k (.i y) []))
 (none)
def wx9 (args:List AV)(st:St)(k:K1):Option Res:=
 val [.lst tVersion,.i] [] args st (fun p q=>v5d p.1 p.2.1 (fun(y:Int)=>k (.i y) []))
 (none)
def ww9 (args:List AV)(st:St)(k:K1):Option Res:=
 val [.lst tTxn,.i] [] args st (fun p q=>vzx p.1 p.2.1 (fun(y:Int)=>k (.i y) []))
 (none)
def ww5 (args:List AV)(st:St)(k:K1):Option Res:=
 val [.agg [.lst tVersion,.lst tTxn,.lst tTxn,.i,.i],.i] [] args st (fun p q=>v8x (p.1.1,(p.1.2.1,(p.1.2.2.1,(p.1.2.2.2.1,p.1.2.2.2.2.1)))) p.2.1 (fun(y:Int)=>k (.i y) []))
 (none)
def wwd (args:List AV)(st:St)(k:K1):Option Res:=
 val [.agg [.i,.i,.i,.i,.i,.lst tRange,.lst tWrite,.bool,.str,.str,.bool,.lst tVersion,.lst tTxn,.lst tTxn,.i,.i],.i] [] args st (fun p q=>vvk (p.1.1,((p.1.2.1,(p.1.2.2.1,(p.1.2.2.2.1,(p.1.2.2.2.2.1,(p.1.2.2.2.2.2.1,(p.1.2.2.2.2.2.2.1,(p.1.2.2.2.2.2.2.2.1,p.1.2.2.2.2.2.2.2.2.1))))))),(p.1.2.2.2.2.2.2.2.2.2.1,(p.1.2.2.2.2.2.2.2.2.2.2.1,(p.1.2.2.2.2.2.2.2.2.2.2.2.1,(p.1.2.2.2.2.2.2.2.2.2.2.2.2.1,(p.1.2.2.2.2.2.2.2.2.2.2.2.2.2.1,(p.1.2.2.2.2.2.2.2.2.2.2.2.2.2.2.1,p.1.2.2.2.2.2.2.2.2.2.2.2.2.2.2.2.1)))))))) p.2.1 (fun(y:Int)=>k (.i y) []))
 (none)
def wpq (args:List AV)(st:St)(k:K1):Option Res:=
 val [.str] [] args st (fun p q=>wa7 p.1 (fun(y:Bool)=>k (.bool y) []))
 (none)
end
end Go.VE
