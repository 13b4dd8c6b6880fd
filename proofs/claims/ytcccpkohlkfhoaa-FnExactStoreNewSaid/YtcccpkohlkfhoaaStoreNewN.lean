/- Native programs of the functions, written by gen.py. -/
import Derived.Test.YtcccpkohlkfhoaaT0
import Derived.Test.YtcccpkohlkfhoaaU27
namespace Go.VE
noncomputable section
set_option linter.unusedVariables false
set_option linter.unusedSimpArgs false
set_option maxRecDepth 100000
abbrev q0T:Type:=((List ByteArray)×(List ByteArray)×Bool×Int)
abbrev q1T:Type:=((List ByteArray)×Int×Int×Int)
abbrev q2T:Type:=((List dPut)×(List dPut)×Bool×Int)
abbrev q3T:Type:=((List dPut)×Int×Int×Int)
abbrev q4T:Type:=((List vbx)×(List vbx)×Bool×Int)
abbrev q5T:Type:=((List vbx)×Int×Int×Int)
abbrev q6T:Type:=((List dTxn)×(List dTxn)×Bool×Int)
abbrev q7T:Type:=((List dTxn)×Int×Int×Int)
abbrev q8T:Type:=((List vaf)×(List vaf)×Bool×Int)
abbrev q9T:Type:=((List vaf)×Int×Int×Int)
abbrev q10T:Type:=((List vbw)×(List vbw)×Bool×Int)
abbrev q11T:Type:=((List vbw)×Int×Int×Int)
def vz3  (k:(Int×Int)→Option Res):Option Res:=
 k (0,1)
def vp9:=shut vz3
theorem vzq:vp9=vz3:=vae _
instance n41n_p  : ParC (vp9 ):=by rw [vzq];unfold vz3;(try dsimp only);infer_instance
def vu7  (k:(Int×Int)→Option Res):Option Res:=
 vp9  (fun y1=>
 k (y1.1,y1.2))
def vqg:=shut vu7
theorem vxz:vqg=vu7:=vae _
instance n43n_p  : ParC (vqg ):=by rw [vxz];unfold vu7;(try dsimp only);infer_instance
def vu9  (k:Int→Option Res):Option Res:=
 k (97:Int)
def vuf:=shut vu9
theorem vzd:vuf=vu9:=vae _
instance n49n_p  : ParC (vuf ):=by rw [vzd];unfold vu9;(try dsimp only);infer_instance
def vup (a0:Int)(a1:Int)(a2:Int)(k:Bool→Option Res):Option Res:=
 bif (decide (a0≥a1))then
 k (decide (a0≤a2))
 else
 k false
def vq5:=shut vup
theorem v0o:vq5=vup:=vae _
instance n46n_p (a0:Int)(a1:Int)(a2:Int):ParC (vq5 a0 a1 a2):=by rw [v0o];unfold vup;(try dsimp only);infer_instance
def vg7 (x:(Int×Int×Int×(List Int)))(k:(Int×Int×Int×(List Int))⊕(Int×Int×Int×(List Int))→Option Res):Option Res:=
 bif (decide (x.2.2.1<x.1))then
 if 0≤x.2.2.1∧x.2.2.1<(x.2.2.2.length:Int)then
 k (.inl (x.1,x.2.1,(IntKind.wrap .i64 (x.2.2.1+1)),(x.2.2.2.set x.2.2.1.toNat x.2.1)))
 else none
 else
 k (.inr (x.1,x.2.1,x.2.2.1,x.2.2.2))
instance n47n_bp0 (x:(Int×Int×Int×(List Int))):ParC (vg7 x):=by unfold vg7;(try dsimp only);infer_instance
def vul (a0:Int)(a1:Int)(k:ByteArray→Option Res):Option Res:=
 if 0≤a0∧a0≤a0∧a0≤(VE.maxLen:Int)then
 vai vg7 Fuel (a0,a1,0,(List.replicate a0.toNat (Ty.zero (.int .u8)))) (fun z1=>
 k (ves z1.2.2.2))
 else none
def vvi:=shut vul
theorem vx2:vvi=vul:=vae _
instance n47n_p (a0:Int)(a1:Int):ParC (vvi a0 a1):=by rw [vx2];unfold vul;(try dsimp only);infer_instance
def vuc  (k:ByteArray→Option Res):Option Res:=
 vvi (64:Int) (0:Int) (fun y1=>
 k y1)
def vqi:=shut vuc
theorem vz1:vqi=vuc:=vae _
instance n48n_p  : ParC (vqi ):=by rw [vz1];unfold vuc;(try dsimp only);infer_instance
def vf9 (x:(Int×Int×(List ByteArray)))(k:(Int×Int×(List ByteArray))⊕(Int×Int×(List ByteArray))→Option Res):Option Res:=
 bif (decide (x.2.1<x.1))then
 vqi  (fun y3=>
 if x.2.2.length+[y3].length≤VE.maxLen then
 k (.inl (x.1,(IntKind.wrap .i64 (x.2.1+1)),(x.2.2++[y3])))
 else none)
 else
 k (.inr (x.1,x.2.1,x.2.2))
instance n42n_bp0 (x:(Int×Int×(List ByteArray))):ParC (vf9 x):=by unfold vf9;(try dsimp only);infer_instance
def vtw (a0:Int)(k:(Bool×(List ByteArray))→Option Res):Option Res:=
 vq5 a0 (1:Int) (100:Int) (fun y1=>
 bif (!y1)then
 k (false,([]:List ByteArray))
 else
 vai vf9 Fuel (a0,0,([]:List ByteArray)) (fun z2=>
 k (true,z2.2.2)))
def vu5:=shut vtw
theorem vzm:vu5=vtw:=vae _
instance n42n_p (a0:Int):ParC (vu5 a0):=by rw [vzm];unfold vtw;(try dsimp only);infer_instance
def vt3  (k:(List ByteArray)→Option Res):Option Res:=
 vuf  (fun y1=>
 vu5 y1 (fun y2=>
 k y2.2))
def vum:=shut vt3
theorem vx3:vum=vt3:=vae _
instance n44n_p  : ParC (vum ):=by rw [vx3];unfold vt3;(try dsimp only);infer_instance
def vt6  (k:(Int×Int×(List ByteArray))→Option Res):Option Res:=
 vqg  (fun y1=>
 vum  (fun y2=>
 k (y1.1,y1.2,y2)))
def vr3:=shut vt6
theorem vzk:vr3=vt6:=vae _
instance n45n_p  : ParC (vr3 ):=by rw [vzk];unfold vt6;(try dsimp only);infer_instance
def vzp  (k:(Int×Int)→Option Res):Option Res:=
 k (0,1)
def vqd:=shut vzp
theorem vz5:vqd=vzp:=vae _
instance n00n_p  : ParC (vqd ):=by rw [vz5];unfold vzp;(try dsimp only);infer_instance
def vvk  (k:(Int×Int)→Option Res):Option Res:=
 vqd  (fun y1=>
 k (y1.1,y1.2))
def vq8:=shut vvk
theorem vy9:vq8=vvk:=vae _
instance n02n_p  : ParC (vq8 ):=by rw [vy9];unfold vvk;(try dsimp only);infer_instance
def vud (a0:Int)(a1:Int)(a2:Int)(k:Bool→Option Res):Option Res:=
 bif (decide (a0≥a1))then
 k (decide (a0≤a2))
 else
 k false
def vr9:=shut vud
theorem vyk:vr9=vud:=vae _
instance n05n_p (a0:Int)(a1:Int)(a2:Int):ParC (vr9 a0 a1 a2):=by rw [vyk];unfold vud;(try dsimp only);infer_instance
def vq0 (a0:ByteArray)(a1:Int)(k:ByteArray→Option Res):Option Res:=
 if 0≤a1∧a1≤9223372036854775807∧a0.size*a1.toNat≤140737488355328 then
 k (repB a0 a1)
 else none
def vsd:=shut vq0
theorem vza:vsd=vq0:=vae _
instance n50n_p (a0:ByteArray)(a1:Int):ParC (vsd a0 a1):=by rw [vza];unfold vq0;(try dsimp only);infer_instance
def vfg (x:(Int×Int×(List ByteArray)))(k:(Int×Int×(List ByteArray))⊕(Int×Int×(List ByteArray))→Option Res):Option Res:=
 bif (decide (x.2.1<x.1))then
 vsd (⟨#[0]⟩:ByteArray) (64:Int) (fun y3=>
 if x.2.2.length+[y3].length≤VE.maxLen then
 k (.inl (x.1,(IntKind.wrap .i64 (x.2.1+1)),(x.2.2++[y3])))
 else none)
 else
 k (.inr (x.1,x.2.1,x.2.2))
instance n01n_bp0 (x:(Int×Int×(List ByteArray))):ParC (vfg x):=by unfold vfg;(try dsimp only);infer_instance
def vvq (a0:Int)(k:(Bool×(List ByteArray))→Option Res):Option Res:=
 vr9 a0 (1:Int) (100:Int) (fun y1=>
 bif (!y1)then
 k (false,([]:List ByteArray))
 else
 vai vfg Fuel (a0,0,([]:List ByteArray)) (fun z2=>
 k (true,z2.2.2)))
def vvc:=shut vvq
theorem vy0:vvc=vvq:=vae _
instance n01n_p (a0:Int):ParC (vvc a0):=by rw [vy0];unfold vvq;(try dsimp only);infer_instance
def vuj  (k:(List ByteArray)→Option Res):Option Res:=
 vvc (97:Int) (fun y1=>
 k y1.2)
def vu6:=shut vuj
theorem vzl:vu6=vuj:=vae _
instance n03n_p  : ParC (vu6 ):=by rw [vzl];unfold vuj;(try dsimp only);infer_instance
def vvf  (k:(Int×Int×(List ByteArray))→Option Res):Option Res:=
 vq8  (fun y1=>
 vu6  (fun y2=>
 k (y1.1,y1.2,y2)))
def vmv:=shut vvf
theorem v0g:vmv=vvf:=vae _
instance n04n_p  : ParC (vmv ):=by rw [v0g];unfold vvf;(try dsimp only);infer_instance
def vt0 (a0:vaf)(a1:vaf)(k:Bool→Option Res):Option Res:=
 bif (!(vbm a0.1 a1.1))then
 k false
 else
 bif (!(vbm a0.2.1 a1.2.1))then
 k false
 else
 bif (!(a0.2.2.1==a1.2.2.1))then
 k false
 else
 bif (a0.2.2.2 != a1.2.2.2)then
 k false
 else
 k true
def vm8:=shut vt0
theorem vy1:vm8=vt0:=vae _
instance n18n_p (a0:vaf)(a1:vaf):ParC (vm8 a0 a1):=by rw [vy1];unfold vt0;(try dsimp only);infer_instance
def vgd (x:q8T)(k:q8T⊕(q8T⊕q8T)→Option Res):Option Res:=
 bif (decide (x.2.2.2<(x.1.length:Int)))then
 if 0≤x.2.2.2∧x.2.2.2<(x.1.length:Int)then
 if 0≤x.2.2.2∧x.2.2.2<(x.2.1.length:Int)then
 vm8 (rd (Ty.zero tVersion) x.1 x.2.2.2) (rd (Ty.zero tVersion) x.2.1 x.2.2.2) (fun y3=>
 bif (!y3)then
 k (.inr (.inl (x.1,x.2.1,false,x.2.2.2)))
 else
 k (.inl (x.1,x.2.1,x.2.2.1,(IntKind.wrap .i64 (x.2.2.2+1)))))
 else none
 else none
 else
 k (.inr (.inr (x.1,x.2.1,x.2.2.1,x.2.2.2)))
instance n19n_bp0 (x:q8T):ParC (vgd x):=by unfold vgd;(try dsimp only);infer_instance
def vt2 (a0:(List vaf))(a1:(List vaf))(k:Bool→Option Res):Option Res:=
 bif ((a0.length:Int) != (a1.length:Int))then
 k false
 else
 vai vgd Fuel (a0,a1,false,0) (Sum.elim (fun z1=>
 k z1.2.2.1) (fun _=>
 k true))
def vn3:=shut vt2
theorem vyz:vn3=vt2:=vae _
instance n19n_p (a0:(List vaf))(a1:(List vaf)):ParC (vn3 a0 a1):=by rw [vyz];unfold vt2;(try dsimp only);infer_instance
def vvh (a0:vbx)(a1:vbx)(k:Bool→Option Res):Option Res:=
 bif (!(vbm a0.1 a1.1))then
 k false
 else
 bif (!(vbm a0.2 a1.2))then
 k false
 else
 k true
def vn8:=shut vvh
theorem vzu:vn8=vvh:=vae _
instance n12n_p (a0:vbx)(a1:vbx):ParC (vn8 a0 a1):=by rw [vzu];unfold vvh;(try dsimp only);infer_instance
def vfy (x:q4T)(k:q4T⊕(q4T⊕q4T)→Option Res):Option Res:=
 bif (decide (x.2.2.2<(x.1.length:Int)))then
 if 0≤x.2.2.2∧x.2.2.2<(x.1.length:Int)then
 if 0≤x.2.2.2∧x.2.2.2<(x.2.1.length:Int)then
 vn8 (rd (Ty.zero tRange) x.1 x.2.2.2) (rd (Ty.zero tRange) x.2.1 x.2.2.2) (fun y3=>
 bif (!y3)then
 k (.inr (.inl (x.1,x.2.1,false,x.2.2.2)))
 else
 k (.inl (x.1,x.2.1,x.2.2.1,(IntKind.wrap .i64 (x.2.2.2+1)))))
 else none
 else none
 else
 k (.inr (.inr (x.1,x.2.1,x.2.2.1,x.2.2.2)))
instance n13n_bp0 (x:q4T):ParC (vfy x):=by unfold vfy;(try dsimp only);infer_instance
def vuz (a0:(List vbx))(a1:(List vbx))(k:Bool→Option Res):Option Res:=
 bif ((a0.length:Int) != (a1.length:Int))then
 k false
 else
 vai vfy Fuel (a0,a1,false,0) (Sum.elim (fun z1=>
 k z1.2.2.1) (fun _=>
 k true))
def vn5:=shut vuz
theorem vy8:vn5=vuz:=vae _
instance n13n_p (a0:(List vbx))(a1:(List vbx)):ParC (vn5 a0 a1):=by rw [vy8];unfold vuz;(try dsimp only);infer_instance
def vvd (a0:vbw)(a1:vbw)(k:Bool→Option Res):Option Res:=
 bif (!(vbm a0.1 a1.1))then
 k false
 else
 bif (!(vbm a0.2.1 a1.2.1))then
 k false
 else
 bif (!(a0.2.2==a1.2.2))then
 k false
 else
 k true
def vn6:=shut vvd
theorem vxy:vn6=vvd:=vae _
instance n20n_p (a0:vbw)(a1:vbw):ParC (vn6 a0 a1):=by rw [vxy];unfold vvd;(try dsimp only);infer_instance
def vfn (x:q10T)(k:q10T⊕(q10T⊕q10T)→Option Res):Option Res:=
 bif (decide (x.2.2.2<(x.1.length:Int)))then
 if 0≤x.2.2.2∧x.2.2.2<(x.1.length:Int)then
 if 0≤x.2.2.2∧x.2.2.2<(x.2.1.length:Int)then
 vn6 (rd (Ty.zero tWrite) x.1 x.2.2.2) (rd (Ty.zero tWrite) x.2.1 x.2.2.2) (fun y3=>
 bif (!y3)then
 k (.inr (.inl (x.1,x.2.1,false,x.2.2.2)))
 else
 k (.inl (x.1,x.2.1,x.2.2.1,(IntKind.wrap .i64 (x.2.2.2+1)))))
 else none
 else none
 else
 k (.inr (.inr (x.1,x.2.1,x.2.2.1,x.2.2.2)))
instance n21n_bp0 (x:q10T):ParC (vfn x):=by unfold vfn;(try dsimp only);infer_instance
def vva (a0:(List vbw))(a1:(List vbw))(k:Bool→Option Res):Option Res:=
 bif ((a0.length:Int) != (a1.length:Int))then
 k false
 else
 vai vfn Fuel (a0,a1,false,0) (Sum.elim (fun z1=>
 k z1.2.2.1) (fun _=>
 k true))
def vng:=shut vva
theorem vyc:vng=vva:=vae _
instance n21n_p (a0:(List vbw))(a1:(List vbw)):ParC (vng a0 a1):=by rw [vyc];unfold vva;(try dsimp only);infer_instance
def vvr (a0:dTxn)(a1:dTxn)(k:Bool→Option Res):Option Res:=
 bif (a0.1 != a1.1)then
 k false
 else
 bif (a0.2.1 != a1.2.1)then
 k false
 else
 bif (a0.2.2.1 != a1.2.2.1)then
 k false
 else
 bif (a0.2.2.2.1 != a1.2.2.2.1)then
 k false
 else
 vn5 a0.2.2.2.2.1 a1.2.2.2.2.1 (fun y1=>
 bif (!y1)then
 k false
 else
 vng a0.2.2.2.2.2.1 a1.2.2.2.2.2.1 (fun y2=>
 bif (!y2)then
 k false
 else
 bif (!(a0.2.2.2.2.2.2.1==a1.2.2.2.2.2.2.1))then
 k false
 else
 bif (!(vbm a0.2.2.2.2.2.2.2 a1.2.2.2.2.2.2.2))then
 k false
 else
 k true))
def vll:=shut vvr
theorem vzx:vll=vvr:=vae _
instance n16n_p (a0:dTxn)(a1:dTxn):ParC (vll a0 a1):=by rw [vzx];unfold vvr;(try dsimp only);infer_instance
def vfh (x:q6T)(k:q6T⊕(q6T⊕q6T)→Option Res):Option Res:=
 bif (decide (x.2.2.2<(x.1.length:Int)))then
 if 0≤x.2.2.2∧x.2.2.2<(x.1.length:Int)then
 if 0≤x.2.2.2∧x.2.2.2<(x.2.1.length:Int)then
 vll (rd (Ty.zero tTxn) x.1 x.2.2.2) (rd (Ty.zero tTxn) x.2.1 x.2.2.2) (fun y3=>
 bif (!y3)then
 k (.inr (.inl (x.1,x.2.1,false,x.2.2.2)))
 else
 k (.inl (x.1,x.2.1,x.2.2.1,(IntKind.wrap .i64 (x.2.2.2+1)))))
 else none
 else none
 else
 k (.inr (.inr (x.1,x.2.1,x.2.2.1,x.2.2.2)))
instance n17n_bp0 (x:q6T):ParC (vfh x):=by unfold vfh;(try dsimp only);infer_instance
def vuo (a0:(List dTxn))(a1:(List dTxn))(k:Bool→Option Res):Option Res:=
 bif ((a0.length:Int) != (a1.length:Int))then
 k false
 else
 vai vfh Fuel (a0,a1,false,0) (Sum.elim (fun z1=>
 k z1.2.2.1) (fun _=>
 k true))
def vja:=shut vuo
theorem vz4:vja=vuo:=vae _
instance n17n_p (a0:(List dTxn))(a1:(List dTxn)):ParC (vja a0 a1):=by rw [vz4];unfold vuo;(try dsimp only);infer_instance
def vus (a0:vqu)(a1:vqu)(k:Bool→Option Res):Option Res:=
 vn3 a0.1 a1.1 (fun y1=>
 bif (!y1)then
 k false
 else
 vja a0.2.1 a1.2.1 (fun y2=>
 bif (!y2)then
 k false
 else
 vja a0.2.2.1 a1.2.2.1 (fun y3=>
 bif (!y3)then
 k false
 else
 bif (a0.2.2.2.1 != a1.2.2.2.1)then
 k false
 else
 bif (a0.2.2.2.2 != a1.2.2.2.2)then
 k false
 else
 k true)))
def vnz:=shut vus
theorem v0i:vnz=vus:=vae _
instance n07n_p (a0:vqu)(a1:vqu):ParC (vnz a0 a1):=by rw [v0i];unfold vus;(try dsimp only);infer_instance
def vvv (a0:vhe)(a1:vhe)(k:Bool→Option Res):Option Res:=
 vnz a0.1 a1.1 (fun y1=>
 bif (!y1)then
 k false
 else
 vja a0.2 a1.2 (fun y2=>
 bif (!y2)then
 k false
 else
 k true))
def vnd:=shut vvv
theorem vzi:vnd=vvv:=vae _
instance n09n_p (a0:vhe)(a1:vhe):ParC (vnd a0 a1):=by rw [vzi];unfold vvv;(try dsimp only);infer_instance
def vfv (x:q0T)(k:q0T⊕(q0T⊕q0T)→Option Res):Option Res:=
 bif (decide (x.2.2.2<(x.1.length:Int)))then
 if 0≤x.2.2.2∧x.2.2.2<(x.1.length:Int)then
 if 0≤x.2.2.2∧x.2.2.2<(x.2.1.length:Int)then
 bif (!(vbm (rd (Ty.zero .str) x.1 x.2.2.2) (rd (Ty.zero .str) x.2.1 x.2.2.2)))then
 k (.inr (.inl (x.1,x.2.1,false,x.2.2.2)))
 else
 k (.inl (x.1,x.2.1,x.2.2.1,(IntKind.wrap .i64 (x.2.2.2+1))))
 else none
 else none
 else
 k (.inr (.inr (x.1,x.2.1,x.2.2.1,x.2.2.2)))
instance n15n_bp0 (x:q0T):ParC (vfv x):=by unfold vfv;(try dsimp only);infer_instance
def vu0 (a0:(List ByteArray))(a1:(List ByteArray))(k:Bool→Option Res):Option Res:=
 bif ((a0.length:Int) != (a1.length:Int))then
 k false
 else
 vai vfv Fuel (a0,a1,false,0) (Sum.elim (fun z1=>
 k z1.2.2.1) (fun _=>
 k true))
def vni:=shut vu0
theorem vze:vni=vu0:=vae _
instance n15n_p (a0:(List ByteArray))(a1:(List ByteArray)):ParC (vni a0 a1):=by rw [vze];unfold vu0;(try dsimp only);infer_instance
def vyo (a0:dPut)(a1:dPut)(k:Bool→Option Res):Option Res:=
 bif (a0.1 != a1.1)then
 k false
 else
 bif (!(vbm a0.2 a1.2))then
 k false
 else
 k true
def vr5:=shut vyo
theorem v3x:vr5=vyo:=vae _
instance n10n_p (a0:dPut)(a1:dPut):ParC (vr5 a0 a1):=by rw [v3x];unfold vyo;(try dsimp only);infer_instance
def vga (x:q2T)(k:q2T⊕(q2T⊕q2T)→Option Res):Option Res:=
 bif (decide (x.2.2.2<(x.1.length:Int)))then
 if 0≤x.2.2.2∧x.2.2.2<(x.1.length:Int)then
 if 0≤x.2.2.2∧x.2.2.2<(x.2.1.length:Int)then
 vr5 (rd (Ty.zero tPut) x.1 x.2.2.2) (rd (Ty.zero tPut) x.2.1 x.2.2.2) (fun y3=>
 bif (!y3)then
 k (.inr (.inl (x.1,x.2.1,false,x.2.2.2)))
 else
 k (.inl (x.1,x.2.1,x.2.2.1,(IntKind.wrap .i64 (x.2.2.2+1)))))
 else none
 else none
 else
 k (.inr (.inr (x.1,x.2.1,x.2.2.1,x.2.2.2)))
instance n11n_bp0 (x:q2T):ParC (vga x):=by unfold vga;(try dsimp only);infer_instance
def vvs (a0:(List dPut))(a1:(List dPut))(k:Bool→Option Res):Option Res:=
 bif ((a0.length:Int) != (a1.length:Int))then
 k false
 else
 vai vga Fuel (a0,a1,false,0) (Sum.elim (fun z1=>
 k z1.2.2.1) (fun _=>
 k true))
def vmt:=shut vvs
theorem vye:vmt=vvs:=vae _
instance n11n_p (a0:(List dPut))(a1:(List dPut)):ParC (vmt a0 a1):=by rw [vye];unfold vvs;(try dsimp only);infer_instance
def vuw (a0:vsl)(a1:vsl)(k:Bool→Option Res):Option Res:=
 vni a0.1 a1.1 (fun y1=>
 bif (!y1)then
 k false
 else
 vmt a0.2 a1.2 (fun y2=>
 bif (!y2)then
 k false
 else
 k true))
def vt9:=shut vuw
theorem vyg:vt9=vuw:=vae _
instance n08n_p (a0:vsl)(a1:vsl):ParC (vt9 a0 a1):=by rw [vyg];unfold vuw;(try dsimp only);infer_instance
def vu1 (a0:vm4)(a1:vm4)(k:Bool→Option Res):Option Res:=
 vnd a0.1 a1.1 (fun y1=>
 bif (!y1)then
 k false
 else
 vt9 a0.2 a1.2 (fun y2=>
 bif (!y2)then
 k false
 else
 k true))
def vnr:=shut vu1
theorem vzf:vnr=vu1:=vae _
instance n14n_p (a0:vm4)(a1:vm4):ParC (vnr a0 a1):=by rw [vzf];unfold vu1;(try dsimp only);infer_instance
def vhs (x:(Int×ByteArray))(k:(Int×ByteArray)⊕(Int×ByteArray)→Option Res):Option Res:=
 bif (decide (x.1>0))then
 if(ves [(IntKind.wrap .u8 (IntKind.wrap .i64 ((48:Int)+(x.1.tmod (10:Int)))))]).size+x.2.size≤1099511627776 then
 k (.inl ((IntKind.wrap .i64 (x.1.tdiv (10:Int))),((ves [(IntKind.wrap .u8 (IntKind.wrap .i64 ((48:Int)+(x.1.tmod (10:Int)))))])++x.2)))
 else none
 else
 k (.inr (x.1,x.2))
instance n38n_bp0 (x:(Int×ByteArray)):ParC (vhs x):=by unfold vhs;(try dsimp only);infer_instance
def vvn (a0:Int)(k:ByteArray→Option Res):Option Res:=
 bif (decide (a0≤0))then
 k (⟨#[109,48]⟩:ByteArray)
 else
 vai vhs Fuel (a0,(⟨#[]⟩:ByteArray)) (fun z1=>
 if(⟨#[109]⟩:ByteArray).size+z1.2.size≤1099511627776 then
 k ((⟨#[109]⟩:ByteArray)++z1.2)
 else none)
def vbq:=shut vvn
theorem v0f:vbq=vvn:=vae _
instance n38n_p (a0:Int):ParC (vbq a0):=by rw [v0f];unfold vvn;(try dsimp only);infer_instance
def vlj (x:(Int×Int))(k:(Int×Int)⊕(Int×Int)→Option Res):Option Res:=
 bif (decide (x.2<0))then
 vbq x.1 (fun _=>
 none)
 else
 k (.inr (x.1,x.2))
instance n40n_bp0 (x:(Int×Int)):ParC (vlj x):=by unfold vlj;(try dsimp only);infer_instance
def vty (a0:Int)(k:Int→Option Res):Option Res:=
 vai vlj Fuel (a0,0) (fun z1=>
 k z1.1)
def vrf:=shut vty
theorem vyp:vrf=vty:=vae _
instance n40n_p (a0:Int):ParC (vrf a0):=by rw [vyp];unfold vty;(try dsimp only);infer_instance
def vma (x:(Int×Int))(k:(Int×Int)⊕(Int×Int)→Option Res):Option Res:=
 bif (decide (x.2<0))then
 none
 else
 k (.inr (x.1,x.2))
instance n39n_bp0 (x:(Int×Int)):ParC (vma x):=by unfold vma;(try dsimp only);infer_instance
def vvx (a0:Int)(k:Int→Option Res):Option Res:=
 vai vma Fuel (a0,0) (fun z1=>
 k z1.1)
def vkt:=shut vvx
theorem v0k:vkt=vvx:=vae _
instance n39n_p (a0:Int):ParC (vkt a0):=by rw [v0k];unfold vvx;(try dsimp only);infer_instance
def vuy (a0:Int)(a1:Int)(a2:Int)(k:Int→Option Res):Option Res:=
 vrf a2 (fun y1=>
 vkt y1 (fun y2=>
 vkt y2 (fun y3=>
 k y3)))
def vri:=shut vuy
theorem vys:vri=vuy:=vae _
instance n32n_p (a0:Int)(a1:Int)(a2:Int):ParC (vri a0 a1 a2):=by rw [vys];unfold vuy;(try dsimp only);infer_instance
def vv0 (a0:Int)(a1:Int)(a2:Int)(k:Int→Option Res):Option Res:=
 vri a0 a1 a2 (fun y1=>
 vkt y1 (fun y2=>
 k y2))
def vqb:=shut vv0
theorem vxt:vqb=vv0:=vae _
instance n34n_p (a0:Int)(a1:Int)(a2:Int):ParC (vqb a0 a1 a2):=by rw [vxt];unfold vv0;(try dsimp only);infer_instance
def vhw (x:(Int×Int×(List ByteArray)))(k:(Int×Int×(List ByteArray))⊕(Int×Int×(List ByteArray))→Option Res):Option Res:=
 bif (decide (x.2.1<(x.2.2.length:Int)))then
 vbq x.1 (fun y2=>
 if 0≤x.2.1∧x.2.1<(x.2.2.length:Int)then
 k (.inl ((IntKind.wrap .i64 (x.1+1)),(IntKind.wrap .i64 (x.2.1+1)),(x.2.2.set x.2.1.toNat y2)))
 else none)
 else
 k (.inr (x.1,x.2.1,x.2.2))
instance n37n_bp0 (x:(Int×Int×(List ByteArray))):ParC (vhw x):=by unfold vhw;(try dsimp only);infer_instance
def vuh (a0:Int)(a1:(List ByteArray))(k:(Int×(List ByteArray))→Option Res):Option Res:=
 vai vhw Fuel (a0,0,a1) (fun z1=>
 k (z1.1,z1.2.2))
def vr8:=shut vuh
theorem v0p:vr8=vuh:=vae _
instance n37n_p (a0:Int)(a1:(List ByteArray)):ParC (vr8 a0 a1):=by rw [v0p];unfold vuh;(try dsimp only);infer_instance
def vlu (x:(Int×Int))(k:(Int×Int)⊕(Int×Int)→Option Res):Option Res:=
 bif (decide (x.2<0))then
 none
 else
 k (.inr (x.1,x.2))
instance n35n_bp0 (x:(Int×Int)):ParC (vlu x):=by unfold vlu;(try dsimp only);infer_instance
def vua (a0:Int)(k:Int→Option Res):Option Res:=
 vai vlu Fuel (a0,0) (fun z1=>
 k z1.1)
def vqn:=shut vua
theorem vyj:vqn=vua:=vae _
instance n35n_p (a0:Int):ParC (vqn a0):=by rw [vyj];unfold vua;(try dsimp only);infer_instance
def vv3 (a0:Int)(a1:(List ByteArray))(k:(Int×(List ByteArray))→Option Res):Option Res:=
 vr8 a0 a1 (fun y1=>
 vqn y1.1 (fun y2=>
 k (y2,y1.2)))
def vun:=shut vv3
theorem vyr:vun=vv3:=vae _
instance n33n_p (a0:Int)(a1:(List ByteArray)):ParC (vun a0 a1):=by rw [vyr];unfold vv3;(try dsimp only);infer_instance
def vvo (a0:Int)(a1:Int)(a2:Int)(a3:(List ByteArray))(k:(Int×(List ByteArray))→Option Res):Option Res:=
 vqb a0 a1 a2 (fun y1=>
 vun y1 a3 (fun y2=>
 k (y2.1,y2.2)))
def vr4:=shut vvo
theorem vy7:vr4=vvo:=vae _
instance n36n_p (a0:Int)(a1:Int)(a2:Int)(a3:(List ByteArray)):ParC (vr4 a0 a1 a2 a3):=by rw [vy7];unfold vvo;(try dsimp only);infer_instance
def vft (x:q9T)(k:q9T⊕(q9T⊕q9T)→Option Res):Option Res:=
 let t0:=(IntKind.wrap .i64 ((IntKind.wrap .i64 (x.2.1+(1:Int)))+(1:Int)))
 let t1:=(rd (Ty.zero tVersion) x.1 x.2.2.2)
 bif (decide (x.2.2.2<(x.1.length:Int)))then
 if 0≤x.2.2.2∧x.2.2.2<(x.1.length:Int)then
 vbq x.2.1 (fun y3=>
 bif (!(vbm (t1.1) y3))then
 k (.inr (.inl (x.1,x.2.1,(-1:Int),x.2.2.2)))
 else
 if 0≤x.2.2.2∧x.2.2.2<(x.1.length:Int)then
 vbq (IntKind.wrap .i64 (x.2.1+1)) (fun y4=>
 bif (!(vbm (t1.2.1) y4))then
 k (.inr (.inl (x.1,(IntKind.wrap .i64 (x.2.1+1)),(-1:Int),x.2.2.2)))
 else
 if 0≤x.2.2.2∧x.2.2.2<(x.1.length:Int)then
 bif (!(t1.2.2.1==((t0.tmod (3:Int))==(0:Int))))then
 k (.inr (.inl (x.1,t0,(-1:Int),x.2.2.2)))
 else
 if 0≤x.2.2.2∧x.2.2.2<(x.1.length:Int)then
 bif (t1.2.2.2 != (IntKind.wrap .i64 (t0+1)))then
 k (.inr (.inl (x.1,(IntKind.wrap .i64 (t0+1)),(-1:Int),x.2.2.2)))
 else
 k (.inl (x.1,(IntKind.wrap .i64 ((IntKind.wrap .i64 (t0+1))+1)),x.2.2.1,(IntKind.wrap .i64 (x.2.2.2+1))))
 else none
 else none)
 else none)
 else none
 else
 k (.inr (.inr (x.1,x.2.1,x.2.2.1,x.2.2.2)))
instance n30n_bp0 (x:q9T):ParC (vft x):=by unfold vft;(try dsimp only);infer_instance
def vvb (a0:(List vaf))(a1:Int)(k:Int→Option Res):Option Res:=
 vai vft Fuel (a0,a1,0,0) (Sum.elim (fun z1=>
 k z1.2.2.1) (fun z2=>
 k z2.2.1))
def vnq:=shut vvb
theorem vx9:vnq=vvb:=vae _
instance n30n_p (a0:(List vaf))(a1:Int):ParC (vnq a0 a1):=by rw [vx9];unfold vvb;(try dsimp only);infer_instance
def vos (x:q5T)(k:q5T⊕(q5T⊕q5T)→Option Res):Option Res:=
 bif (decide (x.2.2.2<(x.1.length:Int)))then
 if 0≤x.2.2.2∧x.2.2.2<(x.1.length:Int)then
 vbq x.2.1 (fun y3=>
 bif (!(vbm ((rd (Ty.zero tRange) x.1 x.2.2.2).1) y3))then
 k (.inr (.inl (x.1,x.2.1,(-1:Int),x.2.2.2)))
 else
 if 0≤x.2.2.2∧x.2.2.2<(x.1.length:Int)then
 vbq (IntKind.wrap .i64 (x.2.1+1)) (fun y4=>
 bif (!(vbm ((rd (Ty.zero tRange) x.1 x.2.2.2).2) y4))then
 k (.inr (.inl (x.1,(IntKind.wrap .i64 (x.2.1+1)),(-1:Int),x.2.2.2)))
 else
 k (.inl (x.1,(IntKind.wrap .i64 ((IntKind.wrap .i64 (x.2.1+1))+1)),x.2.2.1,(IntKind.wrap .i64 (x.2.2.2+1)))))
 else none)
 else none
 else
 k (.inr (.inr (x.1,x.2.1,x.2.2.1,x.2.2.2)))
instance n26n_bp0 (x:q5T):ParC (vos x):=by unfold vos;(try dsimp only);infer_instance
def v0c (a0:(List vbx))(a1:Int)(k:Int→Option Res):Option Res:=
 vai vos Fuel (a0,a1,0,0) (Sum.elim (fun z1=>
 k z1.2.2.1) (fun z2=>
 k z2.2.1))
def vp4:=shut v0c
theorem v2v:vp4=v0c:=vae _
instance n26n_p (a0:(List vbx))(a1:Int):ParC (vp4 a0 a1):=by rw [v2v];unfold v0c;(try dsimp only);infer_instance
def vpo (x:q11T)(k:q11T⊕(q11T⊕q11T)→Option Res):Option Res:=
 let t0:=(IntKind.wrap .i64 (x.2.1+(1:Int)))
 bif (decide (x.2.2.2<(x.1.length:Int)))then
 if 0≤x.2.2.2∧x.2.2.2<(x.1.length:Int)then
 vbq x.2.1 (fun y3=>
 bif (!(vbm ((rd (Ty.zero tWrite) x.1 x.2.2.2).1) y3))then
 k (.inr (.inl (x.1,x.2.1,(-1:Int),x.2.2.2)))
 else
 if 0≤x.2.2.2∧x.2.2.2<(x.1.length:Int)then
 vbq t0 (fun y4=>
 bif (!(vbm ((rd (Ty.zero tWrite) x.1 x.2.2.2).2.1) y4))then
 k (.inr (.inl (x.1,t0,(-1:Int),x.2.2.2)))
 else
 if 0≤x.2.2.2∧x.2.2.2<(x.1.length:Int)then
 bif (!((rd (Ty.zero tWrite) x.1 x.2.2.2).2.2==(((IntKind.wrap .i64 (t0+1)).tmod (3:Int))==(0:Int))))then
 k (.inr (.inl (x.1,(IntKind.wrap .i64 (t0+1)),(-1:Int),x.2.2.2)))
 else
 k (.inl (x.1,(IntKind.wrap .i64 ((IntKind.wrap .i64 (t0+1))+1)),x.2.2.1,(IntKind.wrap .i64 (x.2.2.2+1))))
 else none)
 else none)
 else none
 else
 k (.inr (.inr (x.1,x.2.1,x.2.2.1,x.2.2.2)))
instance n31n_bp0 (x:q11T):ParC (vpo x):=by unfold vpo;(try dsimp only);infer_instance
def vyl (a0:(List vbw))(a1:Int)(k:Int→Option Res):Option Res:=
 vai vpo Fuel (a0,a1,0,0) (Sum.elim (fun z1=>
 k z1.2.2.1) (fun z2=>
 k z2.2.1))
def vqp:=shut vyl
theorem v34:vqp=vyl:=vae _
instance n31n_p (a0:(List vbw))(a1:Int):ParC (vqp a0 a1):=by rw [v34];unfold vyl;(try dsimp only);infer_instance
def vf3 (x:q7T)(k:q7T⊕(q7T⊕q7T)→Option Res):Option Res:=
 let t0:=(IntKind.wrap .i64 ((IntKind.wrap .i64 (x.2.1+(1:Int)))+(1:Int)))
 let t1:=(rd (Ty.zero tTxn) x.1 x.2.2.2)
 bif (decide (x.2.2.2<(x.1.length:Int)))then
 if 0≤x.2.2.2∧x.2.2.2<(x.1.length:Int)then
 bif (t1.1 != x.2.1)then
 k (.inr (.inl (x.1,x.2.1,(-1:Int),x.2.2.2)))
 else
 if 0≤x.2.2.2∧x.2.2.2<(x.1.length:Int)then
 bif (t1.2.1 != (IntKind.wrap .i64 (x.2.1+1)))then
 k (.inr (.inl (x.1,(IntKind.wrap .i64 (x.2.1+1)),(-1:Int),x.2.2.2)))
 else
 if 0≤x.2.2.2∧x.2.2.2<(x.1.length:Int)then
 bif (t1.2.2.1 != t0)then
 k (.inr (.inl (x.1,t0,(-1:Int),x.2.2.2)))
 else
 if 0≤x.2.2.2∧x.2.2.2<(x.1.length:Int)then
 bif (t1.2.2.2.1 != (IntKind.wrap .i64 (t0+1)))then
 k (.inr (.inl (x.1,(IntKind.wrap .i64 (t0+1)),(-1:Int),x.2.2.2)))
 else
 if 0≤x.2.2.2∧x.2.2.2<(x.1.length:Int)then
 vp4 (t1.2.2.2.2.1) (IntKind.wrap .i64 ((IntKind.wrap .i64 (t0+1))+1)) (fun y3=>
 bif (decide (y3<0))then
 k (.inr (.inl (x.1,y3,(-1:Int),x.2.2.2)))
 else
 if 0≤x.2.2.2∧x.2.2.2<(x.1.length:Int)then
 vqp (t1.2.2.2.2.2.1) y3 (fun y4=>
 bif (decide (y4<0))then
 k (.inr (.inl (x.1,y4,(-1:Int),x.2.2.2)))
 else
 if 0≤x.2.2.2∧x.2.2.2<(x.1.length:Int)then
 bif (!(t1.2.2.2.2.2.2.1==((y4.tmod (3:Int))==(0:Int))))then
 k (.inr (.inl (x.1,y4,(-1:Int),x.2.2.2)))
 else
 if 0≤x.2.2.2∧x.2.2.2<(x.1.length:Int)then
 vbq (IntKind.wrap .i64 (y4+1)) (fun y5=>
 bif (!(vbm (t1.2.2.2.2.2.2.2) y5))then
 k (.inr (.inl (x.1,(IntKind.wrap .i64 (y4+1)),(-1:Int),x.2.2.2)))
 else
 k (.inl (x.1,(IntKind.wrap .i64 ((IntKind.wrap .i64 (y4+1))+1)),x.2.2.1,(IntKind.wrap .i64 (x.2.2.2+1)))))
 else none
 else none)
 else none)
 else none
 else none
 else none
 else none
 else none
 else
 k (.inr (.inr (x.1,x.2.1,x.2.2.1,x.2.2.2)))
instance n29n_bp0 (x:q7T):ParC (vf3 x):=by unfold vf3;(try dsimp only);exact⟨(vb0 (ve2 (vb0 (va7 _) (ve2 (vb0 (va7 _) (ve2 (vb0 (va7 _) (ve2 (vb0 (va7 _) (ve2 ((n26n_p _ _).p.bind fun y3=>(vb0 (va7 _) (ve2 ((n31n_p _ _).p.bind fun y4=>(vb0 (va7 _) (ve2 (vb0 (va7 _) (ve2 ((n38n_p _).p.bind fun y5=>(vb0 (va7 _) (va7 _))) vct)) vct))) vct))) vct)) vct)) vct)) vct)) vct) (va7 _))⟩
def vvy (a0:(List dTxn))(a1:Int)(k:Int→Option Res):Option Res:=
 vai vf3 Fuel (a0,a1,0,0) (Sum.elim (fun z1=>
 k z1.2.2.1) (fun z2=>
 k z2.2.1))
def vje:=shut vvy
theorem vym:vje=vvy:=vae _
instance n29n_p (a0:(List dTxn))(a1:Int):ParC (vje a0 a1):=by rw [vym];unfold vvy;(try dsimp only);infer_instance
def vue (a0:vqu)(a1:Int)(k:Int→Option Res):Option Res:=
 vnq a0.1 a1 (fun y1=>
 bif (decide (y1<0))then
 k (-1:Int)
 else
 vje a0.2.1 y1 (fun y2=>
 bif (decide (y2<0))then
 k (-1:Int)
 else
 vje a0.2.2.1 y2 (fun y3=>
 bif (decide (y3<0))then
 k (-1:Int)
 else
 k y3)))
def vr6:=shut vue
theorem vyx:vr6=vue:=vae _
instance n22n_p (a0:vqu)(a1:Int):ParC (vr6 a0 a1):=by rw [vyx];unfold vue;(try dsimp only);infer_instance
def vur (a0:vhe)(a1:Int)(k:Int→Option Res):Option Res:=
 vr6 a0.1 a1 (fun y1=>
 bif (decide (y1<0))then
 k (-1:Int)
 else
 vje a0.2 y1 (fun y2=>
 bif (decide (y2<0))then
 k (-1:Int)
 else
 k y2))
def vrd:=shut vur
theorem vyf:vrd=vur:=vae _
instance n24n_p (a0:vhe)(a1:Int):ParC (vrd a0 a1):=by rw [vyf];unfold vur;(try dsimp only);infer_instance
def vf2 (x:q1T)(k:q1T⊕(q1T⊕q1T)→Option Res):Option Res:=
 bif (decide (x.2.2.2<(x.1.length:Int)))then
 if 0≤x.2.2.2∧x.2.2.2<(x.1.length:Int)then
 vbq x.2.1 (fun y3=>
 bif (!(vbm (rd (Ty.zero .str) x.1 x.2.2.2) y3))then
 k (.inr (.inl (x.1,x.2.1,(-1:Int),x.2.2.2)))
 else
 k (.inl (x.1,(IntKind.wrap .i64 (x.2.1+1)),x.2.2.1,(IntKind.wrap .i64 (x.2.2.2+1)))))
 else none
 else
 k (.inr (.inr (x.1,x.2.1,x.2.2.1,x.2.2.2)))
instance n28n_bp0 (x:q1T):ParC (vf2 x):=by unfold vf2;(try dsimp only);infer_instance
def vt7 (a0:(List ByteArray))(a1:Int)(k:Int→Option Res):Option Res:=
 vai vf2 Fuel (a0,a1,0,0) (Sum.elim (fun z1=>
 k z1.2.2.1) (fun z2=>
 k z2.2.1))
def vmq:=shut vt7
theorem vx0:vmq=vt7:=vae _
instance n28n_p (a0:(List ByteArray))(a1:Int):ParC (vmq a0 a1):=by rw [vx0];unfold vt7;(try dsimp only);infer_instance
def vgl (x:q3T)(k:q3T⊕(q3T⊕q3T)→Option Res):Option Res:=
 bif (decide (x.2.2.2<(x.1.length:Int)))then
 if 0≤x.2.2.2∧x.2.2.2<(x.1.length:Int)then
 bif ((rd (Ty.zero tPut) x.1 x.2.2.2).1 != x.2.1)then
 k (.inr (.inl (x.1,x.2.1,(-1:Int),x.2.2.2)))
 else
 if 0≤x.2.2.2∧x.2.2.2<(x.1.length:Int)then
 vbq (IntKind.wrap .i64 (x.2.1+1)) (fun y3=>
 bif (!(vbm ((rd (Ty.zero tPut) x.1 x.2.2.2).2) y3))then
 k (.inr (.inl (x.1,(IntKind.wrap .i64 (x.2.1+1)),(-1:Int),x.2.2.2)))
 else
 k (.inl (x.1,(IntKind.wrap .i64 ((IntKind.wrap .i64 (x.2.1+1))+1)),x.2.2.1,(IntKind.wrap .i64 (x.2.2.2+1)))))
 else none
 else none
 else
 k (.inr (.inr (x.1,x.2.1,x.2.2.1,x.2.2.2)))
instance n25n_bp0 (x:q3T):ParC (vgl x):=by unfold vgl;(try dsimp only);infer_instance
def vu3 (a0:(List dPut))(a1:Int)(k:Int→Option Res):Option Res:=
 vai vgl Fuel (a0,a1,0,0) (Sum.elim (fun z1=>
 k z1.2.2.1) (fun z2=>
 k z2.2.1))
def vn9:=shut vu3
theorem vzj:vn9=vu3:=vae _
instance n25n_p (a0:(List dPut))(a1:Int):ParC (vn9 a0 a1):=by rw [vzj];unfold vu3;(try dsimp only);infer_instance
def vuk (a0:vsl)(a1:Int)(k:Int→Option Res):Option Res:=
 vmq a0.1 a1 (fun y1=>
 bif (decide (y1<0))then
 k (-1:Int)
 else
 vn9 a0.2 y1 (fun y2=>
 bif (decide (y2<0))then
 k (-1:Int)
 else
 k y2))
def vvp:=shut vuk
theorem vy5:vvp=vuk:=vae _
instance n23n_p (a0:vsl)(a1:Int):ParC (vvp a0 a1):=by rw [vy5];unfold vuk;(try dsimp only);infer_instance
def vux (a0:vm4)(a1:Int)(k:Int→Option Res):Option Res:=
 vrd a0.1 a1 (fun y1=>
 bif (decide (y1<0))then
 k (-1:Int)
 else
 vvp a0.2 y1 (fun y2=>
 bif (decide (y2<0))then
 k (-1:Int)
 else
 k y2))
def vnx:=shut vux
theorem vzz:vnx=vux:=vae _
instance n27n_p (a0:vm4)(a1:Int):ParC (vnx a0 a1):=by rw [vzz];unfold vux;(try dsimp only);infer_instance
def vut  (k:Bool→Option Res):Option Res:=
 vr3  (fun y1=>
 vmv  (fun y2=>
 vnr (((([]:List vaf),(([]:List dTxn),(([]:List dTxn),(y2.1,y2.2.1)))),([]:List dTxn)),(y2.2.2,([]:List dPut))) (((([]:List vaf),(([]:List dTxn),(([]:List dTxn),(y1.1,y1.2.1)))),([]:List dTxn)),(y1.2.2,([]:List dPut))) (fun y3=>
 bif (!y3)then
 k false
 else
 vr4 y2.1 y2.2.1 (1:Int) y2.2.2 (fun y4=>
 vnx (((([]:List vaf),(([]:List dTxn),(([]:List dTxn),(y2.1,y2.2.1)))),([]:List dTxn)),(y4.2,([]:List dPut))) (1:Int) (fun y5=>
 bif (decide (y5<0))then
 k false
 else
 bif (y5 != y4.1)then
 k false
 else
 vmv  (fun y6=>
 vnr (((([]:List vaf),(([]:List dTxn),(([]:List dTxn),(y6.1,y6.2.1)))),([]:List dTxn)),(y6.2.2,([]:List dPut))) (((([]:List vaf),(([]:List dTxn),(([]:List dTxn),(y1.1,y1.2.1)))),([]:List dTxn)),(y1.2.2,([]:List dPut))) (fun y7=>
 bif (!y7)then
 k false
 else
 vnx (((([]:List vaf),(([]:List dTxn),(([]:List dTxn),(y2.1,y2.2.1)))),([]:List dTxn)),(y4.2,([]:List dPut))) (1:Int) (fun y8=>
 bif (decide (y8<0))then
 k false
 else
 bif (y8 != y4.1)then
 k false
 else
 k true))))))))
def vt1:=shut vut
theorem v0e:vt1=vut:=vae _
instance n06n_p  : ParC (vt1 ):=by rw [v0e];unfold vut;(try dsimp only);exact⟨(n45n_p.p.bind fun y1=>(n04n_p.p.bind fun y2=>((n14n_p _ _).p.bind fun y3=>(vb0 (va7 _) ((n36n_p _ _ _ _).p.bind fun y4=>((n27n_p _ _).p.bind fun y5=>(vb0 (va7 _) (vb0 (va7 _) (n04n_p.p.bind fun y6=>((n14n_p _ _).p.bind fun y7=>(vb0 (va7 _) ((n27n_p _ _).p.bind fun y8=>(vb0 (va7 _) (vb0 (va7 _) (va7 _)))))))))))))))⟩
def v3u (args:List AV)(st:St)(k:K1):Option Res:=
 vah [] [] args st (fun p q=>vp9  (fun(y:(Int×Int))=>k (.agg [.nilS,.nilS,.nilS,.i y.1,.i y.2]) []))
 (none)
def v3m (args:List AV)(st:St)(k:K1):Option Res:=
 vah [] [] args st (fun p q=>vqg  (fun(y:(Int×Int))=>k (.agg [.nilS,.nilS,.nilS,.i y.1,.i y.2,.nilS]) []))
 (none)
def v3o (args:List AV)(st:St)(k:K1):Option Res:=
 vah [] [] args st (fun p q=>vuf  (fun(y:Int)=>k (.i y) []))
 (none)
def v25 (args:List AV)(st:St)(k:K1):Option Res:=
 vah [.i,.i,.i] [] args st (fun p q=>vq5 p.1 p.2.1 p.2.2.1 (fun(y:Bool)=>k (.bool y) []))
 (none)
def v4b (args:List AV)(st:St)(k:K1):Option Res:=
 vah [.i,.int .u8] [] args st (fun p q=>vvi p.1 p.2.1 (fun(y:ByteArray)=>k (.str y) []))
 (none)
def v4a (args:List AV)(st:St)(k:K1):Option Res:=
 vah [] [] args st (fun p q=>vqi  (fun(y:ByteArray)=>k (.str y) []))
 (none)
def v27 (args:List AV)(st:St)(k:K1):Option Res:=
 vah [.i] [] args st (fun p q=>vu5 p.1 (fun(y:(Bool×(List ByteArray)))=>k (.tup [.agg [.own 0,.nilS],.bool y.1]) [.arr .str y.2]))
 (none)
def v2y (args:List AV)(st:St)(k:K1):Option Res:=
 vah [] [] args st (fun p q=>vum  (fun(y:(List ByteArray))=>k (.agg [.own 0,.nilS]) [.arr .str y]))
 (none)
def v33 (args:List AV)(st:St)(k:K1):Option Res:=
 vah [] [] args st (fun p q=>vr3  (fun(y:(Int×Int×(List ByteArray)))=>k (.agg [.nilS,.nilS,.nilS,.i y.1,.i y.2.1,.nilS,.own 0,.nilS]) [.arr .str y.2.2]))
 (none)
def v3w (args:List AV)(st:St)(k:K1):Option Res:=
 vah [] [] args st (fun p q=>vqd  (fun(y:(Int×Int))=>k (.agg [.nilS,.nilS,.nilS,.i y.1,.i y.2]) []))
 (none)
def v3i (args:List AV)(st:St)(k:K1):Option Res:=
 vah [] [] args st (fun p q=>vq8  (fun(y:(Int×Int))=>k (.agg [.nilS,.nilS,.nilS,.i y.1,.i y.2,.nilS]) []))
 (none)
def v3e (args:List AV)(st:St)(k:K1):Option Res:=
 vah [.i,.i,.i] [] args st (fun p q=>vr9 p.1 p.2.1 p.2.2.1 (fun(y:Bool)=>k (.bool y) []))
 (none)
def vyi (args:List AV)(st:St)(k:K1):Option Res:=
 vah [.str,.i] [] args st (fun p q=>vsd p.1 p.2.1 (fun(y:ByteArray)=>k (.str y) []))
 (none)
def v3v (args:List AV)(st:St)(k:K1):Option Res:=
 vah [.i] [] args st (fun p q=>vvc p.1 (fun(y:(Bool×(List ByteArray)))=>k (.tup [.agg [.own 0,.nilS],.bool y.1]) [.arr .str y.2]))
 (none)
def v3p (args:List AV)(st:St)(k:K1):Option Res:=
 vah [] [] args st (fun p q=>vu6  (fun(y:(List ByteArray))=>k (.agg [.own 0,.nilS]) [.arr .str y]))
 (none)
def v2s (args:List AV)(st:St)(k:K1):Option Res:=
 vah [] [] args st (fun p q=>vmv  (fun(y:(Int×Int×(List ByteArray)))=>k (.agg [.nilS,.nilS,.nilS,.i y.1,.i y.2.1,.nilS,.own 0,.nilS]) [.arr .str y.2.2]))
 (none)
def v3n (args:List AV)(st:St)(k:K1):Option Res:=
 vah [.agg [.str,.str,.bool,.i],.agg [.str,.str,.bool,.i]] [] args st (fun p q=>vm8 (p.1.1,(p.1.2.1,(p.1.2.2.1,p.1.2.2.2.1))) (p.2.1.1,(p.2.1.2.1,(p.2.1.2.2.1,p.2.1.2.2.2.1))) (fun(y:Bool)=>k (.bool y) []))
 (none)
def v2z (args:List AV)(st:St)(k:K1):Option Res:=
 vah [.lst tVersion,.lst tVersion] [] args st (fun p q=>vn3 p.1 p.2.1 (fun(y:Bool)=>k (.bool y) []))
 (none)
def v23 (args:List AV)(st:St)(k:K1):Option Res:=
 vah [.agg [.str,.str],.agg [.str,.str]] [] args st (fun p q=>vn8 (p.1.1,p.1.2.1) (p.2.1.1,p.2.1.2.1) (fun(y:Bool)=>k (.bool y) []))
 (none)
def v32 (args:List AV)(st:St)(k:K1):Option Res:=
 vah [.lst tRange,.lst tRange] [] args st (fun p q=>vn5 p.1 p.2.1 (fun(y:Bool)=>k (.bool y) []))
 (none)
def v2x (args:List AV)(st:St)(k:K1):Option Res:=
 vah [.agg [.str,.str,.bool],.agg [.str,.str,.bool]] [] args st (fun p q=>vn6 (p.1.1,(p.1.2.1,p.1.2.2.1)) (p.2.1.1,(p.2.1.2.1,p.2.1.2.2.1)) (fun(y:Bool)=>k (.bool y) []))
 (none)
def v30 (args:List AV)(st:St)(k:K1):Option Res:=
 vah [.lst tWrite,.lst tWrite] [] args st (fun p q=>vng p.1 p.2.1 (fun(y:Bool)=>k (.bool y) []))
 (none)
def v28 (args:List AV)(st:St)(k:K1):Option Res:=
 vah [.agg [.i,.i,.i,.i,.lst tRange,.lst tWrite,.bool,.str],.agg [.i,.i,.i,.i,.lst tRange,.lst tWrite,.bool,.str]] [] args st (fun p q=>vll (p.1.1,(p.1.2.1,(p.1.2.2.1,(p.1.2.2.2.1,(p.1.2.2.2.2.1,(p.1.2.2.2.2.2.1,(p.1.2.2.2.2.2.2.1,p.1.2.2.2.2.2.2.2.1))))))) (p.2.1.1,(p.2.1.2.1,(p.2.1.2.2.1,(p.2.1.2.2.2.1,(p.2.1.2.2.2.2.1,(p.2.1.2.2.2.2.2.1,(p.2.1.2.2.2.2.2.2.1,p.2.1.2.2.2.2.2.2.2.1))))))) (fun(y:Bool)=>k (.bool y) []))
 (none)
def v22 (args:List AV)(st:St)(k:K1):Option Res:=
 vah [.lst tTxn,.lst tTxn] [] args st (fun p q=>vja p.1 p.2.1 (fun(y:Bool)=>k (.bool y) []))
 (none)
def v3l (args:List AV)(st:St)(k:K1):Option Res:=
 vah [.agg [.lst tVersion,.lst tTxn,.lst tTxn,.i,.i],.agg [.lst tVersion,.lst tTxn,.lst tTxn,.i,.i]] [] args st (fun p q=>vnz (p.1.1,(p.1.2.1,(p.1.2.2.1,(p.1.2.2.2.1,p.1.2.2.2.2.1)))) (p.2.1.1,(p.2.1.2.1,(p.2.1.2.2.1,(p.2.1.2.2.2.1,p.2.1.2.2.2.2.1)))) (fun(y:Bool)=>k (.bool y) []))
 (none)
def v3k (args:List AV)(st:St)(k:K1):Option Res:=
 vah [.agg [.lst tVersion,.lst tTxn,.lst tTxn,.i,.i,.lst tTxn],.agg [.lst tVersion,.lst tTxn,.lst tTxn,.i,.i,.lst tTxn]] [] args st (fun p q=>vnd ((p.1.1,(p.1.2.1,(p.1.2.2.1,(p.1.2.2.2.1,p.1.2.2.2.2.1)))),p.1.2.2.2.2.2.1) ((p.2.1.1,(p.2.1.2.1,(p.2.1.2.2.1,(p.2.1.2.2.2.1,p.2.1.2.2.2.2.1)))),p.2.1.2.2.2.2.2.1) (fun(y:Bool)=>k (.bool y) []))
 (none)
def v35 (args:List AV)(st:St)(k:K1):Option Res:=
 vah [.lst .str,.lst .str] [] args st (fun p q=>vni p.1 p.2.1 (fun(y:Bool)=>k (.bool y) []))
 (none)
def v36 (args:List AV)(st:St)(k:K1):Option Res:=
 vah [.agg [.i,.str],.agg [.i,.str]] [] args st (fun p q=>vr5 (p.1.1,p.1.2.1) (p.2.1.1,p.2.1.2.1) (fun(y:Bool)=>k (.bool y) []))
 (none)
def v3g (args:List AV)(st:St)(k:K1):Option Res:=
 vah [.lst tPut,.lst tPut] [] args st (fun p q=>vmt p.1 p.2.1 (fun(y:Bool)=>k (.bool y) []))
 (none)
def v3b (args:List AV)(st:St)(k:K1):Option Res:=
 vah [.agg [.lst .str,.lst tPut],.agg [.lst .str,.lst tPut]] [] args st (fun p q=>vt9 (p.1.1,p.1.2.1) (p.2.1.1,p.2.1.2.1) (fun(y:Bool)=>k (.bool y) []))
 (none)
def v2r (args:List AV)(st:St)(k:K1):Option Res:=
 vah [.agg [.lst tVersion,.lst tTxn,.lst tTxn,.i,.i,.lst tTxn,.lst .str,.lst tPut],.agg [.lst tVersion,.lst tTxn,.lst tTxn,.i,.i,.lst tTxn,.lst .str,.lst tPut]] [] args st (fun p q=>vnr (((p.1.1,(p.1.2.1,(p.1.2.2.1,(p.1.2.2.2.1,p.1.2.2.2.2.1)))),p.1.2.2.2.2.2.1),(p.1.2.2.2.2.2.2.1,p.1.2.2.2.2.2.2.2.1)) (((p.2.1.1,(p.2.1.2.1,(p.2.1.2.2.1,(p.2.1.2.2.2.1,p.2.1.2.2.2.2.1)))),p.2.1.2.2.2.2.2.1),(p.2.1.2.2.2.2.2.2.1,p.2.1.2.2.2.2.2.2.2.1)) (fun(y:Bool)=>k (.bool y) []))
 (none)
def v3j (args:List AV)(st:St)(k:K1):Option Res:=
 vah [.i] [] args st (fun p q=>vbq p.1 (fun(y:ByteArray)=>k (.str y) []))
 (none)
def vdq (args:List AV)(st:St)(k:K1):Option Res:=
 vah [.nilS,.i] [] args st (fun p q=>vrf p.2.1 (fun(y:Int)=>k (.i y) []))
 (none)
def vf4 (args:List AV)(st:St)(k:K1):Option Res:=
 vah [.nilS,.i] [] args st (fun p q=>vkt p.2.1 (fun(y:Int)=>k (.i y) []))
 (none)
def vf1 (args:List AV)(st:St)(k:K1):Option Res:=
 vah [.agg [.nilS,.nilS,.nilS,.i,.i],.i] [] args st (fun p q=>vri p.1.2.2.2.1 p.1.2.2.2.2.1 p.2.1 (fun(y:Int)=>k (.i y) []))
 (none)
def veh (args:List AV)(st:St)(k:K1):Option Res:=
 vah [.agg [.nilS,.nilS,.nilS,.i,.i,.nilS],.i] [] args st (fun p q=>vqb p.1.2.2.2.1 p.1.2.2.2.2.1 p.2.1 (fun(y:Int)=>k (.i y) []))
 (none)
def vd1 (args:List AV)(st:St)(k:K1):Option Res:=
 vah [.own 0,.i] [.arr .str] args st (fun p q=>vr8 p.2.1 q.1 (fun(y:(Int×(List ByteArray)))=>k (.i y.1) [.arr .str y.2]))
 (none)
def vfu (args:List AV)(st:St)(k:K1):Option Res:=
 vah [.nilS,.i] [] args st (fun p q=>vqn p.2.1 (fun(y:Int)=>k (.i y) []))
 (none)
def vgc (args:List AV)(st:St)(k:K1):Option Res:=
 vah [.agg [.own 0,.nilS],.i] [.arr .str] args st (fun p q=>vun p.2.1 q.1 (fun(y:(Int×(List ByteArray)))=>k (.i y.1) [.arr .str y.2]))
 (none)
def vfb (args:List AV)(st:St)(k:K1):Option Res:=
 vah [.agg [.nilS,.nilS,.nilS,.i,.i,.nilS,.own 0,.nilS],.i] [.arr .str] args st (fun p q=>vr4 p.1.2.2.2.1 p.1.2.2.2.2.1 p.2.1 q.1 (fun(y:(Int×(List ByteArray)))=>k (.i y.1) [.arr .str y.2]))
 (none)
def v24 (args:List AV)(st:St)(k:K1):Option Res:=
 vah [.lst tVersion,.i] [] args st (fun p q=>vnq p.1 p.2.1 (fun(y:Int)=>k (.i y) []))
 (none)
def v21 (args:List AV)(st:St)(k:K1):Option Res:=
 vah [.lst tRange,.i] [] args st (fun p q=>vp4 p.1 p.2.1 (fun(y:Int)=>k (.i y) []))
 (none)
def v3t (args:List AV)(st:St)(k:K1):Option Res:=
 vah [.lst tWrite,.i] [] args st (fun p q=>vqp p.1 p.2.1 (fun(y:Int)=>k (.i y) []))
 (none)
def v3d (args:List AV)(st:St)(k:K1):Option Res:=
 vah [.lst tTxn,.i] [] args st (fun p q=>vje p.1 p.2.1 (fun(y:Int)=>k (.i y) []))
 (none)
def v29 (args:List AV)(st:St)(k:K1):Option Res:=
 vah [.agg [.lst tVersion,.lst tTxn,.lst tTxn,.i,.i],.i] [] args st (fun p q=>vr6 (p.1.1,(p.1.2.1,(p.1.2.2.1,(p.1.2.2.2.1,p.1.2.2.2.2.1)))) p.2.1 (fun(y:Int)=>k (.i y) []))
 (none)
def v3c (args:List AV)(st:St)(k:K1):Option Res:=
 vah [.agg [.lst tVersion,.lst tTxn,.lst tTxn,.i,.i,.lst tTxn],.i] [] args st (fun p q=>vrd ((p.1.1,(p.1.2.1,(p.1.2.2.1,(p.1.2.2.2.1,p.1.2.2.2.2.1)))),p.1.2.2.2.2.2.1) p.2.1 (fun(y:Int)=>k (.i y) []))
 (none)
def v3f (args:List AV)(st:St)(k:K1):Option Res:=
 vah [.lst .str,.i] [] args st (fun p q=>vmq p.1 p.2.1 (fun(y:Int)=>k (.i y) []))
 (none)
def v2w (args:List AV)(st:St)(k:K1):Option Res:=
 vah [.lst tPut,.i] [] args st (fun p q=>vn9 p.1 p.2.1 (fun(y:Int)=>k (.i y) []))
 (none)
def v3r (args:List AV)(st:St)(k:K1):Option Res:=
 vah [.agg [.lst .str,.lst tPut],.i] [] args st (fun p q=>vvp (p.1.1,p.1.2.1) p.2.1 (fun(y:Int)=>k (.i y) []))
 (none)
def v3h (args:List AV)(st:St)(k:K1):Option Res:=
 vah [.agg [.lst tVersion,.lst tTxn,.lst tTxn,.i,.i,.lst tTxn,.lst .str,.lst tPut],.i] [] args st (fun p q=>vnx (((p.1.1,(p.1.2.1,(p.1.2.2.1,(p.1.2.2.2.1,p.1.2.2.2.2.1)))),p.1.2.2.2.2.2.1),(p.1.2.2.2.2.2.2.1,p.1.2.2.2.2.2.2.2.1)) p.2.1 (fun(y:Int)=>k (.i y) []))
 (none)
def vy6 (args:List AV)(st:St)(k:K1):Option Res:=
 vah [] [] args st (fun p q=>vt1  (fun(y:Bool)=>k (.bool y) []))
 (none)
end
end Go.VE
