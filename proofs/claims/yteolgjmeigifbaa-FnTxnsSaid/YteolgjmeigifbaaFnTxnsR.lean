/- The plain laws behind FnTxns. -/
import Derived.Test.YteolgjmeigifbaaFnTxnsL
import Derived.Sort.Walk0
import Derived.Test.YteolgjmeigifbaaP3
/- Plain laws: keys,ranges,writes,transactions,who is ahead of whom. -/
namespace Go.VE
noncomputable section
set_option linter.unusedVariables false
set_option linter.unusedSimpArgs false
set_option maxRecDepth 100000
def var (n lo hi:Int):Bool:=decide (n≥lo)&&decide (n≤hi)
theorem vo1 (a b c) (k):vfp a b c k=k (var a b c):=by
 rw [wd2];unfold v53 var;cases decide (a≥b)<;>rfl
theorem vzu (a b c) (k):vgs a b c k=k (var a b c):=by
 rw [wdz];unfold v7a var;cases decide (a≥b)<;>rfl
def vdu (s:ByteArray):Bool:=!((vaf s).any fun y=>decide (y<97)||decide (y>122))&&var s.size 1 3
theorem vxq {u0} {u1}:∀l i,∃j:Int,∀k,vk6 u0 u1 l i k=k (bif l.any (fun y=>decide (y<97)||decide (y>122))then .inl (false,j)else .inr j)
 |[],i=>⟨_,fun k=>rfl⟩
 |y::l,i=>by
  obtain⟨j,hj⟩:=vxq (u0:=u0) (u1:=u1) l (i+1)
  simp only [vk6,hj,List.any_cons]
  cases hp:(decide (y<97)||decide (y>122))
  ·exact⟨j,fun k=>by(try simp only [Bool.false_or])<;>(try (revert hp;cases decide (y<97)<;>cases decide (y>122)<;>simp))⟩
  ·exact⟨(i:Int),fun k=>by(try simp only [Bool.true_or,cond_true])<;>(try (revert hp;cases decide (y<97)<;>cases decide (y>122)<;>simp))⟩
theorem vza {s:ByteArray}(hs:s.size≤1048576) (k):vmt s k=k (vdu s):=by
 rw [wpe (by omega)]
 unfold wgu vdu
 obtain⟨j,hj⟩:=vxq (u0:=s) (u1:=false) (vaf s) 0
 rw [hj]
 cases ((vaf s).any fun y=>decide (y<97)||decide (y>122))
 ·simp [vo1]
 ·rfl
theorem vvv {u0} {u1}:∀l i,∃j:Int,∀k,vk7 u0 u1 l i k=k (bif l.any (fun y=>decide (y<97)||decide (y>122))then .inl (false,j)else .inr j)
 |[],i=>⟨_,fun k=>rfl⟩
 |y::l,i=>by
  obtain⟨j,hj⟩:=vvv (u0:=u0) (u1:=u1) l (i+1)
  simp only [vk7,hj,List.any_cons]
  cases hp:(decide (y<97)||decide (y>122))
  ·exact⟨j,fun k=>by(try simp only [Bool.false_or])<;>(try (revert hp;cases decide (y<97)<;>cases decide (y>122)<;>simp))⟩
  ·exact⟨(i:Int),fun k=>by(try simp only [Bool.true_or,cond_true])<;>(try (revert hp;cases decide (y<97)<;>cases decide (y>122)<;>simp))⟩
theorem vzd {s:ByteArray}(hs:s.size≤1048576) (k):vmq s k=k (vdu s):=by
 rw [wre (by omega)]
 unfold wco vdu
 obtain⟨j,hj⟩:=vvv (u0:=s) (u1:=false) (vaf s) 0
 rw [hj]
 cases ((vaf s).any fun y=>decide (y<97)||decide (y>122))
 ·simp [vzu]
 ·rfl
def vca (r:tRange.D):Bool:=vdu r.1&&vdu r.2&&(vai r.1 r.2||vav r.1 r.2)
def vaz (w:tWrite.D):Bool:=vdu w.1&&decide ((w.2.1.size:Int)≤12)&&(!w.2.2||vav w.2.1 ⟨#[]⟩)
def vcc:Option tWrite.D→List tWrite.D→Bool
 |_,[]=>true
 |p,y::l=>vaz y&&(match p with|none=>true|some x=>vai x.1 y.1)&&vcc (some y) l
def vcf (l:List tWrite.D):Bool:=vcc none l&&decide ((l.length:Int)≤8)
theorem wgj {r:tRange.D}(hr:tRange.wt r≤1048576) (k):vqe r k=k (vca r):=by
 rw [vpa]at hr
 rw [wfp]
 unfold v9m vca
 simp only [vza (show r.1.size≤1048576 by omega),vza (show r.2.size≤1048576 by omega)]
 cases vdu r.1<;>cases vdu r.2<;>simp
theorem wcz {r:tWrite.D}(hr:tWrite.wt r≤1048576) (k):vp3 r k=k (vaz r):=by
 rw [vo7]at hr
 rw [wem]
 unfold v9l vaz
 simp only [vza (show r.1.size≤1048576 by omega)]
 cases vdu r.1<;>cases decide ((r.2.1.size:Int)≤12)<;>cases r.2.2<;>simp
theorem vwh {u0:List tWrite.D}(hu:∀y∈u0,tWrite.wt y≤1048576)(hl:u0.length≤1048576) {u1 u2}:∀(l:List tWrite.D) (i:Nat),u0.drop i=l→∃j:Int,∀k,
  vjv u0 u1 u2 l i k=k (bif vcc (if i=0 then none else some (u0.getD (i-1) (Ty.zero tWrite))) l then .inr j else .inl (false,j))
 |[],i,_=>⟨_,fun k=>rfl⟩
 |y::l,i,h=>by
  obtain⟨j,hj⟩:=vwh hu hl (u1:=u1) (u2:=u2) l (i+1) (vcl h)
  have hlt:=vfy h
  have hy:=(vbn h).2 (Ty.zero tWrite)
  rw [if_neg (by omega),show i+1-1=i by omega,hy]at hj
  simp only [vjv,wcz (hu y (vra h)),hj,vcc]
  by_cases hi:i=0
  ·subst hi
   simp only [if_pos,show ¬((0:Nat):Int)>0 by omega,decide_false,cond_false,Bool.and_true]
   cases vaz y
   ·exact⟨((0:Nat):Int),fun k=>by simp⟩
   ·exact⟨j,fun k=>by simp⟩
  ·have hw:IntKind.wrap .i64 ((i:Int)-1)=((i-1:Nat):Int):=by rw [va4 (by omega) (by omega)];omega
   have hrd:rd (Ty.zero (.pair .str (.pair .str .bool))) u0 ((i-1:Nat):Int)=u0.getD (i-1) (Ty.zero tWrite):=rfl
   simp only [if_neg hi,show (i:Int)>0 by omega,decide_true,cond_true,hw,hrd,if_pos (show 0≤((i-1:Nat):Int)∧((i-1:Nat):Int)<(u0.length:Int) by omega)]
   cases vaz y
   ·exact⟨(i:Int),fun k=>by simp⟩
   ·cases vai (u0.getD (i-1) (Ty.zero tWrite)).1 y.1
    ·exact⟨(i:Int),fun k=>by simp⟩
    ·exact⟨j,fun k=>by simp⟩
theorem wnq {x:List tWrite.D}(hx:(Ty.slice tWrite).wt x≤1048576) (k):vs8 x k=k (vcf x):=by
 have hl:=vg2 hx
 rw [wp5 (by omega)]
 unfold wdo vcf
 obtain⟨j,hj⟩:=vwh (u0:=x) (fun y hy=>vn7 hy hx) hl (u1:=false) (u2:=x) x 0 rfl
 rw [hj]
 simp only [if_true]
 cases vcc none x<;>rfl
theorem wgq {r:tRange.D}(hr:tRange.wt r≤1048576) (k):vp8 r k=k (vca r):=by
 rw [vpa]at hr
 rw [wb2]
 unfold v6r vca
 simp only [vzd (show r.1.size≤1048576 by omega),vzd (show r.2.size≤1048576 by omega)]
 cases vdu r.1<;>cases vdu r.2<;>simp
theorem wd8 {r:tWrite.D}(hr:tWrite.wt r≤1048576) (k):vp4 r k=k (vaz r):=by
 rw [vo7]at hr
 rw [weq]
 unfold v8z vaz
 simp only [vzd (show r.1.size≤1048576 by omega)]
 cases vdu r.1<;>cases decide ((r.2.1.size:Int)≤12)<;>cases r.2.2<;>simp
theorem vww {u0:List tWrite.D}(hu:∀y∈u0,tWrite.wt y≤1048576)(hl:u0.length≤1048576) {u1}:∀(l:List tWrite.D) (i:Nat),u0.drop i=l→∃j:Int,∀k,
  vjt u0 u1 l i k=k (bif vcc (if i=0 then none else some (u0.getD (i-1) (Ty.zero tWrite))) l then .inr j else .inl (false,j))
 |[],i,_=>⟨_,fun k=>rfl⟩
 |y::l,i,h=>by
  obtain⟨j,hj⟩:=vww hu hl (u1:=u1) l (i+1) (vcl h)
  have hlt:=vfy h
  have hy:=(vbn h).2 (Ty.zero tWrite)
  rw [if_neg (by omega),show i+1-1=i by omega,hy]at hj
  simp only [vjt,wd8 (hu y (vra h)),hj,vcc]
  by_cases hi:i=0
  ·subst hi
   simp only [if_pos,show ¬((0:Nat):Int)>0 by omega,decide_false,cond_false,Bool.and_true]
   cases vaz y
   ·exact⟨((0:Nat):Int),fun k=>by simp⟩
   ·exact⟨j,fun k=>by simp⟩
  ·have hw:IntKind.wrap .i64 ((i:Int)-1)=((i-1:Nat):Int):=by rw [va4 (by omega) (by omega)];omega
   have hrd:rd (Ty.zero (.pair .str (.pair .str .bool))) u0 ((i-1:Nat):Int)=u0.getD (i-1) (Ty.zero tWrite):=rfl
   simp only [if_neg hi,show (i:Int)>0 by omega,decide_true,cond_true,hw,hrd,if_pos (show 0≤((i-1:Nat):Int)∧((i-1:Nat):Int)<(u0.length:Int) by omega)]
   cases vaz y
   ·exact⟨(i:Int),fun k=>by simp⟩
   ·cases vai (u0.getD (i-1) (Ty.zero tWrite)).1 y.1
    ·exact⟨(i:Int),fun k=>by simp⟩
    ·exact⟨j,fun k=>by simp⟩
theorem wdw {x:List tWrite.D}(hx:(Ty.slice tWrite).wt x≤1048576) (k):vny x k=k (vcf x):=by
 have hl:=vg2 hx
 rw [wsa (by omega)]
 unfold wfu vcf
 obtain⟨j,hj⟩:=vww (u0:=x) (fun y hy=>vn7 hy hx) hl (u1:=false) x 0 rfl
 rw [hj]
 simp only [if_true]
 cases vcc none x<;>rfl
def vbl (t:tTxn.D):Bool:=
 var t.1 1 9999&&var t.2.1 1 3&&var t.2.2.1 0 9999 && !decide ((t.2.2.2.2.1.length:Int)>8)&&vcf t.2.2.2.2.2.1 && !(t.2.2.2.2.1.any fun r=>!vca r) &&
 !((t.2.1==3) && !var t.2.2.2.1 (IntKind.wrap .i64 (t.2.2.1+1)) 9999) && !((t.2.1 != 3)&&(t.2.2.2.1 != 0)) &&
 !((t.2.1==2) && !vdu t.2.2.2.2.2.2.2) && !((t.2.1 != 2) && !vav t.2.2.2.2.2.2.2 ⟨#[]⟩)&&((t.2.1 != 1) || !t.2.2.2.2.2.2.1)
theorem vwn {u0} {u1} {u4} {u5} {u6} {u7} {u8} {u9} {u10} {u11}:∀(l:List tRange.D) (i:Nat),(∀y∈l,tRange.wt y≤1048576)→∃j:Int,∀k,vkq u0 u1 u4 u5 u6 u7 u8 u9 u10 u11 l i k=k (bif l.any (fun r=>!vca r)then .inl (false,j)else .inr j)
 |[],i,_=>⟨_,fun k=>rfl⟩
 |y::l,i,h=>by
  obtain⟨j,hj⟩:=vwn (u0:=u0) (u1:=u1) (u4:=u4) (u5:=u5) (u6:=u6) (u7:=u7) (u8:=u8) (u9:=u9) (u10:=u10) (u11:=u11) l (i+1) (fun y hy=>h y (by simp [hy]))
  simp only [vkq,wgj (h y (by simp)),hj,List.any_cons]
  cases vca y
  ·exact⟨(i:Int),fun k=>by simp⟩
  ·exact⟨j,fun k=>by simp⟩
theorem vwc {u0} {u2} {u3} {u4} {u5} {u6} {u7} {u8} {u9}:∀(l:List tRange.D) (i:Nat),(∀y∈l,tRange.wt y≤1048576)→∃j:Int,∀k,vko u0 u2 u3 u4 u5 u6 u7 u8 u9 l i k=k (bif l.any (fun r=>!vca r)then .inl (false,j)else .inr j)
 |[],i,_=>⟨_,fun k=>rfl⟩
 |y::l,i,h=>by
  obtain⟨j,hj⟩:=vwc (u0:=u0) (u2:=u2) (u3:=u3) (u4:=u4) (u5:=u5) (u6:=u6) (u7:=u7) (u8:=u8) (u9:=u9) l (i+1) (fun y hy=>h y (by simp [hy]))
  simp only [vko,wgq (h y (by simp)),hj,List.any_cons]
  cases vca y
  ·exact⟨(i:Int),fun k=>by simp⟩
  ·exact⟨j,fun k=>by simp⟩
theorem vte {t:tTxn.D}(ht:tTxn.wt t≤1048576) (k):vi3 t k=k (vbl t):=by
 rw [vqo]at ht
 have h1:=vg2 (T:=tRange) (xs:=t.2.2.2.2.1) (n:=1048576) (by omega)
 have h2:=vg2 (T:=tWrite) (xs:=t.2.2.2.2.2.1) (n:=1048576) (by omega)
 rw [wpw (by omega)]
 unfold wew vbl
 simp only [vzu,wdw (show (Ty.slice tWrite).wt t.2.2.2.2.2.1≤1048576 by omega)]
 obtain⟨j,hj⟩:=vwc (u0:=false) (u2:=t.1) (u3:=t.2.1) (u4:=t.2.2.1) (u5:=t.2.2.2.1) (u6:=t.2.2.2.2.1) (u7:=t.2.2.2.2.2.1) (u8:=t.2.2.2.2.2.2.1) (u9:=t.2.2.2.2.2.2.2) t.2.2.2.2.1 0 (fun y hy=>vn7 hy (by omega))
 simp only [vfj,vcp,vcn,hj,vzu,vzd (show t.2.2.2.2.2.2.2.size≤1048576 by omega)]
 cases var t.1 1 9999<;>simp only [Bool.not_true,Bool.not_false,cond_true,cond_false,Bool.true_and,Bool.false_and]
 cases var t.2.1 1 3<;>simp only [Bool.not_true,Bool.not_false,cond_true,cond_false,Bool.true_and,Bool.false_and]
 cases var t.2.2.1 0 9999<;>simp only [Bool.not_true,Bool.not_false,cond_true,cond_false,Bool.true_and,Bool.false_and]
 cases decide ((t.2.2.2.2.1.length:Int)>8)<;>simp only [Bool.not_true,Bool.not_false,cond_true,cond_false,Bool.true_and,Bool.false_and]
 cases vcf t.2.2.2.2.2.1<;>simp only [Bool.not_true,Bool.not_false,cond_true,cond_false,Bool.true_and,Bool.false_and]
 cases (t.2.2.2.2.1.any fun r=>!vca r)<;>simp only [Bool.not_true,Bool.not_false,cond_true,cond_false,Bool.true_and,Bool.false_and,Sum.elim_inl,Sum.elim_inr]
 simp only [bne]
 cases t.2.1==3<;>cases t.2.1==2<;>cases t.2.1==1<;>cases var t.2.2.2.1 (IntKind.wrap .i64 (t.2.2.1+1)) 9999<;>cases t.2.2.2.1==0<;>cases vdu t.2.2.2.2.2.2.2<;>cases vav t.2.2.2.2.2.2.2 ⟨#[]⟩<;>cases t.2.2.2.2.2.2.1<;>rfl
theorem voz {t:tTxn.D}(ht:tTxn.wt t≤1048576) (k):vgp t k=k (vbl t):=by
 rw [vqo]at ht
 have h1:=vg2 (T:=tRange) (xs:=t.2.2.2.2.1) (n:=1048576) (by omega)
 have h2:=vg2 (T:=tWrite) (xs:=t.2.2.2.2.2.1) (n:=1048576) (by omega)
 rw [wq6 (by omega)]
 unfold wg2 vbl
 obtain⟨j,hj⟩:=vwn (u0:=false) (u1:=t.2.2.2.2.1) (u4:=t.1) (u5:=t.2.1) (u6:=t.2.2.1) (u7:=t.2.2.2.1) (u8:=t.2.2.2.2.1) (u9:=t.2.2.2.2.2.1) (u10:=t.2.2.2.2.2.2.1) (u11:=t.2.2.2.2.2.2.2) t.2.2.2.2.1 0 (fun y hy=>vn7 hy (by omega))
 simp only [hj,vo1,wnq (show (Ty.slice tWrite).wt t.2.2.2.2.2.1≤1048576 by omega),vd0,vco,vza (show t.2.2.2.2.2.2.2.size≤1048576 by omega)]
 cases (t.2.2.2.2.1.any fun r=>!vca r)<;>simp only [Bool.not_true,Bool.not_false,cond_true,cond_false,Bool.true_and,Bool.and_true,Bool.and_false,Bool.false_and,Sum.elim_inl,Sum.elim_inr]
 cases var t.1 1 9999<;>simp only [Bool.not_true,Bool.not_false,cond_true,cond_false,Bool.true_and,Bool.false_and]
 cases var t.2.1 1 3<;>simp only [Bool.not_true,Bool.not_false,cond_true,cond_false,Bool.true_and,Bool.false_and]
 cases var t.2.2.1 0 9999<;>simp only [Bool.not_true,Bool.not_false,cond_true,cond_false,Bool.true_and,Bool.false_and]
 cases decide ((t.2.2.2.2.1.length:Int)>8)<;>simp only [Bool.not_true,Bool.not_false,cond_true,cond_false,Bool.true_and,Bool.false_and]
 cases vcf t.2.2.2.2.2.1<;>simp only [Bool.not_true,Bool.not_false,cond_true,cond_false,Bool.true_and,Bool.false_and]
 simp only [bne]
 cases t.2.1==3<;>cases t.2.1==2<;>cases t.2.1==1<;>cases var t.2.2.2.1 (IntKind.wrap .i64 (t.2.2.1+1)) 9999<;>cases t.2.2.2.1==0<;>cases vdu t.2.2.2.2.2.2.2<;>cases vav t.2.2.2.2.2.2.2 ⟨#[]⟩<;>cases t.2.2.2.2.2.2.1<;>rfl
theorem wdf {a:tTxn.D}(ha:tTxn.wt a≤1048576):a.2.2.2.2.1.length≤1048576∧a.2.2.2.2.2.1.length≤1048576:=by
 rw [vqo]at ha
 exact⟨vg2 (T:=tRange) (by omega),vg2 (T:=tWrite) (by omega)⟩
end
end Go.VE
/- Plain laws: one of a list that passes a test;what is seen;the oldest. -/
namespace Go.VE
noncomputable section
set_option linter.unusedVariables false
set_option linter.unusedSimpArgs false
set_option maxRecDepth 100000
def zV:tVersion.D:=Ty.zero tVersion
def vdc (u0:List tVersion.D)(key:ByteArray)(snap:Int):List tVersion.D→Int→Nat→Int
 |[],s,_=>s
 |y::l,s,i=>bif vav y.1 key&&(decide (y.2.2.2≤snap)&&(decide (s<0)||decide (y.2.2.2>(rd zV u0 s).2.2.2)))then vdc u0 key snap l (i:Int) (i+1)else vdc u0 key snap l s (i+1)
def veu (xs:List tVersion.D)(key:ByteArray)(snap:Int):Int:=vdc xs key snap xs (-1) 0
theorem vov {u0 u1 u2} {u4}:∀(l:List tVersion.D) (s:Int) (i:Nat),u0.drop i=l→(s<0∨0≤s∧s<(u0.length:Int))→
  ∃j:Int,(∀k,vfz u0 u1 u2 u4 l s i k=k (vdc u0 u1 u2 l s i,j))∧(vdc u0 u1 u2 l s i<0∨0≤vdc u0 u1 u2 l s i∧vdc u0 u1 u2 l s i<(u0.length:Int))
 |[],s,i,_,hs=>⟨_,fun k=>rfl,hs⟩
 |y::l,s,i,h,hs=>by
  have hlt:=vfy h
  obtain⟨j1,hj1,b1⟩:=vov (u0:=u0) (u1:=u1) (u2:=u2) (u4:=u4) l s (i+1) (vcl h) hs
  obtain⟨j2,hj2,b2⟩:=vov (u0:=u0) (u1:=u1) (u2:=u2) (u4:=u4) l (i:Int) (i+1) (vcl h) (.inr (by omega))
  have hz:(Ty.zero tVersion)=zV:=rfl
  simp only [vfz,hj1,hj2,vdc,hz]
  cases vav y.1 u1
  ·exact⟨j1,fun k=>rfl,b1⟩
  ·cases decide (y.2.2.2≤u2)
   ·exact⟨j1,fun k=>rfl,b1⟩
   ·by_cases c:s<0
    ·simp only [c,decide_true,cond_true,Bool.true_or,Bool.and_self];exact⟨j2,fun k=>rfl,b2⟩
    ·simp only [c,decide_false,cond_true,cond_false,Bool.false_or,Bool.true_and]
     simp only [if_pos (show 0≤s∧s<(u0.length:Int) by omega)]
     cases decide (y.2.2.2>(rd zV u0 s).2.2.2)
     ·exact⟨j1,fun k=>rfl,b1⟩
     ·exact⟨j2,fun k=>rfl,b2⟩
theorem wov {xs:List tVersion.D}(hl:xs.length≤1048576) (key) (snap) (k):vxp xs key snap k=k (veu xs key snap):=by
 rw [wqh (by omega)]
 unfold wgn veu
 obtain⟨j,hj,_⟩:=vov (u0:=xs) (u1:=key) (u2:=snap) (u4:=xs) xs (-1) 0 rfl (.inl (by omega))
 rw [hj]
theorem vos {u0 u1 u2}  : ∀(l:List tVersion.D) (s:Int) (i:Nat),u0.drop i=l→(s<0∨0≤s∧s<(u0.length:Int))→
  ∃j:Int,(∀k,vfx u0 u1 u2  l s i k=k (vdc u0 u1 u2 l s i,j))∧(vdc u0 u1 u2 l s i<0∨0≤vdc u0 u1 u2 l s i∧vdc u0 u1 u2 l s i<(u0.length:Int))
 |[],s,i,_,hs=>⟨_,fun k=>rfl,hs⟩
 |y::l,s,i,h,hs=>by
  have hlt:=vfy h
  obtain⟨j1,hj1,b1⟩:=vos (u0:=u0) (u1:=u1) (u2:=u2)  l s (i+1) (vcl h) hs
  obtain⟨j2,hj2,b2⟩:=vos (u0:=u0) (u1:=u1) (u2:=u2)  l (i:Int) (i+1) (vcl h) (.inr (by omega))
  have hz:(Ty.zero tVersion)=zV:=rfl
  simp only [vfx,hj1,hj2,vdc,hz]
  cases vav y.1 u1
  ·exact⟨j1,fun k=>rfl,b1⟩
  ·cases decide (y.2.2.2≤u2)
   ·exact⟨j1,fun k=>rfl,b1⟩
   ·by_cases c:s<0
    ·simp only [c,decide_true,cond_true,Bool.true_or,Bool.and_self];exact⟨j2,fun k=>rfl,b2⟩
    ·simp only [c,decide_false,cond_true,cond_false,Bool.false_or,Bool.true_and]
     simp only [if_pos (show 0≤s∧s<(u0.length:Int) by omega)]
     cases decide (y.2.2.2>(rd zV u0 s).2.2.2)
     ·exact⟨j1,fun k=>rfl,b1⟩
     ·exact⟨j2,fun k=>rfl,b2⟩
theorem wnl {xs:List tVersion.D}(hl:xs.length≤1048576) (key) (snap) (k):vv8 xs key snap k=k (veu xs key snap):=by
 rw [wpu (by omega)]
 unfold wfo veu
 obtain⟨j,hj,_⟩:=vos (u0:=xs) (u1:=key) (u2:=snap)  xs (-1) 0 rfl (.inl (by omega))
 rw [hj]
theorem vjd {u0:List tVersion.D}{key:ByteArray}{snap:Int}:∀(l:List tVersion.D) (s:Int) (i:Nat),i+l.length≤u0.length→(s<0∨0≤s∧s<(u0.length:Int))→(vdc u0 key snap l s i<0∨0≤vdc u0 key snap l s i∧vdc u0 key snap l s i<(u0.length:Int))
 |[],s,i,_,hs=>hs
 |y::l,s,i,h,hs=>by
  simp only [List.length_cons]at h
  simp only [vdc]
  cases (vav y.1 key&&(decide (y.2.2.2≤snap)&&(decide (s<0)||decide (y.2.2.2>(rd zV u0 s).2.2.2))))
  ·exact vjd l s (i+1) (by omega) hs
  ·exact vjd l (i:Int) (i+1) (by omega) (.inr (by omega))
theorem voe (xs:List tVersion.D)(key:ByteArray)(snap:Int):veu xs key snap<0∨0≤veu xs key snap∧veu xs key snap<(xs.length:Int):=
 vjd xs (-1) 0 (by omega) (.inl (by omega))
def vsr (xs:List tVersion.D)(key:ByteArray)(snap:Int):ByteArray×Bool:=
 bif decide (veu xs key snap<0)then(⟨#[]⟩,false)else bif (rd zV xs (veu xs key snap)).2.2.1 then(⟨#[]⟩,false)else((rd zV xs (veu xs key snap)).2.1,true)
theorem wnj {xs:List tVersion.D}(hl:xs.length≤1048576) (key) (snap) (k):v2s xs key snap k=k (vsr xs key snap):=by
 have hb:=voe xs key snap
 have hz:(Ty.zero tVersion)=zV:=rfl
 rw [wfd]
 unfold v9b vsr
 simp only [wov hl,hz]
 by_cases c:veu xs key snap<0
 ·simp only [c,decide_true,cond_true]
 ·simp only [c,decide_false,cond_false]
  rw [if_pos (by omega)]
  cases (rd zV xs (veu xs key snap)).2.2.1
  ·simp only [cond_false];rw [if_pos (by omega)]
  ·rfl
theorem wok {xs:List tVersion.D}(hl:xs.length≤1048576) (key) (snap) (k):vwu xs key snap k=k (vsr xs key snap):=by
 have hb:=voe xs key snap
 have hz:(Ty.zero tVersion)=zV:=rfl
 rw [wfm]
 unfold v73 vsr
 simp only [wnl hl,hz]
 by_cases c:veu xs key snap<0
 ·simp only [c,decide_true,cond_true]
 ·simp only [c,decide_false,cond_false]
  rw [if_pos (by omega)]
  cases (rd zV xs (veu xs key snap)).2.2.1
  ·simp only [cond_false];rw [if_pos (by omega)]
  ·rfl
def vst (t:tTxn.D)(xs:List tVersion.D)(key:ByteArray):ByteArray×Bool:=
 match t.2.2.2.2.2.1.find? fun w=>vav w.1 key with
 |some w=>bif w.2.2 then(⟨#[]⟩,false)else(w.2.1,true)
 |none=>vsr xs key t.2.2.1
theorem wol (w:tWrite.D) (key) (k):vvn w key k=k (vav w.1 key,key):=by rw [wda];rfl
theorem vwt {u0:List tWrite.D} {u1}{key:ByteArray}:∀(l:List tWrite.D) (i:Nat),u0.drop i=l→
  (∃a:Nat,∃b:Int,(∀k,vjo u0 u1 l key i k=k (.inl ((a:Int),b,key)))∧a<u0.length∧l.find? (fun w=>vav w.1 key)=some (rd (Ty.zero tWrite) u0 (a:Int)))∨
  (∃b:Int,(∀k,vjo u0 u1 l key i k=k (.inr (b,key)))∧l.find? (fun w=>vav w.1 key)=none)
 |[],i,_=>.inr ⟨_,fun k=>rfl,rfl⟩
 |y::l,i,h=>by
  have hlt:=vfy h
  have hy:=(vbn h).1 (Ty.zero tWrite)
  simp only [vjo,wol,List.find?_cons]
  cases vav y.1 key
  ·simp only [cond_false];exact vwt l (i+1) (vcl h)
  ·exact .inl ⟨i,_,fun k=>rfl,hlt,by rw [hy]⟩
theorem wou {t:tTxn.D}{xs:List tVersion.D}(ht:tTxn.wt t≤1048576)(hl:xs.length≤1048576) (key) (k):v2l t xs key k=k (vst t xs key):=by
 have hlen:=(wdf ht).2
 rw [wc9]
 unfold v83
 rw [wev]
 unfold v9h vst
 rw [wqe (by omega)]
 unfold wc3
 rcases vwt (u0:=t.2.2.2.2.2.1) (u1:=0) (key:=key) t.2.2.2.2.2.1 0 rfl with⟨a,b,h1,h2,h3⟩|⟨b,h1,h3⟩
 ·rw [h1,h3]
  simp only [Sum.elim_inl,show decide ((a:Int)≥0)=true by simp,cond_true]
  rw [if_pos (by omega)]
  cases (rd (Ty.zero tWrite) t.2.2.2.2.2.1 (a:Int)).2.2
  ·simp only [cond_false];rw [if_pos (by omega)]
  ·rfl
 ·rw [h1,h3]
  simp only [Sum.elim_inr,show decide ((-1:Int)≥0)=false by decide,cond_false,wnj hl,vjl]
theorem vvj {u0:List tVersion.D} {u1 u2 u3 u5 u6 u7 u8 u9 u10 u11 u12}:∀(l:List tWrite.D) (i:Nat),
  ∃j:Int,∀k,vk3 u0 u1 u2 u3 u5 u6 u7 u8 u9 u10 u11 u12 l i k=k (match l.find? (fun w=>vav w.1 u1)with|some w=>.inl (bif w.2.2 then(⟨#[]⟩,false,j)else(w.2.1,true,j))|none=>.inr j)
 |[],i=>⟨_,fun k=>rfl⟩
 |y::l,i=>by
  obtain⟨j,hj⟩:=vvj (u0:=u0) (u1:=u1) (u2:=u2) (u3:=u3) (u5:=u5) (u6:=u6) (u7:=u7) (u8:=u8) (u9:=u9) (u10:=u10) (u11:=u11) (u12:=u12) l (i+1)
  simp only [vk3,hj,List.find?_cons]
  cases vav y.1 u1
  ·exact⟨j,fun k=>rfl⟩
  ·cases hg:y.2.2
   ·exact⟨(i:Int),fun k=>by simp [hg]⟩
   ·exact⟨(i:Int),fun k=>by simp [hg]⟩
theorem wn6 {t:tTxn.D}{xs:List tVersion.D}(hlen:t.2.2.2.2.2.1.length≤1048576)(hl:xs.length≤1048576) (key) (k):vq3 t xs key k=k (vst t xs key):=by
 rw [wpc (by omega)]
 unfold wet vst
 obtain⟨j,hj⟩:=vvj (u0:=xs) (u1:=key) (u2:=⟨#[]⟩) (u3:=false) (u5:=t.1) (u6:=t.2.1) (u7:=t.2.2.1) (u8:=t.2.2.2.1) (u9:=t.2.2.2.2.1) (u10:=t.2.2.2.2.2.1) (u11:=t.2.2.2.2.2.2.1) (u12:=t.2.2.2.2.2.2.2) t.2.2.2.2.2.1 0
 rw [hj]
 cases t.2.2.2.2.2.1.find? fun w=>vav w.1 key with
 |none=>simp only [Sum.elim_inr,wok hl,vjl]
 |some w=>cases hg:w.2.2<;>simp [hg]
theorem wns {t:tTxn.D}{xs:List tVersion.D}(ht:tTxn.wt t≤1048576)(hl:xs.length≤1048576) (key) (k):vq3 t xs key k=k (vst t xs key):=wn6 (wdf ht).2 hl key k
end
end Go.VE
/- Plain laws: where a name or an Id stands;a transaction's text. -/
namespace Go.VE
noncomputable section
set_option linter.unusedVariables false
set_option linter.unusedSimpArgs false
set_option maxRecDepth 100000
theorem vz3 (f:Int→UInt8):∀(l:List Int) (s:ByteArray),(l.foldl (fun s n=>s.push (f n)) s).data.toList=s.data.toList++l.map f
 |[],s=>by simp
 |n::l,s=>by
  rw [List.foldl_cons,vz3 f l]
  simp [ByteArray.push]
theorem veg (l:List Int):(va3 l).data.toList=l.map fun n=>UInt8.ofNat n.toNat:=by
 unfold va3
 rw [vz3 (fun n=>UInt8.ofNat n.toNat)]
 rfl
theorem vom {a b:ByteArray}(h:a.data.toList=b.data.toList):a=b:=by
 cases a;cases b;congr 1;exact Array.toList_inj.mp h
theorem vgg {a b:ByteArray}(h:vav a b=true):a=b:=by
 rw [vgb,beq_iff_eq,ByteArray.toList_eq,ByteArray.toList_eq]at h
 exact vom h
theorem vc4 (a b:List Int):va3 (a++b)=va3 a++va3 b:=by
 apply vom
 rw [ByteArray.data_append,Array.toList_append,veg,veg,veg,List.map_append]
theorem va5 (b:ByteArray):va3 (vaf b)=b:=by
 apply vom
 rw [veg]
 unfold vaf
 rw [List.map_map]
 conv=>rhs;rw [←List.map_id b.data.toList]
 apply List.map_congr_left
 intro x _
 show UInt8.ofNat ((x.toNat:Int)).toNat=x
 rw [Int.toNat_natCast]
 exact UInt8.ofNat_toNat
theorem vkt (l:List Int):(va3 l).size=l.length:=by
 have:=congrArg List.length (veg l)
 rw [List.length_map,Array.length_toList]at this
 exact this
def varL (n:Int):List Int:=if n>127 then [IntKind.wrap .u8 (IntKind.wrap .i64 (n.tmod 128+128)),IntKind.wrap .u8 (IntKind.wrap .i64 (n.tdiv 128))]else [IntKind.wrap .u8 n]
def varB (n:Int):ByteArray:=va3 (varL n)
theorem vbi (n:Int):(varB n).size≤2:=by unfold varB;rw [vkt];unfold varL;split<;>simp
def shB (s:ByteArray):ByteArray:=varB s.size++s
theorem vcj (s:ByteArray):(shB s).size≤2+s.size:=by unfold shB;rw [ByteArray.size_append];have:=vbi s.size;omega
def bitB (b:Bool):ByteArray:=bif b then⟨#[1]⟩else⟨#[0]⟩
theorem viy (b:Bool):(bitB b).size=1:=by cases b<;>rfl
theorem vmb:∃n,Fuel=n+3:=⟨Fuel-3,by have:=vb5;omega⟩
theorem vxo {n:Int}(h0:127<n)(h1:n≤16383):IntKind.wrap .i64 (n.tdiv 128)=n.tdiv 128∧¬(n.tdiv 128>127):=by
 have e:n.tdiv 128=n / 128:=Int.tdiv_eq_ediv_of_nonneg (by omega)
 rw [e]
 have a1:n / 128≤127:=by omega
 have a2:0≤n / 128:=by omega
 exact⟨va4 (by omega) (by omega),by omega⟩
theorem vnt {n:Int}(h1:n≤16383) (k):vez n k=k (varB n):=by
 obtain⟨f,hf⟩:=vmb
 rw [v9o]
 unfold v18 varB varL
 rw [hf]
 by_cases c:n>127
 ·obtain⟨e1,e2⟩:=vxo c h1
  simp only [vak,vhj,c,decide_true,cond_true,List.length_nil,List.length_cons,VE.maxLen,Nat.reduceAdd,Nat.reduceLeDiff,if_true,Sum.elim_inl,Sum.elim_inr,e1,e2,decide_false,cond_false,List.nil_append,List.cons_append]
 ·simp only [vak,vhj,c,decide_false,cond_false,List.length_nil,List.length_cons,VE.maxLen,Nat.reduceAdd,Nat.reduceLeDiff,if_true,if_false,Sum.elim_inr,List.nil_append]
theorem v5k {n:Int}(h0:0≤n)(h1:n≤16383) (k):vj9 n k=k (varB n,true):=by
 obtain⟨f,hf⟩:=vmb
 rw [v9k]
 unfold v0s varB varL
 have w:var n 0 1000000000=true:=by
  unfold var
  rw [decide_eq_true (show n≥0 by omega),decide_eq_true (show n≤1000000000 by omega)];rfl
 rw [hf]
 simp only [vo1,w,Bool.not_true,cond_false]
 by_cases c:n>127
 ·obtain⟨e1,e2⟩:=vxo c h1
  simp only [vak,vhi,c,decide_true,cond_true,List.length_nil,List.length_cons,VE.maxLen,Nat.reduceAdd,Nat.reduceLeDiff,if_true,Sum.elim_inl,Sum.elim_inr,e1,e2,decide_false,cond_false,List.nil_append,List.cons_append]
 ·simp only [vak,vhi,c,decide_false,cond_false,List.length_nil,List.length_cons,VE.maxLen,Nat.reduceAdd,Nat.reduceLeDiff,if_true,if_false,Sum.elim_inr,List.nil_append]
theorem vr3 {s:ByteArray}(h:s.size≤12) (k):vg9 s k=k (shB s):=by
 rw [wcw]
 unfold v64 shB
 rw [vnt (by omega)]
 have:=vbi s.size
 rw [if_pos (by omega)]
theorem v3p {s:ByteArray}(h:s.size≤12) (k):vxt s k=k (shB s,true):=by
 rw [wf6]
 unfold v6q shB
 have:=vbi s.size
 rw [decide_eq_false (by omega),cond_false,v5k (by omega) (by omega)]
 simp only []
 rw [if_pos (by omega)]
theorem wfl (b:Bool) (k):vp7 b k=k (bitB b):=by rw [wgi];cases b<;>rfl
theorem wen (b:Bool){s:List Int}(h:s.length≤100000) (k):vjx b s k=k (s++vaf (bitB b)):=by
 rw [wcp]
 unfold v55 vdp
 have e:∀x:Int,s.length+[x].length≤VE.maxLen:=fun x=>by simp only [List.length_cons,List.length_nil,VE.maxLen];omega
 cases b<;>simp only [cond_true,cond_false,e,if_true]<;>rfl
theorem v6e {a b:ByteArray}(ha:a.size≤12)(hb:b.size≤12){s:List Int}(h:s.length≤100000) (k):vir [a,b] s k=k (.inr ((s++vaf (shB a))++vaf (shB b))):=by
 obtain⟨f,hf⟩:=vmb
 have sa:=vcj a
 have sb:=vcj b
 rw [v67]
 unfold v03
 rw [hf]
 have c1:s.length+(vaf (shB a)).length≤VE.maxLen:=by rw [van];simp only [VE.maxLen];omega
 have c2:(s++vaf (shB a)).length+(vaf (shB b)).length≤VE.maxLen:=by rw [List.length_append,van,van];simp only [VE.maxLen];omega
 have w0:IntKind.wrap .i64 ((0:Int)+1)=1:=by decide
 have w1:IntKind.wrap .i64 ((1:Int)+1)=2:=by decide
 have r0:∀z:ByteArray,rd z [a,b] 0=a:=fun z=>rfl
 have r1:∀z:ByteArray,rd z [a,b] 1=b:=fun z=>rfl
 simp only [vak,vln,Sum.elim_inl,Sum.elim_inr,List.length_cons,List.length_nil,show ((0+1+1:Nat):Int)=2 from rfl,show decide ((0:Int)<2)=true from rfl,show decide ((1:Int)<2)=true from rfl,show decide ((2:Int)<2)=false from rfl,decide_true,cond_true,cond_false,show (0:Int)≤0∧(0:Int)<2 from by decide,show (0:Int)≤1∧(1:Int)<2 from by decide,and_self,if_true,w0,w1,r0,r1,v3p ha,v3p hb,c1,c2]
theorem wje {a:ByteArray}(ha:a.size≤12){s:List Int}(h:s.length≤100000) (k):vir [a] s k=k (.inr (s++vaf (shB a))):=by
 obtain⟨f,hf⟩:=vmb
 have sa:=vcj a
 rw [v67]
 unfold v03
 rw [hf]
 have c1:s.length+(vaf (shB a)).length≤VE.maxLen:=by rw [van];simp only [VE.maxLen];omega
 have w0:IntKind.wrap .i64 ((0:Int)+1)=1:=by decide
 have r0:∀z:ByteArray,rd z [a] 0=a:=fun z=>rfl
 simp only [vak,vln,Sum.elim_inl,Sum.elim_inr,List.length_cons,List.length_nil,show ((0+1:Nat):Int)=1 from rfl,show decide ((0:Int)<1)=true from rfl,show decide ((1:Int)<1)=false from rfl,decide_true,cond_true,cond_false,show (0:Int)≤0∧(0:Int)<1 from by decide,and_self,if_true,w0,r0,v3p ha,c1]
theorem wi0 {n:Int}(h0:0≤n)(h1:n≤16383){s:List Int}(h:s.length≤100000) (k):vw8 [n] s k=k (.inr (s++vaf (varB n))):=by
 obtain⟨f,hf⟩:=vmb
 have sa:=vbi n
 rw [wfb]
 unfold v84
 rw [hf]
 have c1:s.length+(vaf (varB n)).length≤VE.maxLen:=by rw [van];simp only [VE.maxLen];omega
 have w0:IntKind.wrap .i64 ((0:Int)+1)=1:=by decide
 have r0:∀z:Int,rd z [n] 0=n:=fun z=>rfl
 simp only [vak,vm0,Sum.elim_inl,Sum.elim_inr,List.length_cons,List.length_nil,show ((0+1:Nat):Int)=1 from rfl,show decide ((0:Int)<1)=true from rfl,show decide ((1:Int)<1)=false from rfl,decide_true,cond_true,cond_false,show (0:Int)≤0∧(0:Int)<1 from by decide,and_self,if_true,w0,r0,v5k h0 h1,c1]
def vm1:List Int→List Int→List Int
 |[],s=>s
 |n::l,s=>vm1 l (s++vaf (varB n))
theorem v01:∀(l s:List Int),(vm1 l s).length≤s.length+2*l.length
 |[],s=>by simp [vm1]
 |n::l,s=>by
  have:=v01 l (s++vaf (varB n))
  have v:=vbi n
  rw [List.length_append,van]at this
  simp only [vm1,List.length_cons];omega
theorem vw5 {u0}:∀(l s:List Int) (i:Nat),(∀n∈l,0≤n∧n≤16383)→s.length+2*l.length≤100000→∃j:Int,∀k,vky u0 l s i k=k (j,vm1 l s)
 |[],s,i,_,_=>⟨_,fun k=>rfl⟩
 |n::l,s,i,h,hs=>by
  simp only [List.length_cons]at hs
  have v:=vbi n
  have e:(s++vaf (varB n)).length≤s.length+2:=by rw [List.length_append,van];omega
  obtain⟨j,hj⟩:=vw5 (u0:=u0) l (s++vaf (varB n)) (i+1) (fun y hy=>h y (by simp [hy])) (by omega)
  refine⟨j,fun k=>?_⟩
  simp only [vky,v5k (h n (by simp)).1 (h n (by simp)).2,vm1]
  rw [if_pos (by rw [van];simp only [VE.maxLen];omega),hj]
theorem woh {l:List Int}(h:∀n∈l,0≤n∧n≤16383)(hl:l.length≤100) (k):vsm l k=k (vm1 l []):=by
 rw [wso (by omega)]
 unfold wfz
 obtain⟨j,hj⟩:=vw5 (u0:=l) l [] 0 h (by simp;omega)
 rw [hj]
def vew:List tRange.D→List Int→List Int
 |[],s=>s
 |y::l,s=>vew l ((s++vaf (shB y.1))++vaf (shB y.2))
def vc0:List tRange.D→ByteArray→ByteArray
 |[],s=>s
 |y::l,s=>vc0 l ((s++shB y.1)++shB y.2)
theorem v1s:∀l s,va3 (vew l s)=vc0 l (va3 s)
 |[],s=>rfl
 |y::l,s=>by rw [vew,vc0,v1s,vc4,vc4,va5,va5]
def vgn:List tWrite.D→List Int→List Int
 |[],s=>s
 |y::l,s=>vgn l (((s++vaf (shB y.1))++vaf (shB y.2.1))++vaf (bitB y.2.2))
def vdw:List tWrite.D→ByteArray→ByteArray
 |[],s=>s
 |y::l,s=>vdw l (((s++shB y.1)++shB y.2.1)++bitB y.2.2)
theorem v2d:∀l s,va3 (vgn l s)=vdw l (va3 s)
 |[],s=>rfl
 |y::l,s=>by rw [vgn,vdw,v2d,vc4,vc4,vc4,va5,va5,va5]
theorem vvd {u0 u3 u4 u5 u6 u7 u8 u9 u10}:∀(l:List tRange.D) (s:List Int) (i:Nat),(∀y∈l,y.1.size≤12∧y.2.size≤12)→s.length+40*l.length≤10000→
  ∃j:Int,(∀k,vjh u0 u3 u4 u5 u6 u7 u8 u9 u10 l s i k=k (j,vew l s))∧(vew l s).length≤s.length+40*l.length
 |[],s,i,_,_=>⟨_,fun k=>rfl,by simp [vew]⟩
 |y::l,s,i,h,hs=>by
  simp only [List.length_cons]at hs
  have hy:=h y (by simp)
  have s1:=vcj y.1
  have s2:=vcj y.2
  have e:((s++vaf (shB y.1))++vaf (shB y.2)).length≤s.length+28:=by rw [List.length_append,List.length_append,van,van];omega
  obtain⟨j,hj,hl⟩:=vvd (u0:=u0) (u3:=u3) (u4:=u4) (u5:=u5) (u6:=u6) (u7:=u7) (u8:=u8) (u9:=u9) (u10:=u10) l ((s++vaf (shB y.1))++vaf (shB y.2)) (i+1) (fun y hy=>h y (by simp [hy])) (by omega)
  refine⟨j,fun k=>?_,by simp only [vew,List.length_cons];omega⟩
  simp only [vjh,v6e hy.1 hy.2 (show s.length≤100000 by omega),Sum.elim_inr,hj,vew]
theorem vvm {u0 u3 u4 u5 u6 u7 u8 u9 u10}:∀(l:List tWrite.D) (s:List Int) (i:Nat),(∀y∈l,y.1.size≤12∧y.2.1.size≤12)→s.length+40*l.length≤10000→
  ∃j:Int,(∀k,vhp u0 u3 u4 u5 u6 u7 u8 u9 u10 l s i k=k (j,vgn l s))∧(vgn l s).length≤s.length+40*l.length
 |[],s,i,_,_=>⟨_,fun k=>rfl,by simp [vgn]⟩
 |y::l,s,i,h,hs=>by
  simp only [List.length_cons]at hs
  have hy:=h y (by simp)
  have s1:=vcj y.1
  have s2:=vcj y.2.1
  have s3:=viy y.2.2
  have e0:((s++vaf (shB y.1))++vaf (shB y.2.1)).length≤s.length+28:=by rw [List.length_append,List.length_append,van,van];omega
  have e:(((s++vaf (shB y.1))++vaf (shB y.2.1))++vaf (bitB y.2.2)).length≤s.length+29:=by rw [List.length_append,van];omega
  obtain⟨j,hj,hl⟩:=vvm (u0:=u0) (u3:=u3) (u4:=u4) (u5:=u5) (u6:=u6) (u7:=u7) (u8:=u8) (u9:=u9) (u10:=u10) l (((s++vaf (shB y.1))++vaf (shB y.2.1))++vaf (bitB y.2.2)) (i+1) (fun y hy=>h y (by simp [hy])) (by omega)
  refine⟨j,fun k=>?_,by simp only [vgn,List.length_cons];omega⟩
  simp only [vhp,v6e hy.1 hy.2 (show s.length≤100000 by omega),Sum.elim_inr,wen y.2.2 (show ((s++vaf (shB y.1))++vaf (shB y.2.1)).length≤100000 by omega),hj,vgn]
theorem vvh {u2 u3 u4 u5 u6 u7 u8 u9}:∀(l:List tRange.D) (s:ByteArray) (i:Nat),(∀y∈l,y.1.size≤12∧y.2.size≤12)→s.size+40*l.length≤10000→
  ∃j:Int,(∀k,vle u2 u3 u4 u5 u6 u7 u8 u9 l s i k=k (vc0 l s,j))∧(vc0 l s).size≤s.size+40*l.length
 |[],s,i,_,_=>⟨_,fun k=>rfl,by simp [vc0]⟩
 |y::l,s,i,h,hs=>by
  simp only [List.length_cons]at hs
  have hy:=h y (by simp)
  have s1:=vcj y.1
  have s2:=vcj y.2
  have e1:(s++shB y.1).size≤s.size+14:=by rw [ByteArray.size_append];omega
  have e:((s++shB y.1)++shB y.2).size≤s.size+28:=by rw [ByteArray.size_append];omega
  obtain⟨j,hj,hl⟩:=vvh (u2:=u2) (u3:=u3) (u4:=u4) (u5:=u5) (u6:=u6) (u7:=u7) (u8:=u8) (u9:=u9) l ((s++shB y.1)++shB y.2) (i+1) (fun y hy=>h y (by simp [hy])) (by omega)
  refine⟨j,fun k=>?_,by simp only [vc0,List.length_cons];omega⟩
  simp only [vle,vr3 hy.1,vr3 hy.2,vc0]
  rw [if_pos (by omega),if_pos (by omega),hj]
theorem vwe {u2 u3 u4 u5 u6 u7 u8 u9}:∀(l:List tWrite.D) (s:ByteArray) (i:Nat),(∀y∈l,y.1.size≤12∧y.2.1.size≤12)→s.size+40*l.length≤10000→
  ∃j:Int,(∀k,vj7 u2 u3 u4 u5 u6 u7 u8 u9 l s i k=k (vdw l s,j))∧(vdw l s).size≤s.size+40*l.length
 |[],s,i,_,_=>⟨_,fun k=>rfl,by simp [vdw]⟩
 |y::l,s,i,h,hs=>by
  simp only [List.length_cons]at hs
  have hy:=h y (by simp)
  have s1:=vcj y.1
  have s2:=vcj y.2.1
  have s3:=viy y.2.2
  have e1:(s++shB y.1).size≤s.size+14:=by rw [ByteArray.size_append];omega
  have e2:((s++shB y.1)++shB y.2.1).size≤s.size+28:=by rw [ByteArray.size_append];omega
  have e:(((s++shB y.1)++shB y.2.1)++bitB y.2.2).size≤s.size+29:=by rw [ByteArray.size_append];omega
  obtain⟨j,hj,hl⟩:=vwe (u2:=u2) (u3:=u3) (u4:=u4) (u5:=u5) (u6:=u6) (u7:=u7) (u8:=u8) (u9:=u9) l (((s++shB y.1)++shB y.2.1)++bitB y.2.2) (i+1) (fun y hy=>h y (by simp [hy])) (by omega)
  refine⟨j,fun k=>?_,by simp only [vdw,List.length_cons];omega⟩
  simp only [vj7,vr3 hy.1,vr3 hy.2,wfl,vdw]
  rw [if_pos (by omega),if_pos (by omega),if_pos (by omega),hj]
theorem vi1 {s:ByteArray}(h:vdu s=true):s.size≤3:=by
 unfold vdu var at h
 simp only [Bool.and_eq_true,decide_eq_true_eq]at h
 omega
theorem vmp:∀{l:List tWrite.D} {p},vcc p l=true→∀y∈l,vaz y=true
 |[],_,_,y,hy=>by cases hy
 |z::l,p,h,y,hy=>by
  simp only [vcc,Bool.and_eq_true]at h
  cases hy with
  |head=>exact h.1.1
  |tail _ hm=>exact vmp h.2 y hm
def voj (n:Int):Prop:=0≤n∧n≤16383
theorem vbx {t:tTxn.D}(h:vbl t=true):voj t.1∧voj t.2.1∧voj t.2.2.1∧voj t.2.2.2.1∧
  t.2.2.2.2.1.length≤8∧(∀y∈t.2.2.2.2.1,y.1.size≤12∧y.2.size≤12)∧t.2.2.2.2.2.1.length≤8∧(∀y∈t.2.2.2.2.2.1,y.1.size≤12∧y.2.1.size≤12)∧t.2.2.2.2.2.2.2.size≤12:=by
 unfold vbl var vcf at h
 simp only [Bool.and_eq_true,Bool.not_eq_true',decide_eq_true_eq,decide_eq_false_iff_not,List.any_eq_false,Bool.not_eq_true,Bool.and_eq_false_iff,beq_eq_false_iff_ne,bne_eq_false_iff_eq,Bool.not_eq_false',Bool.or_eq_true,ne_eq]at h
 obtain⟨⟨⟨⟨⟨⟨⟨⟨⟨⟨a1,a2⟩,a3⟩,a4⟩,⟨a5,a6⟩⟩,a7⟩,a8⟩,a9⟩,a10⟩,a11⟩,a12⟩:=h
 unfold voj
 refine⟨by omega,by omega,by omega,?_,by omega,fun y hy=>?_,by omega,fun y hy=>?_,?_⟩
 ·by_cases c:t.2.1=3
  ·have:=a8.resolve_left (fun hc=>hc c)
   have w:IntKind.wrap .i64 (t.2.2.1+1)=t.2.2.1+1:=va4 (by omega) (by omega)
   rw [w]at this
   omega
  ·have:@Eq Int t.2.2.2.1 0:=a9.resolve_left (fun hc=>c hc)
   omega
 ·have:vca y=true:=by have:=a7 y hy;revert this;cases vca y<;>simp
  unfold vca at this
  simp only [Bool.and_eq_true]at this
  have b1:=vi1 this.1.1
  have b2:=vi1 this.1.2
  omega
 ·have:=vmp a5 y hy
  unfold vaz at this
  simp only [Bool.and_eq_true,decide_eq_true_eq]at this
  have b1:=vi1 this.1.1
  omega
 ·by_cases c:t.2.1=2
  ·have:=vi1 (a10.resolve_left (fun hc=>hc c))
   omega
  ·have:=vgg (a11.resolve_left (fun hc=>c hc))
   rw [this];decide
def vcg (t:tTxn.D):ByteArray:=
 (vdw t.2.2.2.2.2.1 (vc0 t.2.2.2.2.1 (varB t.1++varB t.2.1++varB t.2.2.1++varB t.2.2.2.1++varB t.2.2.2.2.1.length)++varB t.2.2.2.2.2.1.length)++bitB t.2.2.2.2.2.2.1)++shB t.2.2.2.2.2.2.2
theorem wn4 {t:tTxn.D}(ht:tTxn.wt t≤1048576) (k):vq8 t k=k (bif vbl t then(vcg t,true)else(⟨#[]⟩,false)):=by
 rw [wq3 (by have:=vqo t;have:=vg2 (show (Ty.slice tWrite).wt t.2.2.2.2.2.1≤1048576 by omega);omega) (by have:=vqo t;have:=vg2 (show (Ty.slice tRange).wt t.2.2.2.2.1≤1048576 by omega);omega)]
 unfold wfa vcg
 simp only [vte ht]
 cases h:vbl t
 ·rfl
 ·obtain⟨⟨_,b1⟩,⟨_,b2⟩,⟨_,b3⟩,⟨_,b4⟩,b5,b6,b7,b8,b9⟩:=vbx h
  have v1:=vbi t.1
  have v2:=vbi t.2.1
  have v3:=vbi t.2.2.1
  have v4:=vbi t.2.2.2.1
  have v5:=vbi (t.2.2.2.2.1.length:Int)
  have v6:=vbi (t.2.2.2.2.2.1.length:Int)
  have v7:=viy t.2.2.2.2.2.2.1
  have v8:=vcj t.2.2.2.2.2.2.2
  have s2:=ByteArray.size_append (a:=(varB t.1)) (b:=(varB t.2.1))
  have s3:=ByteArray.size_append (a:=(varB t.1++varB t.2.1)) (b:=(varB t.2.2.1))
  have s4:=ByteArray.size_append (a:=(varB t.1++varB t.2.1++varB t.2.2.1)) (b:=(varB t.2.2.2.1))
  have s5:=ByteArray.size_append (a:=(varB t.1++varB t.2.1++varB t.2.2.1++varB t.2.2.2.1)) (b:=(varB t.2.2.2.2.1.length))
  obtain⟨j1,h1,z1⟩:=vvh (u2:=t.1) (u3:=t.2.1) (u4:=t.2.2.1) (u5:=t.2.2.2.1) (u6:=t.2.2.2.2.1) (u7:=t.2.2.2.2.2.1) (u8:=t.2.2.2.2.2.2.1) (u9:=t.2.2.2.2.2.2.2) t.2.2.2.2.1 (varB t.1++varB t.2.1++varB t.2.2.1++varB t.2.2.2.1++varB t.2.2.2.2.1.length) 0 b6 (by omega)
  have s6:=ByteArray.size_append (a:=(vc0 t.2.2.2.2.1 (varB t.1++varB t.2.1++varB t.2.2.1++varB t.2.2.2.1++varB t.2.2.2.2.1.length))) (b:=(varB t.2.2.2.2.2.1.length))
  obtain⟨j2,h2,z2⟩:=vwe (u2:=t.1) (u3:=t.2.1) (u4:=t.2.2.1) (u5:=t.2.2.2.1) (u6:=t.2.2.2.2.1) (u7:=t.2.2.2.2.2.1) (u8:=t.2.2.2.2.2.2.1) (u9:=t.2.2.2.2.2.2.2) t.2.2.2.2.2.1 (vc0 t.2.2.2.2.1 (varB t.1++varB t.2.1++varB t.2.2.1++varB t.2.2.2.1++varB t.2.2.2.2.1.length)++varB t.2.2.2.2.2.1.length) 0 b8 (by omega)
  have s7:=ByteArray.size_append (a:=(vdw t.2.2.2.2.2.1 (vc0 t.2.2.2.2.1 (varB t.1++varB t.2.1++varB t.2.2.1++varB t.2.2.2.1++varB t.2.2.2.2.1.length)++varB t.2.2.2.2.2.1.length))) (b:=(bitB t.2.2.2.2.2.2.1))
  simp only [Bool.not_true,cond_false,cond_true,vnt b1,vnt b2,vnt b3,vnt b4,vnt (show (t.2.2.2.2.1.length:Int)≤16383 by omega),vnt (show (t.2.2.2.2.2.1.length:Int)≤16383 by omega),wfl,vr3 b9]
  rw [if_pos (by omega),if_pos (by omega),if_pos (by omega),if_pos (by omega),h1]
  simp only []
  rw [if_pos (by omega),h2]
  simp only []
  rw [if_pos (by omega),if_pos (by omega)]
theorem wdp {t:tTxn.D}(ht:tTxn.wt t≤1048576) (k):vrw t k=k (bif vbl t then(vcg t,true)else(⟨#[]⟩,false)):=by
 rw [wqm (by have:=vqo t;have:=vg2 (show (Ty.slice tWrite).wt t.2.2.2.2.2.1≤1048576 by omega);omega) (by have:=vqo t;have:=vg2 (show (Ty.slice tRange).wt t.2.2.2.2.1≤1048576 by omega);omega)]
 unfold wd9 vcg
 simp only [voz ht]
 cases h:vbl t
 ·rfl
 ·obtain⟨b1,b2,b3,b4,b5,b6,b7,b8,b9⟩:=vbx h
  have hn:∀n∈([t.1,t.2.1,t.2.2.1,t.2.2.2.1,(t.2.2.2.2.1.length:Int)]:List Int),0≤n∧n≤16383:=by
   intro n hn
   simp only [List.mem_cons,List.not_mem_nil,or_false]at hn
   rcases hn with rfl|rfl|rfl|rfl|rfl
   ·exact b1
   ·exact b2
   ·exact b3
   ·exact b4
   ·exact⟨Int.natCast_nonneg _,by omega⟩
  have n1:=v01 [t.1,t.2.1,t.2.2.1,t.2.2.2.1,(t.2.2.2.2.1.length:Int)] []
  simp only [List.length_cons,List.length_nil]at n1
  obtain⟨j1,h1,z1⟩:=vvd (u0:=t.2.2.2.2.1) (u3:=t.1) (u4:=t.2.1) (u5:=t.2.2.1) (u6:=t.2.2.2.1) (u7:=t.2.2.2.2.1) (u8:=t.2.2.2.2.2.1) (u9:=t.2.2.2.2.2.2.1) (u10:=t.2.2.2.2.2.2.2) t.2.2.2.2.1 (vm1 [t.1,t.2.1,t.2.2.1,t.2.2.2.1,(t.2.2.2.2.1.length:Int)] []) 0 b6 (by omega)
  have v6:=vbi (t.2.2.2.2.2.1.length:Int)
  have e1:(vew t.2.2.2.2.1 (vm1 [t.1,t.2.1,t.2.2.1,t.2.2.2.1,(t.2.2.2.2.1.length:Int)] [])++vaf (varB (t.2.2.2.2.2.1.length:Int))).length≤500:=by rw [List.length_append,van];omega
  obtain⟨j2,h2,z2⟩:=vvm (u0:=t.2.2.2.2.2.1) (u3:=t.1) (u4:=t.2.1) (u5:=t.2.2.1) (u6:=t.2.2.2.1) (u7:=t.2.2.2.2.1) (u8:=t.2.2.2.2.2.1) (u9:=t.2.2.2.2.2.2.1) (u10:=t.2.2.2.2.2.2.2) t.2.2.2.2.2.1 (vew t.2.2.2.2.1 (vm1 [t.1,t.2.1,t.2.2.1,t.2.2.2.1,(t.2.2.2.2.1.length:Int)] [])++vaf (varB (t.2.2.2.2.2.1.length:Int))) 0 b8 (by omega)
  have v7:=viy t.2.2.2.2.2.2.1
  have e2:(vgn t.2.2.2.2.2.1 (vew t.2.2.2.2.1 (vm1 [t.1,t.2.1,t.2.2.1,t.2.2.2.1,(t.2.2.2.2.1.length:Int)] [])++vaf (varB (t.2.2.2.2.2.1.length:Int)))++vaf (bitB t.2.2.2.2.2.2.1)).length≤1000:=by rw [List.length_append,van];omega
  simp only [Bool.not_true,cond_false,cond_true,woh hn (show _≤100 by simp),h1,wi0 (s:=vew t.2.2.2.2.1 (vm1 [t.1,t.2.1,t.2.2.1,t.2.2.2.1,(t.2.2.2.2.1.length:Int)] [])) (show (0:Int)≤(t.2.2.2.2.2.1.length:Int) by omega) (show (t.2.2.2.2.2.1.length:Int)≤16383 by omega) (by omega),Sum.elim_inr,h2,wen t.2.2.2.2.2.2.1 (s:=vgn t.2.2.2.2.2.1 (vew t.2.2.2.2.1 (vm1 [t.1,t.2.1,t.2.2.1,t.2.2.2.1,(t.2.2.2.2.1.length:Int)] [])++vaf (varB (t.2.2.2.2.2.1.length:Int)))) (by omega),wje b9 (s:=(vgn t.2.2.2.2.2.1 (vew t.2.2.2.2.1 (vm1 [t.1,t.2.1,t.2.2.1,t.2.2.2.1,(t.2.2.2.2.1.length:Int)] [])++vaf (varB (t.2.2.2.2.2.1.length:Int)))++vaf (bitB t.2.2.2.2.2.2.1))) (by omega)]
  congr 2
  simp only [vc4,va5,v2d,v1s,vm1,show va3 []=(⟨#[]⟩:ByteArray)from rfl,List.nil_append]
end
end Go.VE
/- Plain laws of the draws: each gives,whatever the bytes. -/
namespace Go.VE
noncomputable section
set_option linter.unusedVariables false
set_option linter.unusedSimpArgs false
set_option maxRecDepth 100000
def Gives {α:Type}(F:(α→Option Res)→Option Res)(Q:α→Prop):Prop:=∃v,Q v∧∀k,F k=k v
theorem vac {α:Type}{v:α}{Q:α→Prop}(h:Q v):Gives (fun k=>k v) Q:=⟨v,h,fun _=>rfl⟩
theorem Gives.bind {α β:Type}{F:(β→Option Res)→Option Res}{R:β→Prop}(hF:Gives F R){H:β→(α→Option Res)→Option Res}{Q:α→Prop}(hH:∀v,R v→Gives (H v) Q):Gives (fun k=>F fun v=>H v k) Q:=by
 obtain⟨v,h1,h2⟩:=hF
 obtain⟨y,h3,h4⟩:=hH v h1
 exact⟨y,h3,fun k=>(h2 _).trans (h4 k)⟩
theorem vam {α:Type}{c:Bool}{F G:(α→Option Res)→Option Res}{Q:α→Prop}(hF:c=true→Gives F Q)(hG:c=false→Gives G Q):Gives (fun k=>bif c then F k else G k) Q:=by
 cases c
 ·exact hG rfl
 ·exact hF rfl
theorem vas {α:Type}{c:Prop} [Decidable c]{F:(α→Option Res)→Option Res}{Q:α→Prop}(hc:c)(hF:Gives F Q):Gives (fun k=>if c then F k else none) Q:=by
 simp only [hc,if_true];exact hF
theorem vsg {α:Type}{c:Prop} [Decidable c]{F:(α→Option Res)→Option Res}{Q:α→Prop}(hc:¬c)(hF:Gives F Q):Gives (fun k=>if c then none else F k) Q:=by
 simp only [hc,if_false];exact hF
theorem Gives.mono {α:Type}{F:(α→Option Res)→Option Res}{Q R:α→Prop}(h:Gives F Q)(hq:∀v,Q v→R v):Gives F R:=by
 obtain⟨v,h1,h2⟩:=h
 exact⟨v,hq v h1,h2⟩
theorem vbw {β γ:Type}{b:β→(β⊕γ→Option Res)→Option Res}{x:β}{n:Nat}{Q:γ→Prop}(h:Gives (b x) (fun r=>(∀y,r = .inl y→Gives (vak b n y) Q)∧∀z,r = .inr z→Q z)):Gives (vak b (n+1) x) Q:=by
 obtain⟨v,h1,h2⟩:=h
 cases v with
 |inl y=>
  obtain⟨w,h3,h4⟩:=h1.1 y rfl
  exact⟨w,h3,fun k=>by rw [vak,h2];exact h4 k⟩
 |inr z=>exact⟨z,h1.2 z rfl,fun k=>by rw [vak,h2];rfl⟩
theorem vth {β γ:Type}{Q:γ→Prop}{G:β→Prop}{y:β}(h:G y):(∀x,(Sum.inl y:β⊕γ) = .inl x→G x)∧∀z,(Sum.inl y:β⊕γ) = .inr z→Q z:=⟨fun _ e=>by cases e;exact h,fun _ e=>(nomatch e)⟩
theorem vg1 {β γ:Type}{Q:γ→Prop}{G:β→Prop}{z:γ}(h:Q z):(∀x,(Sum.inr z:β⊕γ) = .inl x→G x)∧∀w,(Sum.inr z:β⊕γ) = .inr w→Q w:=⟨fun _ e=>(nomatch e),fun _ e=>by cases e;exact h⟩
theorem whi:(⟨#[]⟩:ByteArray).size≤20:=by decide
def Dr (l:List Int)(p:Int):Prop:=l.length≤1048576∧0≤p
def okR (n:Nat)(l:List tRange.D):Prop:=l.length≤n∧∀y∈l,y.1.size≤20∧y.2.size≤20
def okW (n:Nat)(l:List tWrite.D):Prop:=l.length≤n∧∀y∈l,y.1.size≤20∧y.2.1.size≤20
theorem vji {n m:Nat} {l}(h:okR n l)(hm:n≤m):okR m l:=⟨Nat.le_trans h.1 hm,h.2⟩
theorem vfc {n m:Nat} {l}(h:okW n l)(hm:n≤m):okW m l:=⟨Nat.le_trans h.1 hm,h.2⟩
theorem wcq (n:Nat):okR n []:=⟨Nat.zero_le _,fun y hy=>by cases hy⟩
theorem v46 (n:Nat):okW n []:=⟨Nat.zero_le _,fun y hy=>by cases hy⟩
theorem wch {a b:ByteArray}(ha:a.size≤20)(hb:b.size≤20):okR 1 [(a,b)]:=⟨Nat.le_refl _,fun y hy=>by rw [List.mem_singleton]at hy;rw [hy];exact⟨ha,hb⟩⟩
theorem vy5 {w:tWrite.D}(ha:w.1.size≤20)(hb:w.2.1.size≤20):okW 1 [w]:=⟨Nat.le_refl _,fun y hy=>by rw [List.mem_singleton]at hy;rw [hy];exact⟨ha,hb⟩⟩
theorem vv7 {n m:Nat} {a b}(ha:okR n a)(hb:okR m b):okR (n+m) (a++b):=
 ⟨by have:=ha.1;have:=hb.1;rw [List.length_append];omega,fun y hy=>(List.mem_append.mp hy).elim (ha.2 y) (hb.2 y)⟩
theorem vmj {n m:Nat} {a b}(ha:okW n a)(hb:okW m b):okW (n+m) (a++b):=
 ⟨by have:=ha.1;have:=hb.1;rw [List.length_append];omega,fun y hy=>(List.mem_append.mp hy).elim (ha.2 y) (hb.2 y)⟩
theorem wky {α:Type}{d:α}{xs:List α}{i:Int}(h0:0≤i)(h1:i<(xs.length:Int)):rd d xs i∈xs:=by
 have h:i.toNat<xs.length:=by omega
 have e:rd d xs i=xs[i.toNat]:=by unfold rd;simp [List.getD,List.getElem?_eq_getElem h]
 rw [e]
 exact List.getElem_mem h
theorem v79 (v:BitVec (IntKind.bits .i64)):0≤IntKind.wrap .i64 ((v &&& BitVec.ofInt (IntKind.bits .i64) (255:Int)).toNat:Int)∧IntKind.wrap .i64 ((v &&& BitVec.ofInt (IntKind.bits .i64) (255:Int)).toNat:Int)≤255:=by
 have h:(v &&& BitVec.ofInt (IntKind.bits .i64) (255:Int)).toNat≤255:=by
  rw [BitVec.toNat_and]
  exact Nat.le_trans Nat.and_le_right (by decide)
 rw [va4 (by omega) (by omega)]
 omega
theorem wfc {a0:List Int}(hl:a0.length≤1048576):∀(m:Nat) (i:Nat) (s:Int) (n:Nat),a0.length-i=m→m<n→Gives (vak vng n (a0,s,(i:Int))) (fun z=>z.1=a0):=by
 intro m
 induction m with
 |zero=>
  intro i s n hm hn
  obtain⟨n,rfl⟩:∃q,n=q+1:=⟨n-1,by omega⟩
  apply vbw
  unfold vng
  refine vam (fun c=>by have c:=of_decide_eq_true c;(first|dsimp only at c|skip);omega) (fun _=>vac ?_)
  exact vg1 rfl
 |succ m ih=>
  intro i s n hm hn
  obtain⟨n,rfl⟩:∃q,n=q+1:=⟨n-1,by omega⟩
  apply vbw
  unfold vng
  refine vam (fun c=>vam (fun _=>?_) (fun _=>vac ?_)) (fun _=>vac ?_)
  ·refine Gives.bind (R:=fun z=>z.1=a0∧z.2.2=((i+1:Nat):Int)) ?_ (fun z hz=>vac ?_)
   ·unfold vej
    refine vas ⟨by dsimp only;omega,by have c:=of_decide_eq_true c;dsimp only at c ⊢;omega⟩ (vac ⟨rfl,?_⟩)
    exact vb1 (by omega)
   ·refine vth ?_
    rw [hz.1,hz.2]
    exact ih (i+1) _ n (by omega) (by omega)
  ·exact vg1 rfl
  ·exact vg1 rfl
theorem v0q {a0:List Int}(hl:a0.length≤1048576):Gives (vn1 a0) (fun z=>Dr z.1 z.2.1):=by
 rw [wdm]
 unfold v7w
 refine Gives.bind (wfc hl a0.length 0 _ Fuel rfl (by have:=vb5;omega)) (fun z hz=>vac ?_)
 rw [hz]
 exact⟨hl,Int.le_refl _⟩
theorem vxk {l:List Int}{p s:Int}(h:Dr l p):Gives (vmx l p s) (fun y=>0≤y.1∧y.1≤255∧Dr y.2.1 y.2.2.1):=by
 rw [wf5]
 unfold v6b
 have h1:=h.1
 have h2:=h.2
 refine vam (fun c=>vas ⟨h2,of_decide_eq_true c⟩ (vac ⟨(v79 _).1,(v79 _).2,h1,?_⟩)) (fun _=>vac ⟨(v79 _).1,(v79 _).2,h⟩)
 have c:=of_decide_eq_true c
 show 0≤IntKind.wrap .i64 (p+1)
 rw [va4 (by omega) (by omega)]
 omega
theorem vc1 {n:Int}(h0:0<n)(h1:n≤256){l:List Int}{p s:Int}(h:Dr l p):Gives (vcu n l p s) (fun y=>0≤y.1∧y.1<n∧Dr y.2.1 y.2.2.1):=by
 rw [v9f]
 unfold vz5
 refine vam (fun c=>by have c:=of_decide_eq_true c;(first|dsimp only at c|skip);omega) (fun _=>vam (fun _=>?_) (fun c=>absurd h1 (of_decide_eq_false c)))
 refine(vxk h).bind (fun y hy=>vsg (by omega) (vac ⟨?_,?_,hy.2.2⟩))
 ·exact Int.tmod_nonneg _ hy.1
 ·exact Int.tmod_lt_of_pos _ h0
theorem v0j {xs:List ByteArray}{Q:ByteArray→Prop}(hx:∀x∈xs,Q x)(h0:0<xs.length)(h1:xs.length≤256){l:List Int}{p s:Int}(h:Dr l p):Gives (vq5 xs l p s) (fun y=>Q y.1∧Dr y.2.1 y.2.2.1):=by
 rw [wfq]
 unfold v6c
 refine(vc1 (by omega) (by omega) h).bind (fun y hy=>vas ⟨hy.1,hy.2.1⟩ (vac ⟨hx _ (wky hy.1 hy.2.1),hy.2.2⟩))
theorem v08 {l:List Int}{p s:Int}(h:Dr l p):Gives (vmu l p s) (fun y=>y.1.size≤20∧Dr y.2.1 y.2.2.1):=by
 rw [v9c]
 unfold v0m
 exact(v0j (Q:=fun x=>x.size≤20) (by decide) (by decide) (by decide) h).bind (fun y hy=>vac hy)
theorem vw1 {n:Int}(h0:0<n)(h1:n≤256){l:List Int}{p s:Int}(h:Dr l p):Gives (vnz n l p s) (fun y=>Dr y.2.1 y.2.2.1):=by
 rw [wfi]
 unfold v66
 exact(vc1 h0 h1 h).bind (fun y hy=>vac hy.2.2)
theorem wk2 {l:List Int}{p s:Int}(h:Dr l p):Gives (vxl l p s) (fun y=>y.1.size≤20∧y.2.1.size≤20∧Dr y.2.2.1 y.2.2.2.1):=by
 rw [wdd]
 unfold v70
 refine(v08 h).bind (fun y1 h1=>(vw1 (by decide) (by decide) h1.2).bind (fun y2 h2=>vam (fun _=>vac ⟨h1.1,h1.1,h2⟩) (fun _=>(v08 h2).bind (fun y3 h3=>vam (fun _=>vac ⟨h3.1,h1.1,h3.2⟩) (fun _=>vac ⟨h1.1,h3.1,h3.2⟩)))))
theorem wd3:∀(m i:Nat) (l:List Int) (p s:Int) (acc:List tRange.D) (n:Nat),i+m=3→m<n→okR i acc→Dr l p→
  Gives (vak vm4 n ((i:Int),l,p,s,acc)) (fun z=>Dr z.2.1 z.2.2.1∧okR 3 z.2.2.2.2):=by
 intro m
 induction m with
 |zero=>
  intro i l p s acc n hm hn ha h
  obtain⟨n,rfl⟩:∃q,n=q+1:=⟨n-1,by omega⟩
  apply vbw
  unfold vm4
  refine(vc1 (by decide) (by decide) h).bind (fun y hy=>vam (fun c=>by have c:=of_decide_eq_true c;have:=hy.2.1;dsimp only at c;omega) (fun _=>vac (vg1 ⟨hy.2.2,vji ha (by omega)⟩)))
 |succ m ih=>
  intro i l p s acc n hm hn ha h
  obtain⟨n,rfl⟩:∃q,n=q+1:=⟨n-1,by omega⟩
  apply vbw
  unfold vm4
  refine(vc1 (by decide) (by decide) h).bind (fun y hy=>vam (fun c=>(wk2 hy.2.2).bind (fun y3 h3=>vas ?_ (vac (vth ?_)))) (fun _=>vac (vg1 ⟨hy.2.2,vji ha (by omega)⟩)))
  ·have:=ha.1;simp only [List.length_cons,List.length_nil,VE.maxLen];omega
  ·have e:IntKind.wrap .i64 ((i:Int)+1)=((i+1:Nat):Int):=vb1 (by omega)
   simp only [e]
   exact ih (i+1) _ _ _ _ n (by omega) (by omega) (vv7 ha (wch h3.1 h3.2.1)) h3.2.2
theorem wlr {l:List Int}{p s:Int}(h:Dr l p):Gives (vv1 l p s) (fun y=>Dr y.1 y.2.1∧okR 3 y.2.2.2):=by
 rw [we3]
 unfold v8v
 exact(wd3 3 0 l p s [] Fuel rfl (by have:=vb5;omega) (wcq _) h).bind (fun z hz=>vac hz)
theorem wmn {l:List Int}{p s:Int}(h:Dr l p):Gives (vr0 l p s) (fun y=>y.1.size≤20∧y.2.1.size≤20∧Dr y.2.2.2.1 y.2.2.2.2.1):=by
 rw [v61]
 unfold vz8
 refine(v08 h).bind (fun y1 h1=>(v0j (Q:=fun x=>x.size≤20) (by decide) (by decide) (by decide) h1.2).bind (fun y2 h2=>(vw1 (by decide) (by decide) h2.2).bind (fun y3 h3=>vam (fun _=>vac ⟨h1.1,whi,h3⟩) (fun _=>vac ⟨h1.1,h2.1,h3⟩))))
theorem vse {u0 u2 u3 u4}:∀(l:List tWrite.D) (s:List tWrite.D) (i m:Nat),(∀y∈l,y.1.size≤20∧y.2.1.size≤20)→okW m s→m+l.length≤1000000→
  Gives (fun k=>vfw u0 u2 u3 u4 l s i k) (fun z=>okW (m+l.length) z.2)
 |[],s,i,m,hl,hs,hm=>vac hs
 |y::l,s,i,m,hl,hs,hm=>by
  simp only [List.length_cons]at hm
  have hy:=hl y (by simp)
  have hl':=fun z hz=>hl z (List.mem_cons_of_mem y hz)
  simp only [vfw]
  refine vam (fun _=>vas ?_ ?_) (fun _=>?_)
  ·have:=hs.1;simp only [List.length_cons,List.length_nil,VE.maxLen];omega
  ·refine(vse l (s++[y]) (i+1) (m+1) hl' (vmj hs (vy5 hy.1 hy.2)) (by omega)).mono (fun z hz=>vfc hz ?_)
   simp only [List.length_cons];omega
  ·refine(vse l s (i+1) m hl' hs (by omega)).mono (fun z hz=>vfc hz ?_)
   simp only [List.length_cons];omega
theorem vsf {u0 u2 u3 u4}:∀(l:List tWrite.D) (s:List tWrite.D) (i m:Nat),(∀y∈l,y.1.size≤20∧y.2.1.size≤20)→okW m s→m+l.length≤1000000→
  Gives (fun k=>vf2 u0 u2 u3 u4 l s i k) (fun z=>okW (m+l.length) z.2)
 |[],s,i,m,hl,hs,hm=>vac hs
 |y::l,s,i,m,hl,hs,hm=>by
  simp only [List.length_cons]at hm
  have hy:=hl y (by simp)
  have hl':=fun z hz=>hl z (List.mem_cons_of_mem y hz)
  simp only [vf2]
  refine vam (fun _=>vas ?_ ?_) (fun _=>?_)
  ·have:=hs.1;simp only [List.length_cons,List.length_nil,VE.maxLen];omega
  ·refine(vsf l (s++[y]) (i+1) (m+1) hl' (vmj hs (vy5 hy.1 hy.2)) (by omega)).mono (fun z hz=>vfc hz ?_)
   simp only [List.length_cons];omega
  ·refine(vsf l s (i+1) m hl' hs (by omega)).mono (fun z hz=>vfc hz ?_)
   simp only [List.length_cons];omega
theorem wro {n:Nat}(hn:n≤1000){l:List tWrite.D}(hl:okW n l){w:tWrite.D}(h1:w.1.size≤20)(h2:w.2.1.size≤20):Gives (vks l w) (okW (2*n+1)):=by
 have hlen:=hl.1
 have e:vks l w=fun k=>v0i l w k:=by funext k;exact wk3 (by omega)
 rw [e]
 unfold v0i
 refine(vse l [] 0 0 hl.2 (v46 _) (by omega)).bind (fun z hz=>vas ?_ ?_)
 ·have:=hz.1;simp only [List.length_cons,List.length_nil,VE.maxLen];omega
 ·refine(vsf l _ 0 (0+l.length+1) hl.2 (vmj hz (vy5 h1 h2)) (by omega)).bind (fun z hz=>vac (vfc hz (by omega)))
theorem wce:∀(m i:Nat) (l:List Int) (p s:Int) (acc:List tWrite.D) (n:Nat),i+m=3→m<n→okW (4^i) acc→Dr l p→
  Gives (vak vhe n ((i:Int),l,p,s,acc)) (fun z=>Dr z.2.1 z.2.2.1∧okW 64 z.2.2.2.2):=by
 intro m
 induction m with
 |zero=>
  intro i l p s acc n hm hn ha h
  obtain⟨n,rfl⟩:∃q,n=q+1:=⟨n-1,by omega⟩
  have hp:4^i≤4^3:=Nat.pow_le_pow_right (by decide) (by omega)
  apply vbw
  unfold vhe
  refine(vc1 (by decide) (by decide) h).bind (fun y hy=>vam (fun c=>by have c:=of_decide_eq_true c;have:=hy.2.1;dsimp only at c;omega) (fun _=>vac (vg1 ⟨hy.2.2,vfc ha hp⟩)))
 |succ m ih=>
  intro i l p s acc n hm hn ha h
  obtain⟨n,rfl⟩:∃q,n=q+1:=⟨n-1,by omega⟩
  have hp:4^i≤4^3:=Nat.pow_le_pow_right (by decide) (by omega)
  have hq:4^(i+1)=4*4^i:=by rw [Nat.pow_succ];omega
  have h1:1≤4^i:=Nat.one_le_pow _ _ (by decide)
  apply vbw
  unfold vhe
  refine(vc1 (by decide) (by decide) h).bind (fun y hy=>vam (fun c=>(wmn hy.2.2).bind (fun y3 h3=>(wro (n:=4^i) (by omega) ha h3.1 h3.2.1).bind (fun y4 h4=>vac (vth ?_)))) (fun _=>vac (vg1 ⟨hy.2.2,vfc ha hp⟩)))
  have e:IntKind.wrap .i64 ((i:Int)+1)=((i+1:Nat):Int):=vb1 (by omega)
  simp only [e]
  exact ih (i+1) _ _ _ _ n (by omega) (by omega) (vfc h4 (by omega)) h3.2.2
theorem wk8 {l:List Int}{p s:Int}(h:Dr l p):Gives (vpw l p s) (fun y=>Dr y.1 y.2.1∧okW 64 y.2.2.2):=by
 rw [v78]
 unfold v2q
 exact(wce 3 0 l p s [] Fuel rfl (by have:=vb5;omega) (v46 _) h).bind (fun z hz=>vac hz)
def OkT (y:Int×Int×Int×Int×Bool×ByteArray×List Int×Int×Int×List tRange.D×List tWrite.D):Prop:=
 y.2.2.2.2.2.1.size≤20∧Dr y.2.2.2.2.2.2.1 y.2.2.2.2.2.2.2.1∧okR 4 y.2.2.2.2.2.2.2.2.2.1∧okW 65 y.2.2.2.2.2.2.2.2.2.2
theorem wpn {n:Int}(h0:0≤n)(h1:n<100000):IntKind.wrap .i64 ((1:Int)+n)=1+n:=va4 (by omega) (by omega)
theorem wp0 {l:List Int}{p s:Int}(h:Dr l p):Gives (v0e l p s) (fun y=>OkT y∧okR 3 y.2.2.2.2.2.2.2.2.2.1∧okW 64 y.2.2.2.2.2.2.2.2.2.2∧1≤y.1∧y.1≤6∧1≤y.2.1∧y.2.1≤3∧0≤y.2.2.1∧y.2.2.1≤5):=by
 rw [wgf]
 unfold v8j
 refine(vc1 (by decide) (by decide) h).bind (fun y1 h1=>(vc1 (by decide) (by decide) h1.2.2).bind (fun y2 h2=>(vc1 (by decide) (by decide) h2.2.2).bind (fun y3 h3=>(wlr h3.2.2).bind (fun y4 h4=>(wk8 h4.1).bind (fun y5 h5=>?_)))))
 have w1:=wpn h1.1 (by omega)
 have w2:=wpn h2.1 (by omega)
 have r4:=vji h4.2 (show 3≤4 by decide)
 have r5:=vfc h5.2 (show 64≤65 by decide)
 rw [w1,w2]
 have fin:∀{q:Prop},q→q∧okR 3 y4.2.2.2∧okW 64 y5.2.2.2∧1≤1+y1.1∧1+y1.1≤6∧1≤1+y2.1∧1+y2.1≤3∧0≤y3.1∧y3.1≤5:=fun hq=>⟨hq,h4.2,h5.2,by omega,by omega,by omega,by omega,by omega,by omega⟩
 refine vam (fun _=>(v08 h5.1).bind (fun y6 h6=>(vw1 (by decide) (by decide) h6.2).bind (fun y7 h7=>vac (fin ⟨h6.1,h7,r4,r5⟩)))) (fun _=>vam (fun _=>(vc1 (by decide) (by decide) h5.1).bind (fun y8 h8=>(vw1 (by decide) (by decide) h8.2.2).bind (fun y9 h9=>vac (fin ⟨whi,h9,r4,r5⟩)))) (fun _=>vac (fin ⟨whi,h5.1,r4,r5⟩)))
theorem wq1 {t:tTxn.D}{n m:Nat}(hn:n≤1000)(hm:m≤1000)(hr:okR n t.2.2.2.2.1)(hw:okW m t.2.2.2.2.2.1):Gives (vjy t) (fun y=>y=(t.1,t.2.1,t.2.2.1,t.2.2.2.1,t.2.2.2.2.2.2.1,t.2.2.2.2.2.2.2,t.2.2.2.2.1,t.2.2.2.2.2.1)):=by
 rw [v8p]
 unfold v0l
 have:=hr.1
 have:=hw.1
 exact vas (by simp only [List.length_nil,VE.maxLen];omega) (vas (by simp only [List.length_nil,VE.maxLen];omega) (vac rfl))
theorem wer {n c:Int}(h1:n≤1000):∀(m:Nat) (i:Int) (x:List Int) (q:Nat),0≤i→n-i≤m→m<q→(x.length:Int)=n→Gives (vak vm2 q (n,c,i,x)) (fun z=>(z.2.2.2.length:Int)=n):=by
 intro m
 induction m with
 |zero=>
  intro i x q h0 hm hq hx
  obtain⟨q,rfl⟩:∃r,q=r+1:=⟨q-1,by omega⟩
  apply vbw
  unfold vm2
  exact vam (fun c=>by have c:=of_decide_eq_true c;(first|dsimp only at c|skip);omega) (fun _=>vac (vg1 hx))
 |succ m ih=>
  intro i x q h0 hm hq hx
  obtain⟨q,rfl⟩:∃r,q=r+1:=⟨q-1,by omega⟩
  apply vbw
  unfold vm2
  refine vam (fun c=>?_) (fun _=>vac (vg1 hx))
  have c:=of_decide_eq_true c
  dsimp only at c
  refine vas ⟨h0,by dsimp only;omega⟩ (vac (vth ?_))
  simp only [va4 (show -9223372036854775808≤i+1 by omega) (show i+1<9223372036854775808 by omega)]
  exact ih (i+1) _ q (by omega) (by omega) (by omega) (by rw [List.length_set];exact hx)
theorem v1o:∀(l:List Int) (f:Int→UInt8) (s:ByteArray),(l.foldl (fun s n=>s.push (f n)) s).size=s.size+l.length
 |[],f,s=>rfl
 |n::l,f,s=>by
  rw [List.foldl_cons,v1o l f,ByteArray.size_push,List.length_cons];omega
theorem wm0 {n c:Int}(h0:0≤n)(h1:n≤20):Gives (vxc n c) (fun y=>y.size≤20):=by
 rw [wd7]
 unfold v59
 refine vas ⟨h0,Int.le_refl _,by simp only [VE.maxLen];omega⟩ ((wer (by omega) 20 0 _ Fuel (by omega) (by omega) (by have:=vb5;omega) (by rw [List.length_replicate];omega)).bind (fun z hz=>vac ?_))
 unfold va3
 rw [v1o _ (fun n=>UInt8.ofNat n.toNat)]
 show 0+_≤20
 omega
theorem wmp {l:List Int}{p s:Int}(h:Dr l p):Gives (vxu l p s) (fun y=>y.1.size≤20∧y.2.1.size≤20∧Dr y.2.2.2.1 y.2.2.2.2.1):=by
 rw [wfg]
 unfold v7z
 refine(wmn h).bind (fun y1 h1=>(vc1 (by decide) (by decide) h1.2.2).bind (fun y2 h2=>vam (fun _=>?_) (fun _=>vam (fun _=>?_) (fun _=>vam (fun _=>vac ⟨h1.1,h1.2.1,h2.2.2⟩) (fun _=>vac ⟨h1.1,h1.2.1,h2.2.2⟩)))))
 ·exact(v0j (Q:=fun x=>x.size≤20) (by decide) (by decide) (by decide) h2.2.2).bind (fun y3 h3=>vac ⟨h3.1,h1.2.1,h3.2⟩)
 ·refine(vc1 (by decide) (by decide) h2.2.2).bind (fun y4 h4=>?_)
  have e:IntKind.wrap .i64 ((12:Int)+y4.1)=12+y4.1:=va4 (by omega) (by omega)
  rw [e]
  exact(wm0 (by omega) (by omega)).bind (fun y5 h5=>vac ⟨h1.1,h5,h4.2.2⟩)
theorem v19 {l:List Int}{p s:Int}(h:Dr l p):Gives (voh l p s) OkT:=by
 rw [we7]
 unfold v51
 refine(vc1 (by decide) (by decide) h).bind (fun y1 h1=>(vc1 (by decide) (by decide) h1.2.2).bind (fun y2 h2=>(wp0 h2.2.2).bind (fun y3 h3=>(wq1 (n:=3) (m:=64) (by decide) (by decide) h3.2.1 h3.2.2.1).bind (fun y4 h4=>?_))))
 subst h4
 obtain⟨⟨hn,hd,hr4,hw65⟩,hr,hw,_⟩:=h3
 have m3:∀{n:Int},0≤n→0≤n.tmod 3∧n.tmod 3<((3:Nat):Int):=fun h=>⟨Int.tmod_nonneg _ h,Int.tmod_lt_of_pos _ (by decide)⟩
 refine vam (fun _=>vas (m3 h2.1) (vac ⟨hn,hd,hr4,hw65⟩)) (fun _=>vam (fun _=>vac ⟨hn,hd,hr4,hw65⟩) (fun _=>vam (fun _=>vac ⟨hn,hd,hr4,hw65⟩) (fun _=>vam (fun _=>vas (m3 h2.1) (vac ⟨?_,hd,hr4,hw65⟩)) (fun _=>vam (fun _=>vas ?_ (vac ⟨hn,hd,vv7 hr (wch (by decide) (by decide)),hw65⟩)) (fun _=>vam (fun _=>(wmp hd).bind (fun y5 h5=>vas ?_ (vac ⟨hn,h5.2.2,hr4,vmj hw (vy5 h5.1 h5.2.1)⟩))) (fun _=>vam (fun _=>vac ⟨hn,hd,hr4,hw65⟩) (fun _=>vac ⟨hn,hd,hr4,hw65⟩)))))))
 ·have:=m3 h2.1
  have hb:∀x∈[(⟨#[]⟩:ByteArray),(⟨#[65]⟩:ByteArray),(⟨#[97,98]⟩:ByteArray)],x.size≤20:=by decide
  exact hb _ (wky this.1 this.2)
 ·have:=hr.1;simp only [List.length_cons,List.length_nil,VE.maxLen];omega
 ·have:=hw.1;simp only [List.length_cons,List.length_nil,VE.maxLen];omega
theorem vtd {T:Ty}{c:Nat}:∀{l:List T.D},(∀y∈l,T.wt y≤c)→wtL T l≤c*l.length
 |[],_=>by simp [wtL]
 |y::l,h=>by
  have h1:=h y (by simp)
  have h2:=vtd (l:=l) (fun z hz=>h z (List.mem_cons_of_mem y hz))
  simp only [wtL,List.length_cons,Nat.mul_add];omega
theorem v7o {a b c d:Int}{f:Bool}{n:ByteArray}{r:List tRange.D}{w:List tWrite.D}(hn:n.size≤20)(hr:okR 4 r)(hw:okW 65 w):tTxn.wt (a,(b,(c,(d,(r,(w,(f,n)))))))≤1048576:=by
 have e:=vqo (a,(b,(c,(d,(r,(w,(f,n)))))))
 have h1:=vtd (T:=tRange) (c:=40) (l:=r) (fun y hy=>by have:=hr.2 y hy;rw [vpa];omega)
 have h2:=vtd (T:=tWrite) (c:=40) (l:=w) (fun y hy=>by have:=hw.2 y hy;rw [vo7];omega)
 rw [Ty.wt_slice,Ty.wt_slice]at e
 have:=hr.1
 have:=hw.1
 dsimp only at e
 omega
theorem wgz (l:List Int) (k):v1v l k=k (decide ((l.length:Int)>1048576)):=by rw [we1];rfl
end
end Go.VE
/- Plain laws: a range is read. -/
namespace Go.VE
noncomputable section
set_option linter.unusedVariables false
set_option linter.unusedSimpArgs false
set_option maxRecDepth 100000
theorem vwd (a b:ByteArray):vav a b=vav b a:=by rw [vgb,vgb];exact Bool.beq_comm
theorem vyh (a b:tRange.D):Ty.eqB tRange a b=Ty.eqB tRange b a:=by
 simp only [Ty.eqB];rw [vwd a.1,vwd a.2]
def vds (t:tTxn.D)(r:tRange.D):Bool×List tRange.D:=
 bif !vbl t then(false,t.2.2.2.2.1)else bif t.2.1 != 1 then(false,t.2.2.2.2.1)else bif !vca r then(false,t.2.2.2.2.1)else
 bif t.2.2.2.2.1.any (fun y=>Ty.eqB tRange y r)then(true,t.2.2.2.2.1)else bif decide ((t.2.2.2.2.1.length:Int)≥8)then(false,t.2.2.2.2.1)else(true,t.2.2.2.2.1++[r])
theorem vv4 {u0 u2 u3 u4 u5 u6 u7 u8 u9 u10 u11 u12 u13 u14 u15 u16 u17 u18 u19 u20 u21 u22 u23 u24 u25 u26 u27}:∀(l:List tRange.D) (i:Nat),∃j:Int,∀k,
  vkf u0 u2 u3 u4 u5 u6 u7 u8 u9 u10 u11 u12 u13 u14 u15 u16 u17 u18 u19 u20 u21 u22 u23 u24 u25 u26 u27 l i k=k (bif l.any (fun y=>Ty.eqB tRange y (u10,u11))then .inr (true,j)else .inl j)
 |[],i=>⟨_,fun k=>rfl⟩
 |y::l,i=>by
  obtain⟨j,hj⟩:=vv4 (u0:=u0) (u2:=u2) (u3:=u3) (u4:=u4) (u5:=u5) (u6:=u6) (u7:=u7) (u8:=u8) (u9:=u9) (u10:=u10) (u11:=u11) (u12:=u12) (u13:=u13) (u14:=u14) (u15:=u15) (u16:=u16) (u17:=u17) (u18:=u18) (u19:=u19) (u20:=u20) (u21:=u21) (u22:=u22) (u23:=u23) (u24:=u24) (u25:=u25) (u26:=u26) (u27:=u27) l (i+1)
  simp only [vkf,hj,List.any_cons]
  cases Ty.eqB tRange y (u10,u11)
  ·exact⟨j,fun k=>rfl⟩
  ·exact⟨i,fun k=>rfl⟩
theorem vxi {u0 u1 u4 u5}:∀(l:List tRange.D) (i:Nat),∃a:Nat,∃b:Int,∀k,vlw u0 u1 u4 u5 l i k=k (bif l.any (fun y=>Ty.eqB tRange y (u4,u5))then .inl ((a:Int),(a:Int))else .inr b)
 |[],i=>⟨0,_,fun k=>rfl⟩
 |y::l,i=>by
  obtain⟨a,b,hab⟩:=vxi (u0:=u0) (u1:=u1) (u4:=u4) (u5:=u5) l (i+1)
  simp only [vlw,hab,List.any_cons,vyh (u4,u5) y]
  cases Ty.eqB tRange y (u4,u5)
  ·exact⟨a,b,fun k=>rfl⟩
  ·exact⟨i,(i:Int),fun k=>rfl⟩
theorem wot {l:List tRange.D}(hl:l.length≤1048576)(r:tRange.D) (k):vwl l r k=k (l.any fun y=>Ty.eqB tRange y r):=by
 obtain⟨a,b,hab⟩:=vxi (u0:=l) (u1:=0) (u4:=r.1) (u5:=r.2) l 0
 rw [wcr]
 unfold v85
 rw [wrp (by omega)]
 unfold wfr
 rw [hab]
 simp only [vjl]
 cases (l.any fun y=>Ty.eqB tRange y r)
 ·rfl
 ·have:decide ((a:Int)≥0)=true:=by simp
  simp only [cond_true,Sum.elim_inl,this]
theorem vgf {a:tTxn.D}(ha:tTxn.wt a≤1048576):a.2.2.2.2.1.length≤1048576∧a.2.2.2.2.2.1.length≤1048576:=by
 rw [vqo]at ha
 exact⟨vg2 (T:=tRange) (by omega),vg2 (T:=tWrite) (by omega)⟩
theorem v4l {t:tTxn.D}(hr:t.2.2.2.2.1.length≤1048576)(hw:t.2.2.2.2.2.1.length≤1048576) (k):vjy t k=k (t.1,t.2.1,t.2.2.1,t.2.2.2.1,t.2.2.2.2.2.2.1,t.2.2.2.2.2.2.2,t.2.2.2.2.1,t.2.2.2.2.2.1):=by
 rw [v8p]
 unfold v0l
 rw [if_pos (by simp only [List.length_nil,VE.maxLen];omega),if_pos (by simp only [List.length_nil,VE.maxLen];omega)]
 rfl
theorem v3h {t:tTxn.D}(hr:t.2.2.2.2.1.length≤1048576)(hw:t.2.2.2.2.2.1.length≤1048576) (k):vmy t k=k (t.1,t.2.1,t.2.2.1,t.2.2.2.1,t.2.2.2.2.2.2.1,t.2.2.2.2.2.2.2,t.2.2.2.2.1,t.2.2.2.2.2.1):=by
 rw [wd0]
 unfold v8w
 rw [if_pos (by simp only [VE.maxLen];omega),if_pos (by simp only [VE.maxLen];omega)]
theorem wn0 {t:tTxn.D}(ht:tTxn.wt t≤1048576){r:tRange.D}(hr:tRange.wt r≤1048576) (k):vvi t r k=k (t.1,t.2.1,t.2.2.1,t.2.2.2.1,t.2.2.2.2.2.2.1,t.2.2.2.2.2.2.2,(vds t r).1,(vds t r).2,t.2.2.2.2.2.1):=by
 have hl:=vgf ht
 rw [wpi (by omega)]
 unfold weu vds
 simp only [v4l hl.1 hl.2,vte ht,wgq hr]
 cases hok:vbl t
 ·rfl
 ·simp only [Bool.not_true,cond_false]
  cases t.2.1 != 1
  ·cases vca r
   ·rfl
   ·simp only [Bool.not_true,cond_false]
    unfold vfi
    obtain⟨j,hj⟩:=vv4 (u0:=false) (u2:=t.1) (u3:=t.2.1) (u4:=t.2.2.1) (u5:=t.2.2.2.1) (u6:=t.2.2.2.2.1) (u7:=t.2.2.2.2.2.1) (u8:=t.2.2.2.2.2.2.1) (u9:=t.2.2.2.2.2.2.2) (u10:=r.1) (u11:=r.2) (u12:=0) (u13:=0) (u14:=0) (u15:=0) (u16:=false) (u17:=⟨#[]⟩) (u18:=t.1) (u19:=t.2.1) (u20:=t.2.2.1) (u21:=t.2.2.2.1) (u22:=t.2.2.2.2.2.2.1) (u23:=t.2.2.2.2.2.2.2) (u24:=[]) (u25:=[]) (u26:=t.2.2.2.2.1) (u27:=t.2.2.2.2.2.1) t.2.2.2.2.1 0
    simp only [hj,vjl]
    cases t.2.2.2.2.1.any (fun y=>Ty.eqB tRange y r)
    ·cases decide ((t.2.2.2.2.1.length:Int)≥8)
     ·simp only [cond_false,Sum.elim_inl];rw [if_pos (by simp only [List.length_singleton,VE.maxLen];omega)]
     ·rfl
    ·rfl
  ·rfl
theorem wnw {t:tTxn.D}(ht:tTxn.wt t≤1048576){r:tRange.D}(hr:tRange.wt r≤1048576) (k):vvy t r k=k (t.1,t.2.1,t.2.2.1,t.2.2.2.1,t.2.2.2.2.2.2.1,t.2.2.2.2.2.2.2,(vds t r).1,(vds t r).2,t.2.2.2.2.2.1):=by
 have hl:=vgf ht
 rw [wrw]
 unfold wey vds
 simp only [v3h hl.1 hl.2,voz ht,wgj hr]
 cases hok:vbl t
 ·rfl
 ·simp only [Bool.not_true,cond_false]
  cases t.2.1 != 1
  ·cases vca r
   ·rfl
   ·simp only [Bool.not_true,cond_false]
    unfold vfk
    simp only [wot hl.1,vjl]
    have h8:=(vbx hok).2.2.2.2.1
    have e8:((t.2.2.2.2.1.length:Int)==8)=decide ((t.2.2.2.2.1.length:Int)≥8):=by
     by_cases c:(t.2.2.2.2.1.length:Int)≥8
     ·rw [decide_eq_true c];simp;omega
     ·rw [decide_eq_false c];simp;omega
    rw [e8]
    cases t.2.2.2.2.1.any (fun y=>Ty.eqB tRange y r)
    ·cases decide ((t.2.2.2.2.1.length:Int)≥8)
     ·simp only [cond_false];rw [if_pos (by simp only [List.length_singleton,VE.maxLen];omega)]
     ·rfl
    ·rfl
  ·rfl
end
end Go.VE
/- Plain laws: a transaction's marks. -/
namespace Go.VE
noncomputable section
set_option linter.unusedVariables false
set_option linter.unusedSimpArgs false
set_option maxRecDepth 100000
theorem vzc {t:tTxn.D}(ht:tTxn.wt t≤1048576)(r:tRange.D):(vds t r).2.length≤1048576:=by
 have hl:=vgf ht
 unfold vds
 cases hok:vbl t
 ·exact hl.1
 ·have h8:=(vbx hok).2.2.2.2.1
  cases t.2.1 != 1<;>cases vca r<;>cases t.2.2.2.2.1.any (fun y=>Ty.eqB tRange y r)<;>cases decide ((t.2.2.2.2.1.length:Int)≥8)<;>simp only [Bool.not_true,Bool.not_false,cond_true,cond_false,List.length_append,List.length_singleton]<;>omega
end
end Go.VE
/- Plain laws: versions,bases. -/
namespace Go.VE
noncomputable section
set_option linter.unusedVariables false
set_option linter.unusedSimpArgs false
set_option maxRecDepth 100000
def vo0 (v:tVersion.D):Bool:=vdu v.1&&decide ((v.2.1.size:Int)≤12)&&(!v.2.2.1||vav v.2.1 ⟨#[]⟩)&&var v.2.2.2 1 9999
def vga (x y:tVersion.D):Bool:=vai x.1 y.1||(vav x.1 y.1&&decide (x.2.2.2<y.2.2.2))
end
end Go.VE
/- Plain laws: numbers and texts that are read. -/
namespace Go.VE
noncomputable section
set_option linter.unusedVariables false
set_option linter.unusedSimpArgs false
set_option maxRecDepth 100000
def encN (n:Nat):List Int:=if n>127 then((n % 128+128:Nat):Int)::encN (n / 128)else [(n:Int)]
 termination_by n
 decreasing_by omega
theorem vb7 {n:Nat}(h:n≤127):encN n=[(n:Int)]:=by rw [encN,if_neg (by omega)]
theorem vjb {n:Nat}(h:n>127):encN n=((n % 128+128:Nat):Int)::encN (n / 128):=by rw [encN,if_pos h]
theorem v1u:∀(m n:Nat),n≤m→∀y∈encN n,0≤y∧y≤255
 |m,n,h,y,hy=>by
  by_cases hn:n>127
  ·rw [vjb hn,List.mem_cons]at hy
   rcases hy with rfl|hy
   ·omega
   ·match m,h with
    |0,h=>omega
    |m+1,h=>exact v1u m (n / 128) (by omega) y hy
  ·rw [vb7 (by omega),List.mem_singleton]at hy
   omega
theorem v5p {x:Int}(h0:0≤x)(h1:x≤255):IntKind.wrap .u8 x=x:=by
 unfold IntKind.wrap
 simp only [IntKind.bits,IntKind.signed]
 have e:(2:Int)^8=256:=by decide
 simp [e]
 omega
theorem vnw (n:Nat):((n:Int).tmod 128)=((n % 128:Nat):Int):=by rw [Int.tmod_eq_emod_of_nonneg (by omega)];omega
theorem vx7 (n:Nat):((n:Int).tdiv 128)=((n / 128:Nat):Int):=by rw [Int.tdiv_eq_ediv_of_nonneg (by omega)];omega
theorem v1h:∀(m n:Nat) (acc:List Int) (q:Nat),n<128^m→m<q→acc.length+m≤1000→n<100000000000→∃n':Nat,∃acc':List Int,acc'++[(n':Int)]=acc++encN n∧n'≤127∧acc'.length≤1000∧∀K:Int×List Int→Option Res,
  vak vhi q ((n:Int),acc) K=K ((n':Int),acc')
 |0,n,acc,q,h,hq,ha,hb=>by
  have h0:n=0:=by simpa using h
  subst h0
  obtain⟨q,rfl⟩:∃q',q=q'+1:=⟨q-1,by omega⟩
  refine⟨0,acc,by rw [vb7 (by omega)];try rfl,by omega,by omega,fun K=>?_⟩
  simp [vak,vhi]
 |m+1,n,acc,q,h,hq,ha,hb=>by
  obtain⟨q,rfl⟩:∃q',q=q'+1:=⟨q-1,by omega⟩
  by_cases hn:n>127
  ·have h1:n / 128<128^m:=by rw [Nat.div_lt_iff_lt_mul (by omega)];rw [Nat.pow_succ]at h;omega
   have hw1:IntKind.wrap .i64 (((n % 128:Nat):Int)+128)=((n % 128+128:Nat):Int):=by rw [va4 (by omega) (by omega)];push_cast;rfl
   have hw2:IntKind.wrap .u8 ((n % 128+128:Nat):Int)=((n % 128+128:Nat):Int):=v5p (by omega) (by omega)
   have hw3:IntKind.wrap .i64 ((n / 128:Nat):Int)=((n / 128:Nat):Int):=va4 (by omega) (by omega)
   obtain⟨n',acc',e1,e2,e3,e4⟩:=v1h m (n / 128) (acc++[((n % 128+128:Nat):Int)]) q h1 (by omega) (by simp;omega) (by omega)
   refine⟨n',acc',by rw [e1,vjb hn,List.append_assoc];rfl,e2,e3,fun K=>?_⟩
   have hm:acc.length+[((n % 128+128:Nat):Int)].length≤VE.maxLen:=by show _≤4294967296;simp;omega
   simp only [vak,vhi,show (n:Int)>127 by omega,decide_true,cond_true,vnw,vx7,hw1,hw2,hw3,if_pos hm,Sum.elim_inl]
   exact e4 K
  ·refine⟨n,acc,by rw [vb7 (by omega)],by omega,by omega,fun K=>?_⟩
   simp only [vak,vhi,show ¬(n:Int)>127 by omega,decide_false,cond_false,Sum.elim_inr]
theorem v2k:∀(m n:Nat) (acc:List Int) (q:Nat),n<128^m→m<q→acc.length+m≤1000→n<100000000000→∃n':Nat,∃acc':List Int,acc'++[(n':Int)]=acc++encN n∧n'≤127∧acc'.length≤1000∧∀K:Int×List Int→Option Res,
  vak vhj q ((n:Int),acc) K=K ((n':Int),acc')
 |0,n,acc,q,h,hq,ha,hb=>by
  have h0:n=0:=by simpa using h
  subst h0
  obtain⟨q,rfl⟩:∃q',q=q'+1:=⟨q-1,by omega⟩
  refine⟨0,acc,by rw [vb7 (by omega)];try rfl,by omega,by omega,fun K=>?_⟩
  simp [vak,vhj]
 |m+1,n,acc,q,h,hq,ha,hb=>by
  obtain⟨q,rfl⟩:∃q',q=q'+1:=⟨q-1,by omega⟩
  by_cases hn:n>127
  ·have h1:n / 128<128^m:=by rw [Nat.div_lt_iff_lt_mul (by omega)];rw [Nat.pow_succ]at h;omega
   have hw1:IntKind.wrap .i64 (((n % 128:Nat):Int)+128)=((n % 128+128:Nat):Int):=by rw [va4 (by omega) (by omega)];push_cast;rfl
   have hw2:IntKind.wrap .u8 ((n % 128+128:Nat):Int)=((n % 128+128:Nat):Int):=v5p (by omega) (by omega)
   have hw3:IntKind.wrap .i64 ((n / 128:Nat):Int)=((n / 128:Nat):Int):=va4 (by omega) (by omega)
   obtain⟨n',acc',e1,e2,e3,e4⟩:=v2k m (n / 128) (acc++[((n % 128+128:Nat):Int)]) q h1 (by omega) (by simp;omega) (by omega)
   refine⟨n',acc',by rw [e1,vjb hn,List.append_assoc];rfl,e2,e3,fun K=>?_⟩
   have hm:acc.length+[((n % 128+128:Nat):Int)].length≤VE.maxLen:=by show _≤4294967296;simp;omega
   simp only [vak,vhj,show (n:Int)>127 by omega,decide_true,cond_true,vnw,vx7,hw1,hw2,hw3,if_pos hm,Sum.elim_inl]
   exact e4 K
  ·refine⟨n,acc,by rw [vb7 (by omega)],by omega,by omega,fun K=>?_⟩
   simp only [vak,vhj,show ¬(n:Int)>127 by omega,decide_false,cond_false,Sum.elim_inr]
theorem wh9 {n:Nat}(hn:n<100000000000) (k):vj9 (n:Int) k=k (bif decide (n≤1000000000)then(va3 (encN n),true)else(⟨#[]⟩,false)):=by
 rw [v9k]
 unfold v0s
 simp only [vo1]
 by_cases hb:n≤1000000000
 ·have hw:var (n:Int) 0 1000000000=true:=by unfold var;simp;omega
  simp only [hw,hb,decide_true,cond_true,Bool.not_true,cond_false]
  obtain⟨n',acc',e1,e2,e3,e4⟩:=v1h 10 n [] Fuel (Nat.lt_of_lt_of_le hn (by decide)) (Nat.lt_of_lt_of_le (by omega) vb5) (by simp) hn
  rw [e4]
  have hm:acc'.length+[(n':Int)].length≤VE.maxLen:=by show _≤4294967296;simp;omega
  have hw2:IntKind.wrap .u8 (n':Int)=(n':Int):=v5p (by omega) (by omega)
  simp only [hw2,if_pos hm,e1,List.nil_append]
 ·have hw:var (n:Int) 0 1000000000=false:=by unfold var;simp;omega
  simp only [hw,hb,decide_false,cond_false,Bool.not_false,cond_true]
theorem wi4 {n:Nat}(hn:n<100000000000) (k):vez (n:Int) k=k (va3 (encN n)):=by
 rw [v9o]
 unfold v18
 obtain⟨n',acc',e1,e2,e3,e4⟩:=v2k 10 n [] Fuel (Nat.lt_of_lt_of_le hn (by decide)) (Nat.lt_of_lt_of_le (by omega) vb5) (by simp) hn
 rw [e4]
 have hm:acc'.length+[(n':Int)].length≤VE.maxLen:=by show _≤4294967296;simp;omega
 have hw2:IntKind.wrap .u8 (n':Int)=(n':Int):=v5p (by omega) (by omega)
 simp only [hw2,if_pos hm,e1,List.nil_append]
def valN:List Int→Nat
 |[]=>0
 |c::l=>(c.toNat % 128)+128*valN l
def goOn:List Int→Prop
 |[]=>False
 |[c]=>0≤c∧c<128
 |c::l=>128≤c∧c≤255∧goOn l
theorem v5h:∀(P:List Int),goOn P→((encN (valN P)).length=P.length↔encN (valN P)=P)
 |[],h=>h.elim
 |[c],h=>by
  simp only [goOn]at h
  have hv:valN [c]=c.toNat:=by simp only [valN];omega
  rw [hv,vb7 (by omega)]
  simp
  omega
 |c::d::l,h=>by
  simp only [goOn]at h
  have ih:=v5h (d::l) h.2.2
  have hv:valN (c::d::l)=(c.toNat % 128)+128*valN (d::l):=rfl
  constructor
  ·intro hlen
   by_cases h0:valN (d::l)=0
   ·rw [hv,h0,vb7 (by omega)]at hlen
    simp at hlen
   ·rw [hv,vjb (by omega)]at hlen ⊢
    have e1:(c.toNat % 128+128*valN (d::l)) / 128=valN (d::l):=by omega
    have e2:(c.toNat % 128+128*valN (d::l)) % 128=c.toNat % 128:=by omega
    rw [e1]at hlen ⊢
    rw [e2]
    rw [ih.1 (by simpa using hlen)]
    congr 1
    omega
  ·intro h;rw [h]
def rvF (i n:Nat):List Int→Option (Nat×Nat)
 |[]=>none
 |c::l=>if 5≤i then none else
   if c<128 then(if n+(c.toNat % 128)*128^i≤1000000000∧(encN (n+(c.toNat % 128)*128^i)).length=i+1 then some (n+(c.toNat % 128)*128^i,i+1)else none)
   else rvF (i+1) (n+(c.toNat % 128)*128^i) l
def rvR (a:Nat):Option (Nat×Nat)→Int×Int×Bool
 |none=>(0,0,false)
 |some (n,c)=>((n:Int),((a+c:Nat):Int),true)
def vat (s:ByteArray)(a:Int):Int×Int×Bool:=
 bif var a 0 (s.size:Int)then rvR a.toNat (rvF 0 0 ((vaf s).drop a.toNat))else(0,0,false)
theorem vy6 {s:ByteArray}{a:Nat}{c:Int}{l:List Int}(h:(vaf s).drop a=c::l):bt s (a:Int)=c∧0≤c∧c≤255∧a<s.size:=by
 have h1:=v3w h
 have h2:=vfy h
 rw [van]at h2
 refine⟨h1,?_,?_,h2⟩
 ·rw [←h1];unfold bt;omega
 ·rw [←h1];unfold bt
  have:=UInt8.toNat_lt (s.data.getD (a:Int).toNat 0)
  omega
theorem wde {s:ByteArray}(hs:s.size≤1048576){a:Nat}(ha:a≤s.size):∀(d i n q:Nat) (k:Int×Int×Bool→Option Res),5-i=d→i≤5→n<128^i→d<q→
  vak vk4 q (s,(a:Int),(0:Int),(0:Int),false,(n:Int),(i:Int)) (Sum.elim (fun _=>k ((0:Int),(0:Int),false)) (fun z=>k (z.2.2.1,z.2.2.2.1,z.2.2.2.2.1)))=k (rvR a (rvF i n ((vaf s).drop (a+i)))):=by
 intro d
 induction d with
 |zero=>
  intro i n q k hd hi hn hq
  obtain⟨q,rfl⟩:∃q',q=q'+1:=⟨q-1,by omega⟩
  have h5:i=5:=by omega
  subst h5
  simp only [vak,vk4,show ¬((5:Nat):Int)<5 by omega,decide_false,cond_false,Sum.elim_inr,Sum.elim_inl]
  cases (vaf s).drop (a+5)with
  |nil=>rfl
  |cons c l=>simp [rvF,rvR]
 |succ d ih=>
  intro i n q k hd hi hn hq
  obtain⟨q,rfl⟩:∃q',q=q'+1:=⟨q-1,by omega⟩
  have hi5:(i:Int)<5:=by omega
  cases hL:(vaf s).drop (a+i)with
  |nil=>
   have hge:¬((a+i:Nat):Int)<(s.size:Int):=vzn hL
   have hw:IntKind.wrap .i64 ((a:Int)+(i:Int))=((a+i:Nat):Int):=by rw [va4 (by omega) (by omega)];push_cast;rfl
   simp only [vak,vk4,hi5,hw,hge,decide_true,decide_false,cond_true,cond_false,Sum.elim_inr,Sum.elim_inl]
   rfl
  |cons c l=>
   obtain⟨hc,c0,c1,hlt⟩:=vy6 hL
   have hw:IntKind.wrap .i64 ((a:Int)+(i:Int))=((a+i:Nat):Int):=by rw [va4 (by omega) (by omega)];push_cast;rfl
   have hwc:IntKind.wrap .i64 c=c:=va4 (by omega) (by omega)
   have hP:128^i≤268435456:=by
    have:128^i≤128^4:=Nat.pow_le_pow_right (by omega) (by omega)
    exact Nat.le_trans this (by decide)
   obtain⟨cn,rfl⟩:=Int.eq_ofNat_of_zero_le c0
   have h7:IntKind.wrap .i64 ((7:Int)*(i:Int))=((7*i:Nat):Int):=by rw [va4 (by omega) (by omega)];push_cast;rfl
   have hmin:min (7*i) (IntKind.bits .i64)=7*i:=by
    show min (7*i) 64=7*i
    omega
   have hpow:(2:Int)^(7*i)=((128^i:Nat):Int):=by rw [Int.pow_mul];push_cast;rfl
   have hQ:(cn % 128)*128^i≤127*128^i:=Nat.mul_le_mul_right _ (by omega)
   have hmul:IntKind.wrap .i64 (((cn % 128:Nat):Int)*((128^i:Nat):Int))=(((cn % 128)*128^i:Nat):Int):=by
    rw [←Int.natCast_mul];exact va4 (by omega) (by omega)
   have hadd:IntKind.wrap .i64 ((n:Int)+(((cn % 128)*128^i:Nat):Int))=((n+(cn % 128)*128^i:Nat):Int):=by rw [va4 (by omega) (by omega)];push_cast;rfl
   have hi1:IntKind.wrap .i64 ((i:Int)+1)=((i+1:Nat):Int):=vb1 (by omega)
   have ha1:IntKind.wrap .i64 (((a+i:Nat):Int)+1)=((a+i+1:Nat):Int):=vb1 (by omega)
   have hn':n+(cn % 128)*128^i<128^(i+1):=by rw [Nat.pow_succ];omega
   have hbound:128^(i+1)≤34359738368:=by rw [Nat.pow_succ];omega
   simp only [vak,vk4,ves,hi5,hw,hc,hwc,show ((a+i:Nat):Int)<(s.size:Int) by omega,decide_true,cond_true,show (0:Int)≤((a+i:Nat):Int) by omega,and_self,if_true,
    h7,show ¬((7*i:Nat):Int)<0 by omega,if_false,vnw,hmin,hpow,hmul,hadd,hi1,ha1,rvF,show ¬5≤i by omega,Int.toNat_natCast]
   by_cases h128:(cn:Int)<128
   ·simp only [h128,decide_true,cond_true,if_true,wh9 (show n+(cn % 128)*128^i<100000000000 by omega)]
    by_cases hmx:n+(cn % 128)*128^i≤1000000000
    ·simp only [hmx,decide_true,cond_true,Bool.not_true,cond_false,vkt,true_and]
     by_cases hlen:(encN (n+(cn % 128)*128^i)).length=i+1
     ·have hne:(((encN (n+(cn % 128)*128^i)).length:Int) != ((i+1:Nat):Int))=false:=by rw [hlen];simp
      rw [if_pos hlen]
      simp only [hne,cond_false,Sum.elim_inl,Sum.elim_inr,rvR]
      rfl
     ·have hne:(((encN (n+(cn % 128)*128^i)).length:Int) != ((i+1:Nat):Int))=true:=by simp;omega
      rw [if_neg hlen]
      simp only [hne,cond_true,Sum.elim_inl,Sum.elim_inr,rvR]
    ·have hno:¬(n+(cn % 128)*128^i≤1000000000∧(encN (n+(cn % 128)*128^i)).length=i+1):=fun h=>hmx h.1
     simp only [hmx,decide_false,cond_false,Bool.not_false,cond_true,Sum.elim_inl,Sum.elim_inr,false_and,if_false,rvR]
   ·simp only [h128,decide_false,cond_false,if_false,Sum.elim_inl,Sum.elim_inr]
    have:=ih (i+1) (n+(cn % 128)*128^i) q k (by omega) (by omega) hn' (by omega)
    rw [show a+(i+1)=a+i+1 by omega,show (vaf s).drop (a+i+1)=l from vcl hL]at this
    exact this
theorem vhr {l:List Int}(h:∀y∈l,0≤y∧y≤255):vaf (va3 l)=l:=by
 unfold vaf
 rw [veg,List.map_map]
 conv=>rhs;rw [←List.map_id l]
 apply List.map_congr_left
 intro y hy
 have:=h y hy
 simp [Function.comp]
 omega
theorem vd4 (s:ByteArray)(a b:Nat):vaf (s.extract a b)=((vaf s).drop a).take (b-a):=by
 unfold vaf
 simp [ByteArray.data_extract,List.map_take,List.map_drop]
theorem wbb (a b:ByteArray):vav a b=decide (vaf a=vaf b):=by
 cases h:vav a b
 ·symm;apply decide_eq_false
  intro e
  have e2:a=b:=by rw [←va5 a,e,va5 b]
  rw [e2,vgb,beq_self_eq_true]at h
  cases h
 ·symm;apply decide_eq_true;rw [vgg h]
theorem wdj {s:ByteArray}(hs:s.size≤1048576){a:Nat}(ha:a≤s.size):∀(d i n q:Nat) (k:Int×Int×Bool→Option Res),5-i=d→i≤5→n<128^i→d<q→
  (∀l,valN (((vaf s).drop a).take i++l)=n+128^i*valN l)→(∀l,goOn l→goOn (((vaf s).drop a).take i++l))→
  vak vk1 q (s,(a:Int),(0:Int),(0:Int),false,(n:Int),((128^i:Nat):Int),((a+i:Nat):Int)) (Sum.elim (fun _=>k ((0:Int),(0:Int),false)) (fun z=>k (z.2.2.1,z.2.2.2.1,z.2.2.2.2.1)))=k (rvR a (rvF i n ((vaf s).drop (a+i)))):=by
 intro d
 induction d with
 |zero=>
  intro i n q k hd hi hn hq hV hG
  obtain⟨q,rfl⟩:∃q',q=q'+1:=⟨q-1,by omega⟩
  have h5:i=5:=by omega
  subst h5
  have hw:IntKind.wrap .i64 ((a:Int)+5)=((a+5:Nat):Int):=by rw [va4 (by omega) (by omega)];push_cast;rfl
  simp only [vak,vk1,hw,show ¬((a+5:Nat):Int)<((a+5:Nat):Int) by omega,decide_false,cond_false]
  cases decide (((a+5:Nat):Int)<(s.size:Int))<;>(simp only [cond_true,cond_false,Sum.elim_inr,Sum.elim_inl];cases (vaf s).drop (a+5)<;>simp [rvF,rvR])
 |succ d ih=>
  intro i n q k hd hi hn hq hV hG
  obtain⟨q,rfl⟩:∃q',q=q'+1:=⟨q-1,by omega⟩
  have hw5:IntKind.wrap .i64 ((a:Int)+5)=((a+5:Nat):Int):=by rw [va4 (by omega) (by omega)];push_cast;rfl
  have hi5:((a+i:Nat):Int)<((a+5:Nat):Int):=by omega
  cases hL:(vaf s).drop (a+i)with
  |nil=>
   have hge:¬((a+i:Nat):Int)<(s.size:Int):=vzn hL
   simp only [vak,vk1,hge,decide_false,cond_false,Sum.elim_inr,Sum.elim_inl]
   rfl
  |cons c l=>
   obtain⟨hc,c0,c1,hlt⟩:=vy6 hL
   have hwc:IntKind.wrap .i64 c=c:=va4 (by omega) (by omega)
   have hP:128^i≤268435456:=by
    have:128^i≤128^4:=Nat.pow_le_pow_right (by omega) (by omega)
    exact Nat.le_trans this (by decide)
   have htk:((vaf s).drop a).take (i+1)=((vaf s).drop a).take i++[c]:=by
    rw [List.take_add,List.drop_drop,hL];rfl
   obtain⟨cn,rfl⟩:=Int.eq_ofNat_of_zero_le c0
   have hQ:(cn % 128)*128^i≤127*128^i:=Nat.mul_le_mul_right _ (by omega)
   have hmul:IntKind.wrap .i64 (((cn % 128:Nat):Int)*((128^i:Nat):Int))=(((cn % 128)*128^i:Nat):Int):=by
    rw [←Int.natCast_mul];exact va4 (by omega) (by omega)
   have hadd:IntKind.wrap .i64 ((n:Int)+(((cn % 128)*128^i:Nat):Int))=((n+(cn % 128)*128^i:Nat):Int):=by rw [va4 (by omega) (by omega)];push_cast;rfl
   have hn':n+(cn % 128)*128^i<128^(i+1):=by rw [Nat.pow_succ];omega
   have hbound:128^(i+1)≤34359738368:=by rw [Nat.pow_succ];omega
   have hbase:IntKind.wrap .i64 (((128^i:Nat):Int)*128)=((128^(i+1):Nat):Int):=by
    rw [show ((128^i:Nat):Int)*128=((128^(i+1):Nat):Int) by rw [Nat.pow_succ];push_cast;rfl]
    exact va4 (by omega) (by omega)
   have ha1:IntKind.wrap .i64 (((a+i:Nat):Int)+1)=((a+i+1:Nat):Int):=vb1 (by omega)
   simp only [vak,vk1,vey,hi5,hw5,hc,hwc,show ((a+i:Nat):Int)<(s.size:Int) by omega,decide_true,cond_true,show (0:Int)≤((a+i:Nat):Int) by omega,and_self,if_true,
    vnw,hmul,hadd,hbase,ha1,rvF,show ¬5≤i by omega,if_false,Int.toNat_natCast]
   by_cases h128:(cn:Int)<128
   ·simp only [h128,decide_true,cond_true,if_true]
    by_cases hmx:n+(cn % 128)*128^i≤1000000000
    ·have hng:¬(((n+(cn % 128)*128^i:Nat):Int)>1000000000):=by omega
     have hgo:goOn (((vaf s).drop a).take (i+1)):=by rw [htk];exact hG [(cn:Int)] ⟨by omega,h128⟩
     have hval:valN (((vaf s).drop a).take (i+1))=n+(cn % 128)*128^i:=by
      rw [htk,hV];simp only [valN,Int.toNat_natCast];rw [Nat.mul_zero,Nat.add_zero,Nat.mul_comm]
     have hlen:(((vaf s).drop a).take (i+1)).length=i+1:=by
      have:=van s
      simp only [List.length_take,List.length_drop]
      omega
     have hE:=v5h _ hgo
     rw [hval,hlen]at hE
     have hseq:vav (va3 (encN (n+(cn % 128)*128^i))) (s.extract a (a+i+1))=decide ((encN (n+(cn % 128)*128^i)).length=i+1):=by
      rw [wbb,vhr (v1u _ _ (Nat.le_refl _)),vd4,show a+i+1-a=i+1 by omega]
      exact decide_eq_decide.2 hE.symm
     simp only [hng,decide_false,cond_false,wi4 (show n+(cn % 128)*128^i<100000000000 by omega),hseq,hmx,true_and,show (0:Int)≤(a:Int) by omega,show (a:Int)≤((a+i+1:Nat):Int) by omega,show ((a+i+1:Nat):Int)≤(s.size:Int) by omega,and_self,if_true]
     by_cases hl:(encN (n+(cn % 128)*128^i)).length=i+1
     ·simp only [hl,decide_true,Bool.not_true,cond_false,if_true,Sum.elim_inl,Sum.elim_inr,rvR]
      rfl
     ·simp only [hl,decide_false,Bool.not_false,cond_true,if_false,Sum.elim_inl,Sum.elim_inr,rvR]
    ·have hng:(((n+(cn % 128)*128^i:Nat):Int)>1000000000):=by omega
     simp only [hng,hmx,decide_true,cond_true,false_and,if_false,Sum.elim_inl,Sum.elim_inr,rvR]
   ·simp only [h128,decide_false,cond_false,if_false,Sum.elim_inl,Sum.elim_inr]
    have:=ih (i+1) (n+(cn % 128)*128^i) q k (by omega) (by omega) hn' (by omega)
     (fun l'=>by rw [htk,List.append_assoc,hV];simp only [List.cons_append,List.nil_append,valN,Int.toNat_natCast];rw [Nat.mul_add,Nat.pow_succ,Nat.mul_comm (128^i) (cn % 128),Nat.mul_assoc,Nat.add_assoc])
     (fun l' hl'=>by
      rw [htk,List.append_assoc]
      apply hG
      cases l' with
      |nil=>exact hl'.elim
      |cons x y=>exact⟨by omega,by omega,hl'⟩)
    rw [show a+(i+1)=a+i+1 by omega,show (vaf s).drop (a+i+1)=l from vcl hL]at this
    exact this
theorem wdx {s:ByteArray}(hs:s.size≤1048576)(a:Int) (k):vxe s a k=k (vat s a):=by
 rw [wb5]
 unfold v6h vat
 simp only [vo1]
 cases h:var a 0 (s.size:Int)
 ·rfl
 ·have h':=h
  unfold var at h'
  simp only [Bool.and_eq_true,decide_eq_true_eq]at h'
  obtain⟨n,rfl⟩:=Int.eq_ofNat_of_zero_le h'.1
  simp only [Bool.not_true,cond_false,cond_true,Int.toNat_natCast]
  exact wde hs (by omega) 5 0 0 Fuel k rfl (by omega) (by decide) (Nat.lt_of_lt_of_le (by omega) vb5)
theorem wc1 {s:ByteArray}(hs:s.size≤1048576)(a:Int) (k):vw0 s a k=k (vat s a):=by
 rw [wc5]
 unfold v6i vat
 simp only [vzu]
 cases h:var a 0 (s.size:Int)
 ·rfl
 ·have h':=h
  unfold var at h'
  simp only [Bool.and_eq_true,decide_eq_true_eq]at h'
  obtain⟨n,rfl⟩:=Int.eq_ofNat_of_zero_le h'.1
  simp only [Bool.not_true,cond_false,cond_true,Int.toNat_natCast]
  exact wdj hs (by omega) 5 0 0 Fuel k rfl (by omega) (by decide) (Nat.lt_of_lt_of_le (by omega) vb5) (fun l=>by simp) (fun l h=>by simpa using h)
theorem wlf:∀(l:List Int) (i n:Nat) {v c:Nat},rvF i n l=some (v,c)→i<c∧c≤i+l.length∧v≤1000000000
 |[],i,n,v,c,h=>by simp [rvF]at h
 |x::l,i,n,v,c,h=>by
  simp only [rvF]at h
  split at h
  ·cases h
  ·split at h
   ·split at h
    ·rename_i h2
     simp only [Option.some.injEq,Prod.mk.injEq]at h
     simp only [List.length_cons]
     omega
    ·cases h
   ·have:=wlf l (i+1) _ h
    simp only [List.length_cons]
    omega
theorem ve7 {s:ByteArray}{a:Int}(h:(vat s a).2.2=true):∃v c:Nat,vat s a=((v:Int),(c:Int),true)∧v≤1000000000∧0≤a∧a<(c:Int)∧c≤s.size:=by
 unfold vat at h ⊢
 cases hw:var a 0 (s.size:Int)
 ·rw [hw]at h;cases h
 ·rw [hw]at h
  simp only [cond_true]at h ⊢
  unfold var at hw
  simp only [Bool.and_eq_true,decide_eq_true_eq]at hw
  cases hr:rvF 0 0 ((vaf s).drop a.toNat)with
  |none=>rw [hr]at h;cases h
  |some p=>
   obtain⟨v,c⟩:=p
   have:=wlf _ _ _ hr
   rw [List.length_drop,van]at this
   refine⟨v,a.toNat+c,rfl,this.2.2,hw.1,by omega,by omega⟩
def ve4 (s:ByteArray)(a:Int):ByteArray×Int×Bool:=
 bif !(vat s a).2.2 then((⟨#[]⟩:ByteArray),(0:Int),false)else
 bif decide ((vat s a).1>(20000:Int))then((⟨#[]⟩:ByteArray),(0:Int),false)else
 bif decide ((vat s a).1>(s.size:Int)-(vat s a).2.1)then((⟨#[]⟩:ByteArray),(0:Int),false)else
  (s.extract (vat s a).2.1.toNat ((vat s a).2.1+(vat s a).1).toNat,(vat s a).2.1+(vat s a).1,true)
theorem woq {s:ByteArray}(hs:s.size≤1048576)(a:Int) (k):v0r s a k=k (ve4 s a):=by
 rw [wel]
 unfold v7g ve4
 simp only [wdx hs]
 cases h:(vat s a).2.2
 ·rfl
 ·obtain⟨v,c,e,h1,h2,h3,h4⟩:=ve7 h
  rw [e]
  have w1:IntKind.wrap .i64 ((s.size:Int)-(c:Int))=(s.size:Int)-(c:Int):=va4 (by omega) (by omega)
  have w2:IntKind.wrap .i64 ((c:Int)+(v:Int))=(c:Int)+(v:Int):=va4 (by omega) (by omega)
  simp only [w1,w2,Bool.not_true,cond_false]
  by_cases g1:(v:Int)>20000
  ·simp only [g1,decide_true,cond_true]
  ·by_cases g2:(v:Int)>(s.size:Int)-(c:Int)
   ·simp only [g1,g2,decide_true,decide_false,cond_true,cond_false]
   ·simp only [g1,g2,decide_false,cond_false]
    rw [if_pos (by omega)]
theorem wnz {s:ByteArray}(hs:s.size≤1048576)(a:Int) (k):v0n s a k=k (ve4 s a):=by
 rw [wgb]
 unfold v8i ve4
 simp only [wc1 hs]
 cases h:(vat s a).2.2
 ·rfl
 ·obtain⟨v,c,e,h1,h2,h3,h4⟩:=ve7 h
  rw [e]
  have w1:IntKind.wrap .i64 ((s.size:Int)-(c:Int))=(s.size:Int)-(c:Int):=va4 (by omega) (by omega)
  have w2:IntKind.wrap .i64 ((c:Int)+(v:Int))=(c:Int)+(v:Int):=va4 (by omega) (by omega)
  simp only [w1,w2,Bool.not_true,cond_false]
  by_cases g1:(v:Int)>20000
  ·simp only [g1,decide_true,cond_true]
  ·by_cases g2:(v:Int)>(s.size:Int)-(c:Int)
   ·simp only [g1,g2,decide_true,decide_false,cond_true,cond_false]
   ·simp only [g1,g2,decide_false,cond_false]
    rw [if_pos (by omega)]
theorem wig {s:ByteArray}{a:Int}(h:(ve4 s a).2.2=true):0≤a∧a+1+((ve4 s a).1.size:Int)≤(ve4 s a).2.1∧(ve4 s a).2.1≤(s.size:Int):=by
 unfold ve4 at h ⊢
 cases hr:(vat s a).2.2
 ·rw [hr]at h;cases h
 ·obtain⟨v,c,e,h1,h2,h3,h4⟩:=ve7 hr
  rw [e]at h ⊢
  simp only [Bool.not_true,cond_false]at h ⊢
  cases g1:decide ((v:Int)>20000)
  ·cases g2:decide ((v:Int)>(s.size:Int)-(c:Int))
   ·simp only [cond_false]
    have g2':=of_decide_eq_false g2
    have hz:(s.extract c ((c:Int)+(v:Int)).toNat).size=min ((c:Int)+(v:Int)).toNat s.size-c:=ByteArray.size_extract
    simp only [Int.toNat_natCast,hz]
    omega
   ·rw [g1,g2]at h;cases h
  ·rw [g1]at h;cases h
def vbt (s:ByteArray)(a:Int)(b:Bool):ByteArray×Int×Bool:=
 bif b then((⟨#[]⟩:ByteArray),a,true)else bif !(ve4 s a).2.2 then((⟨#[]⟩:ByteArray),a,true)else((ve4 s a).1,(ve4 s a).2.1,b)
def numB (s:ByteArray)(a:Int)(b:Bool):Int×Int×Bool:=
 bif b then((0:Int),a,true)else bif !(vat s a).2.2 then((0:Int),a,true)else((vat s a).1,(vat s a).2.1,b)
def vcb (s:ByteArray)(a:Int)(b:Bool):Bool×Int×Bool:=
 bif b then(false,a,true)else bif !var a 0 ((s.size:Int)-1)then(false,a,true)else bif decide (bt s a>1)then(false,a,true)else((bt s a==1),a+1,b)
theorem v5j {s:ByteArray}(hs:s.size≤1048576)(a:Int)(b:Bool) (k):vim s a b k=k ((vbt s a b).1,s,(vbt s a b).2.1,(vbt s a b).2.2):=by
 rw [wfv];unfold v7c vbt
 simp only [woq hs]
 cases b<;>cases (ve4 s a).2.2<;>rfl
theorem v4r {s:ByteArray}(hs:s.size≤1048576)(a:Int)(b:Bool) (k):vob s a b k=k ((vbt s a b).1,s,(vbt s a b).2.1,(vbt s a b).2.2):=by
 rw [wga];unfold v7s vbt
 simp only [wnz hs]
 cases b<;>cases (ve4 s a).2.2<;>rfl
theorem v4g {s:ByteArray}(hs:s.size≤1048576)(a:Int)(b:Bool) (k):vmv s a b k=k ((numB s a b).1,s,(numB s a b).2.1,(numB s a b).2.2):=by
 rw [wex];unfold v7i numB
 simp only [wdx hs]
 cases b<;>cases (vat s a).2.2<;>rfl
theorem wd6 {s:ByteArray}(hs:s.size≤1048576)(a:Int)(b:Bool) (k):vmo s a b k=k ((numB s a b).1,s,(numB s a b).2.1,(numB s a b).2.2):=by
 rw [wgk];unfold v5x numB
 simp only [wc1 hs]
 cases b<;>cases (vat s a).2.2<;>rfl
theorem wei {s:ByteArray}(hs:s.size≤1048576)(a:Int)(b:Bool) (k):vsi s a b k=k ((vcb s a b).1,s,(vcb s a b).2.1,(vcb s a b).2.2):=by
 rw [wc7];unfold v86 vcb
 have w1:IntKind.wrap .i64 ((s.size:Int)-1)=(s.size:Int)-1:=va4 (by omega) (by omega)
 simp only [vo1,w1]
 cases b
 ·cases hw:var a 0 ((s.size:Int)-1)
  ·rfl
  ·unfold var at hw
   simp only [Bool.and_eq_true,decide_eq_true_eq]at hw
   have w2:IntKind.wrap .i64 (a+1)=a+1:=va4 (by omega) (by omega)
   have w3:IntKind.wrap .i64 (a+1-1)=a:=by rw [va4 (by omega) (by omega)];omega
   simp only [cond_false,Bool.not_true,show (0:Int)≤a by omega,show a<(s.size:Int) by omega,and_self,if_true,ver,w2,w3]
   cases decide (bt s a>1)<;>rfl
 ·rfl
theorem weh {s:ByteArray}(hs:s.size≤1048576){a:Int}{b:Bool}(ha:b=false→0≤a∧a≤(s.size:Int)) (k):vw7 s a b k=k ((vcb s a b).1,s,(vcb s a b).2.1,(vcb s a b).2.2):=by
 rw [wdb];unfold v69 vcb
 cases b
 ·have:=ha rfl
  by_cases hge:a≥(s.size:Int)
  ·have hw:var a 0 ((s.size:Int)-1)=false:=by unfold var;simp;omega
   simp only [hge,hw,decide_true,cond_true,cond_false,Bool.not_false]
  ·have hw:var a 0 ((s.size:Int)-1)=true:=by unfold var;simp;omega
   have w2:IntKind.wrap .i64 (a+1)=a+1:=va4 (by omega) (by omega)
   have w3:IntKind.wrap .i64 (a+1-1)=a:=by rw [va4 (by omega) (by omega)];omega
   simp only [hge,hw,decide_false,cond_false,Bool.not_true,show (0:Int)≤a by omega,show a<(s.size:Int) by omega,and_self,if_true,vep,w2,w3]
   cases decide (bt s a>1)<;>rfl
 ·rfl
theorem vqu {s:ByteArray}{a:Int}{b:Bool}(h:(vbt s a b).2.2=false):b=false∧0≤a∧a+1+((vbt s a b).1.size:Int)≤(vbt s a b).2.1∧(vbt s a b).2.1≤(s.size:Int):=by
 unfold vbt at h ⊢
 cases b
 ·cases hq:(ve4 s a).2.2
  ·rw [hq]at h;cases h
  ·simp only [cond_false,Bool.not_true]
   have:=wig hq
   exact⟨by trivial,this⟩
 ·cases h
theorem vy0 {s:ByteArray}{a:Int}{b:Bool}(h:(numB s a b).2.2=false):b=false∧0≤a∧a+1≤(numB s a b).2.1∧(numB s a b).2.1≤(s.size:Int):=by
 unfold numB at h ⊢
 cases b
 ·cases hq:(vat s a).2.2
  ·rw [hq]at h;cases h
  ·obtain⟨v,c,e,h1,h2,h3,h4⟩:=ve7 hq
   simp only [cond_false,Bool.not_true,e]
   exact⟨by trivial,h2,by omega,by omega⟩
 ·cases h
theorem vpi (s:ByteArray)(a:Int)(b:Bool):∃v:Nat,(numB s a b).1=(v:Int)∧v≤1000000000:=by
 unfold numB
 cases b
 ·cases hq:(vat s a).2.2
  ·exact⟨0,rfl,by omega⟩
  ·obtain⟨v,c,e,h1,h2,h3,h4⟩:=ve7 hq
   simp only [cond_false,Bool.not_true,e]
   exact⟨v,rfl,h1⟩
 ·exact⟨0,rfl,by omega⟩
theorem v81 {s:ByteArray}{a:Int}{b:Bool}(h:(vcb s a b).2.2=false):b=false∧0≤a∧a+1≤(vcb s a b).2.1∧(vcb s a b).2.1≤(s.size:Int):=by
 unfold vcb at h ⊢
 cases b
 ·cases hq:var a 0 ((s.size:Int)-1)
  ·rw [hq]at h;cases h
  ·unfold var at hq
   simp only [Bool.and_eq_true,decide_eq_true_eq]at hq
   cases hd:decide (bt s a>1)
   ·simp only [cond_false,Bool.not_true]
    exact⟨by trivial,hq.1,by omega,by omega⟩
   ·simp only [var,hd]at h
    cases decide (a≥0)<;>cases decide (a≤(s.size:Int)-1)<;>simp at h
 ·cases h
def vbm {α:Type}(R:Int→Bool→α×Int×Bool):Nat→Int→Bool→List α→Int×Bool×List α
 |0,a,b,l=>(a,b,l)
 |m+1,a,b,l=>bif b then(a,b,l)else vbm R m (R a b).2.1 (R a b).2.2 (l++[(R a b).1])
theorem vrr {α:Type}(R:Int→Bool→α×Int×Bool)(m:Nat)(a:Int)(l:List α):vbm R m a true l=(a,true,l):=by cases m<;>rfl
def StpR {α:Type}(R:Int→Bool→α×Int×Bool)(wt:α→Nat)(N:Int):Prop:=
 ∀a b,(R a b).2.2=false→b=false∧0≤a∧a+1+(wt (R a b).1:Int)≤(R a b).2.1∧(R a b).2.1≤N
theorem vmf {α β:Type}{R:Int→Bool→α×Int×Bool}{wt:α→Nat}{N:Int}(hR:StpR R wt N){n:Nat}{body:β→(β⊕β→Option Res)→Option Res}{σ:Int→Int→Bool→List α→β}
  (hgo:∀(i:Nat) (a:Int) (l:List α) (K),i<n→0≤a→a≤N→l.length≤3000000→body (σ (i:Int) a false l) K=K (.inl (σ ((i+1:Nat):Int) (R a false).2.1 (R a false).2.2 (l++[(R a false).1]))))
  (hstop:∀(i:Nat) (a:Int) (b:Bool) (l:List α) (K),(i=n∨b=true)→body (σ (i:Int) a b l) K=K (.inr (σ (i:Int) a b l))) :
  ∀(d m i:Nat) (a:Int) (b:Bool) (l:List α) (q:Nat),i+m=n→(b=false→0≤a∧a≤N∧N-a<(d:Int))→d<q→l.length+d≤3000000→
   ∃j:Int,∀K,vak body q (σ (i:Int) a b l) K=K (σ j (vbm R m a b l).1 (vbm R m a b l).2.1 (vbm R m a b l).2.2):=by
 intro d
 induction d with
 |zero=>
  intro m i a b l q hi hb hq hl
  obtain⟨q,rfl⟩:∃q',q=q'+1:=⟨q-1,by omega⟩
  cases b
  ·have:=hb rfl;omega
  ·refine⟨(i:Int),fun K=>?_⟩
   simp only [vak,hstop i a true l _ (.inr rfl),vrr,Sum.elim_inr]
 |succ d ih=>
  intro m i a b l q hi hb hq hl
  obtain⟨q,rfl⟩:∃q',q=q'+1:=⟨q-1,by omega⟩
  cases b
  ·have hb':=hb rfl
   cases m with
   |zero=>
    refine⟨(i:Int),fun K=>?_⟩
    simp only [vak,hstop i a false l _ (.inl (by omega)),vbm,Sum.elim_inr]
   |succ m=>
    obtain⟨j,hj⟩:=ih m (i+1) (R a false).2.1 (R a false).2.2 (l++[(R a false).1]) q (by omega) (fun h=>by
     have:=hR a false h
     omega) (by omega) (by rw [List.length_append,List.length_singleton];omega)
    refine⟨j,fun K=>?_⟩
    simp only [vak,hgo i a l _ (by omega) hb'.1 hb'.2.1 (by omega),vbm,cond_false,Sum.elim_inl]
    exact hj K
  ·refine⟨(i:Int),fun K=>?_⟩
   simp only [vak,hstop i a true l _ (.inr rfl),vrr,Sum.elim_inr]
theorem vft {α:Type}{R:Int→Bool→α×Int×Bool}{wt:α→Nat}{N:Int}(hR:StpR R wt N):∀(m:Nat) (a:Int) (b:Bool) (l:List α),(b=false→0≤a∧a≤N)→(vbm R m a b l).2.1=false→
  b=false∧a≤(vbm R m a b l).1∧(vbm R m a b l).1≤N∧(vbm R m a b l).2.2.length=l.length+m∧
   (((vbm R m a b l).2.2.length+((vbm R m a b l).2.2.map wt).sum:Nat):Int)+a≤((l.length+(l.map wt).sum:Nat):Int)+(vbm R m a b l).1
 |0,a,b,l,hb,h=>by
  simp only [vbm]at h ⊢
  have:=hb h
  exact⟨h,by omega,by omega,rfl,by omega⟩
 |m+1,a,b,l,hb,h=>by
  cases b
  ·simp only [vbm,cond_false]at h ⊢
   have hb':=hb rfl
   have ih:=vft hR m (R a false).2.1 (R a false).2.2 (l++[(R a false).1]) (fun h=>by have:=hR a false h;omega) h
   have hs:=hR a false ih.1
   rw [List.length_append,List.length_singleton,List.map_append,List.sum_append]at ih
   simp only [List.map_cons,List.map_nil,List.sum_cons,List.sum_nil]at ih
   refine⟨by trivial,by omega,ih.2.2.1,by omega,by omega⟩
  ·simp only [vbm,cond_true]at h
   cases h
def rgB (s:ByteArray)(a:Int)(b:Bool):tRange.D×Int×Bool:=
 (((vbt s a b).1,(vbt s (vbt s a b).2.1 (vbt s a b).2.2).1),(vbt s (vbt s a b).2.1 (vbt s a b).2.2).2.1,(vbt s (vbt s a b).2.1 (vbt s a b).2.2).2.2)
def wrB1 (s:ByteArray)(p:tRange.D×Int×Bool):tWrite.D×Int×Bool:=
 ((p.1.1,(p.1.2,(vcb s p.2.1 p.2.2).1)),(vcb s p.2.1 p.2.2).2.1,(vcb s p.2.1 p.2.2).2.2)
def wrB (s:ByteArray)(a:Int)(b:Bool):tWrite.D×Int×Bool:=wrB1 s (rgB s a b)
theorem vxh (s:ByteArray):StpR (rgB s) tRange.wt (s.size:Int):=by
 intro a b h
 unfold rgB at h ⊢
 have h2:=vqu h
 have h1:=vqu h2.1
 refine⟨h1.1,h1.2.1,?_,h2.2.2.2⟩
 show a+1+(((vbt s a b).1.size+(vbt s (vbt s a b).2.1 (vbt s a b).2.2).1.size:Nat):Int)≤_
 simp only
 omega
theorem vvq (s:ByteArray):StpR (wrB s) tWrite.wt (s.size:Int):=by
 intro a b h
 unfold wrB wrB1 at h ⊢
 have h2:=v81 h
 have h1:=vxh s a b h2.1
 refine⟨h1.1,h1.2.1,?_,h2.2.2.2⟩
 have e:tWrite.wt ((rgB s a b).1.1,((rgB s a b).1.2,(vcb s (rgB s a b).2.1 (rgB s a b).2.2).1))=tRange.wt (rgB s a b).1:=rfl
 simp only [e]
 omega
theorem vix {s:ByteArray}{a:Int}{b:Bool}(h:(numB s a b).2.2=false):0≤(numB s a b).2.1∧(numB s a b).2.1≤(s.size:Int):=by
 have:=vy0 h
 omega
theorem wnr {α:Type}{R:Int→Bool→α×Int×Bool}{wt:α→Nat}{N:Int}(hR:StpR R wt N){m:Nat}{a:Int}{b:Bool}{l:List α}(hb:b=false→0≤a∧a≤N)(h:(vbm R m a b l).2.1=false):0≤(vbm R m a b l).1∧(vbm R m a b l).1≤N:=by
 have h1:=vft hR m a b l hb h
 have h2:=hb h1.1
 omega
theorem vnx {n:Nat}(h:n≤3000000):n+1≤VE.maxLen:=by show n+1≤4294967296;omega
theorem vy9 {s:ByteArray}(hs:s.size≤1048576)(a:Int)(b:Bool)(u3 u4 u5 u6:Int)(u7:Bool)(u8:ByteArray) (k) :
  v16 s a b u3 u4 u5 u6 u7 u8 k=k (s,(vbm (rgB s) (numB s a b).1.toNat (numB s a b).2.1 (numB s a b).2.2 []).1,(vbm (rgB s) (numB s a b).1.toNat (numB s a b).2.1 (numB s a b).2.2 []).2.1,u3,u4,u5,u6,u7,u8,(vbm (rgB s) (numB s a b).1.toNat (numB s a b).2.1 (numB s a b).2.2 []).2.2):=by
 rw [wcx]
 unfold v7y
 simp only [v4g hs]
 obtain⟨n,hn,hn2⟩:=vpi s a b
 have hat:=fun h=>vix (s:=s) (a:=a) (b:=b) h
 rw [hn]
 generalize (numB s a b).2.1=a' at *
 generalize (numB s a b).2.2=b' at *
 obtain⟨j,hj⟩:=vmf (vxh s) (n:=n) (body:=vnf) (σ:=fun i a b l=>((n:Int),i,s,a,b,u3,u4,u5,u6,u7,u8,l))
  (fun i a l K hi h0 h1 hl=>by
   have hw:IntKind.wrap .i64 ((i:Int)+1)=((i+1:Nat):Int):=vb1 (by omega)
   simp only [vnf,vev,show (i:Int)<(n:Int) by omega,decide_true,cond_true,Bool.not_false,we8,v6f,v5j hs,List.length_singleton,vnx hl,if_true,hw]
   rfl)
  (fun i a b l K h=>by
   simp only [vnf]
   rcases h with rfl|rfl
   ·simp only [show ¬((i:Int)<(i:Int)) by omega,decide_false,cond_false]
   ·cases decide ((i:Int)<(n:Int))<;>rfl)
  1048580 n 0 a' b' [] Fuel (by omega) (fun h=>by have:=hat h;omega) (Nat.lt_of_lt_of_le (by omega) vb5) (by simp)
 simp only [Int.toNat_natCast]
 exact hj _
theorem vxv {s:ByteArray}(hs:s.size≤1048576)(a:Int)(b:Bool)(u3 u4 u5 u6:Int)(u7:Bool)(u8:ByteArray)(u9:List vad) (k) :
  v02 s a b u3 u4 u5 u6 u7 u8 u9 k=k (s,(vbm (wrB s) (numB s a b).1.toNat (numB s a b).2.1 (numB s a b).2.2 []).1,(vbm (wrB s) (numB s a b).1.toNat (numB s a b).2.1 (numB s a b).2.2 []).2.1,u3,u4,u5,u6,u7,u8,u9,(vbm (wrB s) (numB s a b).1.toNat (numB s a b).2.1 (numB s a b).2.2 []).2.2):=by
 rw [wgt]
 unfold v7k
 simp only [v4g hs]
 obtain⟨n,hn,hn2⟩:=vpi s a b
 have hat:=fun h=>vix (s:=s) (a:=a) (b:=b) h
 rw [hn]
 generalize (numB s a b).2.1=a' at *
 generalize (numB s a b).2.2=b' at *
 obtain⟨j,hj⟩:=vmf (vvq s) (n:=n) (body:=vns) (σ:=fun i a b l=>((n:Int),i,s,a,b,u3,u4,u5,u6,u7,u8,u9,l))
  (fun i a l K hi h0 h1 hl=>by
   have hw:IntKind.wrap .i64 ((i:Int)+1)=((i+1:Nat):Int):=vb1 (by omega)
   simp only [vns,veq,show (i:Int)<(n:Int) by omega,decide_true,cond_true,Bool.not_false,wf3,v7b,v5j hs,wei hs,List.length_singleton,vnx hl,if_true,hw]
   rfl)
  (fun i a b l K h=>by
   simp only [vns]
   rcases h with rfl|rfl
   ·simp only [show ¬((i:Int)<(i:Int)) by omega,decide_false,cond_false]
   ·cases decide ((i:Int)<(n:Int))<;>rfl)
  1048580 n 0 a' b' [] Fuel (by omega) (fun h=>by have:=hat h;omega) (Nat.lt_of_lt_of_le (by omega) vb5) (by simp)
 simp only [Int.toNat_natCast]
 exact hj _
theorem vzx {s:ByteArray}(hs:s.size≤1048576){n:Nat}(hn:n≤1000000000){a:Int}{b:Bool}(hb:b=false→0≤a∧a≤(s.size:Int)){v1 v2 v3 v4:Int}{v5:Bool}{v6:ByteArray}{u3 u4 u5 u6:Int}{u7:Bool}{u8:ByteArray}:∃j:Int,∀K,
  vak vlt Fuel ((n:Int),(0:Int),v1,v2,v3,v4,v5,v6,s,a,b,u3,u4,u5,u6,u7,u8,([]:List vad)) K=K ((n:Int),j,v1,v2,v3,v4,v5,v6,s,(vbm (rgB s) (min n 10) a b []).1,(vbm (rgB s) (min n 10) a b []).2.1,u3,u4,u5,u6,u7,u8,(vbm (rgB s) (min n 10) a b []).2.2):=
 vmf (vxh s) (n:=min n 10) (body:=vlt) (σ:=fun i a b l=>((n:Int),i,v1,v2,v3,v4,v5,v6,s,a,b,u3,u4,u5,u6,u7,u8,l))
  (fun i a l K hi h0 h1 hl=>by
   have hw:IntKind.wrap .i64 ((i:Int)+1)=((i+1:Nat):Int):=vb1 (by omega)
   simp only [vlt,ve2,show (i:Int)<(n:Int) by omega,show (i:Int)<10 by omega,decide_true,cond_true,Bool.not_false,v4r hs,List.length_singleton,vnx hl,if_true,hw]
   rfl)
  (fun i a b l K h=>by
   simp only [vlt]
   rcases h with rfl|rfl
   ·by_cases h10:n≤10
    ·simp only [show ¬(((min n 10:Nat):Int)<(n:Int)) by omega,decide_false,cond_false]
    ·simp only [show (((min n 10:Nat):Int)<(n:Int)) by omega,show ¬(((min n 10:Nat):Int)<10) by omega,decide_true,decide_false,cond_true,cond_false]
   ·cases decide ((i:Int)<(n:Int))<;>cases decide ((i:Int)<10)<;>rfl)
  1048580 (min n 10) 0 a b [] Fuel (by omega) (fun h=>by have:=hb h;omega) (Nat.lt_of_lt_of_le (by omega) vb5) (by simp)
theorem vy4 {s:ByteArray}(hs:s.size≤1048576){n:Nat}(hn:n≤1000000000){a:Int}{b:Bool}(hb:b=false→0≤a∧a≤(s.size:Int)){v1 v2 v3 v4:Int}{v5:Bool}{v6:ByteArray}{u3 u4 u5 u6:Int}{u7:Bool}{u8:ByteArray}{u9:List vad}:∃j:Int,∀K,
  vak vkr Fuel ((n:Int),(0:Int),v1,v2,v3,v4,v5,v6,s,a,b,u3,u4,u5,u6,u7,u8,u9,([]:List vaa)) K=K ((n:Int),j,v1,v2,v3,v4,v5,v6,s,(vbm (wrB s) (min n 10) a b []).1,(vbm (wrB s) (min n 10) a b []).2.1,u3,u4,u5,u6,u7,u8,u9,(vbm (wrB s) (min n 10) a b []).2.2):=
 vmf (vvq s) (n:=min n 10) (body:=vkr) (σ:=fun i a b l=>((n:Int),i,v1,v2,v3,v4,v5,v6,s,a,b,u3,u4,u5,u6,u7,u8,u9,l))
  (fun i a l K hi h0 h1 hl=>by
   have hw:IntKind.wrap .i64 ((i:Int)+1)=((i+1:Nat):Int):=vb1 (by omega)
   have hat:(vbt s (vbt s a false).2.1 (vbt s a false).2.2).2.2=false→0≤(vbt s (vbt s a false).2.1 (vbt s a false).2.2).2.1∧(vbt s (vbt s a false).2.1 (vbt s a false).2.2).2.1≤(s.size:Int):=fun h=>by
    have:=vqu h;omega
   simp only [vkr,ve0,show (i:Int)<(n:Int) by omega,show (i:Int)<10 by omega,decide_true,cond_true,Bool.not_false,v4r hs,weh hs hat,List.length_singleton,vnx hl,if_true,hw]
   rfl)
  (fun i a b l K h=>by
   simp only [vkr]
   rcases h with rfl|rfl
   ·by_cases h10:n≤10
    ·simp only [show ¬(((min n 10:Nat):Int)<(n:Int)) by omega,decide_false,cond_false]
    ·simp only [show (((min n 10:Nat):Int)<(n:Int)) by omega,show ¬(((min n 10:Nat):Int)<10) by omega,decide_true,decide_false,cond_true,cond_false]
   ·cases decide ((i:Int)<(n:Int))<;>cases decide ((i:Int)<10)<;>rfl)
  1048580 (min n 10) 0 a b [] Fuel (by omega) (fun h=>by have:=hb h;omega) (Nat.lt_of_lt_of_le (by omega) vb5) (by simp)
abbrev dRT:=Int×Int×Int×Int×Bool×ByteArray×Int×Bool×(List vad)×(List vaa)
def zRT:dRT:=((0:Int),(0:Int),(0:Int),(0:Int),false,(⟨#[]⟩:ByteArray),(0:Int),false,([]:List vad),([]:List vaa))
def tx3 (i1 i2 i3 i4:Int)(rs:List vad)(ws:List vaa)(g:Bool)(x:ByteArray×Int×Bool):dRT:=
 bif x.2.2 then zRT else bif !vbl (i1,(i2,(i3,(i4,(rs,(ws,(g,x.1)))))))then zRT else(i1,i2,i3,i4,g,x.1,x.2.1,true,rs,ws)
def tx2 (s:ByteArray)(i1 i2 i3 i4:Int)(rs:List vad)(e:Int×Bool×List vaa):dRT:=
 tx3 i1 i2 i3 i4 rs e.2.2 (vcb s e.1 e.2.1).1 (vbt s (vcb s e.1 e.2.1).2.1 (vcb s e.1 e.2.1).2.2)
def wsE (f:Nat→Nat)(s:ByteArray)(e:Int×Bool×List vad):Int×Bool×List vaa:=
 vbm (wrB s) (f (numB s e.1 e.2.1).1.toNat) (numB s e.1 e.2.1).2.1 (numB s e.1 e.2.1).2.2 []
def rsE (f:Nat→Nat)(s:ByteArray)(p:Int×Int×Bool):Int×Bool×List vad:=
 vbm (rgB s) (f (numB s p.2.1 p.2.2).1.toNat) (numB s p.2.1 p.2.2).2.1 (numB s p.2.1 p.2.2).2.2 []
def tx0 (f:Nat→Nat)(s:ByteArray)(p1 p2 p3 p4:Int×Int×Bool):dRT:=
 tx2 s p1.1 p2.1 p3.1 p4.1 (rsE f s p4).2.2 (wsE f s (rsE f s p4))
def nx (s:ByteArray)(p:Int×Int×Bool):Int×Int×Bool:=numB s p.2.1 p.2.2
def va6 (f:Nat→Nat)(s:ByteArray)(a:Int):dRT:=
 tx0 f s (numB s a false) (nx s (numB s a false)) (nx s (nx s (numB s a false))) (nx s (nx s (nx s (numB s a false))))
theorem wn5 {s:ByteArray}(hs:s.size≤1048576)(f:Nat→Nat){p:Int×Int×Bool}{i1 i2 i3 i4:Int} {e2}(he:e2=wsE f s (rsE f s p))(hx:(vbt s (vcb s e2.1 e2.2.1).2.1 (vcb s e2.1 e2.2.1).2.2).2.2=false) :
  tTxn.wt (i1,(i2,(i3,(i4,((rsE f s p).2.2,(e2.2.2,((vcb s e2.1 e2.2.1).1,(vbt s (vcb s e2.1 e2.2.1).2.1 (vcb s e2.1 e2.2.1).2.2).1)))))))≤1048576:=by
 rw [vqo]
 have h1:=vqu hx
 have h2:=v81 h1.1
 have h3:=h2.1
 rw [he]at h3
 have h4:=vft (vvq s) _ _ _ _ (fun h=>vix h) h3
 have h5:=vy0 h4.1
 have h6:=vft (vxh s) _ _ _ _ (fun h=>vix h) h5.1
 have h7:=vy0 h6.1
 rw [show vbm (wrB s) (f (numB s (rsE f s p).1 (rsE f s p).2.1).1.toNat) (numB s (rsE f s p).1 (rsE f s p).2.1).2.1 (numB s (rsE f s p).1 (rsE f s p).2.1).2.2 []=e2 from he.symm]at h4
 have h4':=h4.2.2.2.2
 have h6':=h6.2.2.2.2
 have e3:(Ty.slice tRange).wt (rsE f s p).2.2=(rsE f s p).2.2.length+((rsE f s p).2.2.map tRange.wt).sum:=rfl
 have e4:(Ty.slice tWrite).wt e2.2.2=e2.2.2.length+(e2.2.2.map tWrite.wt).sum:=rfl
 have e5:(rsE f s p)=vbm (rgB s) (f (numB s p.2.1 p.2.2).1.toNat) (numB s p.2.1 p.2.2).2.1 (numB s p.2.1 p.2.2).2.2 []:=rfl
 rw [←e5]at h6 h6'
 simp only [List.length_nil,List.map_nil,List.sum_nil]at h4' h6'
 simp only
 rw [e3,e4]
 omega
theorem wsv {s:ByteArray}(f:Nat→Nat){e:Int×Bool×List vad}(h:(wsE f s e).2.1=false):0≤(wsE f s e).1∧(wsE f s e).1≤(s.size:Int):=wnr (vvq s) (fun h=>vix h) h
theorem v4n {s:ByteArray}(hs:s.size≤1048576)(a:Int) (k):vxg s a k=k (va6 id s a):=by
 rw [wfk]
 unfold v7m
 rw [wdg]
 unfold v6t
 simp only [v4g hs,vy9 hs,vxv hs,wei hs,v5j hs]
 unfold va6 tx0
 generalize hp1:numB s a false=p1
 rw [show numB s p1.2.1 p1.2.2=nx s p1 from rfl]
 generalize hp2:nx s p1=p2
 rw [show numB s p2.2.1 p2.2.2=nx s p2 from rfl]
 generalize hp3:nx s p2=p3
 rw [show numB s p3.2.1 p3.2.2=nx s p3 from rfl]
 generalize hp4:nx s p3=p4
 rw [show vbm (rgB s) (numB s p4.2.1 p4.2.2).1.toNat (numB s p4.2.1 p4.2.2).2.1 (numB s p4.2.1 p4.2.2).2.2 []=rsE id s p4 from rfl]
 rw [show vbm (wrB s) (numB s (rsE id s p4).1 (rsE id s p4).2.1).1.toNat (numB s (rsE id s p4).1 (rsE id s p4).2.1).2.1 (numB s (rsE id s p4).1 (rsE id s p4).2.1).2.2 []=wsE id s (rsE id s p4)from rfl]
 unfold tx2 tx3
 cases hx:(vbt s (vcb s (wsE id s (rsE id s p4)).1 (wsE id s (rsE id s p4)).2.1).2.1 (vcb s (wsE id s (rsE id s p4)).1 (wsE id s (rsE id s p4)).2.1).2.2).2.2
 ·simp only [cond_false,voz (wn5 hs id (i1:=p1.1) (i2:=p2.1) (i3:=p3.1) (i4:=p4.1) rfl hx)]
  cases vbl (p1.1,(p2.1,(p3.1,(p4.1,((rsE id s p4).2.2,((wsE id s (rsE id s p4)).2.2,((vcb s (wsE id s (rsE id s p4)).1 (wsE id s (rsE id s p4)).2.1).1,(vbt s (vcb s (wsE id s (rsE id s p4)).1 (wsE id s (rsE id s p4)).2.1).2.1 (vcb s (wsE id s (rsE id s p4)).1 (wsE id s (rsE id s p4)).2.1).2.2).1)))))))<;>rfl
 ·rfl
theorem won {s:ByteArray}(hs:s.size≤1048576)(a:Int) (k):v0k s a k=k (va6 (fun n=>min n 10) s a):=by
 rw [wds]
 unfold v6x
 simp only [wd6 hs]
 unfold va6 tx0
 generalize hp1:numB s a false=p1
 rw [show numB s p1.2.1 p1.2.2=nx s p1 from rfl]
 generalize hp2:nx s p1=p2
 rw [show numB s p2.2.1 p2.2.2=nx s p2 from rfl]
 generalize hp3:nx s p2=p3
 rw [show numB s p3.2.1 p3.2.2=nx s p3 from rfl]
 generalize hp4:nx s p3=p4
 obtain⟨n,hn,hn2⟩:=vpi s p4.2.1 p4.2.2
 have hr:vbm (rgB s) (min n 10) (numB s p4.2.1 p4.2.2).2.1 (numB s p4.2.1 p4.2.2).2.2 []=rsE (fun n=>min n 10) s p4:=by
  unfold rsE;rw [hn,Int.toNat_natCast]
 obtain⟨j,hj⟩:=vzx hs hn2 (a:=(numB s p4.2.1 p4.2.2).2.1) (b:=(numB s p4.2.1 p4.2.2).2.2) (fun h=>vix h) (v1:=0) (v2:=0) (v3:=0) (v4:=0) (v5:=false) (v6:=⟨#[]⟩) (u3:=p1.1) (u4:=p2.1) (u5:=p3.1) (u6:=p4.1) (u7:=false) (u8:=⟨#[]⟩)
 rw [hn,hj,hr,wd6 hs]
 simp only
 obtain⟨m,hm,hm2⟩:=vpi s (rsE (fun n=>min n 10) s p4).1 (rsE (fun n=>min n 10) s p4).2.1
 have hw:vbm (wrB s) (min m 10) (numB s (rsE (fun n=>min n 10) s p4).1 (rsE (fun n=>min n 10) s p4).2.1).2.1 (numB s (rsE (fun n=>min n 10) s p4).1 (rsE (fun n=>min n 10) s p4).2.1).2.2 []=wsE (fun n=>min n 10) s (rsE (fun n=>min n 10) s p4):=by
  unfold wsE;rw [hm,Int.toNat_natCast]
 obtain⟨j2,hj2⟩:=vy4 hs hm2 (a:=(numB s (rsE (fun n=>min n 10) s p4).1 (rsE (fun n=>min n 10) s p4).2.1).2.1) (b:=(numB s (rsE (fun n=>min n 10) s p4).1 (rsE (fun n=>min n 10) s p4).2.1).2.2) (fun h=>vix h) (v1:=0) (v2:=0) (v3:=0) (v4:=0) (v5:=false) (v6:=⟨#[]⟩) (u3:=p1.1) (u4:=p2.1) (u5:=p3.1) (u6:=p4.1) (u7:=false) (u8:=⟨#[]⟩) (u9:=(rsE (fun n=>min n 10) s p4).2.2)
 rw [hm,hj2,hw]
 simp only
 rw [weh hs (fun h=>wsv _ h)]
 simp only [v4r hs]
 unfold tx2 tx3
 cases hx:(vbt s (vcb s (wsE (fun n=>min n 10) s (rsE (fun n=>min n 10) s p4)).1 (wsE (fun n=>min n 10) s (rsE (fun n=>min n 10) s p4)).2.1).2.1 (vcb s (wsE (fun n=>min n 10) s (rsE (fun n=>min n 10) s p4)).1 (wsE (fun n=>min n 10) s (rsE (fun n=>min n 10) s p4)).2.1).2.2).2.2
 ·simp only [cond_false,vte (wn5 hs (fun n=>min n 10) (i1:=p1.1) (i2:=p2.1) (i3:=p3.1) (i4:=p4.1) rfl hx)]
  cases vbl (p1.1,(p2.1,(p3.1,(p4.1,((rsE (fun n=>min n 10) s p4).2.2,((wsE (fun n=>min n 10) s (rsE (fun n=>min n 10) s p4)).2.2,((vcb s (wsE (fun n=>min n 10) s (rsE (fun n=>min n 10) s p4)).1 (wsE (fun n=>min n 10) s (rsE (fun n=>min n 10) s p4)).2.1).1,(vbt s (vcb s (wsE (fun n=>min n 10) s (rsE (fun n=>min n 10) s p4)).1 (wsE (fun n=>min n 10) s (rsE (fun n=>min n 10) s p4)).2.1).2.1 (vcb s (wsE (fun n=>min n 10) s (rsE (fun n=>min n 10) s p4)).1 (wsE (fun n=>min n 10) s (rsE (fun n=>min n 10) s p4)).2.1).2.2).1)))))))<;>rfl
 ·rfl
theorem wi3 {i1 i2 i3 i4:Int}{rs:List vad}{ws:List vaa}{g:Bool}{x:ByteArray×Int×Bool}(h:rs.length>8∨ws.length>8∨x.2.2=true):tx3 i1 i2 i3 i4 rs ws g x=zRT:=by
 unfold tx3
 cases hx:x.2.2
 ·have:vbl (i1,(i2,(i3,(i4,(rs,(ws,(g,x.1)))))))=false:=by
   cases ho:vbl (i1,(i2,(i3,(i4,(rs,(ws,(g,x.1)))))))
   ·rfl
   ·have h1:=(vbx ho).2.2.2.2.1
    have h2:=(vbx ho).2.2.2.2.2.2.1
    simp only at h1 h2
    rcases h with h|h|h
    ·omega
    ·omega
    ·rw [hx]at h;cases h
  simp [this]
 ·rfl
theorem vqs {s:ByteArray}{i1 i2 i3 i4:Int}{rs:List vad}{e:Int×Bool×List vaa}(h:rs.length>8∨e.2.2.length>8∨e.2.1=true):tx2 s i1 i2 i3 i4 rs e=zRT:=by
 unfold tx2
 apply wi3
 rcases h with h|h|h
 ·exact .inl h
 ·exact .inr (.inl h)
 ·refine .inr (.inr ?_)
  rw [h]
  rfl
theorem woc {f:Nat→Nat}{s:ByteArray}{p:Int×Int×Bool}(h:f (numB s p.2.1 p.2.2).1.toNat>8):(rsE f s p).2.2.length>8∨(rsE f s p).2.1=true:=by
 cases hb:(rsE f s p).2.1
 ·left
  have:=vft (vxh s) _ _ _ _ (fun h=>vix h) hb
  have h2:=this.2.2.2.1
  unfold rsE
  rw [h2]
  simp only [List.length_nil]
  omega
 ·exact .inr rfl
theorem v4p {f:Nat→Nat}{s:ByteArray}{e:Int×Bool×List vad}(h:f (numB s e.1 e.2.1).1.toNat>8∨e.2.1=true):(wsE f s e).2.2.length>8∨(wsE f s e).2.1=true:=by
 cases hb:(wsE f s e).2.1
 ·left
  have:=vft (vvq s) _ _ _ _ (fun h=>vix h) hb
  have h2:=this.2.2.2.1
  have h3:=(vy0 this.1).1
  unfold wsE
  rw [h2]
  simp only [List.length_nil]
  rcases h with h|h
  ·omega
  ·rw [h]at h3;cases h3
 ·exact .inr rfl
theorem wph (s:ByteArray)(p1 p2 p3 p4:Int×Int×Bool):tx0 (fun n=>min n 10) s p1 p2 p3 p4=tx0 id s p1 p2 p3 p4:=by
 unfold tx0
 by_cases h1:(numB s p4.2.1 p4.2.2).1.toNat≤8
 ·have e1:rsE (fun n=>min n 10) s p4=rsE id s p4:=by
   unfold rsE;rw [show (fun n=>min n 10) (numB s p4.2.1 p4.2.2).1.toNat=id (numB s p4.2.1 p4.2.2).1.toNat by simp;omega]
  rw [e1]
  by_cases h2:(numB s (rsE id s p4).1 (rsE id s p4).2.1).1.toNat≤8
  ·have e2:wsE (fun n=>min n 10) s (rsE id s p4)=wsE id s (rsE id s p4):=by
    unfold wsE;rw [show (fun n=>min n 10) (numB s (rsE id s p4).1 (rsE id s p4).2.1).1.toNat=id (numB s (rsE id s p4).1 (rsE id s p4).2.1).1.toNat by simp;omega]
   rw [e2]
  ·rw [vqs (.inr (v4p (f:=fun n=>min n 10) (.inl (by simp;omega)))),vqs (.inr (v4p (f:=id) (.inl (by simp;omega))))]
 ·have g:∀f:Nat→Nat,f (numB s p4.2.1 p4.2.2).1.toNat>8→tx2 s p1.1 p2.1 p3.1 p4.1 (rsE f s p4).2.2 (wsE f s (rsE f s p4))=zRT:=fun f hf=>by
   rcases woc (f:=f) hf with h|h
   ·exact vqs (.inl h)
   ·exact vqs (.inr (v4p (.inr h)))
  rw [g _ (by simp;omega),g _ (by simp;omega)]
theorem v3e (s:ByteArray)(a:Int):va6 (fun n=>min n 10) s a=va6 id s a:=wph _ _ _ _ _
theorem v5i {s:ByteArray}(hs:s.size≤1048576)(a:Int) :
  tTxn.wt ((va6 id s a).1,((va6 id s a).2.1,((va6 id s a).2.2.1,((va6 id s a).2.2.2.1,((va6 id s a).2.2.2.2.2.2.2.2.1,((va6 id s a).2.2.2.2.2.2.2.2.2,((va6 id s a).2.2.2.2.1,(va6 id s a).2.2.2.2.2.1)))))))≤1048576:=by
 have hz:tTxn.wt (zRT.1,(zRT.2.1,(zRT.2.2.1,(zRT.2.2.2.1,(zRT.2.2.2.2.2.2.2.2.1,(zRT.2.2.2.2.2.2.2.2.2,(zRT.2.2.2.2.1,zRT.2.2.2.2.2.1)))))))≤1048576:=by decide
 unfold va6
 generalize numB s a false=p1
 generalize nx s p1=p2
 generalize nx s p2=p3
 generalize nx s p3=p4
 unfold tx0 tx2 tx3
 cases hx:(vbt s (vcb s (wsE id s (rsE id s p4)).1 (wsE id s (rsE id s p4)).2.1).2.1 (vcb s (wsE id s (rsE id s p4)).1 (wsE id s (rsE id s p4)).2.1).2.2).2.2
 ·simp only [cond_false]
  cases vbl (p1.1,(p2.1,(p3.1,(p4.1,((rsE id s p4).2.2,((wsE id s (rsE id s p4)).2.2,((vcb s (wsE id s (rsE id s p4)).1 (wsE id s (rsE id s p4)).2.1).1,(vbt s (vcb s (wsE id s (rsE id s p4)).1 (wsE id s (rsE id s p4)).2.1).2.1 (vcb s (wsE id s (rsE id s p4)).1 (wsE id s (rsE id s p4)).2.1).2.2).1)))))))
  ·exact hz
  ·exact wn5 hs id rfl hx
 ·exact hz
end
end Go.VE
/- Plain laws: a base's text. -/
namespace Go.VE
noncomputable section
set_option linter.unusedVariables false
set_option linter.unusedSimpArgs false
set_option maxRecDepth 100000
theorem vpz:∀(l:List tRange.D) (s:ByteArray),(∀y∈l,y.1.size≤12∧y.2.size≤12)→(vc0 l s).size≤s.size+40*l.length
 |[],s,_=>by simp [vc0]
 |y::l,s,h=>by
  have hy:=h y (by simp)
  have s1:=vcj y.1
  have s2:=vcj y.2
  have ih:=vpz l ((s++shB y.1)++shB y.2) (fun y hy=>h y (by simp [hy]))
  rw [ByteArray.size_append,ByteArray.size_append]at ih
  simp only [vc0,List.length_cons]
  omega
theorem vqi:∀(l:List tWrite.D) (s:ByteArray),(∀y∈l,y.1.size≤12∧y.2.1.size≤12)→(vdw l s).size≤s.size+40*l.length
 |[],s,_=>by simp [vdw]
 |y::l,s,h=>by
  have hy:=h y (by simp)
  have s1:=vcj y.1
  have s2:=vcj y.2.1
  have s3:=viy y.2.2
  have ih:=vqi l (((s++shB y.1)++shB y.2.1)++bitB y.2.2) (fun y hy=>h y (by simp [hy]))
  rw [ByteArray.size_append,ByteArray.size_append,ByteArray.size_append]at ih
  simp only [vdw,List.length_cons]
  omega
theorem vqc {t:tTxn.D}(h:vbl t=true):(vcg t).size≤1000:=by
 obtain⟨_,_,_,_,b5,b6,b7,b8,b9⟩:=vbx h
 have v1:=vbi t.1
 have v2:=vbi t.2.1
 have v3:=vbi t.2.2.1
 have v4:=vbi t.2.2.2.1
 have v5:=vbi (t.2.2.2.2.1.length:Int)
 have v6:=vbi (t.2.2.2.2.2.1.length:Int)
 have v7:=viy t.2.2.2.2.2.2.1
 have v8:=vcj t.2.2.2.2.2.2.2
 have r:=vpz t.2.2.2.2.1 (varB t.1++varB t.2.1++varB t.2.2.1++varB t.2.2.2.1++varB t.2.2.2.2.1.length) b6
 have w:=vqi t.2.2.2.2.2.1 (vc0 t.2.2.2.2.1 (varB t.1++varB t.2.1++varB t.2.2.1++varB t.2.2.2.1++varB t.2.2.2.2.1.length)++varB t.2.2.2.2.2.1.length) b8
 unfold vcg
 simp only [ByteArray.size_append]at r w ⊢
 omega
end
end Go.VE
/- Plain laws: keys in order;what a scan sees. -/
namespace Go.VE
noncomputable section
set_option linter.unusedVariables false
set_option linter.unusedSimpArgs false
set_option maxRecDepth 100000
theorem vpl (x y:ByteArray):vai x y=decide (x.data.toList<y.data.toList):=by
 rw [ve5,ByteArray.toList_eq,ByteArray.toList_eq]
 exact Go.Proofs.bytesLess_eq _ _
theorem v11 (x:ByteArray):vai x x=false:=by
 rw [vpl];exact decide_eq_false (List.lt_irrefl _)
theorem vd6 {x y z:ByteArray}(h1:vai x y=true)(h2:vai y z=true):vai x z=true:=by
 rw [vpl]at *
 exact decide_eq_true (List.lt_trans (of_decide_eq_true h1) (of_decide_eq_true h2))
theorem vkb {x y:ByteArray}(h1:vai x y=false)(h2:vai y x=false):x=y:=by
 rw [vpl]at *
 have a:=List.not_lt.1 (of_decide_eq_false h1)
 have b:=List.not_lt.1 (of_decide_eq_false h2)
 exact vom (List.le_antisymm b a)
theorem vv5 (x y:ByteArray):vav x y=decide (x=y):=by
 cases h:vav x y
 ·symm;apply decide_eq_false;intro e;rw [e,vdl]at h;cases h
 ·symm;exact decide_eq_true (vgg h)
end
end Go.VE
/- Plain laws: a write that is put into others. -/
namespace Go.VE
noncomputable section
set_option linter.unusedVariables false
set_option linter.unusedSimpArgs false
set_option maxRecDepth 100000
theorem vow {u0 u2 u3 u4}:∀(l s:List tWrite.D) (i:Nat),s.length+l.length≤3000000→∃j:Int,∀k,vfw u0 u2 u3 u4 l s i k=k (j,s++l.filter fun y=>vai y.1 u2)
 |[],s,i,_=>⟨_,fun k=>by simp [vfw];rfl⟩
 |y::l,s,i,h=>by
  simp only [List.length_cons]at h
  have hm:s.length+[y].length≤VE.maxLen:=by show _≤4294967296;simp;omega
  simp only [vfw,List.filter_cons]
  cases vai y.1 u2
  ·obtain⟨j,hj⟩:=vow (u0:=u0) (u2:=u2) (u3:=u3) (u4:=u4) l s (i+1) (by omega)
   exact⟨j,fun k=>by simp only [cond_false];exact hj k⟩
  ·obtain⟨j,hj⟩:=vow (u0:=u0) (u2:=u2) (u3:=u3) (u4:=u4) l (s++[y]) (i+1) (by simp;omega)
   exact⟨j,fun k=>by simp only [cond_true,if_pos hm,if_true];rw [hj k,List.append_assoc,List.singleton_append]⟩
theorem vo3 {u0 u2 u3 u4}:∀(l s:List tWrite.D) (i:Nat),s.length+l.length≤3000000→∃j:Int,∀k,vf2 u0 u2 u3 u4 l s i k=k (j,s++l.filter fun y=>!(vai y.1 u2||vav y.1 u2))
 |[],s,i,_=>⟨_,fun k=>by simp [vf2];rfl⟩
 |y::l,s,i,h=>by
  simp only [List.length_cons]at h
  have hm:s.length+[y].length≤VE.maxLen:=by show _≤4294967296;simp;omega
  simp only [vf2,List.filter_cons]
  cases (!(vai y.1 u2||vav y.1 u2))
  ·obtain⟨j,hj⟩:=vo3 (u0:=u0) (u2:=u2) (u3:=u3) (u4:=u4) l s (i+1) (by omega)
   exact⟨j,fun k=>by simp only [cond_false];exact hj k⟩
  ·obtain⟨j,hj⟩:=vo3 (u0:=u0) (u2:=u2) (u3:=u3) (u4:=u4) l (s++[y]) (i+1) (by simp;omega)
   exact⟨j,fun k=>by simp only [cond_true,if_pos hm,if_true];rw [hj k,List.append_assoc,List.singleton_append]⟩
def putB (l:List tWrite.D)(w:tWrite.D):List tWrite.D:=(l.filter fun y=>vai y.1 w.1)++w::l.filter fun y=>!(vai y.1 w.1||vav y.1 w.1)
theorem weg {l:List tWrite.D}(hl:l.length≤1048576)(w:tWrite.D) (k):vks l w k=k (putB l w):=by
 rw [wk3 (by omega)]
 unfold v0i
 obtain⟨j,hj⟩:=vow (u0:=l) (u2:=w.1) (u3:=w.2.1) (u4:=w.2.2) l [] 0 (by simp;omega)
 have hf:=List.length_filter_le (fun y:tWrite.D=>vai y.1 w.1) l
 obtain⟨j2,hj2⟩:=vo3 (u0:=l) (u2:=w.1) (u3:=w.2.1) (u4:=w.2.2) l ((l.filter fun y=>vai y.1 w.1)++[w]) 0 (by simp;omega)
 rw [hj]
 simp only [List.nil_append]
 rw [if_pos (by show _≤4294967296;simp only [List.length_singleton];omega),hj2]
 unfold putB
 rw [List.append_assoc,List.singleton_append]
def okP (l:List tWrite.D):Prop:=(l.Pairwise fun a b=>vai a.1 b.1=true)∧∀y∈l,y.2.2=true→y.2.1=⟨#[]⟩
theorem wni {l:List tWrite.D}(h:okP l){w:tWrite.D}(hw:w.2.2=true→w.2.1=⟨#[]⟩):okP (putB l w):=by
 have gt:∀y:ByteArray,(!(vai y w.1||vav y w.1))=true→vai w.1 y=true:=by
  intro y hy
  simp only [Bool.not_eq_true',Bool.or_eq_false_iff]at hy
  cases hh:vai w.1 y
  ·have:=vkb hy.1 hh
   rw [this,vdl]at hy
   cases hy.2
  ·rfl
 constructor
 ·unfold putB
  rw [List.pairwise_append]
  refine⟨List.Pairwise.filter _ h.1,List.pairwise_cons.2 ⟨fun x hx=>gt x.1 (List.mem_filter.1 hx).2,List.Pairwise.filter _ h.1⟩,fun a ha b hb=>?_⟩
  have ha':=(List.mem_filter.1 ha).2
  rcases List.mem_cons.1 hb with e|e
  ·rw [e];exact ha'
  ·exact vd6 ha' (gt b.1 (List.mem_filter.1 e).2)
 ·intro y hy
  unfold putB at hy
  rcases List.mem_append.1 hy with hy|hy
  ·exact h.2 y (List.mem_filter.1 hy).1
  ·rcases List.mem_cons.1 hy with e|e
   ·rw [e];exact hw
   ·exact h.2 y (List.mem_filter.1 e).1
end
end Go.VE
/- Plain laws: a key that is written. -/
namespace Go.VE
noncomputable section
set_option linter.unusedVariables false
set_option linter.unusedSimpArgs false
set_option maxRecDepth 100000
theorem v0z {u1 u2:ByteArray}{u3:Bool}{L:List tWrite.D}(hL:L.length≤1048576):∀(l:List tWrite.D) (i q:Nat),L.drop i=l→l.length<q→∀K,
  vak vne q ((i:Int),u1,u2,u3,L) K=K (((i+(l.takeWhile fun y=>vai y.1 u1).length:Nat):Int),u1,u2,u3,L)
 |l,i,0,_,h=>by omega
 |[],i,q+1,hd,_=>fun K=>by
  have hge:=vb9 hd
  simp only [vak,vne,hge,decide_false,cond_false,Sum.elim_inr,List.takeWhile_nil,List.length_nil,Nat.add_zero]
 |y::l,i,q+1,hd,hq=>fun K=>by
  have hlt:=vfy hd
  have hy:L.getD i (Ty.zero tWrite)=y:=(vbn hd).2 _
  have hw1:IntKind.wrap .i64 ((i:Int)+1)=((i+1:Nat):Int):=vb1 (by omega)
  have ih:=v0z (u1:=u1) (u2:=u2) (u3:=u3) hL l (i+1) q (vcl hd) (by simpa using hq) K
  simp only [vak,vne,ven,show (i:Int)<(L.length:Int) by omega,show (0:Int)≤(i:Int) by omega,and_self,if_true,decide_true,cond_true,Int.toNat_natCast,hy,hw1,List.takeWhile_cons]
  cases vai y.1 u1
  ·simp only [cond_false,Sum.elim_inr,Bool.false_eq_true,if_false,List.length_nil,Nat.add_zero]
  ·simp only [cond_true,Sum.elim_inl,if_true,List.length_cons]
   rw [ih]
   congr 2
   omega
def ascW (l:List tWrite.D):Prop:=l.Pairwise fun a b=>vai a.1 b.1=true
theorem v95 {l:List tWrite.D}(h:ascW l)(u:ByteArray):l.takeWhile (fun y=>vai y.1 u)=l.filter (fun y=>vai y.1 u)∧
  l.dropWhile (fun y=>vai y.1 u)=l.filter (fun y=>!vai y.1 u):=by
 induction l with
 |nil=>exact⟨rfl,rfl⟩
 |cons y l ih=>
  obtain⟨h1,h2⟩:=List.pairwise_cons.1 h
  obtain⟨a,b⟩:=ih h2
  cases hy:vai y.1 u with
  |true=>simp [List.takeWhile_cons,List.dropWhile_cons,List.filter_cons,hy,a,b]
  |false=>
   have hall:∀z∈l,vai z.1 u=false:=fun z hz=>by
    cases hz2:vai z.1 u with
    |false=>rfl
    |true=>rw [vd6 (h1 z hz) hz2]at hy;cases hy
   have e1:l.filter (fun y=>vai y.1 u)=[]:=List.filter_eq_nil_iff.2 fun z hz=>by simp [hall z hz]
   have e2:l.filter (fun y=>!vai y.1 u)=l:=List.filter_eq_self.2 fun z hz=>by simp [hall z hz]
   simp [List.takeWhile_cons,List.dropWhile_cons,List.filter_cons,hy,e1,e2]
theorem vtg (x:ByteArray):vai x x=false:=by
 cases h:vai x x
 ·rfl
 ·have:=vd6 h h
  rw [ve5]at h
  rw [Go.Proofs.bytesLess_eq,decide_eq_true_eq]at h
  exact absurd h (List.lt_irrefl _)
theorem wnn {l:List tWrite.D}(hl:l.length≤1048576)(ha:ascW l)(w:tWrite.D) (k):vv9 l w k=k (putB l w):=by
 rw [wdu]
 unfold v87
 rw [if_pos (by show _≤4294967296;omega)]
 have hj:=v0z (u1:=w.1) (u2:=w.2.1) (u3:=w.2.2) hl l 0 Fuel rfl (vbu (by omega))
 have hz:((0:Nat):Int)=0:=rfl
 rw [hz]at hj
 rw [hj]
 obtain⟨s1,s2⟩:=v95 ha w.1
 generalize hP:l.takeWhile (fun y=>vai y.1 w.1)=P at s1 s2
 generalize hD:l.dropWhile (fun y=>vai y.1 w.1)=D at s1 s2
 have hPD:l=P++D:=by rw [←hP,←hD];exact(List.takeWhile_append_dropWhile).symm
 have hlen:l.length=P.length+D.length:=by rw [hPD,List.length_append]
 simp only [Nat.zero_add]
 have hins:insL l (P.length:Int) [(w.1,(w.2.1,w.2.2))]=P++w::D:=by
  unfold insL
  rw [Int.toNat_natCast,hPD,List.take_left,List.drop_left,List.append_assoc,List.singleton_append]
 have hasc:D.Pairwise fun a b=>vai a.1 b.1=true:=by rw [s2];exact List.Pairwise.filter _ ha
 cases hDD:D with
 |nil=>
  have e:¬((P.length:Int)<(l.length:Int)):=by rw [hlen,hDD];simp
  simp only [e,decide_false,cond_false]
  rw [v68]
  unfold vwx
  rw [if_pos ⟨by omega,by omega,by simp,by simp;omega⟩,hins]
  unfold putB
  rw [←s1,hDD]
  have:(l.filter fun y=>!(vai y.1 w.1||vav y.1 w.1))=[]:=by
   have h0:l.filter (fun y=>!vai y.1 w.1)=[]:=by rw [←s2,hDD]
   rw [List.filter_eq_nil_iff]at h0 ⊢
   intro z hz
   have:=h0 z hz
   cases h1:vai z.1 w.1 with
   |true=>simp
   |false=>rw [h1]at this;exact absurd rfl this
  rw [this]
 |cons d D'=>
  have e:((P.length:Int)<(l.length:Int)):=by rw [hlen,hDD];simp;omega
  have hd0:vai d.1 w.1=false:=by
   have:d∈l.filter (fun y=>!vai y.1 w.1):=by rw [←s2,hDD];simp
   simpa using(List.mem_filter.1 this).2
  have hget:l.getD P.length (Ty.zero tWrite)=d:=by rw [hPD,hDD];simp
  have hrest:∀z∈D',vai d.1 z.1=true:=fun z hz=>by rw [hDD]at hasc;exact(List.pairwise_cons.1 hasc).1 z hz
  have hf:(l.filter fun y=>!(vai y.1 w.1||vav y.1 w.1))=D.filter fun y=>!vav y.1 w.1:=by
   rw [s2,List.filter_filter]
   congr 1
   funext y
   cases vai y.1 w.1<;>cases vav y.1 w.1<;>rfl
  have hD'ne:vav d.1 w.1=true∨vai w.1 d.1=true:=by
   cases h1:vav d.1 w.1 with
   |true=>exact .inl rfl
   |false=>
    refine .inr ?_
    cases h2:vai w.1 d.1 with
    |true=>rfl
    |false=>rw [vkb hd0 h2,vdl]at h1;cases h1
  have hD'f:D'.filter (fun y=>!vav y.1 w.1)=D':=List.filter_eq_self.2 fun z hz=>by
   have hzd:=hrest z hz
   cases h1:vav z.1 w.1 with
   |false=>rfl
   |true=>
    have hzw:z.1=w.1:=vgg h1
    rw [hzw]at hzd
    rcases hD'ne with h2|h2
    ·rw [vgg h2,vtg]at hzd;cases hzd
    ·have:=vd6 hzd h2
     rw [vtg]at this;cases this
  simp only [e,decide_true,cond_true]
  rw [if_pos ⟨by omega,trivial⟩,Int.toNat_natCast,hget]
  unfold putB
  rw [←s1,hf,hDD,List.filter_cons]
  cases he:vav d.1 w.1 with
  |true=>
   simp only [cond_true,Bool.not_true,Bool.false_eq_true,if_false,hD'f]
   rw [if_pos ⟨by omega,trivial⟩,hPD,hDD]
   congr 1
   rw [List.set_append_right _ _ (Nat.le_refl _),Nat.sub_self,List.set_cons_zero]
  |false=>
   simp only [cond_false,Bool.not_false,if_true,hD'f]
   rw [v68]
   unfold vwx
   rw [if_pos ⟨by omega,by omega,by simp,by simp;omega⟩,hins,hDD]
theorem vmr:∀(l:List tWrite.D) (p:Option tWrite.D),vcc p l=true→ascW l∧(∀x,p=some x→∀y∈l,vai x.1 y.1=true)∧∀y∈l,vaz y=true
 |[],p,_=>⟨List.Pairwise.nil,(fun _ _ y hy=>by simp at hy),(fun y hy=>by simp at hy)⟩
 |y::l,p,h=>by
  simp only [vcc,Bool.and_eq_true]at h
  obtain⟨⟨h1,h2⟩,h3⟩:=h
  obtain⟨a,b,c⟩:=vmr l (some y) h3
  refine⟨List.pairwise_cons.2 ⟨b y rfl,a⟩,fun x hx z hz=>?_,fun z hz=>?_⟩
  ·subst hx
   rcases List.mem_cons.1 hz with e|e
   ·rw [e];exact h2
   ·exact vd6 h2 (b y rfl z e)
  ·rcases List.mem_cons.1 hz with e|e
   ·rw [e];exact h1
   ·exact c z e
theorem v2b {t:tTxn.D}(h:vbl t=true):vcf t.2.2.2.2.2.1=true:=by
 unfold vbl at h
 simp only [Bool.and_eq_true]at h
 exact h.1.1.1.1.1.1.2
theorem v97 {t:tTxn.D}(h:vbl t=true)(W:List tWrite.D):vbl (t.1,(t.2.1,(t.2.2.1,(t.2.2.2.1,(t.2.2.2.2.1,(W,(t.2.2.2.2.2.2.1,t.2.2.2.2.2.2.2)))))))=vcf W:=by
 unfold vbl at h ⊢
 simp only [Bool.and_eq_true]at h
 obtain⟨⟨⟨⟨⟨⟨⟨⟨⟨⟨a1,a2⟩,a3⟩,a4⟩,a5⟩,a6⟩,a7⟩,a8⟩,a9⟩,a10⟩,a11⟩:=h
 simp only [a1,a2,a3,a4,a6,a7,a8,a9,a10,a11,Bool.true_and,Bool.and_true]
theorem v8k {l:List tWrite.D}{w y:tWrite.D}(h:y∈putB l w):y∈l∨y=w:=by
 unfold putB at h
 rcases List.mem_append.1 h with h|h
 ·exact .inl (List.mem_filter.1 h).1
 ·rcases List.mem_cons.1 h with h|h
  ·exact .inr h
  ·exact .inl (List.mem_filter.1 h).1
theorem vnq (l:List tWrite.D)(w:tWrite.D):(putB l w).length≤l.length+1:=by
 unfold putB
 have h1:l.length=(l.filter fun y=>vai y.1 w.1).length+(l.filter fun y=>!vai y.1 w.1).length:=by
  induction l with
  |nil=>rfl
  |cons y l ih=>cases h:vai y.1 w.1<;>simp [List.filter_cons,h]<;>omega
 have h2:(l.filter fun y=>!(vai y.1 w.1||vav y.1 w.1)).length≤(l.filter fun y=>!vai y.1 w.1).length:=by
  have:(l.filter fun y=>!(vai y.1 w.1||vav y.1 w.1))=(l.filter fun y=>!vai y.1 w.1).filter fun y=>!vav y.1 w.1:=by
   rw [List.filter_filter]
   congr 1
   funext y
   cases vai y.1 w.1<;>cases vav y.1 w.1<;>rfl
  rw [this]
  exact List.length_filter_le _ _
 rw [List.length_append,List.length_cons]
 omega
theorem vxy {y:tWrite.D}(h:vaz y=true):y.1.size≤3∧y.2.1.size≤12:=by
 unfold vaz at h
 simp only [Bool.and_eq_true,decide_eq_true_eq]at h
 exact⟨by have:=vi1 h.1.1;omega,by omega⟩
def veh (t:tTxn.D)(w:tWrite.D):Bool×List tWrite.D:=
 bif !vbl t then(false,t.2.2.2.2.2.1)else bif t.2.1 != 1 then(false,t.2.2.2.2.2.1)else bif !vaz w then(false,t.2.2.2.2.2.1)else
 bif !vcf (putB t.2.2.2.2.2.1 w)then(false,t.2.2.2.2.2.1)else(true,putB t.2.2.2.2.2.1 w)
theorem wng {t:tTxn.D}(h:vbl t=true){w:tWrite.D}(hw:vaz w=true):okW 65 (putB t.2.2.2.2.2.1 w):=by
 have hs:=vbx h
 refine⟨by have:=vnq t.2.2.2.2.2.1 w;have:=hs.2.2.2.2.2.2.1;omega,fun y hy=>?_⟩
 rcases v8k hy with hy|rfl
 ·have:=hs.2.2.2.2.2.2.2.1 y hy;omega
 ·have:=vxy hw;omega
theorem wlu {t:tTxn.D}(h:vbl t=true){w:tWrite.D}(hw:vaz w=true):(Ty.slice tWrite).wt (putB t.2.2.2.2.2.1 w)≤1048576∧
  tTxn.wt (t.1,(t.2.1,(t.2.2.1,(t.2.2.2.1,(t.2.2.2.2.1,(putB t.2.2.2.2.2.1 w,(t.2.2.2.2.2.2.1,t.2.2.2.2.2.2.2)))))))≤1048576:=by
 have hk:=wng h hw
 have hs:=vbx h
 have h2:=vtd (T:=tWrite) (c:=40) (l:=putB t.2.2.2.2.2.1 w) (fun y hy=>by have:=hk.2 y hy;rw [vo7];omega)
 have h1:=vtd (T:=tRange) (c:=40) (l:=t.2.2.2.2.1) (fun y hy=>by have:=hs.2.2.2.2.2.1 y hy;rw [vpa];omega)
 have e:=vqo (t.1,(t.2.1,(t.2.2.1,(t.2.2.2.1,(t.2.2.2.2.1,(putB t.2.2.2.2.2.1 w,(t.2.2.2.2.2.2.1,t.2.2.2.2.2.2.2)))))))
 have hl:=hk.1
 have hr:=hs.2.2.2.2.1
 have hn:=hs.2.2.2.2.2.2.2.2
 rw [Ty.wt_slice,Ty.wt_slice]at e
 dsimp only at e
 constructor
 ·rw [Ty.wt_slice];omega
 ·rw [e];omega
theorem wnv {t:tTxn.D}(ht:tTxn.wt t≤1048576){w:tWrite.D}(hw:tWrite.wt w≤1048576) (k):vxf t w k=k (t.1,t.2.1,t.2.2.1,t.2.2.2.1,t.2.2.2.2.2.2.1,t.2.2.2.2.2.2.2,(veh t w).1,t.2.2.2.2.1,(veh t w).2):=by
 have hl:=vgf ht
 rw [wr8]
 unfold wc8 veh
 simp only [v4l hl.1 hl.2,vte ht,wd8 hw]
 cases hok:vbl t
 ·rfl
 ·simp only [Bool.not_true,cond_false]
  cases t.2.1 != 1
  ·cases hwo:vaz w
   ·rfl
   ·simp only [Bool.not_true,cond_false]
    unfold vfg
    simp only [weg hl.2,vjl,wdw (wlu hok hwo).1,v4l hl.1 hl.2]
    cases vcf (putB t.2.2.2.2.2.1 w)<;>rfl
  ·rfl
theorem wnm {t:tTxn.D}(ht:tTxn.wt t≤1048576){w:tWrite.D}(hw:tWrite.wt w≤1048576) (k):vvg t w k=k (t.1,t.2.1,t.2.2.1,t.2.2.2.1,t.2.2.2.2.2.2.1,t.2.2.2.2.2.2.2,(veh t w).1,t.2.2.2.2.1,(veh t w).2):=by
 have hl:=vgf ht
 rw [wra]
 unfold wcg veh
 simp only [v3h hl.1 hl.2,voz ht,wcz hw]
 cases hok:vbl t
 ·rfl
 ·simp only [Bool.not_true,cond_false]
  cases t.2.1 != 1
  ·cases hwo:vaz w
   ·rfl
   ·simp only [Bool.not_true,cond_false]
    have hwr:=v2b hok
    unfold vcf at hwr
    rw [Bool.and_eq_true]at hwr
    have ha:=(vmr _ _ hwr.1).1
    have hsw:=v97 hok (putB t.2.2.2.2.2.1 w)
    have hT:=fun k=>voz (wlu hok hwo).2 k
    unfold vfe
    simp only [wnn hl.2 ha,vjl,hT,hsw,v3h hl.1 hl.2]
    cases vcf (putB t.2.2.2.2.2.1 w)<;>rfl
  ·rfl
theorem v1l {t:tTxn.D}(ht:tTxn.wt t≤1048576)(w:tWrite.D):(veh t w).2.length≤1048576:=by
 have hl:=(vgf ht).2
 unfold veh
 cases hok:vbl t
 ·exact hl
 ·have h8:=(vbx hok).2.2.2.2.2.2.1
  have:=vnq t.2.2.2.2.2.1 w
  simp only [cond_eq_ite]
  repeat' split
  all_goals first|exact hl|(show (putB _ _).length≤_;omega)
end
end Go.VE
/- Plain laws: versions that are put into others. -/
namespace Go.VE
noncomputable section
set_option linter.unusedVariables false
set_option linter.unusedSimpArgs false
set_option maxRecDepth 100000
def leV (v y:tVersion.D):Bool:=vai y.1 v.1||(vav y.1 v.1&&decide (y.2.2.2≤v.2.2.2))
def insV (l:List tVersion.D)(v:tVersion.D):List tVersion.D:=l.takeWhile (leV v)++v::l.dropWhile (leV v)
def vk5 (cs:Int)(x:tWrite.D):tVersion.D:=(x.1,(x.2.1,(x.2.2,cs)))
def vfh (l:List tVersion.D)(w:List tWrite.D)(cs:Int):List tVersion.D:=w.foldl (fun out x=>insV out (vk5 cs x)) l
theorem vrh (l:List tVersion.D)(v:tVersion.D):(insV l v).length=l.length+1:=by
 unfold insV
 have:=congrArg List.length (List.takeWhile_append_dropWhile (p:=leV v) (l:=l))
 rw [List.length_append]at this
 rw [List.length_append,List.length_cons]
 omega
theorem vku:∀(w:List tWrite.D) (l:List tVersion.D) (cs:Int),(vfh l w cs).length=l.length+w.length
 |[],l,cs=>rfl
 |x::w,l,cs=>by
  show (vfh (insV l (vk5 cs x)) w cs).length=_
  rw [vku w,vrh,List.length_cons]
  omega
theorem wct {A:List tWrite.D}{B C:Int}{L:List tVersion.D}{v1 v2:ByteArray}{v3:Bool}{v4:Int}(hL:L.length≤3000000):∀(l:List tVersion.D) (i q:Nat) (s:List tVersion.D),L.drop i=l→l.length<q→s.length+l.length≤3000000→∀K,
  vak vm9 q (A,B,C,(i:Int),L,v1,v2,v3,v4,s) K=K (A,B,C,((i+(l.takeWhile (leV (v1,(v2,(v3,v4))))).length:Nat):Int),L,v1,v2,v3,v4,s++l.takeWhile (leV (v1,(v2,(v3,v4)))))
 |l,i,0,s,_,h,_=>by omega
 |[],i,q+1,s,hd,_,_=>fun K=>by
  have hge:=vb9 hd
  simp only [vak,vm9,hge,decide_false,cond_false,Sum.elim_inr,List.takeWhile_nil,List.length_nil,Nat.add_zero,List.append_nil]
 |y::l,i,q+1,s,hd,hq,hs=>fun K=>by
  have hlt:=vfy hd
  have hy:L.getD i (Ty.zero tVersion)=y:=(vbn hd).2 _
  have hw1:IntKind.wrap .i64 ((i:Int)+1)=((i+1:Nat):Int):=vb1 (by omega)
  simp only [List.length_cons]at hs
  have hm:s.length+[y].length≤VE.maxLen:=by show _≤4294967296;simp;omega
  have ih:=wct (A:=A) (B:=B) (C:=C) (v1:=v1) (v2:=v2) (v3:=v3) (v4:=v4) hL l (i+1) q (s++[y]) (vcl hd) (by simpa using hq) (by rw [List.length_append,List.length_singleton];omega) K
  have e1:leV (v1,(v2,(v3,v4))) y=(vai y.1 v1||(vav y.1 v1&&decide (y.2.2.2≤v4))):=rfl
  simp only [vak,vm9,vdq,show (i:Int)<(L.length:Int) by omega,show (0:Int)≤(i:Int) by omega,and_self,if_true,decide_true,cond_true,Int.toNat_natCast,hy,hw1,List.takeWhile_cons,e1,if_pos hm]
  have key:K (A,B,C,((i+1+(l.takeWhile (leV (v1,(v2,(v3,v4))))).length:Nat):Int),L,v1,v2,v3,v4,s++[y]++l.takeWhile (leV (v1,(v2,(v3,v4))))) =
    K (A,B,C,((i+(y::l.takeWhile (leV (v1,(v2,(v3,v4))))).length:Nat):Int),L,v1,v2,v3,v4,s++y::l.takeWhile (leV (v1,(v2,(v3,v4))))):=by
   rw [List.append_assoc,List.singleton_append,List.length_cons,show i+1+(l.takeWhile (leV (v1,(v2,(v3,v4))))).length=i+((l.takeWhile (leV (v1,(v2,(v3,v4))))).length+1) by omega]
  cases vai y.1 v1
  ·cases vav y.1 v1
   ·simp only [cond_false,Sum.elim_inr,Bool.false_or,Bool.false_and,Bool.false_eq_true,if_false,List.length_nil,Nat.add_zero,List.append_nil]
   ·cases decide (y.2.2.2≤v4)
    ·simp only [cond_false,cond_true,Sum.elim_inr,Bool.false_or,Bool.true_and,Bool.false_eq_true,if_false,List.length_nil,Nat.add_zero,List.append_nil]
    ·simp only [cond_false,cond_true,Sum.elim_inl,Bool.false_or,Bool.true_and,if_true]
     rw [ih,key]
  ·simp only [cond_true,Sum.elim_inl,Bool.true_or,if_true]
   rw [ih,key]
theorem wog (l:List tVersion.D)(v:tVersion.D):l.drop (l.takeWhile (leV v)).length=l.dropWhile (leV v):=by
 have:=List.takeWhile_append_dropWhile (p:=leV v) (l:=l)
 generalize l.takeWhile (leV v)=a at *
 generalize l.dropWhile (leV v)=b at *
 rw [←this,List.drop_left]
theorem wsy (l:List tVersion.D)(v:tVersion.D):(l.takeWhile (leV v)).length+(l.dropWhile (leV v)).length=l.length:=by
 have:=congrArg List.length (List.takeWhile_append_dropWhile (p:=leV v) (l:=l))
 rwa [List.length_append]at this
theorem v8l {A:List tWrite.D}{cs:Int}(hA:A.length≤1048576):∀(l:List tWrite.D) (i q:Nat) (s:List tVersion.D),A.drop i=l→l.length<q→s.length+l.length≤2097152→∃j:Int,∀K,
  vak vnp q (A,cs,(i:Int),s) K=K (A,cs,j,vfh s l cs)
 |l,i,0,s,_,h,_=>by omega
 |[],i,q+1,s,hd,_,_=>by
  have hge:=vb9 hd
  exact⟨(i:Int),fun K=>by simp only [vak,vnp,hge,decide_false,cond_false,Sum.elim_inr];rfl⟩
 |y::l,i,q+1,s,hd,hq,hs=>by
  have hlt:=vfy hd
  have hy:rd (Ty.zero tWrite) A (i:Int)=y:=(vbn hd).1 _
  have hw1:IntKind.wrap .i64 ((i:Int)+1)=((i+1:Nat):Int):=vb1 (by omega)
  simp only [List.length_cons]at hs
  have hil:=vrh s (vk5 cs y)
  obtain⟨j,hj⟩:=v8l (cs:=cs) hA l (i+1) q (insV s (vk5 cs y)) (vcl hd) (by simpa using hq) (by omega)
  refine⟨j,fun K=>?_⟩
  have hin:=wct (A:=A) (B:=cs) (C:=(i:Int)) (v1:=y.1) (v2:=y.2.1) (v3:=y.2.2) (v4:=cs) (show s.length≤3000000 by omega) s 0 Fuel [] rfl (Nat.lt_of_lt_of_le (by omega) vb5) (by simp;omega)
  have hz:((0:Nat):Int)=0:=rfl
  rw [hz]at hin
  have htw:=wsy s (vk5 cs y)
  simp only [vak,vnp,show (i:Int)<(A.length:Int) by omega,show (0:Int)≤(i:Int) by omega,and_self,if_true,decide_true,cond_true,hy,hw1,hin,List.nil_append,Nat.zero_add]
  change (if(s.takeWhile (leV (vk5 cs y))).length+[vk5 cs y].length≤VE.maxLen then if 0≤(((s.takeWhile (leV (vk5 cs y))).length:Nat):Int)∧(((s.takeWhile (leV (vk5 cs y))).length:Nat):Int)≤(s.length:Int)then
   if(s.takeWhile (leV (vk5 cs y))++[vk5 cs y]).length+(s.drop (((s.takeWhile (leV (vk5 cs y))).length:Nat):Int).toNat).length≤VE.maxLen then _ else none else none else none)=_
  rw [if_pos (by show _≤4294967296;simp only [List.length_singleton];omega),if_pos ⟨by omega,by omega⟩,if_pos (by show _≤4294967296;simp only [List.length_append,List.length_singleton,List.length_drop];omega),Int.toNat_natCast,wog,List.append_assoc,List.singleton_append]
  exact hj K
theorem woi {l:List tVersion.D}{w:List tWrite.D}(hl:l.length≤1048576)(hw:w.length≤1048576)(cs:Int) (k):vwy l w cs k=k (vfh l w cs):=by
 rw [wgr]
 unfold v7l
 rw [if_pos (by show _≤4294967296;simp;omega)]
 obtain⟨j,hj⟩:=v8l (cs:=cs) hw w 0 Fuel l rfl (Nat.lt_of_lt_of_le (by omega) vb5) (by omega)
 have hz:((0:Nat):Int)=0:=rfl
 rw [hz]at hj
 rw [List.nil_append,hj]
end
end Go.VE
/- Plain laws: versions in order;what is seen among them. -/
namespace Go.VE
noncomputable section
set_option linter.unusedVariables false
set_option linter.unusedSimpArgs false
set_option maxRecDepth 100000
theorem vwk {α:Type}{R:α→α→Prop}{p:α→Bool}:∀{l:List α},l.Pairwise R→(∀a b,R a b→p b=true→p a=true)→l.takeWhile p=l.filter p∧l.dropWhile p=l.filter (fun y=>!p y)
 |[],_,_=>⟨rfl,rfl⟩
 |y::l,h,hp=>by
  obtain⟨h1,h2⟩:=List.pairwise_cons.1 h
  obtain⟨a,b⟩:=vwk h2 hp
  cases hy:p y with
  |true=>simp [List.takeWhile_cons,List.dropWhile_cons,List.filter_cons,hy,a,b]
  |false=>
   have hall:∀z∈l,p z=false:=fun z hz=>by
    cases hz2:p z with
    |false=>rfl
    |true=>rw [hp y z (h1 z hz) hz2]at hy;cases hy
   have e1:l.filter p=[]:=List.filter_eq_nil_iff.2 fun z hz=>by simp [hall z hz]
   have e2:l.filter (fun y=>!p y)=l:=List.filter_eq_self.2 fun z hz=>by simp [hall z hz]
   simp [List.takeWhile_cons,List.dropWhile_cons,List.filter_cons,hy,e1,e2]
theorem v7n (a b:tVersion.D):vga a b=true↔vai a.1 b.1=true∨(a.1=b.1∧(a.2.2.2:Int)<b.2.2.2):=by
 unfold vga
 rw [Bool.or_eq_true,Bool.and_eq_true,vv5,decide_eq_true_eq,decide_eq_true_eq]
theorem v8g (v y:tVersion.D):leV v y=true↔vai y.1 v.1=true∨(y.1=v.1∧(y.2.2.2:Int)≤v.2.2.2):=by
 unfold leV
 rw [Bool.or_eq_true,Bool.and_eq_true,vv5,decide_eq_true_eq,decide_eq_true_eq]
theorem wsw {a b c:tVersion.D}(h1:vga a b=true)(h2:vga b c=true):vga a c=true:=by
 rw [v7n]at *
 rcases h1 with h1|⟨e1,h1⟩<;>rcases h2 with h2|⟨e2,h2⟩
 ·exact .inl (vd6 h1 h2)
 ·exact .inl (e2▸h1)
 ·exact .inl (e1▸h2)
 ·exact .inr ⟨e1.trans e2,Int.lt_trans h1 h2⟩
theorem wls {v y:tVersion.D}(h:leV v y=false):vga v y=true:=by
 rw [v7n]
 cases h1:vai y.1 v.1 with
 |true=>rw [(v8g v y).2 (.inl h1)]at h;cases h
 |false=>
  cases h2:vai v.1 y.1 with
  |true=>exact .inl rfl
  |false=>
   have e:=vkb h1 h2
   refine .inr ⟨e.symm,?_⟩
   rcases Int.lt_or_le v.2.2.2 y.2.2.2 with h3|h3
   ·exact h3
   ·rw [(v8g v y).2 (.inr ⟨e,h3⟩)]at h;cases h
abbrev vpg (l:List tVersion.D):Prop:=l.Pairwise fun a b=>vga a b=true
theorem wid {v a b:tVersion.D}(h:vga a b=true)(hb:leV v b=true):leV v a=true:=by
 rw [v7n]at h
 rw [v8g]at *
 rcases h with h|⟨e,h⟩<;>rcases hb with hb|⟨eb,hb⟩
 ·exact .inl (vd6 h hb)
 ·exact .inl (eb▸h)
 ·exact .inl (e▸hb)
 ·exact .inr ⟨e.trans eb,Int.le_of_lt (Int.lt_of_lt_of_le h hb)⟩
theorem v38 {l:List tVersion.D}(h:vpg l){v:tVersion.D}(hn:∀y∈l,¬(y.1=v.1∧(y.2.2.2:Int)=v.2.2.2)):vpg (insV l v):=by
 obtain⟨e1,e2⟩:=vwk (p:=leV v) h (fun a b hab hb=>wid hab hb)
 have hlt:∀y∈l,leV v y=true→vga y v=true:=fun y hy hle=>by
  rw [v8g]at hle
  rw [v7n]
  rcases hle with hle|⟨e,hle⟩
  ·exact .inl hle
  ·refine .inr ⟨e,?_⟩
   rcases Int.lt_or_eq_of_le hle with h1|h1
   ·exact h1
   ·exact absurd ⟨e,h1⟩ (hn y hy)
 unfold insV
 rw [e1,e2]
 refine List.pairwise_append.2 ⟨List.Pairwise.filter _ h,List.pairwise_cons.2 ⟨fun x hx=>?_,List.Pairwise.filter _ h⟩,fun a ha b hb=>?_⟩
 ·have:=(List.mem_filter.1 hx).2
  exact wls (by simpa using this)
 ·have ha':=hlt a (List.mem_filter.1 ha).1 (List.mem_filter.1 ha).2
  rcases List.mem_cons.1 hb with hb|hb
  ·rw [hb];exact ha'
  ·have:=(List.mem_filter.1 hb).2
   exact wsw ha' (wls (by simpa using this))
theorem v71 {l:List tVersion.D}{v y:tVersion.D}:y∈insV l v↔y∈l∨y=v:=by
 have e:=List.takeWhile_append_dropWhile (p:=leV v) (l:=l)
 unfold insV
 constructor
 ·intro h
  rcases List.mem_append.1 h with h|h
  ·exact .inl (by rw [←e];exact List.mem_append_left _ h)
  ·rcases List.mem_cons.1 h with h|h
   ·exact .inr h
   ·exact .inl (by rw [←e];exact List.mem_append_right _ h)
 ·intro h
  rcases h with h|h
  ·rw [←e]at h
   rcases List.mem_append.1 h with h|h
   ·exact List.mem_append_left _ h
   ·exact List.mem_append_right _ (List.mem_cons_of_mem _ h)
  ·rw [h];exact List.mem_append_right _ (List.mem_cons_self ..)
theorem vp2 {cs:Int}{y:tVersion.D}:∀{w:List tWrite.D} {l:List tVersion.D},y∈vfh l w cs↔y∈l∨∃x∈w,y=vk5 cs x
 |[],l=>⟨fun h=>.inl h,fun h=>h.elim id fun⟨x,hx,_⟩=>by cases hx⟩
 |x::w,l=>by
  show y∈vfh (insV l (vk5 cs x)) w cs↔_
  rw [vp2,v71]
  constructor
  ·rintro((h|h)|⟨z,hz,h⟩)
   ·exact .inl h
   ·exact .inr ⟨x,List.mem_cons_self ..,h⟩
   ·exact .inr ⟨z,List.mem_cons_of_mem _ hz,h⟩
  ·rintro(h|⟨z,hz,h⟩)
   ·exact .inl (.inl h)
   ·rcases List.mem_cons.1 hz with e|hz
    ·exact .inl (.inr (e▸h))
    ·exact .inr ⟨z,hz,h⟩
theorem vke {cs:Int}:∀{w:List tWrite.D} {l:List tVersion.D},vpg l→ascW w→(∀y∈l,(y.2.2.2:Int)<cs∨∀x∈w,y.1≠x.1)→vpg (vfh l w cs)
 |[],l,h,_,_=>h
 |x::w,l,h,ha,hc=>by
  obtain⟨h1,h2⟩:=List.pairwise_cons.1 ha
  show vpg (vfh (insV l (vk5 cs x)) w cs)
  refine vke (v38 h fun y hy=>?_) h2 fun y hy=>?_
  ·rintro⟨e1,e2⟩
   rcases hc y hy with h3|h3
   ·have:(y.2.2.2:Int)=cs:=e2
    rw [this]at h3;exact Int.lt_irrefl _ h3
   ·exact h3 x (List.mem_cons_self ..) e1
  ·rcases v71.1 hy with hy|hy
   ·rcases hc y hy with h3|h3
    ·exact .inl h3
    ·exact .inr fun z hz=>h3 z (List.mem_cons_of_mem _ hz)
   ·refine .inr fun z hz e=>?_
    have:=h1 z hz
    rw [hy]at e
    have e':x.1=z.1:=e
    rw [e',v11]at this
    cases this
end
end Go.VE
/- Plain laws: draws of writes and versions,exactly. -/
namespace Go.VE
noncomputable section
set_option linter.unusedVariables false
set_option linter.unusedSimpArgs false
set_option maxRecDepth 100000
theorem wjf:∀x∈[(⟨#[97]⟩:ByteArray),(⟨#[98]⟩:ByteArray),(⟨#[99]⟩:ByteArray),(⟨#[100]⟩:ByteArray),(⟨#[97,98]⟩:ByteArray)],vdu x=true:=by decide
theorem wse {l:List Int}{p s:Int}(h:Dr l p):Gives (vmu l p s) (fun y=>vdu y.1=true∧Dr y.2.1 y.2.2.1):=by
 rw [v9c]
 unfold v0m
 exact(v0j (Q:=fun x=>vdu x=true) wjf (by decide) (by decide) h).bind (fun y hy=>vac hy)
theorem wpb {l:List Int}{p s:Int}(h:Dr l p):Gives (vr0 l p s) (fun y=>vaz (y.1,(y.2.1,y.2.2.1))=true∧Dr y.2.2.2.1 y.2.2.2.2.1):=by
 rw [v61]
 unfold vz8
 refine(wse h).bind (fun y1 h1=>(v0j (Q:=fun x=>(x.size:Int)≤12) (by decide) (by decide) (by decide) h1.2).bind (fun y2 h2=>(vw1 (by decide) (by decide) h2.2).bind (fun y3 h3=>vam (fun _=>vac ⟨?_,h3⟩) (fun _=>vac ⟨?_,h3⟩))))
 ·unfold vaz
  rw [h1.1,vdl];rfl
 ·unfold vaz
  dsimp only
  rw [h1.1,decide_eq_true h2.1];rfl
def okX (n:Nat)(w:List tWrite.D):Prop:=ascW w∧(∀y∈w,vaz y=true)∧w.length≤n
theorem v7x {n m:Nat} {w}(h:okX n w)(hm:n≤m):okX m w:=⟨h.1,h.2.1,Nat.le_trans h.2.2 hm⟩
theorem vp1 {w:tWrite.D}(h:vaz w=true)(hg:w.2.2=true):w.2.1=⟨#[]⟩:=by
 unfold vaz at h
 simp only [Bool.and_eq_true,hg,Bool.not_true,Bool.false_or]at h
 exact vgg h.2
theorem whw {n:Nat}{l:List tWrite.D}(h:okX n l){w:tWrite.D}(hw:vaz w=true):okX (n+1) (putB l w):=by
 refine⟨(wni (l:=l) ⟨h.1,fun y hy hg=>vp1 (h.2.1 y hy) hg⟩ (w:=w) (vp1 hw)).1,fun y hy=>?_,Nat.le_trans (vnq l w) (Nat.succ_le_succ h.2.2)⟩
 rcases v8k hy with hy|rfl
 ·exact h.2.1 y hy
 ·exact hw
theorem wa7:∀(m i:Nat) (l:List Int) (p s:Int) (acc:List tWrite.D) (n:Nat),i+m=3→m<n→okX i acc→Dr l p→
  Gives (vak vhe n ((i:Int),l,p,s,acc)) (fun z=>Dr z.2.1 z.2.2.1∧okX 3 z.2.2.2.2):=by
 intro m
 induction m with
 |zero=>
  intro i l p s acc n hm hn ha h
  obtain⟨n,rfl⟩:∃q,n=q+1:=⟨n-1,by omega⟩
  apply vbw
  unfold vhe
  refine(vc1 (by decide) (by decide) h).bind (fun y hy=>vam (fun c=>by have c:=of_decide_eq_true c;have:=hy.2.1;dsimp only at c;omega) (fun _=>vac (vg1 ⟨hy.2.2,v7x ha (by omega)⟩)))
 |succ m ih=>
  intro i l p s acc n hm hn ha h
  obtain⟨n,rfl⟩:∃q,n=q+1:=⟨n-1,by omega⟩
  have hlen:=ha.2.2
  apply vbw
  unfold vhe
  have hput:∀(w:tWrite.D),vaz w=true→Gives (vks acc w) (fun z=>okX (i+1) z):=fun w hw=>⟨putB acc w,whw ha hw,fun k=>weg (by omega) w k⟩
  refine(vc1 (by decide) (by decide) h).bind (fun y hy=>vam (fun c=>(wpb hy.2.2).bind (fun y3 h3=>(hput _ h3.1).bind (fun y4 h4=>vac (vth ?_)))) (fun _=>vac (vg1 ⟨hy.2.2,v7x ha (by omega)⟩)))
  have e:IntKind.wrap .i64 ((i:Int)+1)=((i+1:Nat):Int):=vb1 (by omega)
  simp only [e]
  exact ih (i+1) _ _ _ _ n (by omega) (by omega) h4 h3.2
theorem wn8 (n:Nat):okX n []:=⟨List.Pairwise.nil,(fun y hy=>by simp at hy),Nat.zero_le _⟩
theorem wpq {l:List Int}{p s:Int}(h:Dr l p):Gives (vpw l p s) (fun y=>Dr y.1 y.2.1∧okX 3 y.2.2.2):=by
 rw [v78]
 unfold v2q
 exact(wa7 3 0 l p s [] Fuel rfl (by have:=vb5;omega) (wn8 _) h).bind (fun z hz=>vac hz)
def okZ (n:Nat)(l:List tVersion.D):Prop:=vpg l∧(∀y∈l,vo0 y=true∧(y.2.2.2:Int)≤(n:Int))∧l.length≤3*n
theorem v6j {n m:Nat} {w}(h:okZ n w)(hm:n≤m):okZ m w:=⟨h.1,fun y hy=>⟨(h.2.1 y hy).1,Int.le_trans (h.2.1 y hy).2 (by omega)⟩,Nat.le_trans h.2.2 (by omega)⟩
theorem whu {w:tWrite.D}(h:vaz w=true){cs:Int}(h1:1≤cs)(h2:cs≤9999):vo0 (vk5 cs w)=true:=by
 unfold vaz at h
 unfold vo0 vk5 var
 simp only [Bool.and_eq_true]at h
 simp only [h.1.1,h.1.2,h.2,Bool.true_and]
 rw [Bool.and_eq_true,decide_eq_true_eq,decide_eq_true_eq]
 exact⟨h1,h2⟩
theorem wod {n:Nat}(hn:n≤100){l:List tVersion.D}(h:okZ n l){w:List tWrite.D}(hw:okX 3 w):okZ (n+1) (vfh l w ((n+1:Nat):Int)):=by
 refine⟨vke h.1 hw.1 fun y hy=>.inl ?_,fun y hy=>?_,?_⟩
 ·have:=(h.2.1 y hy).2
  exact Int.lt_of_le_of_lt this (by omega)
 ·rcases vp2.1 hy with hy|⟨x,hx,rfl⟩
  ·exact⟨(h.2.1 y hy).1,Int.le_trans (h.2.1 y hy).2 (by omega)⟩
  ·exact⟨whu (hw.2.1 x hx) (by omega) (by omega),Int.le_refl _⟩
 ·have h1:=h.2.2
  have h2:=hw.2.2
  rw [vku]
  omega
theorem wcy:∀(m i:Nat) (l:List Int) (p s:Int) (acc:List tVersion.D) (n:Nat),i+m=7→m<n→okZ i acc→Dr l p→
  Gives (vak vnd n ((i:Int),l,p,s,acc)) (fun z=>Dr z.2.1 z.2.2.1∧okZ 7 z.2.2.2.2):=by
 intro m
 induction m with
 |zero=>
  intro i l p s acc n hm hn ha h
  obtain⟨n,rfl⟩:∃q,n=q+1:=⟨n-1,by omega⟩
  apply vbw
  unfold vnd
  refine(vc1 (by decide) (by decide) h).bind (fun y hy=>vam (fun c=>by have c:=of_decide_eq_true c;have:=hy.2.1;dsimp only at c;omega) (fun _=>vac (vg1 ⟨hy.2.2,v6j ha (by omega)⟩)))
 |succ m ih=>
  intro i l p s acc n hm hn ha h
  obtain⟨n,rfl⟩:∃q,n=q+1:=⟨n-1,by omega⟩
  have hlen:=ha.2.2
  apply vbw
  unfold vnd
  have e:IntKind.wrap .i64 ((i:Int)+1)=((i+1:Nat):Int):=vb1 (by omega)
  have hput:∀(w:List tWrite.D),okX 3 w→Gives (vwy acc w ((i+1:Nat):Int)) (fun z=>okZ (i+1) z):=fun w hw=>⟨vfh acc w ((i+1:Nat):Int),wod (by omega) ha hw,fun k=>woi (by omega) (by have:=hw.2.2;omega) _ k⟩
  refine(vc1 (by decide) (by decide) h).bind (fun y hy=>vam (fun c=>(wpq hy.2.2).bind (fun y3 h3=>?_)) (fun _=>vac (vg1 ⟨hy.2.2,v6j ha (by omega)⟩)))
  simp only [e]
  exact(hput _ h3.2).bind (fun y4 h4=>vac (vth (ih (i+1) _ _ _ _ n (by omega) (by omega) h4 h3.1)))
theorem wnk (n:Nat):okZ n []:=⟨List.Pairwise.nil,(fun y hy=>by simp at hy),Nat.zero_le _⟩
theorem wqt {l:List Int}{p s:Int}(h:Dr l p):Gives (vz6 l p s) (fun y=>Dr y.1 y.2.1∧okZ 7 y.2.2.2):=by
 rw [wfw]
 unfold v74
 exact(wcy 7 0 l p s [] Fuel rfl (by have:=vb5;omega) (wnk _) h).bind (fun z hz=>vac hz)
theorem wrs {l:List Int}{p s:Int}(h:Dr l p):Gives (v07 l p s) (fun y=>Dr y.1 y.2.1∧y.2.2.2.length≤21):=by
 rw [wcm]
 unfold v5z
 refine(vc1 (by decide) (by decide) h).bind (fun y1 h1=>(vc1 (by decide) (by decide) h1.2.2).bind (fun y2 h2=>(wqt h2.2.2).bind (fun y3 h3=>?_)))
 have hl:=h3.2.2.2
 have m3:0≤y2.1.tmod 3∧y2.1.tmod 3<((3:Nat):Int):=⟨Int.tmod_nonneg _ h2.1,Int.tmod_lt_of_pos _ (by decide)⟩
 have m4:0≤y2.1.tmod 4∧y2.1.tmod 4<((4:Nat):Int):=⟨Int.tmod_nonneg _ h2.1,Int.tmod_lt_of_pos _ (by decide)⟩
 have e:([]:List vah)++y3.2.2.2=y3.2.2.2:=rfl
 simp only [e]
 generalize y3.2.2.2=L at hl
 refine vas (by show _≤4294967296;simp only [List.length_nil];omega) (vam (fun c=>?_) (fun _=>vac ⟨h3.1,hl⟩))
 have c:=of_decide_eq_true c
 have mL:0≤y2.1.tmod (L.length:Int)∧y2.1.tmod (L.length:Int)<(L.length:Int):=⟨Int.tmod_nonneg _ h2.1,Int.tmod_lt_of_pos _ (by omega)⟩
 refine vsg (by omega) (vam (fun _=>vas m4 (vas mL (vac ⟨h3.1,by rw [List.length_set];exact hl⟩))) (fun _=>vam (fun _=>vas m3 (vas mL (vac ⟨h3.1,by rw [List.length_set];exact hl⟩))) (fun _=>vam (fun _=>vas mL (vac ⟨h3.1,by rw [List.length_set];exact hl⟩)) (fun _=>vam (fun _=>(wm0 (by decide) (by decide)).bind (fun y4 h4=>vas mL (vac ⟨h3.1,by rw [List.length_set];exact hl⟩))) (fun _=>vac ⟨h3.1,hl⟩)))))
end
end Go.VE
/- Plain laws: the text of a transaction,there and back. -/
namespace Go.VE
noncomputable section
set_option linter.unusedVariables false
set_option linter.unusedSimpArgs false
set_option maxRecDepth 100000
theorem vc2 (a b:ByteArray):vaf (a++b)=vaf a++vaf b:=by
 unfold vaf
 simp [ByteArray.data_append]
theorem v4y (s:ByteArray):∀y∈vaf s,0≤y∧y≤255:=by
 intro y hy
 unfold vaf at hy
 obtain⟨u,_,rfl⟩:=List.mem_map.mp hy
 have:=UInt8.toNat_lt u
 omega
def Back (s:ByteArray)(a c:Int)(P:List Int):Prop:=0≤a∧c=a+(P.length:Int)∧c≤(s.size:Int)∧(vaf s).drop a.toNat=P++(vaf s).drop c.toNat
theorem Back.mk2 {s:ByteArray}{a c:Nat}{P:List Int}{r:List Int}(h:(vaf s).drop a=P++r)(hc:c=a+P.length)(hs:c≤s.size):Back s (a:Int) (c:Int) P:=by
 refine⟨by omega,by omega,by omega,?_⟩
 rw [Int.toNat_natCast,Int.toNat_natCast,h,hc,←List.drop_drop,h,List.drop_left]
theorem Back.two {s:ByteArray}{a b c:Int}{P Q:List Int}(h1:Back s a b P)(h2:Back s b c Q):Back s a c (P++Q):=by
 obtain⟨a1,a2,a3,a4⟩:=h1
 obtain⟨b1,b2,b3,b4⟩:=h2
 refine⟨a1,by rw [List.length_append];omega,b3,?_⟩
 rw [a4,b4,List.append_assoc]
theorem Back.cut {s:ByteArray}{a c:Int}{P Q:List Int}(h:Back s a c (P++Q)):∃b,Back s a b P∧Back s b c Q:=by
 obtain⟨a1,a2,a3,a4⟩:=h
 rw [List.length_append]at a2
 have e:(vaf s).drop (a+(P.length:Int)).toNat=Q++(vaf s).drop c.toNat:=by
  rw [show (a+(P.length:Int)).toNat=a.toNat+P.length by omega,←List.drop_drop,a4,List.append_assoc,List.drop_left]
 exact⟨a+(P.length:Int),⟨a1,rfl,by omega,by rw [a4,e,List.append_assoc]⟩,by omega,by omega,a3,e⟩
theorem Back.at {s:ByteArray}{a c:Int}{P:List Int}(h:Back s a c P):0≤a∧a≤(s.size:Int)∧0≤c∧c≤(s.size:Int):=by
 obtain⟨a1,a2,a3,a4⟩:=h
 omega
theorem wjv {s:ByteArray}{a:Int}(h0:0≤a)(h1:a≤(s.size:Int)):Back s a a []:=⟨h0,by simp,h1,rfl⟩
theorem Back.nil {s:ByteArray}{a c:Int}(h:Back s a c []):c=a:=by have:=h.2.1;simp at this;exact this
theorem wf4 {n:Nat}(h:n≤16383):vaf (varB (n:Int))=encN n:=by
 unfold varB varL
 by_cases c:n>127
 ·have c':(n:Int)>127:=by omega
  rw [if_pos c',vjb c,vb7 (by omega),vnw,vx7]
  have w1:IntKind.wrap .i64 (((n % 128:Nat):Int)+128)=((n % 128+128:Nat):Int):=by rw [va4 (by omega) (by omega)];push_cast;rfl
  have w2:IntKind.wrap .i64 (((n / 128:Nat):Int))=((n / 128:Nat):Int):=va4 (by omega) (by omega)
  rw [w1,w2,v5p (by omega) (by omega),v5p (by omega) (by omega)]
  apply vhr
  intro y hy
  simp only [List.mem_cons,List.not_mem_nil,or_false]at hy
  rcases hy with hy|hy<;>rw [hy]<;>omega
 ·have c':¬(n:Int)>127:=by omega
  rw [if_neg c',vb7 (by omega),v5p (by omega) (by omega)]
  apply vhr
  intro y hy
  simp only [List.mem_cons,List.not_mem_nil,or_false]at hy
  rw [hy];omega
theorem woj {n:Nat}(h:n≤16383)(r:List Int):rvF 0 0 (encN n++r)=some (n,(encN n).length):=by
 by_cases c:n>127
 ·have hl:(encN n).length=2:=by rw [vjb c,vb7 (by omega)];rfl
  have e:0+((n % 128+128:Nat):Int).toNat % 128*128^0=n % 128:=by rw [Int.toNat_natCast];omega
  have e2:n % 128+((n / 128:Nat):Int).toNat % 128*128^(0+1)=n:=by rw [Int.toNat_natCast];omega
  rw [hl,vjb c,vb7 (show n / 128≤127 by omega)]
  simp only [List.cons_append,List.nil_append,rvF]
  rw [if_neg (by omega),if_neg (by omega),e,if_neg (by omega),if_pos (by omega),e2,if_pos ⟨by omega,by rw [hl]⟩]
 ·have e:0+(n:Int).toNat % 128*128^0=n:=by rw [Int.toNat_natCast];omega
  have hl:(encN n).length=1:=by rw [vb7 (by omega)];rfl
  rw [hl,vb7 (by omega)]
  simp only [List.cons_append,List.nil_append,rvF]
  rw [if_neg (by omega),if_pos (by omega),e,if_pos ⟨by omega,by rw [hl]⟩]
theorem v6u:∀(l:List Int) (i n:Nat) {v c:Nat},(∀y∈l,0≤y∧y≤255)→rvF i n l=some (v,c)→∃P r,l=P++r∧goOn P∧c=i+P.length∧v=n+128^i*valN P∧(encN v).length=c
 |[],i,n,v,c,_,h=>by simp [rvF]at h
 |x::l,i,n,v,c,hb,h=>by
  have hx:=hb x (by simp)
  simp only [rvF]at h
  split at h
  ·cases h
  ·split at h
   ·rename_i h1
    split at h
    ·rename_i h2
     simp only [Option.some.injEq,Prod.mk.injEq]at h
     refine⟨[x],l,rfl,⟨hx.1,h1⟩,by rw [←h.2];rfl,?_,?_⟩
     ·rw [←h.1,Nat.mul_comm];simp only [valN,Nat.mul_zero,Nat.add_zero]
     ·rw [←h.1,←h.2];exact h2.2
    ·cases h
   ·rename_i h1
    obtain⟨P,r,e1,e2,e3,e4,e5⟩:=v6u l (i+1) _ (fun y hy=>hb y (by simp [hy])) h
    refine⟨x::P,r,by rw [e1];rfl,?_,by rw [e3,List.length_cons];omega,?_,e5⟩
    ·cases P with
     |nil=>exact e2.elim
     |cons p P=>exact⟨by omega,hx.2,e2⟩
    ·rw [e4]
     simp only [valN]
     rw [Nat.pow_succ,Nat.mul_add,Nat.mul_comm (x.toNat % 128),Nat.mul_assoc,Nat.add_assoc]
theorem vqz {s:ByteArray}{a c n:Int}(hn:voj n)(h:Back s a c (vaf (varB n))):vat s a=(n,c,true):=by
 obtain⟨m,rfl⟩:=Int.eq_ofNat_of_zero_le hn.1
 have hm:m≤16383:=by have:=hn.2;omega
 rw [wf4 hm]at h
 obtain⟨a1,a2,a3,a4⟩:=h
 unfold vat
 have w:var a 0 (s.size:Int)=true:=by
  unfold var
  rw [decide_eq_true (show a≥0 by omega),decide_eq_true (show a≤(s.size:Int) by omega)];rfl
 rw [w,cond_true,a4,woj hm]
 show ((m:Int),((a.toNat+(encN m).length:Nat):Int),true)=_
 rw [show ((a.toNat+(encN m).length:Nat):Int)=c by omega]
theorem vp9 {s:ByteArray}{a:Int}(h:(vat s a).2.2=true)(hv:(vat s a).1≤16383):voj (vat s a).1∧Back s a (vat s a).2.1 (vaf (varB (vat s a).1)):=by
 obtain⟨v,c,e,h1,h2,h3,h4⟩:=ve7 h
 rw [e]at hv ⊢
 have hv':v≤16383:=by simp only at hv;omega
 refine⟨⟨by simp only;omega,hv⟩,?_⟩
 simp only
 rw [wf4 hv']
 unfold vat at e
 cases hw:var a 0 (s.size:Int)
 ·rw [hw]at e;cases e
 ·rw [hw,cond_true]at e
  cases hr:rvF 0 0 ((vaf s).drop a.toNat)with
  |none=>rw [hr]at e;cases e
  |some p=>
   obtain⟨v',c'⟩:=p
   rw [hr]at e
   simp only [rvR,Prod.mk.injEq]at e
   have ev:v'=v:=by omega
   have ec:c=a.toNat+c':=by omega
   subst ev
   obtain⟨P,r,g1,g2,g3,g4,g5⟩:=v6u _ 0 0 (fun y hy=>v4y s y (List.mem_of_mem_drop hy)) hr
   have g4':v'=valN P:=by rw [g4];simp
   have gl:(encN (valN P)).length=P.length:=by rw [←g4',g5,g3];simp
   have gP:=(v5h P g2).1 gl
   rw [g4',gP]
   have:=Back.mk2 (s:=s) (a:=a.toNat) (c:=c) g1 (by omega) h4
   rw [show ((a.toNat:Nat):Int)=a by omega]at this
   exact this
theorem vpd {s:ByteArray}{a c n:Int}(hn:voj n)(h:Back s a c (vaf (varB n))):numB s a false=(n,c,false):=by
 unfold numB
 rw [vqz hn h]
 rfl
theorem vmi {s:ByteArray}{a:Int}{b:Bool}(h:(numB s a b).2.2=false)(hn:(numB s a b).1≤16383):b=false∧Back s a (numB s a b).2.1 (vaf (varB (numB s a b).1)):=by
 unfold numB at h hn ⊢
 cases b
 ·cases hr:(vat s a).2.2
  ·rw [hr]at h;cases h
  ·rw [hr]at h hn
   simp only [Bool.not_true,cond_false]at h hn ⊢
   exact⟨trivial,(vp9 hr hn).2⟩
 ·cases h
theorem v1f {s:ByteArray}{a c:Nat}(hac:a≤c)(hc:c≤s.size):Back s (a:Int) (c:Int) (vaf (s.extract a c)):=by
 have hl:(vaf (s.extract a c)).length=c-a:=by rw [van,ByteArray.size_extract];omega
 refine⟨by omega,by omega,by omega,?_⟩
 rw [Int.toNat_natCast,Int.toNat_natCast,vd4]
 have e:(vaf s).drop c=((vaf s).drop a).drop (c-a):=by rw [List.drop_drop];congr 1;omega
 rw [e,List.take_append_drop]
theorem v0v {s x:ByteArray}{a c:Int}(h:Back s a c (vaf x)):s.extract a.toNat c.toNat=x:=by
 obtain⟨a1,a2,a3,a4⟩:=h
 rw [←va5 (s.extract a.toNat c.toNat),vd4,a4]
 rw [show c.toNat-a.toNat=(vaf x).length by omega,List.take_left,va5]
theorem vyx {s x:ByteArray}{a c:Int}(hx:x.size≤12)(h:Back s a c (vaf (shB x))):vbt s a false=(x,c,false):=by
 unfold shB at h
 rw [vc2]at h
 obtain⟨b,h1,h2⟩:=h.cut
 have e:=vqz ⟨by omega,by omega⟩ h1
 have hc:=h2.2.1
 have hs:=h2.2.2.1
 rw [van]at hc
 have ex:=v0v h2
 unfold vbt ve4
 rw [e]
 simp only [Bool.not_true,cond_false]
 rw [decide_eq_false (show ¬(x.size:Int)>20000 by omega),decide_eq_false (show ¬(x.size:Int)>(s.size:Int)-b by omega)]
 simp only [Bool.not_true,cond_false]
 rw [←hc,ex]
theorem vs7 {s:ByteArray}{a:Int}{b:Bool}(h:(vbt s a b).2.2=false)(hn:(vbt s a b).1.size≤12):b=false∧Back s a (vbt s a b).2.1 (vaf (shB (vbt s a b).1)):=by
 unfold vbt at h hn ⊢
 cases b
 ·cases hr:(ve4 s a).2.2
  ·rw [hr]at h;cases h
  ·rw [hr]at h hn
   simp only [Bool.not_true,cond_false]at h hn ⊢
   refine⟨trivial,?_⟩
   unfold ve4 at hr hn ⊢
   cases hq:(vat s a).2.2
   ·rw [hq]at hr;cases hr
   ·rw [hq]at hr hn
    simp only [Bool.not_true,cond_false]at hr hn ⊢
    obtain⟨v,c,e,h1,h2,h3,h4⟩:=ve7 hq
    have hb:=fun hv=>(vp9 hq hv).2
    rw [e]at hr hn hb ⊢
    simp only at hr hn hb ⊢
    cases g1:decide ((v:Int)>20000)
    ·cases g2:decide ((v:Int)>(s.size:Int)-(c:Int))
     ·rw [g1,g2]at hn
      simp only [cond_false]at hn ⊢
      have g2':=of_decide_eq_false g2
      have et:((c:Int)+(v:Int)).toNat=c+v:=by omega
      rw [Int.toNat_natCast,et]at hn ⊢
      have hz:(s.extract c (c+v)).size=v:=by rw [ByteArray.size_extract];omega
      rw [hz]at hn
      unfold shB
      rw [vc2,hz]
      have h5:=v1f (s:=s) (a:=c) (c:=c+v) (by omega) (by omega)
      rw [show ((c+v:Nat):Int)=(c:Int)+(v:Int) by push_cast;rfl]at h5
      exact(hb (by omega)).two h5
     ·rw [g1,g2]at hr;cases hr
    ·rw [g1]at hr;cases hr
 ·cases h
theorem vyv (g:Bool):vaf (bitB g)=[bif g then 1 else 0]:=by cases g<;>rfl
theorem v9j {s:ByteArray}{a c:Int}{g:Bool}(h:Back s a c (vaf (bitB g))):vcb s a false=(g,c,false):=by
 rw [vyv]at h
 obtain⟨a1,a2,a3,a4⟩:=h
 simp only [List.length_singleton]at a2
 obtain⟨hb,_,_,_⟩:=vy6 a4
 rw [show ((a.toNat:Nat):Int)=a by omega]at hb
 unfold vcb
 have w:var a 0 ((s.size:Int)-1)=true:=by
  unfold var
  rw [decide_eq_true (show a≥0 by omega),decide_eq_true (show a≤(s.size:Int)-1 by omega)];rfl
 rw [w,hb]
 cases g
 ·simp only [cond_false,Bool.not_true]
  rw [a2];rfl
 ·simp only [cond_false,cond_true,Bool.not_true]
  rw [a2];rfl
theorem v0u {s:ByteArray}{a:Int}{b:Bool}(h:(vcb s a b).2.2=false):b=false∧Back s a (vcb s a b).2.1 (vaf (bitB (vcb s a b).1)):=by
 unfold vcb at h ⊢
 cases b
 ·cases hw:var a 0 ((s.size:Int)-1)
  ·rw [hw]at h;cases h
  ·cases hd:decide (bt s a>1)
   ·simp only [cond_false,Bool.not_true]
    refine⟨trivial,?_⟩
    unfold var at hw
    simp only [Bool.and_eq_true,decide_eq_true_eq]at hw
    have hd':=of_decide_eq_false hd
    have hlt:a.toNat<(vaf s).length:=by rw [van];omega
    have hdr:(vaf s).drop a.toNat=(vaf s)[a.toNat]::(vaf s).drop (a.toNat+1):=List.drop_eq_getElem_cons hlt
    obtain⟨hb,b0,b1,_⟩:=vy6 hdr
    rw [show ((a.toNat:Nat):Int)=a by omega]at hb
    refine⟨hw.1,by rw [vyv];rfl,by omega,?_⟩
    rw [hdr,vyv,show (a+1).toNat=a.toNat+1 by omega,←hb]
    have h01:bt s a=0∨bt s a=1:=by omega
    rcases h01 with h01|h01<;>rw [h01]<;>rfl
   ·rw [hw,hd]at h;cases h
 ·cases h
def wRg (y:tRange.D):List Int:=vaf (shB y.1)++vaf (shB y.2)
def wWr (y:tWrite.D):List Int:=wRg (y.1,y.2.1)++vaf (bitB y.2.2)
theorem wmr {s:ByteArray}{a c:Int}{y:tRange.D}(hy:y.1.size≤12∧y.2.size≤12)(h:Back s a c (wRg y)):rgB s a false=(y,c,false):=by
 obtain⟨b,h1,h2⟩:=h.cut
 unfold rgB
 rw [vyx hy.1 h1]
 simp only
 rw [vyx hy.2 h2]
theorem wrm {s:ByteArray}{a c:Int}{y:tWrite.D}(hy:y.1.size≤12∧y.2.1.size≤12)(h:Back s a c (wWr y)):wrB s a false=(y,c,false):=by
 obtain⟨b,h1,h2⟩:=h.cut
 unfold wrB wrB1
 rw [wmr (y:=(y.1,y.2.1)) hy h1]
 simp only
 rw [v9j h2]
theorem wdt {s:ByteArray}{a:Int}{b:Bool}(h:(rgB s a b).2.2=false)(hy:(rgB s a b).1.1.size≤12∧(rgB s a b).1.2.size≤12):b=false∧Back s a (rgB s a b).2.1 (wRg (rgB s a b).1):=by
 have h2:=vs7 h hy.2
 have h1:=vs7 h2.1 hy.1
 exact⟨h1.1,h1.2.two h2.2⟩
theorem wow {s:ByteArray}{a:Int}{b:Bool}(h:(wrB s a b).2.2=false)(hy:(wrB s a b).1.1.size≤12∧(wrB s a b).1.2.1.size≤12):b=false∧Back s a (wrB s a b).2.1 (wWr (wrB s a b).1):=by
 have h2:=v0u h
 have h1:=wdt h2.1 hy
 exact⟨h1.1,h1.2.two h2.2⟩
theorem vok {α:Type}{R:Int→Bool→α×Int×Bool}:∀(m:Nat) (a:Int) (b:Bool) (l:List α),vbm R m a b l=((vbm R m a b []).1,(vbm R m a b []).2.1,l++(vbm R m a b []).2.2)
 |0,a,b,l=>by simp [vbm]
 |m+1,a,b,l=>by
  cases b
  ·simp only [vbm,cond_false,List.nil_append]
   rw [vok m _ _ (l++_),vok m _ _ [_]]
   simp only [List.append_assoc]
  ·simp [vbm]
theorem vy3 {α:Type}{R:Int→Bool→α×Int×Bool}{W:α→List Int}{ok:α→Prop}{s:ByteArray}(hR:∀{a c x},ok x→Back s a c (W x)→R a false=(x,c,false)) :
  ∀(xs:List α) {a c:Int},(∀x∈xs,ok x)→Back s a c (xs.flatMap W)→vbm R xs.length a false []=(c,false,xs)
 |[],a,c,_,h=>by rw [h.nil];rfl
 |x::xs,a,c,hx,h=>by
  rw [List.flatMap_cons]at h
  obtain⟨b,h1,h2⟩:=h.cut
  simp only [List.length_cons,vbm,cond_false]
  rw [hR (hx x (by simp)) h1,vok,vy3 hR xs (fun y hy=>hx y (by simp [hy])) h2]
  rfl
theorem vrt {α:Type}{R:Int→Bool→α×Int×Bool}{W:α→List Int}{ok:α→Prop}{s:ByteArray}(hR:∀{a b},(R a b).2.2=false→ok (R a b).1→b=false∧Back s a (R a b).2.1 (W (R a b).1)) :
  ∀(m:Nat) {a:Int} {b:Bool},(b=false→0≤a∧a≤(s.size:Int))→(vbm R m a b []).2.1=false→(∀x∈(vbm R m a b []).2.2,ok x)→b=false∧Back s a (vbm R m a b []).1 ((vbm R m a b []).2.2.flatMap W)
 |0,a,b,hb,h,_=>⟨h,wjv (hb h).1 (hb h).2⟩
 |m+1,a,b,hb,h,hx=>by
  cases b
  ·simp only [vbm,cond_false,List.nil_append]at h hx ⊢
   rw [vok]at h hx ⊢
   simp only at h hx ⊢
   by_cases hq:(R a false).2.2=false
   ·have h1:=hR hq (hx _ (by simp))
    have h2:=vrt hR m (fun _=>⟨h1.2.at.2.2.1,h1.2.at.2.2.2⟩) h (fun x hxx=>hx x (by simp [hxx]))
    refine⟨trivial,?_⟩
    rw [List.cons_append,List.nil_append,List.flatMap_cons]
    exact h1.2.two h2.2
   ·have hq':(R a false).2.2=true:=by simpa using hq
    rw [hq',vrr]at h
    cases h
  ·simp only [vbm,cond_true]at h
   cases h
theorem vsp:∀(l:List tRange.D) (s:ByteArray),vaf (vc0 l s)=vaf s++l.flatMap wRg
 |[],s=>by simp [vc0]
 |y::l,s=>by rw [vc0,vsp,vc2,vc2,List.flatMap_cons,wRg];simp only [List.append_assoc]
theorem vry:∀(l:List tWrite.D) (s:ByteArray),vaf (vdw l s)=vaf s++l.flatMap wWr
 |[],s=>by simp [vdw]
 |y::l,s=>by rw [vdw,vry,vc2,vc2,vc2,List.flatMap_cons,wWr,wRg];simp only [List.append_assoc]
def txI (i1 i2 i3 i4:Int)(rs:List tRange.D)(ws:List tWrite.D)(g:Bool)(x:ByteArray):List Int:=
 vaf (varB i1)++(vaf (varB i2)++(vaf (varB i3)++(vaf (varB i4)++(vaf (varB rs.length)++(rs.flatMap wRg++(vaf (varB ws.length)++(ws.flatMap wWr++(vaf (bitB g)++vaf (shB x)))))))))
theorem v63 (t:tTxn.D):vaf (vcg t)=txI t.1 t.2.1 t.2.2.1 t.2.2.2.1 t.2.2.2.2.1 t.2.2.2.2.2.1 t.2.2.2.2.2.2.1 t.2.2.2.2.2.2.2:=by
 unfold vcg txI
 simp only [vc2,vry,vsp,List.append_assoc]
theorem v0x {n:Nat}(h:n≤8):voj (n:Int):=⟨by omega,by omega⟩
theorem v49 {s:ByteArray}{a c:Int}{t:tTxn.D}(ht:vbl t=true)(h:Back s a c (vaf (vcg t))) :
  va6 id s a=(t.1,t.2.1,t.2.2.1,t.2.2.2.1,t.2.2.2.2.2.2.1,t.2.2.2.2.2.2.2,c,true,t.2.2.2.2.1,t.2.2.2.2.2.1):=by
 obtain⟨s1,s2,s3,s4,b5,b6,b7,b8,b9⟩:=vbx ht
 rw [v63]at h
 unfold txI at h
 obtain⟨p1,h1,h⟩:=h.cut
 obtain⟨p2,h2,h⟩:=h.cut
 obtain⟨p3,h3,h⟩:=h.cut
 obtain⟨p4,h4,h⟩:=h.cut
 obtain⟨p5,h5,h⟩:=h.cut
 obtain⟨p6,h6,h⟩:=h.cut
 obtain⟨p7,h7,h⟩:=h.cut
 obtain⟨p8,h8,h⟩:=h.cut
 obtain⟨p9,h9,h⟩:=h.cut
 have e1:=vpd s1 h1
 have e2:=vpd s2 h2
 have e3:=vpd s3 h3
 have e4:=vpd s4 h4
 have e5:=vpd (v0x b5) h5
 have e6:=vy3 (R:=rgB s) (W:=wRg) (ok:=fun y=>y.1.size≤12∧y.2.size≤12) (fun hy hb=>wmr hy hb) _ b6 h6
 have e7:=vpd (v0x b7) h7
 have e8:=vy3 (R:=wrB s) (W:=wWr) (ok:=fun y=>y.1.size≤12∧y.2.1.size≤12) (fun hy hb=>wrm hy hb) _ b8 h8
 have e9:=v9j h9
 have e10:=vyx b9 h
 have er:rsE id s (t.2.2.2.1,p4,false)=(p6,false,t.2.2.2.2.1):=by
  unfold rsE;simp only [e5,id,Int.toNat_natCast];exact e6
 have ew:wsE id s (p6,false,t.2.2.2.2.1)=(p8,false,t.2.2.2.2.2.1):=by
  unfold wsE;simp only [e7,id,Int.toNat_natCast];exact e8
 unfold va6 nx
 simp only [e1,e2,e3,e4]
 unfold tx0
 simp only [er,ew]
 unfold tx2
 simp only [e9,e10]
 unfold tx3
 simp only [cond_false]
 rw [show ((t.1,(t.2.1,(t.2.2.1,(t.2.2.2.1,(t.2.2.2.2.1,(t.2.2.2.2.2.1,(t.2.2.2.2.2.2.1,t.2.2.2.2.2.2.2))))))):tTxn.D)=t from rfl,ht]
 rfl
def rtT (z:dRT):tTxn.D:=(z.1,(z.2.1,(z.2.2.1,(z.2.2.2.1,(z.2.2.2.2.2.2.2.2.1,(z.2.2.2.2.2.2.2.2.2,(z.2.2.2.2.1,z.2.2.2.2.2.1)))))))
theorem v2x {s:ByteArray}{a:Int}(h:(va6 id s a).2.2.2.2.2.2.2.1=true) :
  vbl (rtT (va6 id s a))=true∧Back s a (va6 id s a).2.2.2.2.2.2.1 (vaf (vcg (rtT (va6 id s a)))):=by
 unfold va6 at h ⊢
 generalize hp1:numB s a false=p1 at h ⊢
 generalize hp2:nx s p1=p2 at h ⊢
 generalize hp3:nx s p2=p3 at h ⊢
 generalize hp4:nx s p3=p4 at h ⊢
 unfold tx0 tx2 at h ⊢
 generalize hr:rsE id s p4=r at h ⊢
 generalize hw:wsE id s r=w at h ⊢
 generalize hf:vcb s w.1 w.2.1=f at h ⊢
 generalize hx:vbt s f.2.1 f.2.2=x at h ⊢
 unfold tx3 at h ⊢
 cases hb:x.2.2
 ·rw [hb]at h
  simp only [cond_false]at h ⊢
  cases hok:vbl (p1.1,(p2.1,(p3.1,(p4.1,(r.2.2,(w.2.2,(f.1,x.1)))))))
  ·rw [hok]at h;cases h
  ·simp only [Bool.not_true,cond_false]
   refine⟨hok,?_⟩
   obtain⟨s1,s2,s3,s4,b5,b6,b7,b8,b9⟩:=vbx hok
   simp only at s1 s2 s3 s4 b5 b6 b7 b8 b9
   have k10:=vs7 (s:=s) (a:=f.2.1) (b:=f.2.2) (by rw [hx];exact hb) (by rw [hx];exact b9)
   rw [hx]at k10
   have k9:=v0u (s:=s) (a:=w.1) (b:=w.2.1) (by rw [hf];exact k10.1)
   rw [hf]at k9
   have hwb:=k9.1
   unfold wsE at hw
   have q8:(vbm (wrB s) (id (numB s r.1 r.2.1).1.toNat) (numB s r.1 r.2.1).2.1 (numB s r.1 r.2.1).2.2 []).2.1=false:=by rw [hw];exact hwb
   have l8:=(vft (vvq s) _ _ _ _ (fun h=>vix h) q8)
   have k8:=vrt (R:=wrB s) (W:=wWr) (ok:=fun y=>y.1.size≤12∧y.2.1.size≤12) (fun ha hb=>wow ha hb) _ (fun h=>vix h) q8 (by rw [hw];exact b8)
   have n8:=l8.2.2.2.1
   rw [hw]at k8 n8
   simp only [List.length_nil,id,Nat.zero_add]at n8
   obtain⟨v7,g7,_⟩:=vpi s r.1 r.2.1
   have m7:(numB s r.1 r.2.1).1=(w.2.2.length:Int):=by omega
   have k7:=vmi k8.1 (by omega)
   rw [m7]at k7
   have hrb:=k7.1
   unfold rsE at hr
   have q6:(vbm (rgB s) (id (numB s p4.2.1 p4.2.2).1.toNat) (numB s p4.2.1 p4.2.2).2.1 (numB s p4.2.1 p4.2.2).2.2 []).2.1=false:=by rw [hr];exact hrb
   have l6:=(vft (vxh s) _ _ _ _ (fun h=>vix h) q6)
   have k6:=vrt (R:=rgB s) (W:=wRg) (ok:=fun y=>y.1.size≤12∧y.2.size≤12) (fun ha hb=>wdt ha hb) _ (fun h=>vix h) q6 (by rw [hr];exact b6)
   have n6:=l6.2.2.2.1
   rw [hr]at k6 n6
   simp only [List.length_nil,id,Nat.zero_add]at n6
   obtain⟨v5,g5,_⟩:=vpi s p4.2.1 p4.2.2
   have m5:(numB s p4.2.1 p4.2.2).1=(r.2.2.length:Int):=by omega
   have k5:=vmi k6.1 (by omega)
   rw [m5]at k5
   have k4:=vmi (s:=s) (a:=p3.2.1) (b:=p3.2.2) (by rw [show numB s p3.2.1 p3.2.2=p4 from hp4];exact k5.1) (by rw [show numB s p3.2.1 p3.2.2=p4 from hp4];exact s4.2)
   rw [show numB s p3.2.1 p3.2.2=p4 from hp4]at k4
   have k3:=vmi (s:=s) (a:=p2.2.1) (b:=p2.2.2) (by rw [show numB s p2.2.1 p2.2.2=p3 from hp3];exact k4.1) (by rw [show numB s p2.2.1 p2.2.2=p3 from hp3];exact s3.2)
   rw [show numB s p2.2.1 p2.2.2=p3 from hp3]at k3
   have k2:=vmi (s:=s) (a:=p1.2.1) (b:=p1.2.2) (by rw [show numB s p1.2.1 p1.2.2=p2 from hp2];exact k3.1) (by rw [show numB s p1.2.1 p1.2.2=p2 from hp2];exact s2.2)
   rw [show numB s p1.2.1 p1.2.2=p2 from hp2]at k2
   have k1:=vmi (s:=s) (a:=a) (b:=false) (by rw [hp1];exact k2.1) (by rw [hp1];exact s1.2)
   rw [hp1]at k1
   rw [v63]
   unfold txI
   exact k1.2.two (k2.2.two (k3.2.two (k4.2.two (k5.2.two (k6.2.two (k7.2.two (k8.2.two (k9.2.two k10.2))))))))
 ·rw [hb]at h;cases h
end
end Go.VE
/- Plain laws: draws of texts that are read;the law of transactions. -/
namespace Go.VE
noncomputable section
set_option linter.unusedVariables false
set_option linter.unusedSimpArgs false
set_option maxRecDepth 100000
theorem wru (y:tRange.D):Ty.eqB tRange y y=true:=by simp [Ty.eqB,tRange,vdl]
theorem wrc (y:tWrite.D):Ty.eqB tWrite y y=true:=by simp [Ty.eqB,tWrite,vdl]
theorem vk0 {u0:List tWrite.D}{u2:Bool}:∀(l:List tWrite.D) (i:Nat),u0.drop i=l→∃z,∀k,vj4 u0 u0 u2 l i k=k (.inr z)
 |[],i,h=>⟨_,fun k=>rfl⟩
 |y::l,i,h=>by
  have hlt:=vfy h
  obtain⟨z,hz⟩:=vk0 (u2:=u2) l (i+1) (vcl h)
  have hy:=vbn h
  refine⟨z,fun k=>?_⟩
  simp only [vj4]
  rw [if_pos ⟨by omega,by omega⟩]
  simp only [hy,wrc,Bool.not_true,cond_false,hz]
theorem vr2 {x:List tWrite.D}(h:x.length≤1048576) (k):vsz x x k=k true:=by
 rw [wsk (by omega)]
 obtain⟨z,hz⟩:=vk0 (u0:=x) (u2:=false) x 0 rfl
 simp [wdv,hz]
theorem vqg {u0:Bool}{u2 u3 u4 u5:Int}{u6:List tRange.D}{u7:List tWrite.D}{u8:Bool}{u9:ByteArray}{u10 u11 u12 u13:Int}{u15:List tWrite.D}{u16:Bool}{u17:ByteArray} :
  ∀(l:List tRange.D) (i:Nat),u6.drop i=l→∃z,∀k,vkk u0 u2 u3 u4 u5 u6 u7 u8 u9 u10 u11 u12 u13 u6 u15 u16 u17 l i k=k (.inr z)
 |[],i,h=>⟨_,fun k=>rfl⟩
 |y::l,i,h=>by
  have hlt:=vfy h
  obtain⟨z,hz⟩:=vqg (u0:=u0) (u2:=u2) (u3:=u3) (u4:=u4) (u5:=u5) (u6:=u6) (u7:=u7) (u8:=u8) (u9:=u9) (u10:=u10) (u11:=u11) (u12:=u12) (u13:=u13) (u15:=u15) (u16:=u16) (u17:=u17) l (i+1) (vcl h)
  have hy:=vbn h
  refine⟨z,fun k=>?_⟩
  simp only [vkk]
  rw [if_pos ⟨by omega,by omega⟩]
  simp only [hy,wru,Bool.not_true,cond_false,hz]
theorem vlz (x:tTxn.D)(h:x.2.2.2.2.1.length≤1048576)(hw:x.2.2.2.2.2.1.length≤1048576) (k):vg6 x x k=k true:=by
 rw [wq0 (by omega)]
 obtain⟨z,hz⟩:=vqg (u0:=false) (u2:=x.1) (u3:=x.2.1) (u4:=x.2.2.1) (u5:=x.2.2.2.1) (u6:=x.2.2.2.2.1) (u7:=x.2.2.2.2.2.1) (u8:=x.2.2.2.2.2.2.1) (u9:=x.2.2.2.2.2.2.2) (u10:=x.1) (u11:=x.2.1) (u12:=x.2.2.1) (u13:=x.2.2.2.1) (u15:=x.2.2.2.2.2.1) (u16:=x.2.2.2.2.2.2.1) (u17:=x.2.2.2.2.2.2.2) x.2.2.2.2.1 0 rfl
 simp only [wff,vfd,vr2 hw,hz,vdl,bne_self_eq_false,beq_self_eq_true,Bool.not_true,cond_false,Sum.elim_inr]
theorem wdy {s x:ByteArray}{a c:Int}(h:Back s a c (vaf x)) (k):vs3 x (s.extract a.toNat (s.size:Int).toNat) k=k true:=by
 rw [wed]
 unfold v8c
 obtain⟨a1,a2,a3,a4⟩:=id h
 rw [van]at a2
 have hz:(s.extract a.toNat (s.size:Int).toNat).size=s.size-a.toNat:=by rw [ByteArray.size_extract];omega
 rw [decide_eq_true (by rw [hz];omega),cond_true,if_pos ⟨by omega,by omega,by rw [hz];omega⟩]
 have e:(s.extract a.toNat (s.size:Int).toNat).extract (0:Int).toNat (x.size:Int).toNat=x:=by
  rw [←va5 ((s.extract a.toNat (s.size:Int).toNat).extract (0:Int).toNat (x.size:Int).toNat),vd4,vd4,a4]
  have hl:((vaf x++(vaf s).drop c.toNat)).length≤(s.size:Int).toNat-a.toNat:=by rw [←a4,List.length_drop,van];omega
  rw [List.take_of_length_le hl]
  show va3 (((vaf x++(vaf s).drop c.toNat)).take (x.size-0))=x
  rw [Nat.sub_zero,←van x,List.take_left,va5]
 rw [e,vdl]
theorem wlj {n:Int}(h0:0<n){l:List Int}{p s:Int}(h:Dr l p):Gives (vcu n l p s) (fun y=>0≤y.1∧y.1<n∧Dr y.2.1 y.2.2.1):=by
 by_cases h1:n≤256
 ·exact vc1 h0 h1 h
 rw [v9f]
 unfold vz5
 refine vam (fun c=>by have c:=of_decide_eq_true c;(first|dsimp only at c|skip);omega) (fun _=>vam (fun c=>absurd (of_decide_eq_true c) h1) (fun _=>(vxk h).bind (fun y2 h2=>(vxk h2.2.2).bind (fun y3 h3=>(vxk h3.2.2).bind (fun y4 h4=>(vxk h4.2.2).bind (fun y5 h5=>vsg (by omega) (vac ?_)))))))
 have w1:IntKind.wrap .i64 (y2.1*16777216)=y2.1*16777216:=va4 (by omega) (by omega)
 have w2:IntKind.wrap .i64 (y3.1*65536)=y3.1*65536:=va4 (by omega) (by omega)
 have w3:IntKind.wrap .i64 (y4.1*256)=y4.1*256:=va4 (by omega) (by omega)
 have w4:IntKind.wrap .i64 (y2.1*16777216+y3.1*65536)=y2.1*16777216+y3.1*65536:=va4 (by omega) (by omega)
 have w5:IntKind.wrap .i64 (y2.1*16777216+y3.1*65536+y4.1*256)=y2.1*16777216+y3.1*65536+y4.1*256:=va4 (by omega) (by omega)
 have w6:IntKind.wrap .i64 (y2.1*16777216+y3.1*65536+y4.1*256+y5.1)=y2.1*16777216+y3.1*65536+y4.1*256+y5.1:=va4 (by omega) (by omega)
 rw [w1,w2,w3,w4,w5,w6]
 exact⟨Int.tmod_nonneg _ (by omega),Int.tmod_lt_of_pos _ h0,h5.2.2⟩
theorem v8x {l:List Int}{p s:Int}(h:Dr l p):Gives (vw2 1 l p s) (fun y=>y.1.size≤1∧Dr y.2.1 y.2.2.1):=by
 rw [wgm]
 unfold v8u vdj
 refine vam (fun c=>by cases c) (fun _=>?_)
 obtain⟨n,hn⟩:∃n,Fuel=n+1+1:=by obtain⟨n,hn⟩:=vmb;exact⟨n+1,hn⟩
 rw [hn]
 have hL:Gives (vak vo8 (n+1+1) ((1:Int),(0:Int),l,p,s,([]:List Int))) (fun z=>z.2.2.2.2.2.length≤1∧Dr z.2.2.1 z.2.2.2.1):=by
  apply vbw
  unfold vo8
  refine vam (fun _=>(vxk h).bind (fun y3 h3=>vas (by simp [VE.maxLen]) (vac (vth ?_)))) (fun c=>by cases c)
  apply vbw
  refine vam (fun c=>by have c:=of_decide_eq_true c;exact absurd (show (1:Int)<1 from c) (by decide)) (fun _=>vac (vg1 ⟨by simp,h3.2.2⟩))
 exact hL.bind (fun z hz=>vac ⟨by dsimp only;rw [vkt];exact hz.1,hz.2⟩)
theorem vpn (s:ByteArray)(a b:Nat):(s.extract a b).size≤s.size:=by rw [ByteArray.size_extract];omega
theorem v62 {t:ByteArray}(ht:t.size≤2000){u:ByteArray}{b:Bool}{l:List Int}{p s:Int}(h:Dr l p) :
  Gives (vcr (t,u,b,l,p,s)) (fun r=>match r with | .inl z=>z.2.1.size≤8000 | .inr z=>z.1.size≤8000):=by
 unfold vcr
 refine vam (fun _=>vam (fun c=>?_) (fun _=>vac ?_)) (fun _=>vac ?_)
 ·have c:=of_decide_eq_true c
  dsimp only at c
  refine(wlj c h).bind (fun y8 h8=>?_)
  have w:IntKind.wrap .i64 (y8.1+1)=y8.1+1:=va4 (by omega) (by omega)
  refine vas ⟨by omega,by omega,by dsimp only;omega⟩ (vas ⟨by rw [w];omega,by rw [w];dsimp only;omega,Int.le_refl _⟩ ((v8x h8.2.2).bind (fun y9 h9=>?_)))
  have z1:=vpn t (0:Int).toNat y8.1.toNat
  have z2:=vpn t (IntKind.wrap .i64 (y8.1+1)).toNat (t.size:Int).toNat
  have z3:=h9.1
  refine vas (by dsimp only;omega) (vas (by dsimp only;rw [ByteArray.size_append];omega) (vac ?_))
  dsimp only
  rw [ByteArray.size_append,ByteArray.size_append]
  omega
 ·dsimp only;omega
 ·dsimp only;omega
theorem wss {t:ByteArray}(ht:t.size≤2000){l:List Int}{p s:Int}(h:Dr l p):Gives (v2e t l p s) (fun y=>y.1.size≤8000):=by
 rw [wej]
 unfold v76
 refine(vc1 (by decide) (by decide) h).bind (fun y1 h1=>vam (fun _=>(v8x h1.2.2).bind (fun y2 h2=>vas (by have:=h2.1;omega) (vac ?_))) (fun _=>vam (fun _=>?_) (fun _=>vam (fun _=>?_) (fun _=>?_))))
 ·have:=h2.1
  dsimp only;rw [ByteArray.size_append];omega
 ·have w:IntKind.wrap .i64 ((t.size:Int)+1)=(t.size:Int)+1:=va4 (by omega) (by omega)
  rw [w]
  refine(wlj (by omega) h1.2.2).bind (fun y3 h3=>vas ⟨by omega,by omega,by omega⟩ (vac ?_))
  have:=vpn t (0:Int).toNat y3.1.toNat
  dsimp only;omega
 ·obtain⟨v,hv,e⟩:=v62 ht (u:=(⟨#[]⟩:ByteArray)) (b:=(y1.1==(2:Int))) (s:=y1.2.2.2) h1.2.2
  cases v with
  |inl z=>exact⟨(z.2.1,z.2.2.2.1,z.2.2.2.2.1,z.2.2.2.2.2),hv,fun k=>by simp only [e,Sum.elim_inl]⟩
  |inr z=>exact⟨(z.1,z.2.2.2.1,z.2.2.2.2.1,z.2.2.2.2.2),hv,fun k=>by simp only [e,Sum.elim_inr]⟩
 ·obtain⟨v,hv,e⟩:=v62 ht (u:=(⟨#[]⟩:ByteArray)) (b:=(y1.1==(3:Int))) (s:=y1.2.2.2) h1.2.2
  cases v with
  |inl z=>exact⟨(z.2.1,z.2.2.2.1,z.2.2.2.2.1,z.2.2.2.2.2),hv,fun k=>by simp only [e,Sum.elim_inl]⟩
  |inr z=>exact⟨(z.1,z.2.2.2.1,z.2.2.2.2.1,z.2.2.2.2.2),hv,fun k=>by simp only [e,Sum.elim_inr]⟩
theorem wpa {a0:List Int}(hl:a0.length≤1048576):Gives (v0y a0) (fun y=>y.2.2.2.2.2.1.size≤20∧okR 4 y.2.2.2.2.2.2.1∧okW 65 y.2.2.2.2.2.2.2):=by
 rw [wbw]
 unfold v8t
 exact(v0q hl).bind (fun y1 h1=>(v19 h1).bind (fun y2 h2=>vac ⟨h2.1,h2.2.2.1,h2.2.2.2⟩))
theorem wpf {a0:List Int}(hl:a0.length≤1048576):Gives (v1d a0) (fun y=>y.1.size≤8000):=by
 rw [wg1]
 unfold v6k
 refine(v0q hl).bind (fun y1 h1=>(vc1 (by decide) (by decide) h1).bind (fun y2 h2=>(v19 h2.2.2).bind (fun y3 h3=>?_)))
 have wt:=v7o (a:=y3.1) (b:=y3.2.1) (c:=y3.2.2.1) (d:=y3.2.2.2.1) (f:=y3.2.2.2.2.1) h3.1 h3.2.2.1 h3.2.2.2
 have hT:Gives (vq8 (y3.1,(y3.2.1,(y3.2.2.1,(y3.2.2.2.1,(y3.2.2.2.2.2.2.2.2.2.1,(y3.2.2.2.2.2.2.2.2.2.2,(y3.2.2.2.2.1,y3.2.2.2.2.2.1)))))))) (fun y=>y.1.size≤1000):=by
  refine⟨_,?_,fun k=>wn4 wt k⟩
  cases hok:vbl (y3.1,(y3.2.1,(y3.2.2.1,(y3.2.2.2.1,(y3.2.2.2.2.2.2.2.2.2.1,(y3.2.2.2.2.2.2.2.2.2.2,(y3.2.2.2.2.1,y3.2.2.2.2.2.1)))))))
  ·show (⟨#[]⟩:ByteArray).size≤1000
   decide
  ·exact vqc hok
 refine hT.bind (fun y4 h4=>vam (fun _=>(wss (Nat.le_trans h4 (by decide)) h3.2.1).bind (fun y5 h5=>vac h5)) (fun _=>vam (fun _=>vas ?_ (vac ?_)) (fun _=>vas ?_ (vac ?_))))
 ·have:(⟨#[120]⟩:ByteArray).size=1:=rfl
  omega
 ·have:(⟨#[120]⟩:ByteArray).size=1:=rfl
  dsimp only;rw [ByteArray.size_append];omega
 ·have:(⟨#[109,111,114,101]⟩:ByteArray).size=4:=rfl
  omega
 ·have:(⟨#[109,111,114,101]⟩:ByteArray).size=4:=rfl
  dsimp only;rw [ByteArray.size_append];omega
theorem vsh {a b c d:Int}{f:Bool}{n:ByteArray}{r:List tRange.D}{w:List tWrite.D}(hn:n.size≤20)(hr:okR 8 r)(hw:okW 65 w):tTxn.wt (a,(b,(c,(d,(r,(w,(f,n)))))))≤1048576:=by
 have e:=vqo (a,(b,(c,(d,(r,(w,(f,n)))))))
 have h1:=vtd (T:=tRange) (c:=40) (l:=r) (fun y hy=>by have:=hr.2 y hy;rw [vpa];omega)
 have h2:=vtd (T:=tWrite) (c:=40) (l:=w) (fun y hy=>by have:=hw.2 y hy;rw [vo7];omega)
 rw [Ty.wt_slice,Ty.wt_slice]at e
 have:=hr.1
 have:=hw.1
 dsimp only at e
 omega
theorem v6m {x1 x2 x3 x4:Int}{x5:Bool}{x6 x7 x8:ByteArray}{l:List Int}{p s:Int}{f g:ByteArray}{a b c d:Int}{o:Bool}{n:ByteArray}{ra:List tRange.D}{wa:List tWrite.D}{r:List tRange.D}{w:List tWrite.D}
  (h:Dr l p) (hf:f.size≤20) (hg:g.size≤20) (hn:n.size≤20) (hr:okR 4 r) (hw:okW 65 w) :
  Gives (vcz (x1,x2,x3,x4,x5,x6,x7,x8,l,p,s,f,g,a,b,c,d,o,n,ra,wa,r,w)) (fun z=>z.2.2.2.2.2.1.size≤20∧z.2.2.2.2.2.2.1.size≤20∧z.2.2.2.2.2.2.2.1.size≤20∧okR 8 z.2.2.2.2.2.2.2.2.2.2.2.2.2.2.2.2.2.2.2.1∧okW 65 z.2.2.2.2.2.2.2.2.2.2.2.2.2.2.2.2.2.2.2.2):=by
 unfold vcz
 refine(vw1 (by decide) (by decide) h).bind (fun y8 h8=>vam (fun _=>vac ?_) (fun _=>vac ?_))
 ·refine⟨hn,hf,(by decide:(⟨#[122,122]⟩:ByteArray).size≤20),⟨by simp,fun y hy=>?_⟩,hw⟩
  have hy:y=(f,g)∨y=((⟨#[120]⟩:ByteArray),(⟨#[121]⟩:ByteArray)):=by
   simp only [List.mem_cons,List.not_mem_nil,or_false]at hy
   rcases hy with hy|hy|hy|hy|hy|hy|hy|hy<;>first|exact .inl hy|exact .inr hy
  have h1:((⟨#[120]⟩:ByteArray).size≤20∧(⟨#[121]⟩:ByteArray).size≤20):=by decide
  rcases hy with hy|hy
  ·rw [hy];exact⟨hf,hg⟩
  ·rw [hy];exact h1
 ·exact⟨hn,hf,hg,vji hr (by decide),hw⟩
theorem wsq {a0:List Int}(hl:a0.length≤1048576):Gives (v2f a0) (fun y=>y.2.2.2.2.2.1.size≤20∧y.2.2.2.2.2.2.1.size≤20∧y.2.2.2.2.2.2.2.1.size≤20∧okR 8 y.2.2.2.2.2.2.2.2.1∧okW 65 y.2.2.2.2.2.2.2.2.2):=by
 rw [we5]
 unfold v6o
 refine(v0q hl).bind (fun y1 h1=>(vc1 (by decide) (by decide) h1).bind (fun y2 h2=>(wk2 h2.2.2).bind (fun y3 h3=>(v19 h3.2.2).bind (fun y4 h4=>vam (fun _=>(wlr h4.2.1).bind (fun y5 h5=>?_)) (fun _=>?_)))))
 ·exact(v6m h5.1 h3.1 h3.2.1 (by decide) (vji h5.2 (by decide)) (v46 _)).bind (fun z hz=>vac hz)
 ·exact(v6m h4.2.1 h3.1 h3.2.1 h4.1 h4.2.2.1 h4.2.2.2).bind (fun z hz=>vac hz)
theorem wqj {a0:List Int}(hl:a0.length≤1048576):Gives (v1e a0) (fun y=>y.2.2.2.2.2.1.size≤20∧y.2.2.2.2.2.2.1.size≤20∧y.2.2.2.2.2.2.2.1.size≤20∧okR 8 y.2.2.2.2.2.2.2.2.2.1∧okW 65 y.2.2.2.2.2.2.2.2.2.2):=by
 rw [wb7]
 unfold v88
 refine(v0q hl).bind (fun y1 h1=>(vc1 (by decide) (by decide) h1).bind (fun y2 h2=>(wmp h2.2.2).bind (fun y3 h3=>(v19 h3.2.2).bind (fun y4 h4=>vam (fun _=>(wk8 h4.2.1).bind (fun y5 h5=>vac ?_)) (fun _=>vac ?_)))))
 ·exact⟨whi,h3.1,h3.2.1,wcq _,vfc h5.2 (by decide)⟩
 ·exact⟨h4.1,h3.1,h3.2.1,vji h4.2.2.1 (by decide),h4.2.2.2⟩
theorem wsl {a0:List Int}(hl:a0.length≤1048576):Gives (v0d a0) (fun y=>y.2.2.2.2.2.1.size≤20∧okR 8 y.2.2.2.2.2.2.2.1∧okW 65 y.2.2.2.2.2.2.2.2.1∧y.2.2.2.2.2.2.2.2.2.length≤21):=by
 rw [wc4]
 unfold v8y
 exact(v0q hl).bind (fun y1 h1=>(v08 h1).bind (fun y2 h2=>(v19 h2.2).bind (fun y3 h3=>(wrs h3.2.1).bind (fun y4 h4=>vac ⟨h3.1,vji h3.2.2.1 (by decide),h3.2.2.2,h4.2⟩))))
theorem wiq (x:ByteArray):Back ((⟨#[97,98]⟩:ByteArray)++x++(⟨#[99,100]⟩:ByteArray)) 2 (2+(x.size:Int)) (vaf x):=by
 have hz:((⟨#[97,98]⟩:ByteArray)++x++(⟨#[99,100]⟩:ByteArray)).size=2+x.size+2:=by rw [ByteArray.size_append,ByteArray.size_append];rfl
 refine⟨by decide,by rw [van],by rw [hz];omega,?_⟩
 rw [vc2,vc2]
 have e2:(2+(x.size:Int)).toNat=2+x.size:=by omega
 have ea:vaf (⟨#[97,98]⟩:ByteArray)=[97,98]:=rfl
 rw [e2,ea]
 show ([97,98]++vaf x++_).drop 2=_++([97,98]++vaf x++_).drop (2+x.size)
 have hl:([97,98]++vaf x:List Int).length=2+x.size:=by rw [List.length_append,van];rfl
 rw [←hl,List.drop_left]
 rfl
end
end Go.VE
/- The plain laws. -/
namespace Go.VE
set_option linter.unusedVariables false
set_option linter.unusedSimpArgs false
set_option maxRecDepth 100000
theorem v9x (x:(Ty.slice (.int .u8)).D)(hx:(Ty.slice (.int .u8)).wf x)(k:Bool→Option Res):v6d x k=k true:=by
 rw [wf8]
 unfold v8m
 by_cases hl:(x.length:Int)>1048576
 ·simp only [wgz,hl,decide_true,cond_true]
 have hl':x.length≤1048576:=by omega
 obtain⟨y2,h2,e2⟩:=wpa hl'
 obtain⟨y5,h5,e5⟩:=wpf hl'
 obtain⟨y9,h9,e9⟩:=wsq hl'
 obtain⟨y12,h12,e12⟩:=wqj hl'
 obtain⟨y15,h15,e15⟩:=wsl hl'
 have w2:=v7o (a:=y2.1) (b:=y2.2.1) (c:=y2.2.2.1) (d:=y2.2.2.2.1) (f:=y2.2.2.2.2.1) h2.1 h2.2.1 h2.2.2
 have w9:=vsh (a:=y9.1) (b:=y9.2.1) (c:=y9.2.2.1) (d:=y9.2.2.2.1) (f:=y9.2.2.2.2.1) h9.1 h9.2.2.2.1 h9.2.2.2.2
 have w12:=vsh (a:=y12.1) (b:=y12.2.1) (c:=y12.2.2.1) (d:=y12.2.2.2.1) (f:=y12.2.2.2.2.1) h12.1 h12.2.2.2.1 h12.2.2.2.2
 have w15:=vsh (a:=y15.1) (b:=y15.2.1) (c:=y15.2.2.1) (d:=y15.2.2.2.1) (f:=y15.2.2.2.2.1) h15.1 h15.2.1 h15.2.2.1
 have wr9:tRange.wt (y9.2.2.2.2.2.2.1,y9.2.2.2.2.2.2.2.1)≤1048576:=by rw [vpa];have:=h9.2.1;have:=h9.2.2.1;dsimp only;omega
 have ww12:tWrite.wt (y12.2.2.2.2.2.2.1,(y12.2.2.2.2.2.2.2.1,y12.2.2.2.2.2.2.2.2.1))≤1048576:=by rw [vo7];have:=h12.2.1;have:=h12.2.2.1;dsimp only;omega
 have hs5:y5.1.size≤1048576:=Nat.le_trans h5 (by decide)
 have w6:=v5i hs5 y5.2
 have l15:y15.2.2.2.2.2.2.2.2.2.length≤1048576:=Nat.le_trans h15.2.2.2 (by decide)
 have hl9:=vgf w9
 have hl12:=vgf w12
 have hl2:=vgf w2
 have hS9:=fun k=>vlz (y9.1,(y9.2.1,(y9.2.2.1,(y9.2.2.2.1,((vds (y9.1,(y9.2.1,(y9.2.2.1,(y9.2.2.2.1,(y9.2.2.2.2.2.2.2.2.1,(y9.2.2.2.2.2.2.2.2.2,(y9.2.2.2.2.1,y9.2.2.2.2.2.1))))))) (y9.2.2.2.2.2.2.1,y9.2.2.2.2.2.2.2.1)).2,(y9.2.2.2.2.2.2.2.2.2,(y9.2.2.2.2.1,y9.2.2.2.2.2.1))))))) (vzc w9 _) hl9.2 k
 have hS12:=fun k=>vlz (y12.1,(y12.2.1,(y12.2.2.1,(y12.2.2.2.1,(y12.2.2.2.2.2.2.2.2.2.1,((veh (y12.1,(y12.2.1,(y12.2.2.1,(y12.2.2.2.1,(y12.2.2.2.2.2.2.2.2.2.1,(y12.2.2.2.2.2.2.2.2.2.2,(y12.2.2.2.2.1,y12.2.2.2.2.2.1))))))) (y12.2.2.2.2.2.2.1,(y12.2.2.2.2.2.2.2.1,y12.2.2.2.2.2.2.2.2.1))).2,(y12.2.2.2.2.1,y12.2.2.2.2.2.1))))))) hl12.1 (v1l w12 _) k
 have hS2:=fun k=>vlz (y2.1,(y2.2.1,(y2.2.2.1,(y2.2.2.2.1,(y2.2.2.2.2.2.2.1,(y2.2.2.2.2.2.2.2,(y2.2.2.2.2.1,y2.2.2.2.2.2.1))))))) hl2.1 hl2.2 k
 have hB:∀k,(va6 id y5.1 y5.2).2.2.2.2.2.2.2.1=true→(0≤y5.2∧y5.2≤(y5.1.size:Int)∧(y5.1.size:Int)≤(y5.1.size:Int))∧vbl (rtT (va6 id y5.1 y5.2))=true∧vs3 (vcg (rtT (va6 id y5.1 y5.2))) (y5.1.extract y5.2.toNat (y5.1.size:Int).toNat) k=k true:=fun k h=>by
  have hb:=v2x h
  exact⟨⟨hb.2.at.1,hb.2.at.2.1,Int.le_refl _⟩,hb.1,wdy hb.2 k⟩
 unfold rtT at hB
 simp only [wgz,decide_eq_false hl,cond_false,e2,e5,e9,e12,e15,wdp w2,v4n hs5,won hs5,v3e,wdp w6,wnw w9 wr9,wn0 w9 wr9,wnm w12 ww12,wnv w12 ww12,wou w15 l15,wns w15 l15,vte w2,voz w2,hS9,hS12,vdl,beq_self_eq_true,cond_true]
 cases hok:vbl (y2.1,(y2.2.1,(y2.2.2.1,(y2.2.2.2.1,(y2.2.2.2.2.2.2.1,(y2.2.2.2.2.2.2.2,(y2.2.2.2.2.1,y2.2.2.2.2.2.1)))))))
 ·have z1:(⟨#[97,98]⟩:ByteArray).size+(⟨#[]⟩:ByteArray).size≤1099511627776:=by decide
  have z2:((⟨#[97,98]⟩:ByteArray)++(⟨#[]⟩:ByteArray)).size+(⟨#[99,100]⟩:ByteArray).size≤1099511627776:=by rw [ByteArray.size_append];decide
  have z3:(((⟨#[97,98]⟩:ByteArray)++(⟨#[]⟩:ByteArray))++(⟨#[99,100]⟩:ByteArray)).size≤1048576:=by rw [ByteArray.size_append,ByteArray.size_append];decide
  simp only [cond_false,z1,z2,if_true,v4n z3,Bool.not_false,Bool.not_true,cond_true,beq_self_eq_true]
  cases hm:(va6 id y5.1 y5.2).2.2.2.2.2.2.2.1
  ·simp only [Bool.not_false,cond_true]
  ·have hb:=fun k=>(hB k hm).2.2
   rw [Bool.not_true,cond_false,if_pos (hB k hm).1]
   simp only [(hB k hm).2.1,cond_true,hb,Bool.not_true,cond_false]
 ·have hz:=vqc hok
  have c1:(⟨#[97,98]⟩:ByteArray).size=2:=rfl
  have c2:(⟨#[99,100]⟩:ByteArray).size=2:=rfl
  generalize hT:(y2.1,(y2.2.1,(y2.2.2.1,(y2.2.2.2.1,(y2.2.2.2.2.2.2.1,(y2.2.2.2.2.2.2.2,(y2.2.2.2.2.1,y2.2.2.2.2.2.1)))))))=T at hok hz
  have z1:(⟨#[97,98]⟩:ByteArray).size+(vcg T).size≤1099511627776:=by omega
  have z2:((⟨#[97,98]⟩:ByteArray)++(vcg T)).size+(⟨#[99,100]⟩:ByteArray).size≤1099511627776:=by rw [ByteArray.size_append];omega
  have z3:(((⟨#[97,98]⟩:ByteArray)++(vcg T))++(⟨#[99,100]⟩:ByteArray)).size≤1048576:=by rw [ByteArray.size_append,ByteArray.size_append];omega
  have hF:=v49 hok (wiq (vcg T))
  have hW:IntKind.wrap .i64 ((2:Int)+((vcg T).size:Int))=(2:Int)+((vcg T).size:Int):=va4 (by omega) (by omega)
  subst hT
  simp only [cond_true,z1,z2,if_true,v4n z3,hF,hS2,hW,Bool.not_false,Bool.not_true,cond_false,beq_self_eq_true]
  cases hm:(va6 id y5.1 y5.2).2.2.2.2.2.2.2.1
  ·simp only [Bool.not_false,cond_true]
  ·have hb:=fun k=>(hB k hm).2.2
   rw [Bool.not_true,cond_false,if_pos (hB k hm).1]
   simp only [(hB k hm).2.1,cond_true,hb,Bool.not_true,cond_false]
end Go.VE
