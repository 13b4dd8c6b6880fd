/- The plain laws behind FnExactPlayed. -/
import Derived.Test.YtaaoeehlfihjdaaGreatPlayedL
import Derived.Sort.Walk0
import Derived.Test.YtaaoeehlfihjdaaGreatP3
/- Plain laws: keys,ranges,writes,transactions,who is ahead of whom. -/
namespace Go.VE
noncomputable section
set_option linter.unusedVariables false
set_option linter.unusedSimpArgs false
set_option maxRecDepth 100000
def va4 (n lo hi:Int):Bool:=decide (n≥lo)&&decide (n≤hi)
theorem wbl (a b c) (k):vej a b c k=k (va4 a b c):=by
 rw [wtx];unfold wnf va4;cases decide (a≥b)<;>rfl
theorem vqr (a b c) (k):vch a b c k=k (va4 a b c):=by
 rw [wgw];unfold v8u va4;cases decide (a≥b)<;>rfl
def vdo (r:tRange.D)(key:ByteArray):Bool:=!(vai key r.1)&&(vai key r.2||vaj key r.2)
theorem w9d (r:tRange.D) (key) (k):v5q r key k=k (vdo r key):=by
 rw [wwv];unfold wks vdo;cases vai key r.1<;>rfl
theorem w0v (r:tRange.D) (key) (k):vwk r key k=k (vdo r key):=by
 rw [wiu];unfold wb2 vdo;cases vai key r.1<;>rfl
def vt0 (r:List tRange.D)(w:List tWrite.D):Bool:=r.any fun x=>w.any fun y=>vdo x y.1
theorem v8a {u0} {u1} {u2} {u3} {u4} {u5} {u8} {u9}:∀l i,∃j:Int,∀k,vpb u0 u1 u2 u3 u4 u5 u8 u9 l i k=k (bif l.any (fun y=>vdo (u8,u9) y.1)then .inl (true,j)else .inr j)
 |[],i=>⟨_,fun k=>rfl⟩
 |y::l,i=>by
  obtain⟨j,hj⟩:=v8a (u0:=u0) (u1:=u1) (u2:=u2) (u3:=u3) (u4:=u4) (u5:=u5) (u8:=u8) (u9:=u9) l (i+1)
  simp only [vpb,w9d,hj,List.any_cons]
  cases hp:(vdo (u8,u9) y.1)
  ·exact⟨j,fun k=>by(try simp only [Bool.false_or])<;>(try (simp [hp]))⟩
  ·exact⟨(i:Int),fun k=>by(try simp only [Bool.true_or,cond_true])<;>(try (simp [hp]))⟩
theorem v8e {u0} {u1} {u2}:∀l i,∃j:Int,∀k,vp7 u0 u1 u2 l i k=k (bif l.any (fun y=>u0.any fun z=>vdo y z.1)then .inr (true,j)else .inl j)
 |[],i=>⟨_,fun k=>rfl⟩
 |y::l,i=>by
  obtain⟨j,hj⟩:=v8e (u0:=u0) (u1:=u1) (u2:=u2) l (i+1)
  obtain⟨j2,hj2⟩:=v8a (u0:=u0) (u1:=u1) (u2:=u2) (u3:=(u2.length:Int)) (u4:=(i:Int)) (u5:=u0) (u8:=y.1) (u9:=y.2) u0 0
  simp only [vp7,hj,hj2,List.any_cons]
  cases hp:(u0.any fun z=>vdo y z.1)
  ·exact⟨j,fun k=>by simp⟩
  ·exact⟨(i:Int),fun k=>by simp⟩
theorem w9e {r:List tRange.D}{w:List tWrite.D}(hr:r.length≤1048576)(hw:w.length≤1048576) (k):v70 r w k=k (vt0 r w):=by
 rw [xcl (by omega) (by omega)]
 unfold wuw vt0
 obtain⟨j,hj⟩:=v8e (u0:=w) (u1:=false) (u2:=r) r 0
 rw [hj]
 cases (r.any fun x=>w.any fun y=>vdo x y.1)<;>rfl
theorem vz3 {u0:List tRange.D} {u1 u2}{i0:Nat}{x:tRange.D}{r:List tRange.D}(hx:u0.drop i0=x::r):∀l i,∃j:Int,∀k,vjo u0 u1 u2 (i0:Int) l i k=k (bif l.any (fun y=>vdo x y.1)then .inl (true,j)else .inr j)
 |[],i=>⟨_,fun k=>rfl⟩
 |y::l,i=>by
  obtain⟨j,hj⟩:=vz3 (u1:=u1) (u2:=u2) hx l (i+1)
  have hlt:=vbt hx
  have hg:=(vcs hx).1
  simp only [vjo,if_pos (show 0≤(i0:Int)∧(i0:Int)<(u0.length:Int) by omega),hg,w0v,hj,List.any_cons]
  cases hp:vdo x y.1
  ·exact⟨j,fun k=>by simp [hp]⟩
  ·exact⟨(i:Int),fun k=>by simp [hp]⟩
theorem v2x {u0 u1 u2}:∀l i,u0.drop i=l→∃j:Int,∀k,vjk u0 u1 u2 l i k=k (bif l.any (fun y=>u1.any fun z=>vdo y z.1)then .inr (true,j)else .inl j)
 |[],i,_=>⟨_,fun k=>rfl⟩
 |y::l,i,h=>by
  obtain⟨j,hj⟩:=v2x (u0:=u0) (u1:=u1) (u2:=u2) l (i+1) (vau h)
  obtain⟨j2,hj2⟩:=vz3 (u1:=u1) (u2:=u2) h u1 0
  simp only [vjk,hj,hj2,List.any_cons]
  cases hp:(u1.any fun z=>vdo y z.1)
  ·exact⟨j,fun k=>by simp⟩
  ·exact⟨(i:Int),fun k=>by simp⟩
theorem w1z {r:List tRange.D}{w:List tWrite.D}(hr:r.length≤1048576)(hw:w.length≤1048576) (k):vwp r w k=k (vt0 r w):=by
 rw [w8s (by omega) (by omega)]
 unfold wi0 vt0
 obtain⟨j,hj⟩:=v2x (u0:=r) (u1:=w) (u2:=false) r 0 rfl
 rw [hj]
 cases (r.any fun x=>w.any fun y=>vdo x y.1)<;>rfl
def vdg (s:ByteArray):Bool:=!((vck s).any fun y=>decide (y<97)||decide (y>122))&&va4 s.size 1 3
theorem v7b {u0} {u1}:∀l i,∃j:Int,∀k,vok u0 u1 l i k=k (bif l.any (fun y=>decide (y<97)||decide (y>122))then .inl (false,j)else .inr j)
 |[],i=>⟨_,fun k=>rfl⟩
 |y::l,i=>by
  obtain⟨j,hj⟩:=v7b (u0:=u0) (u1:=u1) l (i+1)
  simp only [vok,hj,List.any_cons]
  cases hp:(decide (y<97)||decide (y>122))
  ·exact⟨j,fun k=>by(try simp only [Bool.false_or])<;>(try (revert hp;cases decide (y<97)<;>cases decide (y>122)<;>simp))⟩
  ·exact⟨(i:Int),fun k=>by(try simp only [Bool.true_or,cond_true])<;>(try (revert hp;cases decide (y<97)<;>cases decide (y>122)<;>simp))⟩
theorem vvs {s:ByteArray}(hs:s.size≤1048576) (k):vkb s k=k (vdg s):=by
 rw [xaf (by omega)]
 unfold wv3 vdg
 obtain⟨j,hj⟩:=v7b (u0:=s) (u1:=false) (vck s) 0
 rw [hj]
 cases ((vck s).any fun y=>decide (y<97)||decide (y>122))
 ·simp [wbl]
 ·rfl
theorem v2z {u0} {u1}:∀l i,∃j:Int,∀k,vjf u0 u1 l i k=k (bif l.any (fun y=>decide (y<97)||decide (y>122))then .inl (false,j)else .inr j)
 |[],i=>⟨_,fun k=>rfl⟩
 |y::l,i=>by
  obtain⟨j,hj⟩:=v2z (u0:=u0) (u1:=u1) l (i+1)
  simp only [vjf,hj,List.any_cons]
  cases hp:(decide (y<97)||decide (y>122))
  ·exact⟨j,fun k=>by(try simp only [Bool.false_or])<;>(try (revert hp;cases decide (y<97)<;>cases decide (y>122)<;>simp))⟩
  ·exact⟨(i:Int),fun k=>by(try simp only [Bool.true_or,cond_true])<;>(try (revert hp;cases decide (y<97)<;>cases decide (y>122)<;>simp))⟩
theorem vq4 {s:ByteArray}(hs:s.size≤1048576) (k):vfk s k=k (vdg s):=by
 rw [w89 (by omega)]
 unfold wik vdg
 obtain⟨j,hj⟩:=v2z (u0:=s) (u1:=false) (vck s) 0
 rw [hj]
 cases ((vck s).any fun y=>decide (y<97)||decide (y>122))
 ·simp [vqr]
 ·rfl
def vdy (r:tRange.D):Bool:=vdg r.1&&vdg r.2&&(vai r.1 r.2||vaj r.1 r.2)
def vfr (w:tWrite.D):Bool:=vdg w.1&&decide ((w.2.1.size:Int)≤12)&&(!w.2.2||vaj w.2.1 ⟨#[]⟩)
def vdu:Option tWrite.D→List tWrite.D→Bool
 |_,[]=>true
 |p,y::l=>vfr y&&(match p with|none=>true|some x=>vai x.1 y.1)&&vdu (some y) l
def vgo (l:List tWrite.D):Bool:=vdu none l&&decide ((l.length:Int)≤8)
theorem w68 {r:tRange.D}(hr:tRange.wt r≤1048576) (k):v77 r k=k (vdy r):=by
 rw [wal]at hr
 rw [wqw]
 unfold wj3 vdy
 simp only [vvs (show r.1.size≤1048576 by omega),vvs (show r.2.size≤1048576 by omega)]
 cases vdg r.1<;>cases vdg r.2<;>simp
theorem w9a {r:tWrite.D}(hr:tWrite.wt r≤1048576) (k):v6s r k=k (vfr r):=by
 rw [v9y]at hr
 rw [wvt]
 unfold wkx vfr
 simp only [vvs (show r.1.size≤1048576 by omega)]
 cases vdg r.1<;>cases decide ((r.2.1.size:Int)≤12)<;>cases r.2.2<;>simp
theorem v74 {u0:List tWrite.D}(hu:∀y∈u0,tWrite.wt y≤1048576)(hl:u0.length≤1048576) {u1 u2}:∀(l:List tWrite.D) (i:Nat),u0.drop i=l→∃j:Int,∀k,
  vm8 u0 u1 u2 l i k=k (bif vdu (if i=0 then none else some (u0.getD (i-1) (Ty.zero tWrite))) l then .inr j else .inl (false,j))
 |[],i,_=>⟨_,fun k=>rfl⟩
 |y::l,i,h=>by
  obtain⟨j,hj⟩:=v74 hu hl (u1:=u1) (u2:=u2) l (i+1) (vau h)
  have hlt:=vbt h
  have hy:=(vcs h).2 (Ty.zero tWrite)
  rw [if_neg (by omega),show i+1-1=i by omega,hy]at hj
  simp only [vm8,w9a (hu y (vc5 h)),hj,vdu]
  by_cases hi:i=0
  ·subst hi
   simp only [if_pos,show ¬((0:Nat):Int)>0 by omega,decide_false,cond_false,Bool.and_true]
   cases vfr y
   ·exact⟨((0:Nat):Int),fun k=>by simp⟩
   ·exact⟨j,fun k=>by simp⟩
  ·have hw:IntKind.wrap .i64 ((i:Int)-1)=((i-1:Nat):Int):=by rw [va9 (by omega) (by omega)];omega
   have hrd:rd (Ty.zero (.pair .str (.pair .str .bool))) u0 ((i-1:Nat):Int)=u0.getD (i-1) (Ty.zero tWrite):=rfl
   simp only [if_neg hi,show (i:Int)>0 by omega,decide_true,cond_true,hw,hrd,if_pos (show 0≤((i-1:Nat):Int)∧((i-1:Nat):Int)<(u0.length:Int) by omega)]
   cases vfr y
   ·exact⟨(i:Int),fun k=>by simp⟩
   ·cases vai (u0.getD (i-1) (Ty.zero tWrite)).1 y.1
    ·exact⟨(i:Int),fun k=>by simp⟩
    ·exact⟨j,fun k=>by simp⟩
theorem w8e {x:List tWrite.D}(hx:(Ty.slice tWrite).wt x≤1048576) (k):v3s x k=k (vgo x):=by
 have hl:=vca hx
 rw [w96 (by omega)]
 unfold wqk vgo
 obtain⟨j,hj⟩:=v74 (u0:=x) (fun y hy=>vbh hy hx) hl (u1:=false) (u2:=x) x 0 rfl
 rw [hj]
 simp only [if_true]
 cases vdu none x<;>rfl
theorem w1r {r:tRange.D}(hr:tRange.wt r≤1048576) (k):vwd r k=k (vdy r):=by
 rw [wal]at hr
 rw [wgg]
 unfold wad vdy
 simp only [vq4 (show r.1.size≤1048576 by omega),vq4 (show r.2.size≤1048576 by omega)]
 cases vdg r.1<;>cases vdg r.2<;>simp
theorem w0o {r:tWrite.D}(hr:tWrite.wt r≤1048576) (k):vv9 r k=k (vfr r):=by
 rw [v9y]at hr
 rw [wfc]
 unfold wb3 vfr
 simp only [vq4 (show r.1.size≤1048576 by omega)]
 cases vdg r.1<;>cases decide ((r.2.1.size:Int)≤12)<;>cases r.2.2<;>simp
theorem v0n {u0:List tWrite.D}(hu:∀y∈u0,tWrite.wt y≤1048576)(hl:u0.length≤1048576) {u1}:∀(l:List tWrite.D) (i:Nat),u0.drop i=l→∃j:Int,∀k,
  vhd u0 u1 l i k=k (bif vdu (if i=0 then none else some (u0.getD (i-1) (Ty.zero tWrite))) l then .inr j else .inl (false,j))
 |[],i,_=>⟨_,fun k=>rfl⟩
 |y::l,i,h=>by
  obtain⟨j,hj⟩:=v0n hu hl (u1:=u1) l (i+1) (vau h)
  have hlt:=vbt h
  have hy:=(vcs h).2 (Ty.zero tWrite)
  rw [if_neg (by omega),show i+1-1=i by omega,hy]at hj
  simp only [vhd,w0o (hu y (vc5 h)),hj,vdu]
  by_cases hi:i=0
  ·subst hi
   simp only [if_pos,show ¬((0:Nat):Int)>0 by omega,decide_false,cond_false,Bool.and_true]
   cases vfr y
   ·exact⟨((0:Nat):Int),fun k=>by simp⟩
   ·exact⟨j,fun k=>by simp⟩
  ·have hw:IntKind.wrap .i64 ((i:Int)-1)=((i-1:Nat):Int):=by rw [va9 (by omega) (by omega)];omega
   have hrd:rd (Ty.zero (.pair .str (.pair .str .bool))) u0 ((i-1:Nat):Int)=u0.getD (i-1) (Ty.zero tWrite):=rfl
   simp only [if_neg hi,show (i:Int)>0 by omega,decide_true,cond_true,hw,hrd,if_pos (show 0≤((i-1:Nat):Int)∧((i-1:Nat):Int)<(u0.length:Int) by omega)]
   cases vfr y
   ·exact⟨(i:Int),fun k=>by simp⟩
   ·cases vai (u0.getD (i-1) (Ty.zero tWrite)).1 y.1
    ·exact⟨(i:Int),fun k=>by simp⟩
    ·exact⟨j,fun k=>by simp⟩
theorem w09 {x:List tWrite.D}(hx:(Ty.slice tWrite).wt x≤1048576) (k):vr8 x k=k (vgo x):=by
 have hl:=vca hx
 rw [w9b (by omega)]
 unfold wic vgo
 obtain⟨j,hj⟩:=v0n (u0:=x) (fun y hy=>vbh hy hx) hl (u1:=false) x 0 rfl
 rw [hj]
 simp only [if_true]
 cases vdu none x<;>rfl
def vc8 (t:tTxn.D):Bool:=
 va4 t.1 1 9999&&va4 t.2.1 1 3&&va4 t.2.2.1 0 9999 && !decide ((t.2.2.2.2.1.length:Int)>8)&&vgo t.2.2.2.2.2.1 && !(t.2.2.2.2.1.any fun r=>!vdy r) &&
 !((t.2.1==3) && !va4 t.2.2.2.1 (IntKind.wrap .i64 (t.2.2.1+1)) 9999) && !((t.2.1 != 3)&&(t.2.2.2.1 != 0)) &&
 !((t.2.1==2) && !vdg t.2.2.2.2.2.2.2) && !((t.2.1 != 2) && !vaj t.2.2.2.2.2.2.2 ⟨#[]⟩)&&((t.2.1 != 1) || !t.2.2.2.2.2.2.1)
theorem v5n {u0} {u1} {u4} {u5} {u6} {u7} {u8} {u9} {u10} {u11}:∀(l:List tRange.D) (i:Nat),(∀y∈l,tRange.wt y≤1048576)→∃j:Int,∀k,vor u0 u1 u4 u5 u6 u7 u8 u9 u10 u11 l i k=k (bif l.any (fun r=>!vdy r)then .inl (false,j)else .inr j)
 |[],i,_=>⟨_,fun k=>rfl⟩
 |y::l,i,h=>by
  obtain⟨j,hj⟩:=v5n (u0:=u0) (u1:=u1) (u4:=u4) (u5:=u5) (u6:=u6) (u7:=u7) (u8:=u8) (u9:=u9) (u10:=u10) (u11:=u11) l (i+1) (fun y hy=>h y (by simp [hy]))
  simp only [vor,w68 (h y (by simp)),hj,List.any_cons]
  cases vdy y
  ·exact⟨(i:Int),fun k=>by simp⟩
  ·exact⟨j,fun k=>by simp⟩
theorem vzg {u0} {u2} {u3} {u4} {u5} {u6} {u7} {u8} {u9}:∀(l:List tRange.D) (i:Nat),(∀y∈l,tRange.wt y≤1048576)→∃j:Int,∀k,vjv u0 u2 u3 u4 u5 u6 u7 u8 u9 l i k=k (bif l.any (fun r=>!vdy r)then .inl (false,j)else .inr j)
 |[],i,_=>⟨_,fun k=>rfl⟩
 |y::l,i,h=>by
  obtain⟨j,hj⟩:=vzg (u0:=u0) (u2:=u2) (u3:=u3) (u4:=u4) (u5:=u5) (u6:=u6) (u7:=u7) (u8:=u8) (u9:=u9) l (i+1) (fun y hy=>h y (by simp [hy]))
  simp only [vjv,w1r (h y (by simp)),hj,List.any_cons]
  cases vdy y
  ·exact⟨(i:Int),fun k=>by simp⟩
  ·exact⟨j,fun k=>by simp⟩
theorem wb9 {t:tTxn.D}(ht:tTxn.wt t≤1048576) (k):vh5 t k=k (vc8 t):=by
 rw [vom]at ht
 have h1:=vca (T:=tRange) (xs:=t.2.2.2.2.1) (n:=1048576) (by omega)
 have h2:=vca (T:=tWrite) (xs:=t.2.2.2.2.2.1) (n:=1048576) (by omega)
 rw [w8n (by omega)]
 unfold wid vc8
 simp only [vqr,w09 (show (Ty.slice tWrite).wt t.2.2.2.2.2.1≤1048576 by omega)]
 obtain⟨j,hj⟩:=vzg (u0:=false) (u2:=t.1) (u3:=t.2.1) (u4:=t.2.2.1) (u5:=t.2.2.2.1) (u6:=t.2.2.2.2.1) (u7:=t.2.2.2.2.2.1) (u8:=t.2.2.2.2.2.2.1) (u9:=t.2.2.2.2.2.2.2) t.2.2.2.2.1 0 (fun y hy=>vbh hy (by omega))
 simp only [vfn,vcp,vcn,hj,vqr,vq4 (show t.2.2.2.2.2.2.2.size≤1048576 by omega)]
 cases va4 t.1 1 9999<;>simp only [Bool.not_true,Bool.not_false,cond_true,cond_false,Bool.true_and,Bool.false_and]
 cases va4 t.2.1 1 3<;>simp only [Bool.not_true,Bool.not_false,cond_true,cond_false,Bool.true_and,Bool.false_and]
 cases va4 t.2.2.1 0 9999<;>simp only [Bool.not_true,Bool.not_false,cond_true,cond_false,Bool.true_and,Bool.false_and]
 cases decide ((t.2.2.2.2.1.length:Int)>8)<;>simp only [Bool.not_true,Bool.not_false,cond_true,cond_false,Bool.true_and,Bool.false_and]
 cases vgo t.2.2.2.2.2.1<;>simp only [Bool.not_true,Bool.not_false,cond_true,cond_false,Bool.true_and,Bool.false_and]
 cases (t.2.2.2.2.1.any fun r=>!vdy r)<;>simp only [Bool.not_true,Bool.not_false,cond_true,cond_false,Bool.true_and,Bool.false_and,Sum.elim_inl,Sum.elim_inr]
 simp only [bne]
 cases t.2.1==3<;>cases t.2.1==2<;>cases t.2.1==1<;>cases va4 t.2.2.2.1 (IntKind.wrap .i64 (t.2.2.1+1)) 9999<;>cases t.2.2.2.1==0<;>cases vdg t.2.2.2.2.2.2.2<;>cases vaj t.2.2.2.2.2.2.2 ⟨#[]⟩<;>cases t.2.2.2.2.2.2.1<;>rfl
theorem wfq {t:tTxn.D}(ht:tTxn.wt t≤1048576) (k):vl6 t k=k (vc8 t):=by
 rw [vom]at ht
 have h1:=vca (T:=tRange) (xs:=t.2.2.2.2.1) (n:=1048576) (by omega)
 have h2:=vca (T:=tWrite) (xs:=t.2.2.2.2.2.1) (n:=1048576) (by omega)
 rw [xbn (by omega)]
 unfold wvk vc8
 obtain⟨j,hj⟩:=v5n (u0:=false) (u1:=t.2.2.2.2.1) (u4:=t.1) (u5:=t.2.1) (u6:=t.2.2.1) (u7:=t.2.2.2.1) (u8:=t.2.2.2.2.1) (u9:=t.2.2.2.2.2.1) (u10:=t.2.2.2.2.2.2.1) (u11:=t.2.2.2.2.2.2.2) t.2.2.2.2.1 0 (fun y hy=>vbh hy (by omega))
 simp only [hj,wbl,w8e (show (Ty.slice tWrite).wt t.2.2.2.2.2.1≤1048576 by omega),ver,vc3,vvs (show t.2.2.2.2.2.2.2.size≤1048576 by omega)]
 cases (t.2.2.2.2.1.any fun r=>!vdy r)<;>simp only [Bool.not_true,Bool.not_false,cond_true,cond_false,Bool.true_and,Bool.and_true,Bool.and_false,Bool.false_and,Sum.elim_inl,Sum.elim_inr]
 cases va4 t.1 1 9999<;>simp only [Bool.not_true,Bool.not_false,cond_true,cond_false,Bool.true_and,Bool.false_and]
 cases va4 t.2.1 1 3<;>simp only [Bool.not_true,Bool.not_false,cond_true,cond_false,Bool.true_and,Bool.false_and]
 cases va4 t.2.2.1 0 9999<;>simp only [Bool.not_true,Bool.not_false,cond_true,cond_false,Bool.true_and,Bool.false_and]
 cases decide ((t.2.2.2.2.1.length:Int)>8)<;>simp only [Bool.not_true,Bool.not_false,cond_true,cond_false,Bool.true_and,Bool.false_and]
 cases vgo t.2.2.2.2.2.1<;>simp only [Bool.not_true,Bool.not_false,cond_true,cond_false,Bool.true_and,Bool.false_and]
 simp only [bne]
 cases t.2.1==3<;>cases t.2.1==2<;>cases t.2.1==1<;>cases va4 t.2.2.2.1 (IntKind.wrap .i64 (t.2.2.1+1)) 9999<;>cases t.2.2.2.1==0<;>cases vdg t.2.2.2.2.2.2.2<;>cases vaj t.2.2.2.2.2.2.2 ⟨#[]⟩<;>cases t.2.2.2.2.2.2.1<;>rfl
def wf4 (a b:tTxn.D):Bool:=(a.2.1==3)&&decide (a.2.2.2.1≤b.2.2.1)
def vsn (a b:tTxn.D):Bool:=(a.1 != b.1) && !(wf4 a b) && !(wf4 b a)
def vt6 (a b:tTxn.D):Bool:=vsn a b&&vt0 a.2.2.2.2.1 b.2.2.2.2.2.1
theorem w7n (a b:tTxn.D) (k):v6t a b k=k (wf4 a b):=by
 rw [wrr];unfold wjy wf4;cases a.2.1==3<;>rfl
theorem w6l (a b:tTxn.D) (k):weo a b k=k (vsn a b):=by
 rw [wuv];unfold wmf vsn;simp only [w7n]
 cases (a.1 != b.1)<;>cases wf4 a b<;>cases wf4 b a<;>rfl
theorem w2e (a b:tTxn.D) (k):v0o a b k=k (vsn a b):=by
 rw [wg2];unfold v9x vsn wf4;simp only [bne]
 cases (a.1==b.1)<;>cases a.2.1==3<;>cases decide (a.2.2.2.1≤b.2.2.1)<;>cases b.2.1==3<;>cases decide (b.2.2.2.1≤a.2.2.1)<;>rfl
theorem vkj {a:tTxn.D}(ha:tTxn.wt a≤1048576):a.2.2.2.2.1.length≤1048576∧a.2.2.2.2.2.1.length≤1048576:=by
 rw [vom]at ha
 exact⟨vca (T:=tRange) (by omega),vca (T:=tWrite) (by omega)⟩
theorem wwx {a b:tTxn.D}(ha:tTxn.wt a≤1048576)(hb:tTxn.wt b≤1048576) (k):v6n a b k=k (vt6 a b):=by
 rw [wxh];unfold wjm vt6
 simp only [w6l,w9e (vkj ha).1 (vkj hb).2]
 cases vsn a b<;>rfl
theorem wm7 {a b:tTxn.D}(ha:tTxn.wt a≤1048576)(hb:tTxn.wt b≤1048576) (k):vn8 a b k=k (vt6 a b):=by
 rw [wi4];unfold v86 vt6
 simp only [w2e,w1z (vkj ha).1 (vkj hb).2]
 cases vsn a b<;>rfl
end
end Go.VE
/- Plain laws: one of a list that passes a test;what is seen;the oldest. -/
namespace Go.VE
noncomputable section
set_option linter.unusedVariables false
set_option linter.unusedSimpArgs false
set_option maxRecDepth 100000
theorem wrx (x:tTxn.D) (k):vxf x k=k (x.2.1==2):=by rw [wtl];rfl
theorem we4 (x:tTxn.D) (k):vua x k=k (x.2.1==3):=by rw [wrb];rfl
def vel (t x:tTxn.D):Bool:=(x.2.1==3)&&vt6 t x
theorem w70 {x t:tTxn.D}(hx:tTxn.wt x≤1048576)(ht:tTxn.wt t≤1048576) (k):v54 x t.1 t.2.1 t.2.2.1 t.2.2.2.1 t.2.2.2.2.1 t.2.2.2.2.2.1 t.2.2.2.2.2.2.1 t.2.2.2.2.2.2.2 k=k (vel t x,t.1,t.2.1,t.2.2.1,t.2.2.2.1,t.2.2.2.2.1,t.2.2.2.2.2.1,t.2.2.2.2.2.2.1,t.2.2.2.2.2.2.2):=by
 rw [wyb]
 unfold wju vel
 simp only [we4,va7,wwx ht hx]
 cases (x.2.1==3)<;>cases vt6 t x<;>rfl
theorem v2p {u0 u1}{t:tTxn.D}(ht:tTxn.wt t≤1048576):∀(l:List tTxn.D) (i:Nat),(∀y∈l,tTxn.wt y≤1048576)→∃a:Nat,∃b:Int,∀k,
  vjd u0 u1 l t.1 t.2.1 t.2.2.1 t.2.2.2.1 t.2.2.2.2.1 t.2.2.2.2.2.1 t.2.2.2.2.2.2.1 t.2.2.2.2.2.2.2 i k=k (bif l.any (fun x=>vel t x)then .inl ((a:Int),b,t.1,t.2.1,t.2.2.1,t.2.2.2.1,t.2.2.2.2.1,t.2.2.2.2.2.1,t.2.2.2.2.2.2.1,t.2.2.2.2.2.2.2)else .inr (b,t.1,t.2.1,t.2.2.1,t.2.2.2.1,t.2.2.2.2.1,t.2.2.2.2.2.1,t.2.2.2.2.2.2.1,t.2.2.2.2.2.2.2))
 |[],i,_=>⟨0,_,fun k=>rfl⟩
 |y::l,i,h=>by
  obtain⟨a,b,hab⟩:=v2p (u0:=u0) (u1:=u1) ht l (i+1) (fun y hy=>h y (by simp [hy]))
  simp only [vjd,w70 (h y (by simp)) ht,hab,List.any_cons]
  cases vel t y
  ·exact⟨a,b,fun k=>rfl⟩
  ·exact⟨i,(i:Int),fun k=>rfl⟩
theorem wuu {t:tTxn.D}{l:List tTxn.D}(ht:tTxn.wt t≤1048576)(hl:(Ty.slice tTxn).wt l≤1048576) (k):v0j t l k=k (l.any fun x=>vel t x):=by
 have hlen:=vca hl
 obtain⟨a,b,hab⟩:=v2p (u0:=l) (u1:=0) ht l 0 (fun y hy=>vbh hy hl)
 rw [wrn]
 unfold wk5
 rw [wsn]
 unfold wmo
 rw [wtm]
 unfold wjt
 rw [w6i (by omega)]
 unfold wf6
 rw [hab]
 cases (l.any fun x=>vel t x)
 ·rfl
 ·have:decide ((a:Int)≥0)=true:=by simp
  simp only [cond_true,Sum.elim_inl,this]
theorem v1c {u0 u1}{t:tTxn.D}(ht:tTxn.wt t≤1048576):∀(l:List tTxn.D) (i:Nat),(∀y∈l,tTxn.wt y≤1048576)→∃j:Int,∀k,
  vhj u0 u1 t.1 t.2.1 t.2.2.1 t.2.2.2.1 t.2.2.2.2.1 t.2.2.2.2.2.1 t.2.2.2.2.2.2.1 t.2.2.2.2.2.2.2 l i k=k (bif l.any (fun x=>vel t x)then .inl (true,j)else .inr j)
 |[],i,_=>⟨_,fun k=>rfl⟩
 |x::l,i,h=>by
  obtain⟨j,hj⟩:=v1c (u0:=u0) (u1:=u1) ht l (i+1) (fun y hy=>h y (by simp [hy]))
  have hx:=h x (by simp)
  simp only [vhj,va7,wm7 ht hx,hj,List.any_cons,vel]
  cases (x.2.1==3)<;>cases vt6 t x<;>first|exact⟨j,fun k=>rfl⟩|exact⟨(i:Int),fun k=>rfl⟩
theorem wnc {t:tTxn.D}{l:List tTxn.D}(ht:tTxn.wt t≤1048576)(hl:(Ty.slice tTxn).wt l≤1048576) (k):vmi t l k=k (l.any fun x=>vel t x):=by
 have hlen:=vca hl
 rw [w71 (by omega)]
 unfold wfi
 obtain⟨j,hj⟩:=v1c (u0:=l) (u1:=false) ht l 0 (fun y hy=>vbh hy hl)
 rw [hj]
 cases (l.any fun x=>vel t x)<;>rfl
def zV:tVersion.D:=Ty.zero tVersion
def vf5 (u0:List tVersion.D)(key:ByteArray)(snap:Int):List tVersion.D→Int→Nat→Int
 |[],s,_=>s
 |y::l,s,i=>bif vaj y.1 key&&(decide (y.2.2.2≤snap)&&(decide (s<0)||decide (y.2.2.2>(rd zV u0 s).2.2.2)))then vf5 u0 key snap l (i:Int) (i+1)else vf5 u0 key snap l s (i+1)
def vmk (xs:List tVersion.D)(key:ByteArray)(snap:Int):Int:=vf5 xs key snap xs (-1) 0
theorem vv2 {u0 u1 u2} {u4}:∀(l:List tVersion.D) (s:Int) (i:Nat),u0.drop i=l→(s<0∨0≤s∧s<(u0.length:Int))→
  ∃j:Int,(∀k,vgt u0 u1 u2 u4 l s i k=k (vf5 u0 u1 u2 l s i,j))∧(vf5 u0 u1 u2 l s i<0∨0≤vf5 u0 u1 u2 l s i∧vf5 u0 u1 u2 l s i<(u0.length:Int))
 |[],s,i,_,hs=>⟨_,fun k=>rfl,hs⟩
 |y::l,s,i,h,hs=>by
  have hlt:=vbt h
  obtain⟨j1,hj1,b1⟩:=vv2 (u0:=u0) (u1:=u1) (u2:=u2) (u4:=u4) l s (i+1) (vau h) hs
  obtain⟨j2,hj2,b2⟩:=vv2 (u0:=u0) (u1:=u1) (u2:=u2) (u4:=u4) l (i:Int) (i+1) (vau h) (.inr (by omega))
  have hz:(Ty.zero tVersion)=zV:=rfl
  simp only [vgt,hj1,hj2,vf5,hz]
  cases vaj y.1 u1
  ·exact⟨j1,fun k=>rfl,b1⟩
  ·cases decide (y.2.2.2≤u2)
   ·exact⟨j1,fun k=>rfl,b1⟩
   ·by_cases c:s<0
    ·simp only [c,decide_true,cond_true,Bool.true_or,Bool.and_self];exact⟨j2,fun k=>rfl,b2⟩
    ·simp only [c,decide_false,cond_true,cond_false,Bool.false_or,Bool.true_and]
     simp only [if_pos (show 0≤s∧s<(u0.length:Int) by omega)]
     cases decide (y.2.2.2>(rd zV u0 s).2.2.2)
     ·exact⟨j1,fun k=>rfl,b1⟩
     ·exact⟨j2,fun k=>rfl,b2⟩
theorem w8t {xs:List tVersion.D}(hl:xs.length≤1048576) (key) (snap) (k):vzw xs key snap k=k (vmk xs key snap):=by
 rw [xct (by omega)]
 unfold wsp vmk
 obtain⟨j,hj,_⟩:=vv2 (u0:=xs) (u1:=key) (u2:=snap) (u4:=xs) xs (-1) 0 rfl (.inl (by omega))
 rw [hj]
theorem vsk {u0 u1 u2}  : ∀(l:List tVersion.D) (s:Int) (i:Nat),u0.drop i=l→(s<0∨0≤s∧s<(u0.length:Int))→
  ∃j:Int,(∀k,vev u0 u1 u2  l s i k=k (vf5 u0 u1 u2 l s i,j))∧(vf5 u0 u1 u2 l s i<0∨0≤vf5 u0 u1 u2 l s i∧vf5 u0 u1 u2 l s i<(u0.length:Int))
 |[],s,i,_,hs=>⟨_,fun k=>rfl,hs⟩
 |y::l,s,i,h,hs=>by
  have hlt:=vbt h
  obtain⟨j1,hj1,b1⟩:=vsk (u0:=u0) (u1:=u1) (u2:=u2)  l s (i+1) (vau h) hs
  obtain⟨j2,hj2,b2⟩:=vsk (u0:=u0) (u1:=u1) (u2:=u2)  l (i:Int) (i+1) (vau h) (.inr (by omega))
  have hz:(Ty.zero tVersion)=zV:=rfl
  simp only [vev,hj1,hj2,vf5,hz]
  cases vaj y.1 u1
  ·exact⟨j1,fun k=>rfl,b1⟩
  ·cases decide (y.2.2.2≤u2)
   ·exact⟨j1,fun k=>rfl,b1⟩
   ·by_cases c:s<0
    ·simp only [c,decide_true,cond_true,Bool.true_or,Bool.and_self];exact⟨j2,fun k=>rfl,b2⟩
    ·simp only [c,decide_false,cond_true,cond_false,Bool.false_or,Bool.true_and]
     simp only [if_pos (show 0≤s∧s<(u0.length:Int) by omega)]
     cases decide (y.2.2.2>(rd zV u0 s).2.2.2)
     ·exact⟨j1,fun k=>rfl,b1⟩
     ·exact⟨j2,fun k=>rfl,b2⟩
theorem wzl {xs:List tVersion.D}(hl:xs.length≤1048576) (key) (snap) (k):vru xs key snap k=k (vmk xs key snap):=by
 rw [w61 (by omega)]
 unfold wgl vmk
 obtain⟨j,hj,_⟩:=vsk (u0:=xs) (u1:=key) (u2:=snap)  xs (-1) 0 rfl (.inl (by omega))
 rw [hj]
def vmj (n:Int)(l:List tTxn.D):Int:=l.foldl (fun s y=>if y.2.2.1<s then y.2.2.1 else s) n
theorem v6e {u1}:∀(l:List tTxn.D) (s:Int) (i:Nat),∃j:Int,∀k,vr3 u1 l s i k=k (vmj s l,j)
 |[],s,i=>⟨_,fun k=>rfl⟩
 |y::l,s,i=>v6e l _ (i+1)
theorem vr1 {u0}:∀(l:List tTxn.D) (s:Int) (i:Nat),∃j:Int,∀k,vg7 u0 l s i k=k (vmj s l,j)
 |[],s,i=>⟨_,fun k=>rfl⟩
 |y::l,s,i=>by
  simp only [vg7,vmj,List.foldl_cons]
  by_cases c:y.2.2.1<s
  ·simp only [c,decide_true,cond_true,if_true];exact vr1 l _ (i+1)
  ·simp only [c,decide_false,cond_false,if_false];exact vr1 l _ (i+1)
theorem w87 {b:tBase.D}{l:List tTxn.D}(hl:l.length≤1048576) (k):v7j b l k=k (vmj b.2.2.2.1 l):=by
 rw [xb7 (by omega)]
 obtain⟨j,hj⟩:=v6e (u1:=l) l b.2.2.2.1 0
 unfold wsa
 rw [hj]
theorem w1w {b:tBase.D}{l:List tTxn.D}(hl:l.length≤1048576) (k):vr7 b l k=k (vmj b.2.2.2.1 l):=by
 rw [w72 (by omega)]
 obtain⟨j,hj⟩:=vr1 (u0:=l) l b.2.2.2.1 0
 unfold wgi
 rw [hj]
end
end Go.VE
/- Plain laws: where a name or an Id stands;a transaction's text. -/
namespace Go.VE
noncomputable section
set_option linter.unusedVariables false
set_option linter.unusedSimpArgs false
set_option maxRecDepth 100000
def atF (p:tTxn.D→Bool):List tTxn.D→Nat→Int
 |[],_=>-1
 |y::l,i=>bif p y then(i:Int)else atF p l (i+1)
theorem w7r (x:tTxn.D)(c:ByteArray) (k):v5k x c k=k (vaj x.2.2.2.2.2.2.2 c,c):=by rw [wxt];rfl
theorem v21 {u1 u3 u4 u5 u6 u7}{c:ByteArray}:∀(l:List tTxn.D) (i:Nat),
  ((∃a:Nat,∀k,vge c u1 u3 u4 u5 u6 u7 l i k=k (.inl ((a:Int),(a:Int))))∧(∃a:Nat,atF (fun x=>vaj x.2.2.2.2.2.2.2 c) l i=(a:Int)∧∀k,vge c u1 u3 u4 u5 u6 u7 l i k=k (.inl ((a:Int),(a:Int)))))∨
  ((∃b:Int,∀k,vge c u1 u3 u4 u5 u6 u7 l i k=k (.inr b))∧atF (fun x=>vaj x.2.2.2.2.2.2.2 c) l i = -1)
 |[],i=>.inr ⟨⟨_,fun k=>rfl⟩,rfl⟩
 |y::l,i=>by
  have ih:=v21 (u1:=u1) (u3:=u3) (u4:=u4) (u5:=u5) (u6:=u6) (u7:=u7) (c:=c) l (i+1)
  simp only [vge,atF]
  cases vaj y.2.2.2.2.2.2.2 c
  ·exact ih
  ·exact .inl ⟨⟨i,fun k=>rfl⟩,i,rfl,fun k=>rfl⟩
theorem wlz (t:tBase.D)(c:ByteArray)(hl:(t.2.2.1).length≤1048576) (k):vna t c k=k (atF (fun x=>vaj x.2.2.2.2.2.2.2 c) (t.2.2.1) 0):=by
 rw [w9f (by omega)]
 unfold wi1
 rcases v21  (c:=c) (t.2.2.1) 0 with⟨_,a,ha,h⟩|⟨⟨b,h⟩,ha⟩<;>rw [h,ha]<;>rfl
theorem vzf {u0 u1}{c:ByteArray}:∀(l:List tTxn.D) (i:Nat),
  (∃a:Nat,atF (fun x=>vaj x.2.2.2.2.2.2.2 c) l i=(a:Int)∧∀k,vhc u0 u1 l c i k=k (.inl ((a:Int),(a:Int),c)))∨
  ((∃b:Int,∀k,vhc u0 u1 l c i k=k (.inr (b,c)))∧atF (fun x=>vaj x.2.2.2.2.2.2.2 c) l i = -1)
 |[],i=>.inr ⟨⟨_,fun k=>rfl⟩,rfl⟩
 |y::l,i=>by
  have ih:=vzf (u0:=u0) (u1:=u1) (c:=c) l (i+1)
  simp only [vhc,atF,w7r]
  cases vaj y.2.2.2.2.2.2.2 c
  ·exact ih
  ·exact .inl ⟨i,rfl,fun k=>rfl⟩
theorem wtp (t:tBase.D)(c:ByteArray)(hl:(t.2.2.1).length≤1048576) (k):vw4 t c k=k (atF (fun x=>vaj x.2.2.2.2.2.2.2 c) (t.2.2.1) 0):=by
 rw [wvg]
 unfold wmk
 rw [w80 (by omega)]
 unfold wgk
 rcases vzf (u0:=(t.2.2.1)) (u1:=0) (c:=c) (t.2.2.1) 0 with⟨a,ha,h⟩|⟨⟨b,h⟩,ha⟩<;>rw [h,ha]<;>rfl
theorem wp4 {a b:ByteArray}(h:a.data.toList=b.data.toList):a=b:=by
 cases a;cases b;congr 1;exact Array.toList_inj.mp h
theorem wpk {a b:ByteArray}(h:vaj a b=true):a=b:=by
 rw [vq3,beq_iff_eq,ByteArray.toList_eq,ByteArray.toList_eq]at h
 exact wp4 h
theorem vly {s:ByteArray}(h:vdg s=true):s.size≤3:=by
 unfold vdg va4 at h
 simp only [Bool.and_eq_true,decide_eq_true_eq]at h
 omega
theorem vro:∀{l:List tWrite.D} {p},vdu p l=true→∀y∈l,vfr y=true
 |[],_,_,y,hy=>by cases hy
 |z::l,p,h,y,hy=>by
  simp only [vdu,Bool.and_eq_true]at h
  cases hy with
  |head=>exact h.1.1
  |tail _ hm=>exact vro h.2 y hm
def vxu (n:Int):Prop:=0≤n∧n≤16383
theorem vc7 {t:tTxn.D}(h:vc8 t=true):vxu t.1∧vxu t.2.1∧vxu t.2.2.1∧vxu t.2.2.2.1∧
  t.2.2.2.2.1.length≤8∧(∀y∈t.2.2.2.2.1,y.1.size≤12∧y.2.size≤12)∧t.2.2.2.2.2.1.length≤8∧(∀y∈t.2.2.2.2.2.1,y.1.size≤12∧y.2.1.size≤12)∧t.2.2.2.2.2.2.2.size≤12:=by
 unfold vc8 va4 vgo at h
 simp only [Bool.and_eq_true,Bool.not_eq_true',decide_eq_true_eq,decide_eq_false_iff_not,List.any_eq_false,Bool.not_eq_true,Bool.and_eq_false_iff,beq_eq_false_iff_ne,bne_eq_false_iff_eq,Bool.not_eq_false',Bool.or_eq_true,ne_eq]at h
 obtain⟨⟨⟨⟨⟨⟨⟨⟨⟨⟨a1,a2⟩,a3⟩,a4⟩,⟨a5,a6⟩⟩,a7⟩,a8⟩,a9⟩,a10⟩,a11⟩,a12⟩:=h
 unfold vxu
 refine⟨by omega,by omega,by omega,?_,by omega,fun y hy=>?_,by omega,fun y hy=>?_,?_⟩
 ·by_cases c:t.2.1=3
  ·have:=a8.resolve_left (fun hc=>hc c)
   have w:IntKind.wrap .i64 (t.2.2.1+1)=t.2.2.1+1:=va9 (by omega) (by omega)
   rw [w]at this
   omega
  ·have:@Eq Int t.2.2.2.1 0:=a9.resolve_left (fun hc=>c hc)
   omega
 ·have:vdy y=true:=by have:=a7 y hy;revert this;cases vdy y<;>simp
  unfold vdy at this
  simp only [Bool.and_eq_true]at this
  have b1:=vly this.1.1
  have b2:=vly this.1.2
  omega
 ·have:=vro a5 y hy
  unfold vfr at this
  simp only [Bool.and_eq_true,decide_eq_true_eq]at this
  have b1:=vly this.1.1
  omega
 ·by_cases c:t.2.1=2
  ·have:=vly (a10.resolve_left (fun hc=>hc c))
   omega
  ·have:=wpk (a11.resolve_left (fun hc=>c hc))
   rw [this];decide
end
end Go.VE
/- Plain laws of the draws: each gives,whatever the bytes. -/
namespace Go.VE
noncomputable section
set_option linter.unusedVariables false
set_option linter.unusedSimpArgs false
set_option maxRecDepth 100000
def Gives {α:Type}(F:(α→Option Res)→Option Res)(Q:α→Prop):Prop:=∃v,Q v∧∀k,F k=k v
theorem vo0 {α:Type}{v:α}{Q:α→Prop}(h:Q v):Gives (fun k=>k v) Q:=⟨v,h,fun _=>rfl⟩
theorem Gives.bind {α β:Type}{F:(β→Option Res)→Option Res}{R:β→Prop}(hF:Gives F R){H:β→(α→Option Res)→Option Res}{Q:α→Prop}(hH:∀v,R v→Gives (H v) Q):Gives (fun k=>F fun v=>H v k) Q:=by
 obtain⟨v,h1,h2⟩:=hF
 obtain⟨y,h3,h4⟩:=hH v h1
 exact⟨y,h3,fun k=>(h2 _).trans (h4 k)⟩
theorem v1w {α:Type}{c:Bool}{F G:(α→Option Res)→Option Res}{Q:α→Prop}(hF:c=true→Gives F Q)(hG:c=false→Gives G Q):Gives (fun k=>bif c then F k else G k) Q:=by
 cases c
 ·exact hG rfl
 ·exact hF rfl
theorem wcx {α:Type}{c:Prop} [Decidable c]{F:(α→Option Res)→Option Res}{Q:α→Prop}(hc:c)(hF:Gives F Q):Gives (fun k=>if c then F k else none) Q:=by
 simp only [hc,if_true];exact hF
theorem Gives.mono {α:Type}{F:(α→Option Res)→Option Res}{Q R:α→Prop}(h:Gives F Q)(hq:∀v,Q v→R v):Gives F R:=by
 obtain⟨v,h1,h2⟩:=h
 exact⟨v,hq v h1,h2⟩
theorem v8j {β γ:Type}{b:β→(β⊕γ→Option Res)→Option Res}{x:β}{n:Nat}{Q:γ→Prop}(h:Gives (b x) (fun r=>(∀y,r = .inl y→Gives (vab b n y) Q)∧∀z,r = .inr z→Q z)):Gives (vab b (n+1) x) Q:=by
 obtain⟨v,h1,h2⟩:=h
 cases v with
 |inl y=>
  obtain⟨w,h3,h4⟩:=h1.1 y rfl
  exact⟨w,h3,fun k=>by rw [vab,h2];exact h4 k⟩
 |inr z=>exact⟨z,h1.2 z rfl,fun k=>by rw [vab,h2];rfl⟩
theorem xa4 {β γ:Type}{Q:γ→Prop}{G:β→Prop}{y:β}(h:G y):(∀x,(Sum.inl y:β⊕γ) = .inl x→G x)∧∀z,(Sum.inl y:β⊕γ) = .inr z→Q z:=⟨fun _ e=>by cases e;exact h,fun _ e=>(nomatch e)⟩
theorem w3s {β γ:Type}{Q:γ→Prop}{G:β→Prop}{z:γ}(h:Q z):(∀x,(Sum.inr z:β⊕γ) = .inl x→G x)∧∀w,(Sum.inr z:β⊕γ) = .inr w→Q w:=⟨fun _ e=>(nomatch e),fun _ e=>by cases e;exact h⟩
theorem w5n {T:Ty}{c:Nat}:∀{l:List T.D},(∀y∈l,T.wt y≤c)→wtL T l≤c*l.length
 |[],_=>by simp [wtL]
 |y::l,h=>by
  have h1:=h y (by simp)
  have h2:=w5n (l:=l) (fun z hz=>h z (List.mem_cons_of_mem y hz))
  simp only [wtL,List.length_cons,Nat.mul_add];omega
end
end Go.VE
/- Plain laws of the marks: what is marked in place is held. -/
namespace Go.VE
noncomputable section
set_option linter.unusedVariables false
set_option linter.unusedSimpArgs false
set_option maxRecDepth 100000
theorem vtb (n:Int):(vsp [n]).size=1:=rfl
theorem v88:∀(m:Nat) (n:Int) (s:ByteArray) (q:Nat),n≤m→m<q→s.size+m≤100000000→Gives (vab vrv q (n,s)) (fun z=>z.2.size≤s.size+m):=by
 intro m
 induction m with
 |zero=>
  intro n s q hn hq hs
  obtain⟨q,rfl⟩:∃r,q=r+1:=⟨q-1,by omega⟩
  apply v8j
  unfold vrv
  exact v1w (fun c=>by have c:=of_decide_eq_true c;dsimp only at c;omega) (fun _=>vo0 (w3s (by dsimp only;omega)))
 |succ m ih=>
  intro n s q hn hq hs
  obtain⟨q,rfl⟩:∃r,q=r+1:=⟨q-1,by omega⟩
  apply v8j
  unfold vrv
  refine v1w (fun c=>wcx ?_ (vo0 (xa4 ?_))) (fun _=>vo0 (w3s (by dsimp only;omega)))
  ·rw [vtb];dsimp only;omega
  ·have c:=of_decide_eq_true c
   dsimp only at c
   have e:n.tdiv 10=n / 10:=Int.tdiv_eq_ediv_of_nonneg (by omega)
   dsimp only
   rw [e,va9 (by omega) (by omega)]
   refine(ih (n / 10) _ q (by omega) (by omega) (by rw [ByteArray.size_append,vtb];omega)).mono (fun z hz=>?_)
   rw [ByteArray.size_append,vtb]at hz
   omega
theorem wpa {n:Int}(h:n≤10000000):Gives (vc9 n) (fun _=>True):=by
 rw [wqn]
 unfold wmc
 refine v1w (fun _=>vo0 trivial) (fun _=>(v88 10000000 n _ Fuel (by omega) (by have:=vcr;omega) (by decide)).bind (fun z hz=>wcx ?_ (vo0 trivial)))
 have:(⟨#[109]⟩:ByteArray).size=1:=rfl
 have:(⟨#[]⟩:ByteArray).size=0:=rfl
 omega
open Classical in
def vpr (n:Int):ByteArray:=if h:∃v,∀k,vc9 n k=k v then Classical.choose h else⟨#[]⟩
theorem vbr {n:Int}(h:n≤10000000) (k):vc9 n k=k (vpr n):=by
 obtain⟨v,_,hv⟩:=wpa h
 have h1:∃v,∀k,vc9 n k=k v:=⟨v,hv⟩
 unfold vpr
 rw [dif_pos h1]
 exact Classical.choose_spec h1 k
theorem v9u {α:Type}(pre:List α)(y v:α)(l:List α):(pre++y::l).set pre.length v=pre++v::l:=by simp
theorem vyk {α:Type}(pre:List α)(y d:α)(l:List α):(pre++y::l).getD pre.length d=y:=by simp [List.getD]
def vtj:Int→List tRange.D→List tRange.D
 |_,[]=>[]
 |c,y::l=>(vpr c,vpr (c+1))::vtj (c+2) l
theorem vo2:∀(l pre:List tRange.D) (c:Int) (q:Nat),0≤c→c+2*l.length≤9000000→pre.length+l.length≤1048576→l.length<q→
  ∃j:Int,∀k,vab vsi q (c,(pre.length:Int),pre++l) k=k (c+2*l.length,j,pre++vtj c l)
 |[],pre,c,q,h0,hc,hl,hq=>by
  obtain⟨q,rfl⟩:∃r,q=r+1:=⟨q-1,by omega⟩
  refine⟨pre.length,fun k=>?_⟩
  simp only [vab,vsi,List.append_nil,Int.lt_irrefl,decide_false,cond_false,Sum.elim_inr,List.length_nil,vtj]
  simp
 |y::l,pre,c,q,h0,hc,hl,hq=>by
  obtain⟨q,rfl⟩:∃r,q=r+1:=⟨q-1,by omega⟩
  simp only [List.length_cons]at hc hl hq
  obtain⟨j,hj⟩:=vo2 l (pre++[(vpr c,vpr (c+1))]) (c+2) q (by omega) (by omega) (by rw [List.length_append,List.length_singleton];omega) (by omega)
  refine⟨j,fun k=>?_⟩
  have hlt:(pre.length:Int)<((pre++y::l).length:Int):=by rw [List.length_append,List.length_cons];omega
  have hlt2:∀v:tRange.D,(pre.length:Int)<((pre++v::l).length:Int):=fun v=>by rw [List.length_append,List.length_cons];omega
  have w1:IntKind.wrap .i64 (c+1)=c+1:=va9 (by omega) (by omega)
  have w2:IntKind.wrap .i64 (c+1+1)=c+2:=by rw [va9 (by omega) (by omega)];omega
  have w3:IntKind.wrap .i64 ((pre.length:Int)+1)=((pre.length+1:Nat):Int):=vaz (by omega)
  have hp:(0:Int)≤(pre.length:Int):=Int.natCast_nonneg _
  have hj':=hj k
  rw [List.length_append,List.length_singleton,List.append_assoc,List.singleton_append,List.append_assoc,List.singleton_append]at hj'
  simp only [vab,vsi,hlt,decide_true,cond_true,vbr (show c≤10000000 by omega),w1,vbr (show c+1≤10000000 by omega),Int.toNat_natCast,v9u,vyk,hlt2,hp,and_self,if_true,w2,w3,Sum.elim_inl]
  rw [hj']
  simp only [vtj,List.length_cons]
  congr 2
  push_cast
  omega
def vvp:Int→List tWrite.D→List tWrite.D
 |_,[]=>[]
 |c,y::l=>(vpr c,(vpr (c+1),((c+2).tmod 3==0)))::vvp (c+3) l
theorem vp9:∀(l pre:List tWrite.D) (c:Int) (q:Nat),0≤c→c+3*l.length≤9000000→pre.length+l.length≤1048576→l.length<q→
  ∃j:Int,∀k,vab vs7 q (c,(pre.length:Int),pre++l) k=k (c+3*l.length,j,pre++vvp c l)
 |[],pre,c,q,h0,hc,hl,hq=>by
  obtain⟨q,rfl⟩:∃r,q=r+1:=⟨q-1,by omega⟩
  refine⟨pre.length,fun k=>?_⟩
  simp only [vab,vs7,List.append_nil,Int.lt_irrefl,decide_false,cond_false,Sum.elim_inr,List.length_nil,vvp]
  simp
 |y::l,pre,c,q,h0,hc,hl,hq=>by
  obtain⟨q,rfl⟩:∃r,q=r+1:=⟨q-1,by omega⟩
  simp only [List.length_cons]at hc hl hq
  obtain⟨j,hj⟩:=vp9 l (pre++[(vpr c,(vpr (c+1),((c+2).tmod 3==0)))]) (c+3) q (by omega) (by omega) (by rw [List.length_append,List.length_singleton];omega) (by omega)
  refine⟨j,fun k=>?_⟩
  have hlt:(pre.length:Int)<((pre++y::l).length:Int):=by rw [List.length_append,List.length_cons];omega
  have hlt2:∀v:tWrite.D,(pre.length:Int)<((pre++v::l).length:Int):=fun v=>by rw [List.length_append,List.length_cons];omega
  have w1:IntKind.wrap .i64 (c+1)=c+1:=va9 (by omega) (by omega)
  have w2:IntKind.wrap .i64 (c+1+1)=c+2:=by rw [va9 (by omega) (by omega)];omega
  have w4:IntKind.wrap .i64 (c+2+1)=c+3:=by rw [va9 (by omega) (by omega)];omega
  have w3:IntKind.wrap .i64 ((pre.length:Int)+1)=((pre.length+1:Nat):Int):=vaz (by omega)
  have hp:(0:Int)≤(pre.length:Int):=Int.natCast_nonneg _
  have hj':=hj k
  rw [List.length_append,List.length_singleton,List.append_assoc,List.singleton_append,List.append_assoc,List.singleton_append]at hj'
  simp only [vab,vs7,hlt,decide_true,cond_true,vbr (show c≤10000000 by omega),w1,vbr (show c+1≤10000000 by omega),Int.toNat_natCast,v9u,vyk,hlt2,hp,and_self,if_true,w2,w3,w4,Sum.elim_inl]
  rw [hj']
  simp only [vvp,List.length_cons]
  congr 2
  push_cast
  omega
theorem vol {u0 u2}:∀(l:List tRange.D) (c:Int) (i:Nat),0≤c→c+2*l.length≤9000000→∃j:Int,∀k,vm9 u0 u2 (vtj c l) c i k=k (.inr (c+2*l.length,j))
 |[],c,i,_,_=>⟨_,fun k=>by simp only [vtj,vm9,List.length_nil];simp;rfl⟩
 |y::l,c,i,h0,hc=>by
  simp only [List.length_cons]at hc
  obtain⟨j,hj⟩:=vol (u0:=u0) (u2:=u2) l (c+2) (i+1) (by omega) (by omega)
  have w1:IntKind.wrap .i64 (c+1)=c+1:=va9 (by omega) (by omega)
  have w2:IntKind.wrap .i64 (c+1+1)=c+2:=by rw [va9 (by omega) (by omega)];omega
  refine⟨j,fun k=>?_⟩
  simp only [vtj,vm9,vbr (show c≤10000000 by omega),w1,vbr (show c+1≤10000000 by omega),vdb,Bool.not_true,cond_false,w2,hj,List.length_cons]
  congr 3
  push_cast
  omega
theorem vot {u0 u2}:∀(l:List tWrite.D) (c:Int) (i:Nat),0≤c→c+3*l.length≤9000000→∃j:Int,∀k,vmf u0 u2 (vvp c l) c i k=k (.inr (c+3*l.length,j))
 |[],c,i,_,_=>⟨_,fun k=>by simp only [vvp,vmf,List.length_nil];simp;rfl⟩
 |y::l,c,i,h0,hc=>by
  simp only [List.length_cons]at hc
  obtain⟨j,hj⟩:=vot (u0:=u0) (u2:=u2) l (c+3) (i+1) (by omega) (by omega)
  have w1:IntKind.wrap .i64 (c+1)=c+1:=va9 (by omega) (by omega)
  have w2:IntKind.wrap .i64 (c+1+1)=c+2:=by rw [va9 (by omega) (by omega)];omega
  have w4:IntKind.wrap .i64 (c+2+1)=c+3:=by rw [va9 (by omega) (by omega)];omega
  refine⟨j,fun k=>?_⟩
  simp only [vvp,vmf,vbr (show c≤10000000 by omega),w1,vbr (show c+1≤10000000 by omega),vdb,Bool.not_true,cond_false,w2,w4,hj,List.length_cons,beq_self_eq_true]
  congr 3
  push_cast
  omega
end
end Go.VE
/- Plain laws: a range is read. -/
namespace Go.VE
noncomputable section
set_option linter.unusedVariables false
set_option linter.unusedSimpArgs false
set_option maxRecDepth 100000
theorem vfh {t:tTxn.D}(hr:t.2.2.2.2.1.length≤1048576)(hw:t.2.2.2.2.2.1.length≤1048576) (k):vde t k=k (t.1,t.2.1,t.2.2.1,t.2.2.2.1,t.2.2.2.2.2.2.1,t.2.2.2.2.2.2.2,t.2.2.2.2.1,t.2.2.2.2.2.1):=by
 rw [wgm]
 unfold wai
 rw [if_pos (by simp only [List.length_nil,VE.maxLen];omega),if_pos (by simp only [List.length_nil,VE.maxLen];omega)]
 rfl
theorem v05 {t:tTxn.D}(hr:t.2.2.2.2.1.length≤1048576)(hw:t.2.2.2.2.2.1.length≤1048576) (k):vtw t k=k (t.1,t.2.1,t.2.2.1,t.2.2.2.1,t.2.2.2.2.2.2.1,t.2.2.2.2.2.2.2,t.2.2.2.2.1,t.2.2.2.2.2.1):=by
 rw [wyd]
 unfold wm5
 rw [if_pos (by simp only [VE.maxLen];omega),if_pos (by simp only [VE.maxLen];omega)]
end
end Go.VE
/- Plain laws: a transaction's marks. -/
namespace Go.VE
noncomputable section
set_option linter.unusedVariables false
set_option linter.unusedSimpArgs false
set_option maxRecDepth 100000
theorem vwz:∀(c:Int) (l:List tRange.D),(vtj c l).length=l.length
 |_,[]=>rfl
 |c,y::l=>by simp [vtj,vwz (c+2) l]
theorem vxs:∀(c:Int) (l:List tWrite.D),(vvp c l).length=l.length
 |_,[]=>rfl
 |c,y::l=>by simp [vvp,vxs (c+3) l]
end
end Go.VE
/- Plain laws: versions,bases. -/
namespace Go.VE
noncomputable section
set_option linter.unusedVariables false
set_option linter.unusedSimpArgs false
set_option maxRecDepth 100000
def vlx (v:tVersion.D):Bool:=vdg v.1&&decide ((v.2.1.size:Int)≤12)&&(!v.2.2.1||vaj v.2.1 ⟨#[]⟩)&&va4 v.2.2.2 1 9999
def vup (x y:tVersion.D):Bool:=vai x.1 y.1||(vaj x.1 y.1&&decide (x.2.2.2<y.2.2.2))
def vgk:Option tVersion.D→List tVersion.D→Bool
 |_,[]=>true
 |p,y::l=>vlx y&&(match p with|none=>true|some x=>vup x y)&&vgk (some y) l
def vdn (l:List tVersion.D):Bool:=vgk none l&&decide ((l.length:Int)≤120)
def cmpS (x y:ByteArray):Int:=bif vai x y then -1 else bif !(vai x y||vaj x y)then 1 else 0
def cmpI (x y:Int):Int:=bif decide (x<y)then -1 else bif decide (x>y)then 1 else 0
def cmpV (x y:tVersion.D):Int:=bif cmpS x.1 y.1 != 0 then cmpS x.1 y.1 else cmpI x.2.2.2 y.2.2.2
theorem w6w (x y) (k):wdp x y k=k (cmpS x y):=by
 rw [wq6]
 unfold wj6 cmpS
 rw [ww6]
 unfold wk3
 simp only [vdb,Bool.not_true,cond_false]
 cases vai x y<;>cases vaj x y<;>rfl
theorem w7p (x y) (k):wez x y k=k (cmpI x y):=by
 rw [wxp]
 unfold wln cmpI
 rw [wt0]
 unfold wkg
 simp only [bne_self_eq_false,cond_false]
 cases decide (x<y)<;>cases decide (x>y)<;>rfl
theorem wxw (x y:tVersion.D) (k):vvl x y k=k (cmpV x y):=by
 rw [wtd]
 unfold wjj cmpV
 simp only [w6w,w7p]
 cases cmpS x.1 y.1 != 0<;>rfl
theorem w0p (x y:tVersion.D):decide (cmpV x y≥0) = !vup x y:=by
 unfold cmpV vup cmpS cmpI
 cases h1:vai x.1 y.1
 ·cases h2:vaj x.1 y.1
  ·simp
  ·simp only [cond_false,Bool.or_true,Bool.not_true,bne_self_eq_false,Bool.false_or,Bool.true_and]
   by_cases h3:x.2.2.2<y.2.2.2
   ·simp [h3]
   ·by_cases h4:x.2.2.2>y.2.2.2
    ·simp [h3,h4]
    ·simp [h3,h4]
 ·simp
theorem v7z {u0:List tVersion.D}(hu:∀y∈u0,tVersion.wt y≤1048576)(hl:u0.length≤1048576) {u1 u2}:∀(l:List tVersion.D) (i:Nat),u0.drop i=l→∃j:Int,∀k,
  via u0 u1 u2 l i k=k (bif vgk (if i=0 then none else some (u0.getD (i-1) (Ty.zero tVersion))) l then .inr j else .inl (false,j))
 |[],i,_=>⟨_,fun k=>rfl⟩
 |y::l,i,h=>by
  obtain⟨j,hj⟩:=v7z hu hl (u1:=u1) (u2:=u2) l (i+1) (vau h)
  have hlt:=vbt h
  have hy:=(vcs h).2 (Ty.zero tVersion)
  have hyw:=hu y (vc5 h)
  rw [vpk]at hyw
  rw [if_neg (by omega),show i+1-1=i by omega,hy]at hj
  simp only [via,vvs (show y.1.size≤1048576 by omega),wbl,wxw,w0p,hj,vgk,vlx]
  have hsz:decide ((y.2.1.size:Int)>12) = !decide ((y.2.1.size:Int)≤12):=by
   by_cases h:(y.2.1.size:Int)≤12
   ·simp [h]
   ·simp [h];omega
  rw [hsz]
  by_cases hi:i=0
  ·subst hi
   simp only [if_pos,show ¬((0:Nat):Int)>0 by omega,decide_false,cond_false,Bool.and_true]
   cases vdg y.1<;>cases decide ((y.2.1.size:Int)≤12)<;>cases y.2.2.1<;>cases vaj y.2.1 ⟨#[]⟩<;>cases va4 y.2.2.2 1 9999<;>first|(refine⟨((0:Nat):Int),fun k=>?_⟩;simp;done)|(refine⟨j,fun k=>?_⟩;simp;done)
  ·have hw:IntKind.wrap .i64 ((i:Int)-1)=((i-1:Nat):Int):=by rw [va9 (by omega) (by omega)];omega
   have hrd:rd (Ty.zero tVersion) u0 ((i-1:Nat):Int)=u0.getD (i-1) (Ty.zero tVersion):=rfl
   simp only [if_neg hi,show (i:Int)>0 by omega,decide_true,cond_true,hw,hrd,if_pos (show 0≤((i-1:Nat):Int)∧((i-1:Nat):Int)<(u0.length:Int) by omega)]
   cases vdg y.1<;>cases decide ((y.2.1.size:Int)≤12)<;>cases y.2.2.1<;>cases vaj y.2.1 ⟨#[]⟩<;>cases va4 y.2.2.2 1 9999<;>cases vup (u0.getD (i-1) (Ty.zero tVersion)) y<;>first|(refine⟨(i:Int),fun k=>?_⟩;simp;done)|(refine⟨j,fun k=>?_⟩;simp;done)
theorem w6z {x:List tVersion.D}(hx:(Ty.slice tVersion).wt x≤1048576) (k):v0h x k=k (vdn x):=by
 have hl:=vca hx
 rw [xb2 (by omega)]
 unfold wtr vdn
 obtain⟨j,hj⟩:=v7z (u0:=x) (fun y hy=>vbh hy hx) hl (u1:=false) (u2:=x) x 0 rfl
 rw [hj]
 simp only [if_true]
 cases vgk none x<;>rfl
theorem v31 {u0:List tVersion.D}(hu:∀y∈u0,tVersion.wt y≤1048576)(hl:u0.length≤1048576):∀(l:List tVersion.D) (i:Nat),u0.drop i=l→∃j:Int,∀k,
  vhi u0 false l i k=k (bif vgk (if i=0 then none else some (u0.getD (i-1) (Ty.zero tVersion))) l then .inr j else .inl (false,j))
 |[],i,_=>⟨_,fun k=>rfl⟩
 |y::l,i,h=>by
  obtain⟨j,hj⟩:=v31 hu hl l (i+1) (vau h)
  have hlt:=vbt h
  have hy:=(vcs h).2 (Ty.zero tVersion)
  have hyw:=hu y (vc5 h)
  rw [vpk]at hyw
  rw [if_neg (by omega),show i+1-1=i by omega,hy]at hj
  simp only [vhi,vd1,vq4 (show y.1.size≤1048576 by omega),vqr,hj,vgk,vlx]
  have hsz:decide ((y.2.1.size:Int)>12) = !decide ((y.2.1.size:Int)≤12):=by
   by_cases h:(y.2.1.size:Int)≤12
   ·simp [h]
   ·simp [h];omega
  rw [hsz]
  by_cases hi:i=0
  ·subst hi
   simp only [if_pos,show ¬((0:Nat):Int)>0 by omega,decide_false,cond_false,Bool.and_true]
   cases vdg y.1<;>cases decide ((y.2.1.size:Int)≤12)<;>cases y.2.2.1<;>cases vaj y.2.1 ⟨#[]⟩<;>cases va4 y.2.2.2 1 9999<;>first|(refine⟨((0:Nat):Int),fun k=>?_⟩;simp;done)|(refine⟨j,fun k=>?_⟩;simp;done)
  ·have hw:IntKind.wrap .i64 ((i:Int)-1)=((i-1:Nat):Int):=by rw [va9 (by omega) (by omega)];omega
   have hrd:rd (Ty.zero tVersion) u0 ((i-1:Nat):Int)=u0.getD (i-1) (Ty.zero tVersion):=rfl
   simp only [if_neg hi,show (i:Int)>0 by omega,decide_true,cond_true,hw,hrd,if_pos (show 0≤((i-1:Nat):Int)∧((i-1:Nat):Int)<(u0.length:Int) by omega)]
   generalize u0.getD (i-1) (Ty.zero tVersion)=x
   have hge:decide (x.2.2.2≥y.2.2.2) = !decide (x.2.2.2<y.2.2.2):=by rw [Bool.eq_iff_iff];simp
   unfold vup
   rw [hge]
   cases h1:vai x.1 y.1
   ·cases vdg y.1<;>cases decide ((y.2.1.size:Int)≤12)<;>cases y.2.2.1<;>cases vaj y.2.1 ⟨#[]⟩<;>cases va4 y.2.2.2 1 9999<;>cases vaj x.1 y.1<;>cases decide (x.2.2.2<y.2.2.2)<;>first|(refine⟨(i:Int),fun k=>?_⟩;simp;done)|(refine⟨j,fun k=>?_⟩;simp;done)
   ·rw [wo6 h1]
    cases vdg y.1<;>cases decide ((y.2.1.size:Int)≤12)<;>cases y.2.2.1<;>cases vaj y.2.1 ⟨#[]⟩<;>cases va4 y.2.2.2 1 9999<;>first|(refine⟨(i:Int),fun k=>?_⟩;simp;done)|(refine⟨j,fun k=>?_⟩;simp;done)
theorem w2p {x:List tVersion.D}(hx:(Ty.slice tVersion).wt x≤1048576) (k):vsd x k=k (vdn x):=by
 have hl:=vca hx
 rw [w73 (by omega)]
 unfold wh1 vdn
 obtain⟨j,hj⟩:=v31 (u0:=x) (fun y hy=>vbh hy hx) hl x 0 rfl
 rw [hj]
 simp only [if_true]
 cases vgk none x<;>rfl
def vfx (cs:Int):Option tTxn.D→List tTxn.D→Bool
 |_,[]=>true
 |p,y::l=>vc8 y&&(y.2.1==3)&&decide (y.2.2.2.1≤cs)&&(match p with|none=>true|some x=>decide (x.2.2.2.1<y.2.2.2.1))&&vfx cs (some y) l
def vd2 (cs:Int):Option tTxn.D→List tTxn.D→Bool
 |_,[]=>true
 |p,y::l=>vc8 y&&(y.2.1==2)&&decide (y.2.2.1≤cs)&&(match p with|none=>true|some x=>vai x.2.2.2.2.2.2.2 y.2.2.2.2.2.2.2)&&vd2 cs (some y) l
def vnb (nx:Int):List Int→List Int→Bool
 |_,[]=>true
 |pre,y::l=>decide (y<nx) && !(pre.any fun z=>z==y)&&vnb nx (pre++[y]) l
theorem v76 {u5:List tTxn.D}(hu:∀y∈u5,tTxn.wt y≤1048576)(hl:u5.length≤1048576) {u0 u1 u4 u6 u7 u8}:∀(l:List tTxn.D) (i:Nat),u5.drop i=l→∃j:Int,∀k,
  vm6 u0 u1 u4 u5 u6 u7 u8 l i k=k (bif vfx u7 (if i=0 then none else some (u5.getD (i-1) (Ty.zero tTxn))) l then .inr j else .inl (false,j))
 |[],i,_=>⟨_,fun k=>rfl⟩
 |y::l,i,h=>by
  obtain⟨j,hj⟩:=v76 hu hl (u0:=u0) (u1:=u1) (u4:=u4) (u6:=u6) (u7:=u7) (u8:=u8) l (i+1) (vau h)
  have hlt:=vbt h
  have hy:=(vcs h).2 (Ty.zero tTxn)
  rw [if_neg (by omega),show i+1-1=i by omega,hy]at hj
  have hcs:decide (y.2.2.2.1>u7) = !decide (y.2.2.2.1≤u7):=by rw [Bool.eq_iff_iff];simp
  simp only [vm6,wfq (hu y (vc5 h)),we4,hj,vfx,hcs]
  by_cases hi:i=0
  ·subst hi
   simp only [if_pos,show ¬((0:Nat):Int)>0 by omega,decide_false,cond_false,Bool.and_true]
   cases vc8 y<;>cases (y.2.1==3)<;>cases decide (y.2.2.2.1≤u7)<;>first|(refine⟨((0:Nat):Int),fun k=>?_⟩;simp;done)|(refine⟨j,fun k=>?_⟩;simp;done)
  ·have hw:IntKind.wrap .i64 ((i:Int)-1)=((i-1:Nat):Int):=by rw [va9 (by omega) (by omega)];omega
   have hrd:rd (Ty.zero tTxn) u5 ((i-1:Nat):Int)=u5.getD (i-1) (Ty.zero tTxn):=rfl
   simp only [if_neg hi,show (i:Int)>0 by omega,decide_true,cond_true,hw,hrd,if_pos (show 0≤((i-1:Nat):Int)∧((i-1:Nat):Int)<(u5.length:Int) by omega)]
   generalize u5.getD (i-1) (Ty.zero tTxn)=x
   have hge:decide (x.2.2.2.1≥y.2.2.2.1) = !decide (x.2.2.2.1<y.2.2.2.1):=by rw [Bool.eq_iff_iff];simp
   rw [hge]
   cases vc8 y<;>cases (y.2.1==3)<;>cases decide (y.2.2.2.1≤u7)<;>cases decide (x.2.2.2.1<y.2.2.2.1)<;>first|(refine⟨(i:Int),fun k=>?_⟩;simp;done)|(refine⟨j,fun k=>?_⟩;simp;done)
theorem v7s {u6:List tTxn.D}(hu:∀y∈u6,tTxn.wt y≤1048576)(hl:u6.length≤1048576) {u0 u1 u4 u5 u7 u8}:∀(l:List tTxn.D) (i:Nat),u6.drop i=l→∃j:Int,∀k,
  vmm u0 u1 u4 u5 u6 u7 u8 l i k=k (bif vd2 u7 (if i=0 then none else some (u6.getD (i-1) (Ty.zero tTxn))) l then .inr j else .inl (false,j))
 |[],i,_=>⟨_,fun k=>rfl⟩
 |y::l,i,h=>by
  obtain⟨j,hj⟩:=v7s hu hl (u0:=u0) (u1:=u1) (u4:=u4) (u5:=u5) (u7:=u7) (u8:=u8) l (i+1) (vau h)
  have hlt:=vbt h
  have hy:=(vcs h).2 (Ty.zero tTxn)
  rw [if_neg (by omega),show i+1-1=i by omega,hy]at hj
  have hcs:decide (y.2.2.1>u7) = !decide (y.2.2.1≤u7):=by rw [Bool.eq_iff_iff];simp
  simp only [vmm,wfq (hu y (vc5 h)),wrx,hj,vd2,hcs]
  by_cases hi:i=0
  ·subst hi
   simp only [if_pos,show ¬((0:Nat):Int)>0 by omega,decide_false,cond_false,Bool.and_true]
   cases vc8 y<;>cases (y.2.1==2)<;>cases decide (y.2.2.1≤u7)<;>first|(refine⟨((0:Nat):Int),fun k=>?_⟩;simp;done)|(refine⟨j,fun k=>?_⟩;simp;done)
  ·have hw:IntKind.wrap .i64 ((i:Int)-1)=((i-1:Nat):Int):=by rw [va9 (by omega) (by omega)];omega
   have hrd:rd (Ty.zero tTxn) u6 ((i-1:Nat):Int)=u6.getD (i-1) (Ty.zero tTxn):=rfl
   simp only [if_neg hi,show (i:Int)>0 by omega,decide_true,cond_true,hw,hrd,if_pos (show 0≤((i-1:Nat):Int)∧((i-1:Nat):Int)<(u6.length:Int) by omega)]
   generalize u6.getD (i-1) (Ty.zero tTxn)=x
   cases vc8 y<;>cases (y.2.1==2)<;>cases decide (y.2.2.1≤u7)<;>cases vai x.2.2.2.2.2.2.2 y.2.2.2.2.2.2.2<;>first|(refine⟨(i:Int),fun k=>?_⟩;simp;done)|(refine⟨j,fun k=>?_⟩;simp;done)
theorem v7p {u0 u1 u4 u5 u6 u7 u8}:∀(l:List tVersion.D) (i:Nat),∃j:Int,∀k,
  vqg u0 u1 u4 u5 u6 u7 u8 l i k=k (bif l.all (fun y=>decide (y.2.2.2≤u7))then .inr j else .inl (false,j))
 |[],i=>⟨_,fun k=>rfl⟩
 |y::l,i=>by
  obtain⟨j,hj⟩:=v7p (u0:=u0) (u1:=u1) (u4:=u4) (u5:=u5) (u6:=u6) (u7:=u7) (u8:=u8) l (i+1)
  have hcs:decide (y.2.2.2>u7) = !decide (y.2.2.2≤u7):=by rw [Bool.eq_iff_iff];simp
  simp only [vqg,hj,List.all_cons,hcs]
  cases decide (y.2.2.2≤u7)
  ·exact⟨(i:Int),fun k=>rfl⟩
  ·exact⟨j,fun k=>rfl⟩
theorem wdr {u0 u2}{α:Type}:∀(l:List (List tTxn.D)) (s:Int) (i:Nat),0≤s→s+((l.map List.length).sum:Int)≤100000000→∃j:Int,∀k,vm7 u0 u2 l s i k=k (s+((l.map List.length).sum:Int),j)
 |[],s,i,_,_=>⟨_,fun k=>by simp [vm7];rfl⟩
 |y::l,s,i,h0,h=>by
  simp only [List.map_cons,List.sum_cons]at h
  have hw:IntKind.wrap .i64 (s+(y.length:Int))=s+(y.length:Int):=va9 (by omega) (by omega)
  obtain⟨j,hj⟩:=wdr (u0:=u0) (u2:=u2) (α:=α) l (s+(y.length:Int)) (i+1) (by omega) (by push_cast at h;omega)
  refine⟨j,fun k=>?_⟩
  simp only [vm7,hw,show decide (s+(y.length:Int)<0)=false by simp;omega,cond_false,hj]
  congr 2
  simp only [List.map_cons,List.sum_cons]
  push_cast
  omega
theorem vyt {u:List (List tTxn.D)}(hu:u.length≤1000):∀(l:List (List tTxn.D)) (i:Nat) (s:List tTxn.D) (q:Nat),u.drop i=l→s.length+(l.map List.length).sum≤100000000→l.length<q→
  ∃j:Int,∀K,vab ve4 q (.inl (u,(u.length:Int),(i:Int),s)) K=K (.inl (u,(u.length:Int),j,s++l.flatten))
 |[],i,s,q,h,hs,hq=>by
  obtain⟨q,rfl⟩:∃r,q=r+1:=⟨q-1,by omega⟩
  have hi:u.length≤i:=by have:=congrArg List.length h;simp at this;omega
  refine⟨(i:Int),fun K=>?_⟩
  simp only [vab,ve4,Sum.elim_inl,show ¬((i:Int)<(u.length:Int)) by omega,decide_false,cond_false,Sum.elim_inr,List.flatten_nil,List.append_nil]
 |y::l,i,s,q,h,hs,hq=>by
  obtain⟨q,rfl⟩:∃r,q=r+1:=⟨q-1,by omega⟩
  simp only [List.map_cons,List.sum_cons,List.length_cons]at hs hq
  have hlt:=vbt h
  have hy:=(vcs h).1 (Ty.zero (.slice tTxn))
  have hm:s.length+y.length≤VE.maxLen:=by show _≤4294967296;omega
  have hw:IntKind.wrap .i64 ((i:Int)+1)=((i+1:Nat):Int):=vaz (by omega)
  obtain⟨j,hj⟩:=vyt hu l (i+1) (s++y) q (vau h) (by rw [List.length_append];omega) (by omega)
  refine⟨j,fun K=>?_⟩
  simp only [vab,ve4,Sum.elim_inl,show ((i:Int)<(u.length:Int)) by omega,show (0:Int)≤(i:Int) by omega,decide_true,cond_true,and_self,if_true,hy,hm,hw]
  rw [hj,List.flatten_cons,List.append_assoc]
theorem wpl {u:List (List tTxn.D)}(hu:u.length≤1000)(hs:(u.map List.length).sum≤100000000){q:Nat}(hq:u.length<q) :
  ∃z:(_⊕_),(∃j:Int,z = .inl (u,(u.length:Int),j,u.flatten)∨z = .inr (u,(u.length:Int),j,u.flatten))∧∀K,vab ve4 q (.inr (u,(u.length:Int),(0:Int),([]:List tTxn.D))) K=K z:=by
 obtain⟨q,rfl⟩:∃r,q=r+1:=⟨q-1,by omega⟩
 cases h:u with
 |nil=>
  refine⟨_,⟨0,.inr rfl⟩,fun K=>?_⟩
  simp only [vab,ve4,Sum.elim_inr,List.length_nil]
  rfl
 |cons y l=>
  rw [←h]
  have hd:u.drop 0=y::l:=by rw [List.drop_zero,h]
  have hlt:=vbt hd
  have hy:=(vcs hd).1 (Ty.zero (.slice tTxn))
  have hs':y.length+(l.map List.length).sum≤100000000:=by rw [h]at hs;simpa using hs
  have hm:([]:List tTxn.D).length+y.length≤VE.maxLen:=by show _≤4294967296;simp;omega
  have hl:u.length=l.length+1:=by rw [h];rfl
  obtain⟨j,hj⟩:=vyt hu l 1 ([]++y) q (by rw [h];rfl) (by simpa using hs') (by omega)
  refine⟨_,⟨j,.inl rfl⟩,fun K=>?_⟩
  simp only [vab,ve4,Sum.elim_inl,Sum.elim_inr,show ((0:Int)<(u.length:Int)) by omega,Int.le_refl,decide_true,cond_true,and_self,if_true]
  rw [show rd (Ty.zero (.slice tTxn)) u (0:Int)=y from hy,if_pos hm,show IntKind.wrap .i64 ((0:Int)+1)=((1:Nat):Int) by rfl]
  rw [hj]
  congr 2
  rw [h,List.flatten_cons,List.nil_append]
theorem vq7 (n:Int)(h0:0≤n)(h1:n≤100000000):∃y,(y = .inl ([]:List tTxn.D)∨y = .inr ([]:List tTxn.D))∧∀k,v5z n k=k y:=by
 simp only [wti]
 unfold wmz
 have e0:IntKind.wrap .i64 ((0:Int)-0)=0:=va9 (by omega) (by omega)
 have e1:IntKind.wrap .i64 (n-0)=n:=by rw [va9 (by omega) (by omega)];omega
 simp only [e0,e1,show decide (n<0)=false by simp;omega,cond_false]
 by_cases hn:n>0
 ·have e3:0≤n∧n≤(VE.maxLen:Int):=⟨h0,by show n≤4294967296;omega⟩
  simp only [hn,decide_true,cond_true]
  refine⟨_,.inl rfl,fun k=>?_⟩
  rw [if_pos (by omega),if_pos e3,if_pos ⟨by omega,by omega⟩]
  simp
 ·simp only [hn,decide_false,cond_false]
  exact⟨_,.inr rfl,fun k=>rfl⟩
theorem w0b {u:List (List tTxn.D)}(hu:u.length≤1000)(hs:(u.map List.length).sum≤100000000)(f:List tTxn.D→Option Res):vw8 u (Sum.elim f f)=f u.flatten:=by
 rw [xbh (by omega)]
 unfold wwy
 obtain⟨j,hj⟩:=wdr (u0:=u) (u2:=u) (α:=Unit) u 0 0 (by omega) (by omega)
 rw [hj]
 obtain⟨y,hy,hg⟩:=vq7 (0+((u.map List.length).sum:Int)) (by omega) (by omega)
 rw [hg]
 rcases hy with rfl|rfl
 ·simp only [Sum.elim_inl]
  obtain⟨j2,hj2⟩:=vyt hu u 0 [] Fuel (List.drop_zero) (by simpa using hs) (Nat.lt_of_lt_of_le (by omega) vcr)
  rw [show (0:Int)=((0:Nat):Int)from rfl,hj2]
  simp
 ·simp only [Sum.elim_inr]
  obtain⟨z,⟨j2,hz⟩,hj2⟩:=wpl hu hs (q:=Fuel) (Nat.lt_of_lt_of_le (by omega) vcr)
  rw [hj2]
  rcases hz with rfl|rfl<;>simp
theorem w75 {a b:List tTxn.D}(ha:a.length≤1048577)(hb:b.length≤1048577) (f):vw8 [a,b] (Sum.elim f f)=f (a++b):=by
 rw [w0b (by simp) (by simp;omega)]
 simp
theorem w7f (x t:tTxn.D) (k):v6j x t.1 t.2.1 t.2.2.1 t.2.2.2.1 t.2.2.2.2.1 t.2.2.2.2.2.1 t.2.2.2.2.2.2.1 t.2.2.2.2.2.2.2 k=k ((x.1==t.1),t.1,t.2.1,t.2.2.1,t.2.2.2.1,t.2.2.2.2.1,t.2.2.2.2.2.1,t.2.2.2.2.2.2.1,t.2.2.2.2.2.2.2):=by
 rw [wvu];rfl
theorem vyx {u0 u1}{t:tTxn.D}:∀(l:List tTxn.D) (i:Nat),∃a:Nat,∃b:Int,∀k,
  vi5 u0 u1 l t.1 t.2.1 t.2.2.1 t.2.2.2.1 t.2.2.2.2.1 t.2.2.2.2.2.1 t.2.2.2.2.2.2.1 t.2.2.2.2.2.2.2 i k=k (bif l.any (fun x=>x.1==t.1)then .inl ((a:Int),b,t.1,t.2.1,t.2.2.1,t.2.2.2.1,t.2.2.2.2.1,t.2.2.2.2.2.1,t.2.2.2.2.2.2.1,t.2.2.2.2.2.2.2)else .inr (b,t.1,t.2.1,t.2.2.1,t.2.2.2.1,t.2.2.2.2.1,t.2.2.2.2.2.1,t.2.2.2.2.2.2.1,t.2.2.2.2.2.2.2))
 |[],i=>⟨0,_,fun k=>rfl⟩
 |y::l,i=>by
  obtain⟨a,b,hab⟩:=vyx (u0:=u0) (u1:=u1) (t:=t) l (i+1)
  simp only [vi5,w7f,hab,List.any_cons]
  cases y.1==t.1
  ·exact⟨a,b,fun k=>rfl⟩
  ·exact⟨i,(i:Int),fun k=>rfl⟩
theorem w7q {t:tTxn.D}{l:List tTxn.D}(hlen:l.length≤3000000) (k):v6a l t.1 t.2.1 t.2.2.1 t.2.2.2.1 t.2.2.2.2.1 t.2.2.2.2.2.1 t.2.2.2.2.2.2.1 t.2.2.2.2.2.2.2 k=k (l.any (fun x=>x.1==t.1),t.1,t.2.1,t.2.2.1,t.2.2.2.1,t.2.2.2.2.1,t.2.2.2.2.2.1,t.2.2.2.2.2.2.1,t.2.2.2.2.2.2.2):=by
 obtain⟨a,b,hab⟩:=vyx (u0:=l) (u1:=0) (t:=t) l 0
 rw [wyf]
 unfold wlq
 rw [wwj]
 unfold wk4
 rw [w6s (by omega)]
 unfold wf9
 rw [hab]
 cases (l.any fun x=>x.1==t.1)
 ·rfl
 ·have:decide ((a:Int)≥0)=true:=by simp
  simp only [cond_true,Sum.elim_inl,this]
theorem v50 {u0:List tTxn.D}(hl:u0.length≤3000000) {u1 u2 u3}:∀(l:List tTxn.D) (i:Nat),u0.drop i=l→∃j:Int,∀k,
  vqk u0 u1 u2 u3 l i k=k (bif vnb u1 ((u0.take i).map (·.1)) (l.map (·.1))then .inr j else .inl (false,j))
 |[],i,_=>⟨_,fun k=>rfl⟩
 |y::l,i,h=>by
  obtain⟨j,hj⟩:=v50 hl (u1:=u1) (u2:=u2) (u3:=u3) l (i+1) (vau h)
  have hlt:=vbt h
  have hge:decide (y.1≥u1) = !decide (y.1<u1):=by rw [Bool.eq_iff_iff];simp
  have hy:u0[i]=y:=by have:=vi9 h;rw [List.getElem?_eq_getElem hlt]at this;exact Option.some.inj this
  have htk:(u0.take (i+1)).map (·.1)=(u0.take i).map (·.1)++[y.1]:=by rw [List.take_succ_eq_append_getElem hlt,List.map_append,hy];rfl
  have han:((u0.take i).map (·.1)).any (fun z=>z==y.1)=(u0.take i).any (fun x=>x.1==y.1):=by rw [List.any_map];rfl
  rw [htk]at hj
  have hsl:((u0.take (i:Int).toNat).drop (0:Int).toNat)=u0.take i:=by simp
  simp only [vqk,if_pos (show 0≤(0:Int)∧(0:Int)≤(i:Int)∧(i:Int)≤(u0.length:Int) by omega),hsl,w7q (t:=y) (show (u0.take i).length≤3000000 by simp;omega),hj,hge,List.map_cons,vnb,han]
  cases decide (y.1<u1)<;>cases (u0.take i).any (fun x=>x.1==y.1)<;>first|(refine⟨(i:Int),fun k=>?_⟩;simp;done)|(refine⟨j,fun k=>?_⟩;simp;done)
theorem w8p {l:List tTxn.D}(hl:l.length≤3000000)(n:Int) (k):vuy l n k=k (vnb n [] (l.map (·.1))):=by
 rw [xcc (by omega)]
 unfold wv0
 obtain⟨j,hj⟩:=v50 (u0:=l) hl (u1:=n) (u2:=false) (u3:=l) l 0 rfl
 rw [hj]
 simp only [List.take_zero,List.map_nil]
 cases vnb n [] (l.map (·.1))<;>rfl
def vbo (b:tBase.D):Bool:=
 vdn b.1&&decide ((b.2.1.length:Int)≤12)&&decide ((b.2.2.1.length:Int)≤3)&&va4 b.2.2.2.1 0 9999&&va4 b.2.2.2.2 1 9999 &&
  (b.1.all fun y=>decide (y.2.2.2≤b.2.2.2.1))&&vfx b.2.2.2.1 none b.2.1&&vd2 b.2.2.2.1 none b.2.2.1&&vnb b.2.2.2.2 [] (b.2.1.map (·.1)++b.2.2.1.map (·.1))
theorem vht {b:tBase.D}(hb:tBase.wt b≤1048576):(Ty.slice tVersion).wt b.1≤1048576∧(Ty.slice tTxn).wt b.2.1≤1048576∧(Ty.slice tTxn).wt b.2.2.1≤1048576:=by
 rw [voy]at hb;omega
theorem whm {b:tBase.D}(hb:tBase.wt b≤1048576) (k):vrd b k=k (vbo b):=by
 obtain⟨h1,h2,h3⟩:=vht hb
 have l1:=vca h1
 have l2:=vca h2
 have l3:=vca h3
 rw [xa2 (by omega) (by omega) (by omega)]
 unfold wui vbo
 have hs1:decide ((b.2.1.length:Int)>12) = !decide ((b.2.1.length:Int)≤12):=by rw [Bool.eq_iff_iff];simp
 have hs2:decide ((b.2.2.1.length:Int)>3) = !decide ((b.2.2.1.length:Int)≤3):=by rw [Bool.eq_iff_iff];simp
 simp only [w6z h1,wbl,hs1,hs2]
 cases vdn b.1
 ·rfl
 cases decide ((b.2.1.length:Int)≤12)
 ·rfl
 cases decide ((b.2.2.1.length:Int)≤3)
 ·rfl
 cases va4 b.2.2.2.1 0 9999
 ·rfl
 cases va4 b.2.2.2.2 1 9999
 ·rfl
 simp only [Bool.not_true,cond_false,Bool.true_and,Bool.and_self,vgf]
 obtain⟨j0,hj0⟩:=v7p (u0:=false) (u1:=b.1) (u4:=b.1) (u5:=b.2.1) (u6:=b.2.2.1) (u7:=b.2.2.2.1) (u8:=b.2.2.2.2) b.1 0
 rw [hj0]
 cases (b.1.all fun y=>decide (y.2.2.2≤b.2.2.2.1))
 ·rfl
 obtain⟨j2,hj2⟩:=v76 (u5:=b.2.1) (fun y hy=>vbh hy h2) l2 (u0:=false) (u1:=b.2.1) (u4:=b.1) (u6:=b.2.2.1) (u7:=b.2.2.2.1) (u8:=b.2.2.2.2) b.2.1 0 rfl
 simp only [cond_true,Sum.elim_inr,hj2,if_true]
 cases vfx b.2.2.2.1 none b.2.1
 ·rfl
 obtain⟨j4,hj4⟩:=v7s (u6:=b.2.2.1) (fun y hy=>vbh hy h3) l3 (u0:=false) (u1:=b.2.2.1) (u4:=b.1) (u5:=b.2.1) (u7:=b.2.2.2.1) (u8:=b.2.2.2.2) b.2.2.1 0 rfl
 simp only [cond_true,Sum.elim_inr,hj4,if_true]
 cases vd2 b.2.2.2.1 none b.2.2.1
 ·rfl
 simp only [cond_true,Sum.elim_inr,w75 (show b.2.1.length≤1048577 by omega) (show b.2.2.1.length≤1048577 by omega),w8p (show (b.2.1++b.2.2.1).length≤3000000 by simp;omega),List.map_append,Bool.true_and]
theorem v3r {u0 u2 u3 u4 u5 u6}:∀(l:List tVersion.D) (i:Nat),∃j:Int,∀k,
  vjl u0 u2 u3 u4 u5 u6 l i k=k (bif l.all (fun y=>decide (y.2.2.2≤u5))then .inr j else .inl (false,j))
 |[],i=>⟨_,fun k=>rfl⟩
 |y::l,i=>by
  obtain⟨j,hj⟩:=v3r (u0:=u0) (u2:=u2) (u3:=u3) (u4:=u4) (u5:=u5) (u6:=u6) l (i+1)
  have hcs:decide (y.2.2.2>u5) = !decide (y.2.2.2≤u5):=by rw [Bool.eq_iff_iff];simp
  simp only [vjl,hj,List.all_cons,hcs]
  cases decide (y.2.2.2≤u5)
  ·exact⟨(i:Int),fun k=>rfl⟩
  ·exact⟨j,fun k=>rfl⟩
theorem v0p {u3:List tTxn.D}(hu:∀y∈u3,tTxn.wt y≤1048576)(hl:u3.length≤1048576) {u0 u2 u4 u5 u6}:∀(l:List tTxn.D) (s:List Int) (i:Nat),u3.drop i=l→s.length+l.length≤3000000→∃j:Int,∃s':List Int,∀k,
  vgj u0 u2 u3 u4 u5 u6 l s i k=k (bif vfx u5 (if i=0 then none else some (u3.getD (i-1) (Ty.zero tTxn))) l then .inr (j,s++l.map (·.1))else .inl (false,j,s'))
 |[],s,i,_,_=>⟨_,s,fun k=>by simp [vgj,vfx];rfl⟩
 |y::l,s,i,h,hs=>by
  obtain⟨j,s',hj⟩:=v0p hu hl (u0:=u0) (u2:=u2) (u4:=u4) (u5:=u5) (u6:=u6) l (s++[y.1]) (i+1) (vau h) (by simp at hs ⊢;omega)
  have hlt:=vbt h
  have hy:=(vcs h).2 (Ty.zero tTxn)
  rw [if_neg (by omega),show i+1-1=i by omega,hy]at hj
  have hcs:decide (y.2.2.2.1>u5) = !decide (y.2.2.2.1≤u5):=by rw [Bool.eq_iff_iff];simp
  have hm:s.length+[y.1].length≤VE.maxLen:=by show _≤4294967296;simp at hs ⊢;omega
  have hb:(y.2.1 != 3) = !(y.2.1==3):=rfl
  simp only [vgj,wb9 (hu y (vc5 h)),if_pos hm,hj,vfx,hcs,hb]
  by_cases hi:i=0
  ·subst hi
   simp only [if_pos,show ¬((0:Nat):Int)>0 by omega,decide_false,cond_false,Bool.and_true]
   cases vc8 y<;>cases (y.2.1==3)<;>cases decide (y.2.2.2.1≤u5)<;>first|(refine⟨((0:Nat):Int),s,fun k=>?_⟩;simp;done)|(refine⟨j,s',fun k=>?_⟩;simp;done)
  ·have hw:IntKind.wrap .i64 ((i:Int)-1)=((i-1:Nat):Int):=by rw [va9 (by omega) (by omega)];omega
   have hrd:rd (Ty.zero tTxn) u3 ((i-1:Nat):Int)=u3.getD (i-1) (Ty.zero tTxn):=rfl
   simp only [if_neg hi,show (i:Int)>0 by omega,decide_true,cond_true,hw,hrd,if_pos (show 0≤((i-1:Nat):Int)∧((i-1:Nat):Int)<(u3.length:Int) by omega)]
   generalize u3.getD (i-1) (Ty.zero tTxn)=x
   have hge:decide (x.2.2.2.1≥y.2.2.2.1) = !decide (x.2.2.2.1<y.2.2.2.1):=by rw [Bool.eq_iff_iff];simp
   rw [hge]
   cases vc8 y<;>cases (y.2.1==3)<;>cases decide (y.2.2.2.1≤u5)<;>cases decide (x.2.2.2.1<y.2.2.2.1)<;>first|(refine⟨(i:Int),s,fun k=>?_⟩;simp;done)|(refine⟨j,s',fun k=>?_⟩;simp;done)
theorem vzk {u4:List tTxn.D}(hu:∀y∈u4,tTxn.wt y≤1048576)(hl:u4.length≤1048576) {u0 u2 u3 u5 u6}:∀(l:List tTxn.D) (s:List Int) (i:Nat),u4.drop i=l→s.length+l.length≤3000000→∃j:Int,∃s':List Int,∀k,
  vgd u0 u2 u3 u4 u5 u6 l s i k=k (bif vd2 u5 (if i=0 then none else some (u4.getD (i-1) (Ty.zero tTxn))) l then .inr (j,s++l.map (·.1))else .inl (false,j,s'))
 |[],s,i,_,_=>⟨_,s,fun k=>by simp [vgd,vd2];rfl⟩
 |y::l,s,i,h,hs=>by
  obtain⟨j,s',hj⟩:=vzk hu hl (u0:=u0) (u2:=u2) (u3:=u3) (u5:=u5) (u6:=u6) l (s++[y.1]) (i+1) (vau h) (by simp at hs ⊢;omega)
  have hlt:=vbt h
  have hy:=(vcs h).2 (Ty.zero tTxn)
  rw [if_neg (by omega),show i+1-1=i by omega,hy]at hj
  have hcs:decide (y.2.2.1>u5) = !decide (y.2.2.1≤u5):=by rw [Bool.eq_iff_iff];simp
  have hm:s.length+[y.1].length≤VE.maxLen:=by show _≤4294967296;simp at hs ⊢;omega
  have hb:(y.2.1 != 2) = !(y.2.1==2):=rfl
  simp only [vgd,wb9 (hu y (vc5 h)),if_pos hm,hj,vd2,hcs,hb]
  by_cases hi:i=0
  ·subst hi
   simp only [if_pos,show ¬((0:Nat):Int)>0 by omega,decide_false,cond_false,Bool.and_true]
   cases vc8 y<;>cases (y.2.1==2)<;>cases decide (y.2.2.1≤u5)<;>first|(refine⟨((0:Nat):Int),s,fun k=>?_⟩;simp;done)|(refine⟨j,s',fun k=>?_⟩;simp;done)
  ·have hw:IntKind.wrap .i64 ((i:Int)-1)=((i-1:Nat):Int):=by rw [va9 (by omega) (by omega)];omega
   have hrd:rd (Ty.zero tTxn) u4 ((i-1:Nat):Int)=u4.getD (i-1) (Ty.zero tTxn):=rfl
   simp only [if_neg hi,show (i:Int)>0 by omega,decide_true,cond_true,hw,hrd,if_pos (show 0≤((i-1:Nat):Int)∧((i-1:Nat):Int)<(u4.length:Int) by omega)]
   generalize u4.getD (i-1) (Ty.zero tTxn)=x
   cases vc8 y<;>cases (y.2.1==2)<;>cases decide (y.2.2.1≤u5)<;>cases vai x.2.2.2.2.2.2.2 y.2.2.2.2.2.2.2<;>first|(refine⟨(i:Int),s,fun k=>?_⟩;simp;done)|(refine⟨j,s',fun k=>?_⟩;simp;done)
theorem v15 {U:List Int}(hU:U.length≤3000000){x1:Bool} {v p r cs nx}{n:Nat}(hn:n<U.length):∀(d m q:Nat),n-m=d→m≤n→d<q→∃m':Int,∀K,
  vab vm2 q (x1,(n:Int),(m:Int),v,p,r,cs,nx,U) K=K (bif ((U.take n).drop m).any (fun z=>z==U.getD n 0)then .inl (false,(n:Int),m',v,p,r,cs,nx,U)else .inr (x1,(n:Int),m',v,p,r,cs,nx,U))
 |d,m,0,_,_,h=>by omega
 |d,m,q+1,hd,hm,hq=>by
  by_cases hlt:m<n
  ·obtain⟨m',hm'⟩:=v15 hU hn (x1:=x1) (v:=v) (p:=p) (r:=r) (cs:=cs) (nx:=nx) (d-1) (m+1) q (by omega) (by omega) (by omega)
   have hdr:(U.take n).drop m=U.getD m 0::(U.take n).drop (m+1):=by
    rw [List.drop_eq_getElem_cons (by simp;omega),List.getElem_take]
    congr 1
    exact(vew 0 (by omega)).symm
   have hw:IntKind.wrap .i64 ((m:Int)+1)=((m+1:Nat):Int):=vaz (by omega)
   have z0:Ty.zero (.int .i64)=(0:Int):=rfl
   simp only [vab,vm2,show (m:Int)<(n:Int) by omega,decide_true,cond_true,if_pos (show 0≤(m:Int)∧(m:Int)<(U.length:Int) by omega),if_pos (show 0≤(n:Int)∧(n:Int)<(U.length:Int) by omega),Int.toNat_natCast,hdr,List.any_cons,z0]
   cases hc:U.getD m 0==U.getD n 0
   ·refine⟨m',fun K=>?_⟩
    simp only [cond_false,Sum.elim_inl,hw,Bool.false_or]
    exact hm' K
   ·exact⟨(m:Int),fun K=>by simp⟩
  ·have hmn:m=n:=by omega
   subst hmn
   refine⟨(m:Int),fun K=>?_⟩
   simp only [vab,vm2,show ¬(m:Int)<(m:Int) by omega,decide_false,cond_false,Sum.elim_inr]
   have:(U.take m).drop m=[]:=List.drop_eq_nil_of_le (by simp;omega)
   rw [this];rfl
theorem vy4 {U:List Int}(hU:U.length≤3000000){x1:Bool} {v p r cs nx}:∀(l:List Int) (n q:Nat),U.drop n=l→l.length<q→∃b:Bool,∃n':Int,∀K,
  vab vj1 q (x1,(n:Int),v,p,r,cs,nx,U) K=K (bif vnb nx (U.take n) l then .inl (b,n',v,p,r,cs,nx,U)else .inr (false,n',v,p,r,cs,nx,U))
 |l,n,0,_,h=>by omega
 |[],n,q+1,h,_=>by
  have hge:=vv1 h
  refine⟨x1,(n:Int),fun K=>?_⟩
  simp only [vab,vj1,hge,decide_false,cond_false,Sum.elim_inr]
  rfl
 |y::l,n,q+1,h,hq=>by
  have hlt:=vbt h
  have hy:U.getD n 0=y:=(vcs h).2 0
  have hy2:U[n]=y:=by have:=vi9 h;rw [List.getElem?_eq_getElem hlt]at this;exact Option.some.inj this
  obtain⟨m',hm'⟩:=v15 hU (x1:=x1) (v:=v) (p:=p) (r:=r) (cs:=cs) (nx:=nx) hlt n 0 Fuel (by omega) (Nat.zero_le _) (Nat.lt_of_lt_of_le (by omega) vcr)
  obtain⟨b,n',hn'⟩:=vy4 hU (x1:=x1) (v:=v) (p:=p) (r:=r) (cs:=cs) (nx:=nx) l (n+1) q (vau h) (by simpa using hq)
  have htk:U.take (n+1)=U.take n++[y]:=by rw [List.take_succ_eq_append_getElem hlt,hy2]
  rw [htk]at hn'
  have hw:IntKind.wrap .i64 ((n:Int)+1)=((n+1:Nat):Int):=vaz (by omega)
  have z0:Ty.zero (.int .i64)=(0:Int):=rfl
  have hge:decide (y≥nx) = !decide (y<nx):=by rw [Bool.eq_iff_iff];simp
  have hz:((0:Nat):Int)=0:=rfl
  rw [hz]at hm'
  simp only [vab,vj1,show (n:Int)<(U.length:Int) by omega,decide_true,cond_true,hm',List.drop_zero,vnb,hy]
  cases (U.take n).any (fun z=>z==y)
  ·cases hc:decide (y<nx)
   ·refine⟨b,(n:Int),fun K=>?_⟩
    simp only [cond_false,Sum.elim_inr,if_pos (show 0≤(n:Int)∧(n:Int)<(U.length:Int) by omega),Int.toNat_natCast,z0,hy,hge,hc,Bool.not_false,cond_true,Bool.false_and]
   ·refine⟨b,n',fun K=>?_⟩
    simp only [cond_false,Sum.elim_inr,Sum.elim_inl,if_pos (show 0≤(n:Int)∧(n:Int)<(U.length:Int) by omega),Int.toNat_natCast,z0,hy,hge,hc,Bool.not_true,Bool.not_false,Bool.true_and,hw]
    exact hn' K
  ·refine⟨b,(n:Int),fun K=>?_⟩
   simp only [cond_true,Sum.elim_inl,Sum.elim_inr,Bool.not_true,Bool.and_false,Bool.false_and,cond_false]
theorem v9z {b:tBase.D}(hb:tBase.wt b≤1048576) (k):vir b k=k (vbo b):=by
 obtain⟨h1,h2,h3⟩:=vht hb
 have l1:=vca h1
 have l2:=vca h2
 have l3:=vca h3
 rw [w8c (by omega) (by omega) (by omega)]
 unfold whl vbo
 have hs1:decide ((b.2.1.length:Int)>12) = !decide ((b.2.1.length:Int)≤12):=by rw [Bool.eq_iff_iff];simp
 have hs2:decide ((b.2.2.1.length:Int)>3) = !decide ((b.2.2.1.length:Int)≤3):=by rw [Bool.eq_iff_iff];simp
 simp only [w2p h1,vqr,hs1,hs2]
 cases vdn b.1
 ·rfl
 cases decide ((b.2.1.length:Int)≤12)
 ·rfl
 cases decide ((b.2.2.1.length:Int)≤3)
 ·rfl
 cases va4 b.2.2.2.1 0 9999
 ·rfl
 cases va4 b.2.2.2.2 1 9999
 ·rfl
 simp only [Bool.not_true,cond_false,Bool.true_and,Bool.and_self,vf0]
 obtain⟨j0,hj0⟩:=v3r (u0:=false) (u2:=b.1) (u3:=b.2.1) (u4:=b.2.2.1) (u5:=b.2.2.2.1) (u6:=b.2.2.2.2) b.1 0
 rw [hj0]
 cases (b.1.all fun y=>decide (y.2.2.2≤b.2.2.2.1))
 ·rfl
 obtain⟨j2,s2,hj2⟩:=v0p (u3:=b.2.1) (fun y hy=>vbh hy h2) l2 (u0:=false) (u2:=b.1) (u4:=b.2.2.1) (u5:=b.2.2.2.1) (u6:=b.2.2.2.2) b.2.1 [] 0 rfl (by simp;omega)
 simp only [cond_true,Sum.elim_inr,hj2,if_true]
 cases vfx b.2.2.2.1 none b.2.1
 ·rfl
 obtain⟨j4,s4,hj4⟩:=vzk (u4:=b.2.2.1) (fun y hy=>vbh hy h3) l3 (u0:=false) (u2:=b.1) (u3:=b.2.1) (u5:=b.2.2.2.1) (u6:=b.2.2.2.2) b.2.2.1 (b.2.1.map (·.1)) 0 rfl (by simp;omega)
 simp only [cond_true,Sum.elim_inr,List.nil_append,hj4,if_true]
 cases vd2 b.2.2.2.1 none b.2.2.1
 ·rfl
 obtain⟨bb,n',hn'⟩:=vy4 (U:=b.2.1.map (·.1)++b.2.2.1.map (·.1)) (by simp;omega) (x1:=false) (v:=b.1) (p:=b.2.1) (r:=b.2.2.1) (cs:=b.2.2.2.1) (nx:=b.2.2.2.2) _ 0 Fuel rfl (Nat.lt_of_lt_of_le (by simp;omega) vcr)
 have hz:((0:Nat):Int)=0:=rfl
 rw [hz]at hn'
 simp only [cond_true,Sum.elim_inr,hn',List.take_zero,List.drop_zero,Bool.true_and]
 cases vnb b.2.2.2.2 [] (b.2.1.map (·.1)++b.2.2.1.map (·.1))<;>rfl
end
end Go.VE
/- Plain laws: numbers and texts that are read. -/
namespace Go.VE
noncomputable section
set_option linter.unusedVariables false
set_option linter.unusedSimpArgs false
set_option maxRecDepth 100000
def encN (n:Nat):List Int:=if n>127 then((n % 128+128:Nat):Int)::encN (n / 128)else [(n:Int)]
 termination_by n
 decreasing_by omega
def rvF (i n:Nat):List Int→Option (Nat×Nat)
 |[]=>none
 |c::l=>if 5≤i then none else
   if c<128 then(if n+(c.toNat % 128)*128^i≤1000000000∧(encN (n+(c.toNat % 128)*128^i)).length=i+1 then some (n+(c.toNat % 128)*128^i,i+1)else none)
   else rvF (i+1) (n+(c.toNat % 128)*128^i) l
def rvR (a:Nat):Option (Nat×Nat)→Int×Int×Bool
 |none=>(0,0,false)
 |some (n,c)=>((n:Int),((a+c:Nat):Int),true)
def wbh (s:ByteArray)(a:Int):Int×Int×Bool:=
 bif va4 a 0 (s.size:Int)then rvR a.toNat (rvF 0 0 ((vck s).drop a.toNat))else(0,0,false)
def numB (s:ByteArray)(a:Int)(b:Bool):Int×Int×Bool:=
 bif b then((0:Int),a,true)else bif !(wbh s a).2.2 then((0:Int),a,true)else((wbh s a).1,(wbh s a).2.1,b)
def nx (s:ByteArray)(p:Int×Int×Bool):Int×Int×Bool:=numB s p.2.1 p.2.2
end
end Go.VE
/- Plain laws: an engine and a record are right. -/
namespace Go.VE
noncomputable section
set_option linter.unusedVariables false
set_option linter.unusedSimpArgs false
set_option maxRecDepth 100000
def vrk (t:tTxn.D):Bool:=(t.1==0)&&(t.2.1==0)&&(t.2.2.1==0)&&(t.2.2.2.1==0)&&((t.2.2.2.2.1.length:Int)==0)&&((t.2.2.2.2.2.1.length:Int)==0) && !t.2.2.2.2.2.2.1&&vaj t.2.2.2.2.2.2.2 ⟨#[]⟩
def vgb (b:tBase.D):Bool:=(b.2.2.2.1==0)&&(b.2.2.2.2==0)&&((b.1.length:Int)==0)&&((b.2.1.length:Int)==0)&&((b.2.2.1.length:Int)==0)
theorem w6t (t:tTxn.D) (k):v5r t k=k (vrk t):=by
 rw [wxy];unfold wjr vrk
 cases (t.1==0)<;>cases (t.2.1==0)<;>cases (t.2.2.1==0)<;>cases (t.2.2.2.1==0)<;>cases ((t.2.2.2.2.1.length:Int)==0)<;>cases ((t.2.2.2.2.2.1.length:Int)==0)<;>cases t.2.2.2.2.2.2.1<;>rfl
theorem w3b (t:tTxn.D) (k):vpu t k=k (vrk t):=by
 rw [wg3];unfold waf vrk
 cases (t.1==0)<;>cases (t.2.1==0)<;>cases (t.2.2.1==0)<;>cases (t.2.2.2.1==0)<;>cases ((t.2.2.2.2.1.length:Int)==0)<;>cases ((t.2.2.2.2.2.1.length:Int)==0)<;>cases t.2.2.2.2.2.2.1<;>rfl
theorem w8l (b:tBase.D) (k):v7u b k=k (vgb b):=by
 rw [wxv];unfold wmv vgb
 cases (b.2.2.2.1==0)<;>cases (b.2.2.2.2==0)<;>cases ((b.1.length:Int)==0)<;>cases ((b.2.1.length:Int)==0)<;>cases ((b.2.2.1.length:Int)==0)<;>rfl
theorem wzn (b:tBase.D) (k):vvu b k=k (vgb b):=by
 rw [wii];unfold v94 vgb
 cases (b.2.2.2.1==0)<;>cases (b.2.2.2.2==0)<;>cases ((b.1.length:Int)==0)<;>cases ((b.2.1.length:Int)==0)<;>cases ((b.2.2.1.length:Int)==0)<;>rfl
def vea (r:tRecord.D):Bool:=
 bif r.1==1 then vc8 r.2.1&&(r.2.1.2.1==3)&&vaj r.2.2.1 ⟨#[]⟩&&vgb r.2.2.2.2 && !r.2.2.2.1 else
 bif r.1==2 then vc8 r.2.1&&(r.2.1.2.1==2)&&vaj r.2.2.1 ⟨#[]⟩&&vgb r.2.2.2.2 && !r.2.2.2.1 else
 bif r.1==3 then vrk r.2.1&&vdg r.2.2.1&&vgb r.2.2.2.2 else
 bif r.1==4 then vrk r.2.1&&vaj r.2.2.1 ⟨#[]⟩&&vbo r.2.2.2.2 && !r.2.2.2.1 else false
theorem w6y {r:tRecord.D}(hr:tRecord.wt r≤1048576) (k):v6k r k=k (vea r):=by
 rw [vgl]at hr
 have h1:tTxn.wt r.2.1≤1048576:=by omega
 have h2:r.2.2.1.size≤1048576:=by omega
 have h3:tBase.wt r.2.2.2.2≤1048576:=by omega
 rw [w92]
 unfold wqh vea
 simp only [w6t,w8l,wfq h1,we4,wrx,vvs h2,whm h3,vb5]
 by_cases k1:r.1=1
 ·rw [k1]
  cases vc8 r.2.1<;>cases (r.2.1.2.1==3)<;>cases vaj r.2.2.1 ⟨#[]⟩<;>cases vgb r.2.2.2.2<;>cases r.2.2.2.1<;>rfl
 by_cases k2:r.1=2
 ·rw [k2]
  cases vc8 r.2.1<;>cases (r.2.1.2.1==2)<;>cases vaj r.2.2.1 ⟨#[]⟩<;>cases vgb r.2.2.2.2<;>cases r.2.2.2.1<;>rfl
 by_cases k3:r.1=3
 ·rw [k3]
  cases vrk r.2.1<;>cases vdg r.2.2.1<;>cases vgb r.2.2.2.2<;>cases r.2.2.2.1<;>rfl
 by_cases k4:r.1=4
 ·rw [k4]
  cases vrk r.2.1<;>cases vaj r.2.2.1 ⟨#[]⟩<;>cases vbo r.2.2.2.2<;>cases r.2.2.2.1<;>rfl
 simp only [beq_eq_false_iff_ne.2 k1,beq_eq_false_iff_ne.2 k2,beq_eq_false_iff_ne.2 k3,beq_eq_false_iff_ne.2 k4,cond_false]
theorem wpi {n:Int}(k1:n≠1)(k2:n≠2)(k3:n≠3)(k4:n≠4):va4 n 1 4=false:=by
 unfold va4
 by_cases q1:n≥1
 ·rw [decide_eq_false (show ¬n≤4 by omega),Bool.and_false]
 ·rw [decide_eq_false q1];rfl
theorem w3j {r:tRecord.D}(hr:tRecord.wt r≤1048576) (k):vv5 r k=k (vea r):=by
 rw [vgl]at hr
 have h1:tTxn.wt r.2.1≤1048576:=by omega
 have h2:r.2.2.1.size≤1048576:=by omega
 have h3:tBase.wt r.2.2.2.2≤1048576:=by omega
 rw [w9k]
 unfold wgh vea
 simp only [vqr,vd0,vat,vco,va7,w3b,wzn,wb9 h1,vq4 h2,v9z h3]
 have hs:(r.2.1.2.1 != 3) = !(r.2.1.2.1==3):=rfl
 have hs2:(r.2.1.2.1 != 2) = !(r.2.1.2.1==2):=rfl
 rw [hs,hs2]
 by_cases k1:r.1=1
 ·rw [k1]
  cases vc8 r.2.1<;>cases (r.2.1.2.1==3)<;>cases vaj r.2.2.1 ⟨#[]⟩<;>cases vgb r.2.2.2.2<;>cases r.2.2.2.1<;>rfl
 by_cases k2:r.1=2
 ·rw [k2]
  cases vc8 r.2.1<;>cases (r.2.1.2.1==2)<;>cases vaj r.2.2.1 ⟨#[]⟩<;>cases vgb r.2.2.2.2<;>cases r.2.2.2.1<;>rfl
 by_cases k3:r.1=3
 ·rw [k3]
  cases vrk r.2.1<;>cases vdg r.2.2.1<;>cases vgb r.2.2.2.2<;>cases r.2.2.2.1<;>rfl
 by_cases k4:r.1=4
 ·rw [k4]
  cases vrk r.2.1<;>cases vaj r.2.2.1 ⟨#[]⟩<;>cases vbo r.2.2.2.2<;>cases r.2.2.2.1<;>rfl
 have hw:va4 r.1 1 4=false:=wpi k1 k2 k3 k4
 simp only [hw,Bool.not_false,cond_true,beq_eq_false_iff_ne.2 k1,beq_eq_false_iff_ne.2 k2,beq_eq_false_iff_ne.2 k3,beq_eq_false_iff_ne.2 k4,cond_false]
end
end Go.VE
/- Plain laws: a base's text. -/
namespace Go.VE
noncomputable section
set_option linter.unusedVariables false
set_option linter.unusedSimpArgs false
set_option maxRecDepth 100000
def wwd (y:tVersion.D):Prop:=y.1.size≤12∧y.2.1.size≤12∧0≤y.2.2.2∧y.2.2.2≤16383
theorem vxj:∀{l:List tVersion.D} {p},vgk p l=true→∀y∈l,vlx y=true
 |[],_,_,y,hy=>by cases hy
 |z::l,p,h,y,hy=>by
  simp only [vgk,Bool.and_eq_true]at h
  cases hy with
  |head=>exact h.1.1
  |tail _ hm=>exact vxj h.2 y hm
theorem vya {l:List tVersion.D}(h:vdn l=true):l.length≤120∧∀y∈l,wwd y:=by
 unfold vdn at h
 simp only [Bool.and_eq_true,decide_eq_true_eq]at h
 refine⟨by omega,fun y hy=>?_⟩
 have:=vxj h.1 y hy
 unfold vlx va4 at this
 simp only [Bool.and_eq_true,decide_eq_true_eq]at this
 have b1:=vly this.1.1.1
 have b2:=this.1.1.2
 have b3:=this.2
 exact⟨by omega,by omega,Int.le_trans (by decide) b3.1,Int.le_trans b3.2 (by decide)⟩
theorem vxn {cs:Int}:∀{l:List tTxn.D} {p},vfx cs p l=true→∀y∈l,vc8 y=true
 |[],_,_,y,hy=>by cases hy
 |z::l,p,h,y,hy=>by
  simp only [vfx,Bool.and_eq_true]at h
  cases hy with
  |head=>exact h.1.1.1.1
  |tail _ hm=>exact vxn h.2 y hm
theorem vvm {cs:Int}:∀{l:List tTxn.D} {p},vd2 cs p l=true→∀y∈l,vc8 y=true
 |[],_,_,y,hy=>by cases hy
 |z::l,p,h,y,hy=>by
  simp only [vd2,Bool.and_eq_true]at h
  cases hy with
  |head=>exact h.1.1.1.1
  |tail _ hm=>exact vvm h.2 y hm
theorem vjg {b:tBase.D}(hw:tBase.wt b≤1048576)(h:vbo b=true):vxu b.2.2.2.1∧vxu b.2.2.2.2∧b.1.length≤120∧(∀y∈b.1,wwd y)∧b.2.1.length≤12∧(∀y∈b.2.1,tTxn.wt y≤1048576∧vc8 y=true)∧b.2.2.1.length≤3∧(∀y∈b.2.2.1,tTxn.wt y≤1048576∧vc8 y=true):=by
 obtain⟨p1,p2,p3⟩:=vht hw
 unfold vbo va4 at h
 simp only [Bool.and_eq_true,decide_eq_true_eq]at h
 obtain⟨⟨⟨⟨⟨⟨⟨⟨h1,h2⟩,h3⟩,h4⟩,h5⟩,h6⟩,h7⟩,h8⟩,h9⟩:=h
 have v:=vya h1
 unfold vxu
 refine⟨by omega,by omega,v.1,v.2,by omega,fun y hy=>⟨vbh hy p2,vxn h7 y hy⟩,by omega,fun y hy=>⟨vbh hy p3,vvm h8 y hy⟩⟩
end
end Go.VE
/- Plain laws: keys in order;what a scan sees. -/
namespace Go.VE
noncomputable section
set_option linter.unusedVariables false
set_option linter.unusedSimpArgs false
set_option maxRecDepth 100000
def ddT (p:ByteArray):List ByteArray→List ByteArray
 |[]=>[]
 |y::l=>bif vaj y p then ddT y l else y::ddT y l
def dd:List ByteArray→List ByteArray
 |[]=>[]
 |a::l=>a::ddT a l
end
end Go.VE
/- Plain laws: marks of lists of transactions,of bases and engines that own all their slices. -/
namespace Go.VE
noncomputable section
set_option linter.unusedVariables false
set_option linter.unusedSimpArgs false
set_option maxRecDepth 100000
theorem vng {l:List tRange.D}(hl:l.length≤1048576){c:Int}(h0:0≤c)(hc:c+2*l.length≤9000000) (k):v56 c l k=k (c+2*l.length,vtj c l):=by
 rw [wx9]
 unfold wni
 obtain⟨j,hj⟩:=vo2 l [] c Fuel h0 hc (by simpa using hl) (by have:=vcr;omega)
 simp only [List.length_nil,List.nil_append]at hj
 rw [show ((0:Int))=((0:Nat):Int)from rfl,hj]
theorem vnn {l:List tWrite.D}(hl:l.length≤1048576){c:Int}(h0:0≤c)(hc:c+3*l.length≤9000000) (k):v7d c l k=k (c+3*l.length,vvp c l):=by
 rw [wxb]
 unfold wkm
 obtain⟨j,hj⟩:=vp9 l [] c Fuel h0 hc (by simpa using hl) (by have:=vcr;omega)
 simp only [List.length_nil,List.nil_append]at hj
 rw [show ((0:Int))=((0:Nat):Int)from rfl,hj]
def vwj (t:tTxn.D):Int:=6+2*(t.2.2.2.2.1.length:Int)+3*(t.2.2.2.2.2.1.length:Int)
def cntT:List tTxn.D→Int
 |[]=>0
 |y::l=>vwj y+cntT l
def wmx (c:Int)(t:tTxn.D):tTxn.D:=
 (c,(c+1,(c+2,(c+3,(vtj (c+4) t.2.2.2.2.1,(vvp (c+4+2*(t.2.2.2.2.1.length:Int)) t.2.2.2.2.2.1,
  ((c+4+2*(t.2.2.2.2.1.length:Int)+3*(t.2.2.2.2.2.1.length:Int)).tmod 3==0,vpr (c+4+2*(t.2.2.2.2.1.length:Int)+3*(t.2.2.2.2.2.1.length:Int)+1))))))))
def vuh:Int→List tTxn.D→List tTxn.D
 |_,[]=>[]
 |c,y::l=>wmx c y::vuh (c+vwj y) l
theorem wev (t:tTxn.D):6≤vwj t:=by unfold vwj;omega
theorem vha:∀l:List tTxn.D,0≤cntT l
 |[]=>Int.le_refl _
 |y::l=>by have:=wev y;have:=vha l;simp only [cntT];omega
theorem vxg:∀(c:Int) (l:List tTxn.D),(vuh c l).length=l.length
 |_,[]=>rfl
 |c,y::l=>by simp [vuh,vxg (c+vwj y) l]
theorem wyg:∀(l:List tTxn.D),cntT l≤6*(l.length+wtL tTxn l:Nat)
 |[]=>by simp [cntT,wtL]
 |y::l=>by
  have h:=wyg l
  have hw:=vom y
  have h1:(Ty.slice tRange).wt y.2.2.2.2.1=y.2.2.2.2.1.length+wtL tRange y.2.2.2.2.1:=Ty.wt_slice _ _
  have h2:(Ty.slice tWrite).wt y.2.2.2.2.2.1=y.2.2.2.2.2.1.length+wtL tWrite y.2.2.2.2.2.1:=Ty.wt_slice _ _
  simp only [cntT,vwj,List.length_cons,wtL]
  push_cast at h ⊢
  omega
theorem vtr:∀(l pre:List tTxn.D) (c:Int) (q:Nat),(∀y∈l,y.2.2.2.2.1.length≤1048576∧y.2.2.2.2.2.1.length≤1048576)→0≤c→c+cntT l≤9000000→pre.length+l.length≤1048576→l.length<q→
  ∃j:Int,∀k,vab vp1 q (c,(pre.length:Int),pre++l) k=k (c+cntT l,j,pre++vuh c l)
 |[],pre,c,q,hw,h0,hc,hl,hq=>by
  obtain⟨q,rfl⟩:∃r,q=r+1:=⟨q-1,by omega⟩
  refine⟨pre.length,fun k=>?_⟩
  simp only [vab,vp1,List.append_nil,Int.lt_irrefl,decide_false,cond_false,Sum.elim_inr,vuh,cntT]
  simp
 |y::l,pre,c,q,hw,h0,hc,hl,hq=>by
  obtain⟨q,rfl⟩:∃r,q=r+1:=⟨q-1,by omega⟩
  simp only [List.length_cons]at hl hq
  obtain⟨hy1,hy2⟩:=hw y (by simp)
  have hp1:=vha l
  simp only [cntT]at hc
  obtain⟨j,hj⟩:=vtr l (pre++[wmx c y]) (c+vwj y) q (fun z hz=>hw z (by simp [hz])) (by have:=wev y;omega) (by omega) (by rw [List.length_append,List.length_singleton];omega) (by omega)
  refine⟨j,fun k=>?_⟩
  have hlt:∀v:tTxn.D,(pre.length:Int)<((pre++v::l).length:Int):=fun v=>by rw [List.length_append,List.length_cons];omega
  have hcy:vwj y=6+2*(y.2.2.2.2.1.length:Int)+3*(y.2.2.2.2.2.1.length:Int):=rfl
  have w1:IntKind.wrap .i64 (c+1)=c+1:=va9 (by omega) (by omega)
  have w2:IntKind.wrap .i64 (c+1+1)=c+2:=by rw [va9 (by omega) (by omega)];omega
  have w3:IntKind.wrap .i64 (c+2+1)=c+3:=by rw [va9 (by omega) (by omega)];omega
  have w4:IntKind.wrap .i64 (c+3+1)=c+4:=by rw [va9 (by omega) (by omega)];omega
  have w5:IntKind.wrap .i64 (c+4+2*(y.2.2.2.2.1.length:Int)+3*(y.2.2.2.2.2.1.length:Int)+1)=c+4+2*(y.2.2.2.2.1.length:Int)+3*(y.2.2.2.2.2.1.length:Int)+1:=va9 (by omega) (by omega)
  have w6:IntKind.wrap .i64 (c+4+2*(y.2.2.2.2.1.length:Int)+3*(y.2.2.2.2.2.1.length:Int)+1+1)=c+vwj y:=by rw [va9 (by omega) (by omega)];omega
  have w7:IntKind.wrap .i64 ((pre.length:Int)+1)=((pre.length+1:Nat):Int):=vaz (by omega)
  have hp:(0:Int)≤(pre.length:Int):=Int.natCast_nonneg _
  have hj':=hj k
  rw [List.length_append,List.length_singleton,List.append_assoc,List.singleton_append,List.append_assoc,List.singleton_append]at hj'
  simp only [vab,vp1,hlt,decide_true,cond_true,hp,and_self,if_true,Int.toNat_natCast,v9u,vyk,vfa,vf3,vfo,vfy,
   vfq,vfb,vff,w1,w2,w3,w4,w7,
   vng hy1 (show 0≤c+4 by omega) (show c+4+2*(y.2.2.2.2.1.length:Int)≤9000000 by omega),
   vnn hy2 (show 0≤c+4+2*(y.2.2.2.2.1.length:Int) by omega) (show c+4+2*(y.2.2.2.2.1.length:Int)+3*(y.2.2.2.2.2.1.length:Int)≤9000000 by omega),w5,
   vbr (show c+4+2*(y.2.2.2.2.1.length:Int)+3*(y.2.2.2.2.2.1.length:Int)+1≤10000000 by omega),w6,Sum.elim_inl]
  refine Eq.trans (b:=vab vp1 q (c+vwj y,((pre.length+1:Nat):Int),pre++wmx c y::l) k) rfl ?_
  rw [hj']
  simp only [vuh,cntT]
  congr 2
  omega
theorem vrr {l:List tTxn.D}(hw:∀y∈l,y.2.2.2.2.1.length≤1048576∧y.2.2.2.2.2.1.length≤1048576)(hl:l.length≤1048576){c:Int}(h0:0≤c)(hc:c+cntT l≤9000000) (k) :
  v7w c l k=k (c+cntT l,vuh c l):=by
 rw [wxm]
 unfold wk1
 obtain⟨j,hj⟩:=vtr l [] c Fuel hw h0 hc (by simpa using hl) (by have:=vcr;omega)
 simp only [List.length_nil,List.nil_append]at hj
 rw [show ((0:Int))=((0:Nat):Int)from rfl,hj]
end
end Go.VE
/- Plain laws: what is marked in versions,transactions,bases and engines is held. -/
namespace Go.VE
noncomputable section
set_option linter.unusedVariables false
set_option linter.unusedSimpArgs false
set_option maxRecDepth 100000
def vv3:Int→List tVersion.D→List tVersion.D
 |_,[]=>[]
 |c,y::l=>(vpr c,(vpr (c+1),((c+2).tmod 3==0,c+3)))::vv3 (c+4) l
theorem vxl:∀(c:Int) (l:List tVersion.D),(vv3 c l).length=l.length
 |_,[]=>rfl
 |c,y::l=>by simp [vv3,vxl (c+4) l]
theorem vg1:∀(l pre:List tVersion.D) (c:Int) (q:Nat),0≤c→c+4*l.length≤9000000→pre.length+l.length≤1048576→l.length<q→
  ∃j:Int,∀k,vab vn2 q (c,(pre.length:Int),pre++l) k=k (c+4*l.length,j,pre++vv3 c l)
 |[],pre,c,q,h0,hc,hl,hq=>by
  obtain⟨q,rfl⟩:∃r,q=r+1:=⟨q-1,by omega⟩
  refine⟨pre.length,fun k=>?_⟩
  simp only [vab,vn2,List.append_nil,Int.lt_irrefl,decide_false,cond_false,Sum.elim_inr,List.length_nil,vv3]
  simp
 |y::l,pre,c,q,h0,hc,hl,hq=>by
  obtain⟨q,rfl⟩:∃r,q=r+1:=⟨q-1,by omega⟩
  simp only [List.length_cons]at hc hl hq
  obtain⟨j,hj⟩:=vg1 l (pre++[(vpr c,(vpr (c+1),((c+2).tmod 3==0,c+3)))]) (c+4) q (by omega) (by omega) (by rw [List.length_append,List.length_singleton];omega) (by omega)
  refine⟨j,fun k=>?_⟩
  have hlt:∀v:tVersion.D,(pre.length:Int)<((pre++v::l).length:Int):=fun v=>by rw [List.length_append,List.length_cons];omega
  have w1:IntKind.wrap .i64 (c+1)=c+1:=va9 (by omega) (by omega)
  have w2:IntKind.wrap .i64 (c+1+1)=c+2:=by rw [va9 (by omega) (by omega)];omega
  have w3:IntKind.wrap .i64 (c+2+1)=c+3:=by rw [va9 (by omega) (by omega)];omega
  have w4:IntKind.wrap .i64 (c+3+1)=c+4:=by rw [va9 (by omega) (by omega)];omega
  have w5:IntKind.wrap .i64 ((pre.length:Int)+1)=((pre.length+1:Nat):Int):=vaz (by omega)
  have hp:(0:Int)≤(pre.length:Int):=Int.natCast_nonneg _
  have hj':=hj k
  rw [List.length_append,List.length_singleton,List.append_assoc,List.singleton_append,List.append_assoc,List.singleton_append]at hj'
  simp only [vab,vn2,hlt,decide_true,cond_true,vbr (show c≤10000000 by omega),w1,vbr (show c+1≤10000000 by omega),Int.toNat_natCast,v9u,vyk,hp,and_self,if_true,w2,w3,w4,w5,Sum.elim_inl]
  refine Eq.trans (b:=vab vn2 q (c+4,((pre.length+1:Nat):Int),pre++(vpr c,(vpr (c+1),((c+2).tmod 3==0,c+3)))::l) k) rfl ?_
  rw [hj']
  simp only [vv3,List.length_cons]
  congr 2
  push_cast
  omega
theorem vvk {l:List tVersion.D}(hl:l.length≤1048576){c:Int}(h0:0≤c)(hc:c+4*l.length≤9000000) (k):wen c l k=k (c+4*l.length,vv3 c l):=by
 rw [wtu]
 unfold wl7
 obtain⟨j,hj⟩:=vg1 l [] c Fuel h0 hc (by simpa using hl) (by have:=vcr;omega)
 simp only [List.length_nil,List.nil_append]at hj
 rw [show ((0:Int))=((0:Nat):Int)from rfl,hj]
theorem vlp {u0 u2}:∀(l:List tVersion.D) (c:Int) (i:Nat),0≤c→c+4*l.length≤9000000→∃j:Int,∀k,vml u0 u2 (vv3 c l) c i k=k (.inr (c+4*l.length,j))
 |[],c,i,_,_=>⟨_,fun k=>by simp only [vv3,vml,List.length_nil];simp;rfl⟩
 |y::l,c,i,h0,hc=>by
  simp only [List.length_cons]at hc
  obtain⟨j,hj⟩:=vlp (u0:=u0) (u2:=u2) l (c+4) (i+1) (by omega) (by omega)
  have w1:IntKind.wrap .i64 (c+1)=c+1:=va9 (by omega) (by omega)
  have w2:IntKind.wrap .i64 (c+1+1)=c+2:=by rw [va9 (by omega) (by omega)];omega
  have w3:IntKind.wrap .i64 (c+2+1)=c+3:=by rw [va9 (by omega) (by omega)];omega
  have w4:IntKind.wrap .i64 (c+3+1)=c+4:=by rw [va9 (by omega) (by omega)];omega
  refine⟨j,fun k=>?_⟩
  simp only [vv3,vml,vbr (show c≤10000000 by omega),w1,vbr (show c+1≤10000000 by omega),vdb,Bool.not_true,cond_false,w2,w3,w4,beq_self_eq_true,bne_self_eq_false,hj,List.length_cons]
  congr 3
  push_cast
  omega
theorem v2v {l:List tVersion.D}(hl:l.length≤1048576){c:Int}(h0:0≤c)(hc:c+4*l.length≤9000000) (k):v6h (vv3 c l) c k=k (c+4*(l.length:Int)):=by
 rw [xa9 (by rw [vxl];omega)]
 unfold wv1
 obtain⟨j,hj⟩:=vlp (u0:=vv3 c l) (u2:=0) l c 0 h0 hc
 rw [hj];rfl
theorem v87 {l:List tRange.D}(hl:l.length≤1048576){c:Int}(h0:0≤c)(hc:c+2*l.length≤9000000) (k):v2k (vtj c l) c k=k (c+2*(l.length:Int)):=by
 rw [xb6 (by rw [vwz];omega)]
 unfold wtw
 obtain⟨j,hj⟩:=vol (u0:=vtj c l) (u2:=0) l c 0 h0 hc
 rw [hj];rfl
theorem wa7 {l:List tWrite.D}(hl:l.length≤1048576){c:Int}(h0:0≤c)(hc:c+3*l.length≤9000000) (k):v2s (vvp c l) c k=k (c+3*(l.length:Int)):=by
 rw [w9u (by rw [vxs];omega)]
 unfold wsz
 obtain⟨j,hj⟩:=vot (u0:=vvp c l) (u2:=0) l c 0 h0 hc
 rw [hj];rfl
theorem vvg {u0 u2}:∀(l:List tTxn.D) (c:Int) (i:Nat),(∀y∈l,y.2.2.2.2.1.length≤1048576∧y.2.2.2.2.2.1.length≤1048576)→0≤c→c+cntT l≤9000000→∃j:Int,∀k,vmw u0 u2 (vuh c l) c i k=k (.inr (c+cntT l,j))
 |[],c,i,_,_,_=>⟨_,fun k=>by simp only [vuh,vmw,cntT];simp;rfl⟩
 |y::l,c,i,hw,h0,hc=>by
  obtain⟨hy1,hy2⟩:=hw y (by simp)
  have hp1:=vha l
  simp only [cntT]at hc
  have hcy:vwj y=6+2*(y.2.2.2.2.1.length:Int)+3*(y.2.2.2.2.2.1.length:Int):=rfl
  obtain⟨j,hj⟩:=vvg (u0:=u0) (u2:=u2) l (c+vwj y) (i+1) (fun z hz=>hw z (by simp [hz])) (by omega) (by omega)
  have w1:IntKind.wrap .i64 (c+1)=c+1:=va9 (by omega) (by omega)
  have w2:IntKind.wrap .i64 (c+1+1)=c+2:=by rw [va9 (by omega) (by omega)];omega
  have w3:IntKind.wrap .i64 (c+2+1)=c+3:=by rw [va9 (by omega) (by omega)];omega
  have w4:IntKind.wrap .i64 (c+3+1)=c+4:=by rw [va9 (by omega) (by omega)];omega
  have w5:IntKind.wrap .i64 (c+4+2*(y.2.2.2.2.1.length:Int)+3*(y.2.2.2.2.2.1.length:Int)+1)=c+4+2*(y.2.2.2.2.1.length:Int)+3*(y.2.2.2.2.2.1.length:Int)+1:=va9 (by omega) (by omega)
  have w6:IntKind.wrap .i64 (c+4+2*(y.2.2.2.2.1.length:Int)+3*(y.2.2.2.2.2.1.length:Int)+1+1)=c+vwj y:=by rw [va9 (by omega) (by omega)];omega
  have n1:decide (c+4+2*(y.2.2.2.2.1.length:Int)<0)=false:=decide_eq_false (by omega)
  have n2:decide (c+4+2*(y.2.2.2.2.1.length:Int)+3*(y.2.2.2.2.2.1.length:Int)<0)=false:=decide_eq_false (by omega)
  refine⟨j,fun k=>?_⟩
  simp only [vuh,wmx,vmw,w1,w2,w3,w4,bne_self_eq_false,cond_false,v87 hy1 (show 0≤c+4 by omega) (show c+4+2*(y.2.2.2.2.1.length:Int)≤9000000 by omega),n1,
   wa7 hy2 (show 0≤c+4+2*(y.2.2.2.2.1.length:Int) by omega) (show c+4+2*(y.2.2.2.2.1.length:Int)+3*(y.2.2.2.2.2.1.length:Int)≤9000000 by omega),n2,beq_self_eq_true,Bool.not_true,w5,
   vbr (show c+4+2*(y.2.2.2.2.1.length:Int)+3*(y.2.2.2.2.2.1.length:Int)+1≤10000000 by omega),vdb,w6,hj,cntT]
  congr 3
  omega
theorem v2n {l:List tTxn.D}(hw:∀y∈l,y.2.2.2.2.1.length≤1048576∧y.2.2.2.2.2.1.length≤1048576)(hl:l.length≤1048576){c:Int}(h0:0≤c)(hc:c+cntT l≤9000000) (k) :
  v04 (vuh c l) c k=k (c+cntT l):=by
 rw [xck (by rw [vxg];omega)]
 unfold ws4
 obtain⟨j,hj⟩:=vvg (u0:=vuh c l) (u2:=0) l c 0 hw h0 hc
 rw [hj];rfl
def OkTs (l:List tTxn.D):Prop:=(∀y∈l,y.2.2.2.2.1.length≤1048576∧y.2.2.2.2.2.1.length≤1048576)∧l.length≤1048576
theorem wq0 {l:List tTxn.D}(h:(Ty.slice tTxn).wt l≤1048576):OkTs l:=
 ⟨fun y hy=>by
  have:=vbh hy h
  rw [vom]at this
  exact⟨vca (T:=tRange) (by omega),vca (T:=tWrite) (by omega)⟩,vca h⟩
theorem wro {l:List tTxn.D}:cntT l≤6*((Ty.slice tTxn).wt l:Nat):=by
 have:=wyg l
 rw [Ty.wt_slice];exact this
def cntB (b:tBase.D):Int:=4*(b.1.length:Int)+cntT b.2.1+cntT b.2.2.1
def OkBs (b:tBase.D):Prop:=b.1.length≤1048576∧OkTs b.2.1∧OkTs b.2.2.1
def vnl (c:Int)(b:tBase.D):tBase.D:=(vv3 c b.1,(vuh (c+4*b.1.length) b.2.1,(vuh (c+4*b.1.length+cntT b.2.1) b.2.2.1,b.2.2.2)))
theorem vyj (b:tBase.D):0≤cntB b:=by unfold cntB;have:=vha b.2.1;have:=vha b.2.2.1;omega
theorem vky {b:tBase.D}(h:tBase.wt b≤1048576):OkBs b:=by
 rw [voy]at h
 exact⟨vca (T:=tVersion) (by omega),wq0 (by omega),wq0 (by omega)⟩
theorem wga (b:tBase.D):cntB b≤6*(tBase.wt b:Nat):=by
 have h1:=wro (l:=b.2.1)
 have h2:=wro (l:=b.2.2.1)
 have h3:(Ty.slice tVersion).wt b.1=b.1.length+wtL tVersion b.1:=Ty.wt_slice _ _
 have h4:=voy b
 unfold cntB
 omega
theorem vr0 {b:tBase.D}(hb:OkBs b){c:Int}(h0:0≤c)(hc:c+cntB b≤9000000)(a0 a1:Int) (k) :
  vxk a0 a1 c b.1 b.2.1 b.2.2.1 k=k (c+cntB b,(vnl c b).1,(vnl c b).2.1,(vnl c b).2.2.1):=by
 obtain⟨hb1,hb2,hb3⟩:=hb
 have p1:=vha b.2.1
 have p2:=vha b.2.2.1
 have hcb:cntB b=4*(b.1.length:Int)+cntT b.2.1+cntT b.2.2.1:=rfl
 rw [wua]
 unfold wkr
 simp only [vvk hb1 h0 (by omega),vrr hb2.1 hb2.2 (show 0≤c+4*(b.1.length:Int) by omega) (by omega),vrr hb3.1 hb3.2 (show 0≤c+4*(b.1.length:Int)+cntT b.2.1 by omega) (by omega),vnl]
 congr 2
 omega
theorem wfe {b:tBase.D}(hb:OkBs b){c:Int}(h0:0≤c)(hc:c+cntB b≤9000000)(z:Int×Int) (k) :
  v1z ((vnl c b).1,((vnl c b).2.1,((vnl c b).2.2.1,z))) c k=k (c+cntB b):=by
 obtain⟨hb1,hb2,hb3⟩:=hb
 have p1:=vha b.2.1
 have p2:=vha b.2.2.1
 have hcb:cntB b=4*(b.1.length:Int)+cntT b.2.1+cntT b.2.2.1:=rfl
 have n1:decide (c+4*(b.1.length:Int)<0)=false:=decide_eq_false (by omega)
 have n2:decide (c+4*(b.1.length:Int)+cntT b.2.1<0)=false:=decide_eq_false (by omega)
 have n3:decide (c+4*(b.1.length:Int)+cntT b.2.1+cntT b.2.2.1<0)=false:=decide_eq_false (by omega)
 rw [wwz]
 unfold wm1
 simp only [vnl,v2v hb1 h0 (by omega),n1,cond_false,v2n hb2.1 hb2.2 (show 0≤c+4*(b.1.length:Int) by omega) (by omega),n2,v2n hb3.1 hb3.2 (show 0≤c+4*(b.1.length:Int)+cntT b.2.1 by omega) (by omega),n3]
 congr 1
 omega
end
end Go.VE
/- Plain laws of engines: copies,comparisons,marks where lists are short;GetKey. -/
namespace Go.VE
noncomputable section
set_option linter.unusedVariables false
set_option linter.unusedSimpArgs false
set_option maxRecDepth 100000
theorem v5m {u0:List tTxn.D}:∀(l acc:List tTxn.D) (i:Nat),(∀y∈l,y.2.2.2.2.1.length≤1048576∧y.2.2.2.2.2.1.length≤1048576)→acc.length+l.length≤1048576→
  ∃j:Int,∀K,vhf u0 l acc i K=K (j,acc++l)
 |[],acc,i,_,_=>⟨_,fun K=>by simp only [vhf,List.append_nil];rfl⟩
 |y::l,acc,i,hw,h=>by
  simp only [List.length_cons]at h
  obtain⟨j,hj⟩:=v5m (u0:=u0) l (acc++[y]) (i+1) (fun z hz=>hw z (by simp [hz])) (by rw [List.length_append,List.length_singleton];omega)
  have hy:=hw y (by simp)
  refine⟨j,fun K=>?_⟩
  simp only [vhf,vfh hy.1 hy.2,va7]
  rw [if_pos (by rw [List.length_singleton];have:VE.maxLen=4294967296:=rfl;omega),hj]
  simp only [List.append_assoc,List.singleton_append]
theorem wlx {l:List tTxn.D}(h:OkTs l) (k):vte l k=k l:=by
 rw [w6q (by have:=h.2;omega)]
 obtain⟨j,hj⟩:=v5m (u0:=l) l [] 0 h.1 (by simpa using h.2)
 simp only [wh2,hj,List.nil_append]
theorem wdg {u0:List tTxn.D}:∀(l acc:List tTxn.D) (i:Nat),(∀y∈l,y.2.2.2.2.1.length≤1048576∧y.2.2.2.2.2.1.length≤1048576)→acc.length+l.length≤1048576→
  ∃j:Int,∀K,vmc u0 l acc i K=K (j,acc++l)
 |[],acc,i,_,_=>⟨_,fun K=>by simp only [vmc,List.append_nil];rfl⟩
 |y::l,acc,i,hw,h=>by
  simp only [List.length_cons]at h
  obtain⟨j,hj⟩:=wdg (u0:=u0) l (acc++[y]) (i+1) (fun z hz=>hw z (by simp [hz])) (by rw [List.length_append,List.length_singleton];omega)
  have hy:=hw y (by simp)
  refine⟨j,fun K=>?_⟩
  simp only [vmc,v05 hy.1 hy.2,va7]
  rw [if_pos (by rw [List.length_singleton];have:VE.maxLen=4294967296:=rfl;omega),hj]
  simp only [List.append_assoc,List.singleton_append]
theorem wwf {l:List tTxn.D}(h:OkTs l) (k):v0m l k=k l:=by
 rw [w9t (by have:=h.2;omega)]
 obtain⟨j,hj⟩:=wdg (u0:=l) l [] 0 h.1 (by simpa using h.2)
 simp only [wup,hj,List.nil_append]
end
end Go.VE
/- Plain laws: versions that are put into others. -/
namespace Go.VE
noncomputable section
set_option linter.unusedVariables false
set_option linter.unusedSimpArgs false
set_option maxRecDepth 100000
def leV (v y:tVersion.D):Bool:=vai y.1 v.1||(vaj y.1 v.1&&decide (y.2.2.2≤v.2.2.2))
def insV (l:List tVersion.D)(v:tVersion.D):List tVersion.D:=l.takeWhile (leV v)++v::l.dropWhile (leV v)
def vf4 (cs:Int)(x:tWrite.D):tVersion.D:=(x.1,(x.2.1,(x.2.2,cs)))
def vft (l:List tVersion.D)(w:List tWrite.D)(cs:Int):List tVersion.D:=w.foldl (fun out x=>insV out (vf4 cs x)) l
theorem vsy (l:List tVersion.D)(v:tVersion.D):(insV l v).length=l.length+1:=by
 unfold insV
 have:=congrArg List.length (List.takeWhile_append_dropWhile (p:=leV v) (l:=l))
 rw [List.length_append]at this
 rw [List.length_append,List.length_cons]
 omega
theorem vpe:∀(w:List tWrite.D) (l:List tVersion.D) (cs:Int),(vft l w cs).length=l.length+w.length
 |[],l,cs=>rfl
 |x::w,l,cs=>by
  show (vft (insV l (vf4 cs x)) w cs).length=_
  rw [vpe w,vsy,List.length_cons]
  omega
theorem wl9 {A:List tWrite.D}{B C:Int}{L:List tVersion.D}{v1 v2:ByteArray}{v3:Bool}{v4:Int}(hL:L.length≤3000000):∀(l:List tVersion.D) (i q:Nat) (s:List tVersion.D),L.drop i=l→l.length<q→s.length+l.length≤3000000→∀K,
  vab vm3 q (A,B,C,(i:Int),L,v1,v2,v3,v4,s) K=K (A,B,C,((i+(l.takeWhile (leV (v1,(v2,(v3,v4))))).length:Nat):Int),L,v1,v2,v3,v4,s++l.takeWhile (leV (v1,(v2,(v3,v4)))))
 |l,i,0,s,_,h,_=>by omega
 |[],i,q+1,s,hd,_,_=>fun K=>by
  have hge:=vv1 hd
  simp only [vab,vm3,hge,decide_false,cond_false,Sum.elim_inr,List.takeWhile_nil,List.length_nil,Nat.add_zero,List.append_nil]
 |y::l,i,q+1,s,hd,hq,hs=>fun K=>by
  have hlt:=vbt hd
  have hy:L.getD i (Ty.zero tVersion)=y:=(vcs hd).2 _
  have hw1:IntKind.wrap .i64 ((i:Int)+1)=((i+1:Nat):Int):=vaz (by omega)
  simp only [List.length_cons]at hs
  have hm:s.length+[y].length≤VE.maxLen:=by show _≤4294967296;simp;omega
  have ih:=wl9 (A:=A) (B:=B) (C:=C) (v1:=v1) (v2:=v2) (v3:=v3) (v4:=v4) hL l (i+1) q (s++[y]) (vau hd) (by simpa using hq) (by rw [List.length_append,List.length_singleton];omega) K
  have e1:leV (v1,(v2,(v3,v4))) y=(vai y.1 v1||(vaj y.1 v1&&decide (y.2.2.2≤v4))):=rfl
  simp only [vab,vm3,vdt,show (i:Int)<(L.length:Int) by omega,show (0:Int)≤(i:Int) by omega,and_self,if_true,decide_true,cond_true,Int.toNat_natCast,hy,hw1,List.takeWhile_cons,e1,if_pos hm]
  have key:K (A,B,C,((i+1+(l.takeWhile (leV (v1,(v2,(v3,v4))))).length:Nat):Int),L,v1,v2,v3,v4,s++[y]++l.takeWhile (leV (v1,(v2,(v3,v4))))) =
    K (A,B,C,((i+(y::l.takeWhile (leV (v1,(v2,(v3,v4))))).length:Nat):Int),L,v1,v2,v3,v4,s++y::l.takeWhile (leV (v1,(v2,(v3,v4))))):=by
   rw [List.append_assoc,List.singleton_append,List.length_cons,show i+1+(l.takeWhile (leV (v1,(v2,(v3,v4))))).length=i+((l.takeWhile (leV (v1,(v2,(v3,v4))))).length+1) by omega]
  cases vai y.1 v1
  ·cases vaj y.1 v1
   ·simp only [cond_false,Sum.elim_inr,Bool.false_or,Bool.false_and,Bool.false_eq_true,if_false,List.length_nil,Nat.add_zero,List.append_nil]
   ·cases decide (y.2.2.2≤v4)
    ·simp only [cond_false,cond_true,Sum.elim_inr,Bool.false_or,Bool.true_and,Bool.false_eq_true,if_false,List.length_nil,Nat.add_zero,List.append_nil]
    ·simp only [cond_false,cond_true,Sum.elim_inl,Bool.false_or,Bool.true_and,if_true]
     rw [ih,key]
  ·simp only [cond_true,Sum.elim_inl,Bool.true_or,if_true]
   rw [ih,key]
theorem wvn (l:List tVersion.D)(v:tVersion.D):l.drop (l.takeWhile (leV v)).length=l.dropWhile (leV v):=by
 have:=List.takeWhile_append_dropWhile (p:=leV v) (l:=l)
 generalize l.takeWhile (leV v)=a at *
 generalize l.dropWhile (leV v)=b at *
 rw [←this,List.drop_left]
theorem w8j (l:List tVersion.D)(v:tVersion.D):l.take (l.takeWhile (leV v)).length=l.takeWhile (leV v):=by
 have:=List.takeWhile_append_dropWhile (p:=leV v) (l:=l)
 generalize l.takeWhile (leV v)=a at *
 generalize l.dropWhile (leV v)=b at *
 rw [←this,List.take_left]
theorem xb1 (l:List tVersion.D)(v:tVersion.D):(l.takeWhile (leV v)).length+(l.dropWhile (leV v)).length=l.length:=by
 have:=congrArg List.length (List.takeWhile_append_dropWhile (p:=leV v) (l:=l))
 rwa [List.length_append]at this
theorem wd4 {A:List tWrite.D}{cs:Int}(hA:A.length≤1048576):∀(l:List tWrite.D) (i q:Nat) (s:List tVersion.D),A.drop i=l→l.length<q→s.length+l.length≤2097152→∃j:Int,∀K,
  vab vmg q (A,cs,(i:Int),s) K=K (A,cs,j,vft s l cs)
 |l,i,0,s,_,h,_=>by omega
 |[],i,q+1,s,hd,_,_=>by
  have hge:=vv1 hd
  exact⟨(i:Int),fun K=>by simp only [vab,vmg,hge,decide_false,cond_false,Sum.elim_inr];rfl⟩
 |y::l,i,q+1,s,hd,hq,hs=>by
  have hlt:=vbt hd
  have hy:rd (Ty.zero tWrite) A (i:Int)=y:=(vcs hd).1 _
  have hw1:IntKind.wrap .i64 ((i:Int)+1)=((i+1:Nat):Int):=vaz (by omega)
  simp only [List.length_cons]at hs
  have hil:=vsy s (vf4 cs y)
  obtain⟨j,hj⟩:=wd4 (cs:=cs) hA l (i+1) q (insV s (vf4 cs y)) (vau hd) (by simpa using hq) (by omega)
  refine⟨j,fun K=>?_⟩
  have hin:=wl9 (A:=A) (B:=cs) (C:=(i:Int)) (v1:=y.1) (v2:=y.2.1) (v3:=y.2.2) (v4:=cs) (show s.length≤3000000 by omega) s 0 Fuel [] rfl (Nat.lt_of_lt_of_le (by omega) vcr) (by simp;omega)
  have hz:((0:Nat):Int)=0:=rfl
  rw [hz]at hin
  have htw:=xb1 s (vf4 cs y)
  simp only [vab,vmg,show (i:Int)<(A.length:Int) by omega,show (0:Int)≤(i:Int) by omega,and_self,if_true,decide_true,cond_true,hy,hw1,hin,List.nil_append,Nat.zero_add]
  change (if(s.takeWhile (leV (vf4 cs y))).length+[vf4 cs y].length≤VE.maxLen then if 0≤(((s.takeWhile (leV (vf4 cs y))).length:Nat):Int)∧(((s.takeWhile (leV (vf4 cs y))).length:Nat):Int)≤(s.length:Int)then
   if(s.takeWhile (leV (vf4 cs y))++[vf4 cs y]).length+(s.drop (((s.takeWhile (leV (vf4 cs y))).length:Nat):Int).toNat).length≤VE.maxLen then _ else none else none else none)=_
  rw [if_pos (by show _≤4294967296;simp only [List.length_singleton];omega),if_pos ⟨by omega,by omega⟩,if_pos (by show _≤4294967296;simp only [List.length_append,List.length_singleton,List.length_drop];omega),Int.toNat_natCast,wvn,List.append_assoc,List.singleton_append]
  exact hj K
theorem w2b {l:List tVersion.D}{w:List tWrite.D}(hl:l.length≤1048576)(hw:w.length≤1048576)(cs:Int) (k):vwi l w cs k=k (vft l w cs):=by
 rw [wjd]
 unfold wap
 rw [if_pos (by show _≤4294967296;simp;omega)]
 obtain⟨j,hj⟩:=wd4 (cs:=cs) hw w 0 Fuel l rfl (Nat.lt_of_lt_of_le (by omega) vcr) (by omega)
 have hz:((0:Nat):Int)=0:=rfl
 rw [hz]at hj
 rw [List.nil_append,hj]
theorem w1i (y v:tVersion.D):decide (cmpV y v>0) = !leV v y:=by
 unfold cmpV leV cmpS cmpI
 cases h1:vai y.1 v.1
 ·cases h2:vaj y.1 v.1
  ·simp
  ·by_cases h3:y.2.2.2<v.2.2.2
   ·simp [h3];exact Int.le_of_lt h3
   ·by_cases h4:y.2.2.2>v.2.2.2
    ·simp [h3,h4]
    ·simp [h3,h4];exact Int.not_lt.1 h4
 ·simp
theorem v1b {u0 u1}{v1 v2:ByteArray}{v3:Bool}{v4:Int}:∀(l:List tVersion.D) (i:Nat),∃j:Int,∀k,
  vjn u0 u1 l v1 v2 v3 v4 i k=k (bif l.all (leV (v1,(v2,(v3,v4))))then .inr (j,v1,v2,v3,v4)else .inl (((i+(l.takeWhile (leV (v1,(v2,(v3,v4))))).length:Nat):Int),j,v1,v2,v3,v4))
 |[],i=>⟨(i:Int),fun k=>rfl⟩
 |y::l,i=>by
  obtain⟨j,hj⟩:=v1b (u0:=u0) (u1:=u1) (v1:=v1) (v2:=v2) (v3:=v3) (v4:=v4) l (i+1)
  simp only [vjn,wws,wj1,wxw,w1i,List.all_cons,List.takeWhile_cons]
  cases leV (v1,(v2,(v3,v4))) y
  ·exact⟨(i:Int),fun k=>by simp⟩
  ·refine⟨j,fun k=>?_⟩
   simp only [Bool.not_true,cond_false,Bool.true_and,if_true,List.length_cons,hj]
   rw [show i+1+(l.takeWhile (leV (v1,(v2,(v3,v4))))).length=i+((l.takeWhile (leV (v1,(v2,(v3,v4))))).length+1) by omega]
theorem w5r {α:Type}{p:α→Bool}:∀{l:List α},l.all p=true→l.takeWhile p=l
 |[],_=>rfl
 |y::l,h=>by
  simp only [List.all_cons,Bool.and_eq_true]at h
  rw [List.takeWhile_cons,if_pos h.1,w5r h.2]
theorem v6m {u0:Int}{u1:List tWrite.D}:∀(l:List tWrite.D) (s:List tVersion.D) (i:Nat),s.length+l.length≤2097152→∃j:Int,∀k,
  vm4 u0 u1 l s i k=k (j,vft s l u0)
 |[],s,i,_=>⟨(i:Int),fun k=>rfl⟩
 |y::l,s,i,h=>by
  simp only [List.length_cons]at h
  have hil:=vsy s (vf4 u0 y)
  obtain⟨j,hj⟩:=v6m (u0:=u0) (u1:=u1) l (insV s (vf4 u0 y)) (i+1) (by omega)
  refine⟨j,fun k=>?_⟩
  obtain⟨j2,hj2⟩:=v1b (u0:=s) (u1:=0) (v1:=y.1) (v2:=y.2.1) (v3:=y.2.2) (v4:=u0) s 0
  have htw:=xb1 s (vf4 u0 y)
  have hins:∀n:Nat,n=(s.takeWhile (leV (vf4 u0 y))).length→insL s (n:Int) [vf4 u0 y]=insV s (vf4 u0 y):=by
   intro n hn
   unfold insL insV
   rw [Int.toNat_natCast,hn,w8j,wvn,List.append_assoc,List.singleton_append]
  have hk:∀(n:Nat) (K:List tVersion.D×List tVersion.D→Option Res),n=(s.takeWhile (leV (vf4 u0 y))).length→vqe (n:Int) s [vf4 u0 y] K=K ([vf4 u0 y],insV s (vf4 u0 y)):=by
   intro n K hn
   rw [wf1]
   unfold vy7
   rw [if_pos ⟨by omega,by omega,by simp,by simp;omega⟩,hins n hn]
  simp only [vm4]
  rw [w7u (by omega)]
  unfold wia
  rw [hj2]
  change (bif s.all (leV (vf4 u0 y))then(Sum.inr (j2,y.1,y.2.1,y.2.2,u0):(Int×Int×ByteArray×ByteArray×Bool×Int)⊕(Int×ByteArray×ByteArray×Bool×Int))else .inl (((0+(s.takeWhile (leV (vf4 u0 y))).length:Nat):Int),j2,y.1,y.2.1,y.2.2,u0)).elim _ _=_
  cases ha:s.all (leV (vf4 u0 y))
  ·simp only [cond_false,Sum.elim_inl,Nat.zero_add,show ¬((((s.takeWhile (leV (vf4 u0 y))).length:Nat):Int)<0) by omega,decide_false]
   exact(hk _ _ rfl).trans (hj k)
  ·simp only [cond_true,Sum.elim_inr,show ((-1:Int)<0) by decide,decide_true]
   exact(hk _ _ (by rw [w5r ha])).trans (hj k)
theorem w8i {l:List tVersion.D}{w:List tWrite.D}(hl:l.length≤1048576)(hw:w.length≤1048576)(cs:Int) (k):v61 l w cs k=k (vft l w cs):=by
 rw [xb3 (by omega)]
 unfold wty
 rw [if_pos (by show _≤4294967296;omega)]
 obtain⟨j,hj⟩:=v6m (u0:=cs) (u1:=w) w l 0 (by omega)
 rw [hj]
end
end Go.VE
/- Plain laws: what is trimmed. -/
namespace Go.VE
noncomputable section
set_option linter.unusedVariables false
set_option linter.unusedSimpArgs false
set_option maxRecDepth 100000
def vnv (L:List tVersion.D)(snap:Int):List tVersion.D→Nat→List tVersion.D
 |[],_=>[]
 |y::l,i=>bif decide (y.2.2.2>snap)||(vmk L y.1 snap==(i:Int))then y::vnv L snap l (i+1)else vnv L snap l (i+1)
def cntK (L:List tVersion.D)(key:ByteArray):Nat:=(L.filter fun y=>vaj y.1 key).length
def vwl (L:List tVersion.D)(snap:Int)(y:tVersion.D):Bool:=decide (y.2.2.2>snap) || !y.2.2.1||decide (1<cntK L y.1)
def w69 (L:List tVersion.D)(snap:Int):List tVersion.D:=(vnv L snap L 0).filter (vwl (vnv L snap L 0) snap)
theorem v3l (L:List tVersion.D)(snap:Int):∀(l:List tVersion.D) (i:Nat),(vnv L snap l i).length≤l.length
 |[],i=>Nat.le_refl _
 |y::l,i=>by
  have:=v3l L snap l (i+1)
  simp only [vnv]
  cases decide (y.2.2.2>snap)||(vmk L y.1 snap==(i:Int))
  ·simp only [cond_false,List.length_cons];omega
  ·simp only [cond_true,List.length_cons];omega
theorem vwc {L:List tVersion.D}(hL:L.length≤1048576){snap:Int}{u2:List tVersion.D}:∀(l s:List tVersion.D) (i:Nat),s.length+l.length≤3000000→∃j:Int,∀k,vk0 L snap u2 l s i k=k (j,s++vnv L snap l i)
 |[],s,i,_=>⟨(i:Int),fun k=>by simp only [vk0,vnv,List.append_nil]⟩
 |y::l,s,i,h=>by
  simp only [List.length_cons]at h
  have hm:s.length+[y].length≤VE.maxLen:=by show _≤4294967296;simp only [List.length_singleton];omega
  obtain⟨j1,hj1⟩:=vwc hL (snap:=snap) (u2:=u2) l (s++[y]) (i+1) (by rw [List.length_append,List.length_singleton];omega)
  obtain⟨j2,hj2⟩:=vwc hL (snap:=snap) (u2:=u2) l s (i+1) (by omega)
  simp only [vk0,vnv,vd5,w8t hL,va7,cond_true,if_pos hm]
  cases decide (y.2.2.2>snap)with
  |true=>exact⟨j1,fun k=>by simp only [cond_true,Bool.true_or,hj1,List.append_assoc,List.singleton_append]⟩
  |false=>
   simp only [cond_false,Bool.false_or]
   cases vmk L y.1 snap==(i:Int)with
   |true=>exact⟨j1,fun k=>by simp only [cond_true,hj1,List.append_assoc,List.singleton_append]⟩
   |false=>exact⟨j2,fun k=>by simp only [cond_false,hj2]⟩
theorem vsq {L:List tVersion.D}(hL:L.length≤1048576){snap:Int}:∀(l s:List tVersion.D) (i:Nat),L.drop i=l→s.length+l.length≤3000000→∃j:Int,∀k,vgi L snap l s i k=k (j,s++vnv L snap l i)
 |[],s,i,_,_=>⟨(i:Int),fun k=>by simp only [vgi,vnv,List.append_nil]⟩
 |y::l,s,i,hd,h=>by
  have hlt:=vbt hd
  have hy:rd (Ty.zero tVersion) L (i:Int)=y:=(vcs hd).1 _
  simp only [List.length_cons]at h
  have hm:s.length+[y].length≤VE.maxLen:=by show _≤4294967296;simp only [List.length_singleton];omega
  have hi:0≤(i:Int)∧(i:Int)<(L.length:Int):=⟨by omega,by omega⟩
  obtain⟨j1,hj1⟩:=vsq hL (snap:=snap) l (s++[y]) (i+1) (vau hd) (by rw [List.length_append,List.length_singleton];omega)
  obtain⟨j2,hj2⟩:=vsq hL (snap:=snap) l s (i+1) (vau hd) (by omega)
  simp only [vgi,vnv,vdq,wzl hL,hy,cond_true,if_pos hm,if_pos hi]
  cases decide (y.2.2.2>snap)with
  |true=>exact⟨j1,fun k=>by simp only [cond_true,Bool.true_or,hj1,List.append_assoc,List.singleton_append]⟩
  |false=>
   simp only [cond_false,Bool.false_or]
   cases vmk L y.1 snap==(i:Int)with
   |true=>exact⟨j1,fun k=>by simp only [cond_true,hj1,List.append_assoc,List.singleton_append]⟩
   |false=>exact⟨j2,fun k=>by simp only [cond_false,hj2]⟩
theorem vwh {u0:ByteArray}{u4:List tVersion.D}:∀(l:List tVersion.D) (n i:Nat),n+l.length≤3000000→∃j:Int,∀k,vm1 u0 u4 l (n:Int) i k=k (((n+cntK l u0:Nat):Int),j)
 |[],n,i,_=>⟨(i:Int),fun k=>rfl⟩
 |y::l,n,i,h=>by
  simp only [List.length_cons]at h
  have hw:IntKind.wrap .i64 ((n:Int)+1)=((n+1:Nat):Int):=vaz (by omega)
  obtain⟨j1,hj1⟩:=vwh (u0:=u0) (u4:=u4) l (n+1) (i+1) (by omega)
  obtain⟨j2,hj2⟩:=vwh (u0:=u0) (u4:=u4) l n (i+1) (by omega)
  have hc:cntK (y::l) u0=(bif vaj y.1 u0 then 1 else 0)+cntK l u0:=by
   unfold cntK
   rw [List.filter_cons]
   cases vaj y.1 u0
   ·simp
   ·simp only [if_true,List.length_cons,cond_true];omega
  rw [hc]
  simp only [vm1,hw]
  cases vaj y.1 u0 with
  |true=>exact⟨j1,fun k=>by simp only [cond_true,hj1];rw [show n+1+cntK l u0=n+(1+cntK l u0) by omega]⟩
  |false=>exact⟨j2,fun k=>by simp only [cond_false,hj2,Nat.zero_add]⟩
theorem w67 {u0:ByteArray}{u4:List tVersion.D}(h:u4.length≤1048576) (k):v5t u0 u4 k=k ((cntK u4 u0:Int),u4):=by
 rw [xb9 (by omega)]
 unfold wqa
 obtain⟨j,hj⟩:=vwh (u0:=u0) (u4:=u4) u4 0 0 (by omega)
 have hz:((0:Nat):Int)=0:=rfl
 rw [hz]at hj
 rw [hj,Nat.zero_add]
theorem vwa {L:List tVersion.D}(hL:L.length≤1048576){snap:Int}:∀(l s:List tVersion.D) (i q:Nat),L.drop i=l→l.length<q→s.length+l.length≤3000000→∃j:Int,∀K,
  vab vo1 q (snap,(L.length:Int),(i:Int),s,L) K=K (snap,(L.length:Int),j,s++l.filter (vwl L snap),L)
 |l,s,i,0,_,h,_=>by omega
 |[],s,i,q+1,hd,_,_=>by
  have hge:=vv1 hd
  exact⟨(i:Int),fun K=>by simp only [vab,vo1,hge,decide_false,cond_false,Sum.elim_inr,List.filter_nil,List.append_nil]⟩
 |y::l,s,i,q+1,hd,hq,h=>by
  have hlt:=vbt hd
  have hy:L.getD i (Ty.zero tVersion)=y:=(vcs hd).2 _
  have hw1:IntKind.wrap .i64 ((i:Int)+1)=((i+1:Nat):Int):=vaz (by omega)
  simp only [List.length_cons]at h
  have hm:s.length+[y].length≤VE.maxLen:=by show _≤4294967296;simp only [List.length_singleton];omega
  obtain⟨j1,hj1⟩:=vwa hL (snap:=snap) l (s++[y]) (i+1) q (vau hd) (by simpa using hq) (by rw [List.length_append,List.length_singleton];omega)
  obtain⟨j2,hj2⟩:=vwa hL (snap:=snap) l s (i+1) q (vau hd) (by simpa using hq) (by omega)
  have hc:(decide ((cntK L y.1:Int)>1))=decide (1<cntK L y.1):=by
   by_cases c:1<cntK L y.1
   ·rw [decide_eq_true c,decide_eq_true (by omega)]
   ·rw [decide_eq_false c,decide_eq_false (by omega)]
  have key:∀b:Bool,vwl L snap y=b→((y::l).filter (vwl L snap))=bif b then y::l.filter (vwl L snap)else l.filter (vwl L snap):=fun b hb=>by
   rw [List.filter_cons,hb];cases b<;>rfl
  have hk:vwl L snap y=(decide (y.2.2.2>snap) || !y.2.2.1||decide (1<cntK L y.1)):=rfl
  simp only [vab,vo1,show (i:Int)<(L.length:Int) by omega,show (0:Int)≤(i:Int) by omega,and_self,if_true,decide_true,cond_true,Int.toNat_natCast,hy,hw1,if_pos hm,w67 hL,hc,Sum.elim_inl]
  cases h1:decide (y.2.2.2>snap)with
  |true=>
   rw [h1]at hk
   exact⟨j1,fun K=>by simp only [cond_true];rw [hj1,key _ hk];simp only [Bool.true_or,cond_true,List.append_assoc,List.singleton_append]⟩
  |false=>
   rw [h1]at hk
   cases h2:y.2.2.1 with
   |false=>
    rw [h2]at hk
    exact⟨j1,fun K=>by simp only [cond_true,cond_false,Bool.not_false];rw [hj1,key _ hk];simp only [Bool.false_or,Bool.not_false,Bool.true_or,cond_true,List.append_assoc,List.singleton_append]⟩
   |true=>
    rw [h2]at hk
    cases h3:decide (1<cntK L y.1)with
    |true=>
     rw [h3]at hk
     exact⟨j1,fun K=>by simp only [cond_true,cond_false,Bool.not_true];rw [hj1,key _ hk];simp only [Bool.false_or,Bool.not_true,cond_true,List.append_assoc,List.singleton_append]⟩
    |false=>
     rw [h3]at hk
     exact⟨j2,fun K=>by simp only [cond_false,Bool.not_true];rw [hj2,key _ hk];simp only [Bool.false_or,Bool.not_true,cond_false]⟩
theorem w7o {L:List tVersion.D}(hL:L.length≤1048576)(snap:Int) (k):v0v L snap k=k (w69 L snap):=by
 rw [xc1 (by omega)]
 unfold wvl
 obtain⟨j,hj⟩:=vwc hL (snap:=snap) (u2:=L) L [] 0 (by simp;omega)
 have hl:=v3l L snap L 0
 obtain⟨j2,hj2⟩:=vwa (L:=vnv L snap L 0) (by omega) (snap:=snap) (vnv L snap L 0) [] 0 Fuel rfl (Nat.lt_of_lt_of_le (by omega) vcr) (by simp;omega)
 have hz:((0:Nat):Int)=0:=rfl
 rw [hz]at hj2
 rw [hj]
 simp only [List.nil_append]at hj2 ⊢
 rw [hj2]
 rfl
theorem vsz {snap:Int}{u1:Nat}{L s:List tVersion.D}(h1:u1<L.length){y0:tVersion.D}(hy0:L.getD u1 (Ty.zero tVersion)=y0):∀(l:List tVersion.D) (n i:Nat),n+l.length≤3000000→∃j:Int,∀k,vg6 snap (u1:Int) L s l (n:Int) i k=k (((n+cntK l y0.1:Nat):Int),j)
 |[],n,i,_=>⟨(i:Int),fun k=>rfl⟩
 |y::l,n,i,h=>by
  simp only [List.length_cons]at h
  have hw:IntKind.wrap .i64 ((n:Int)+1)=((n+1:Nat):Int):=vaz (by omega)
  obtain⟨j1,hj1⟩:=vsz (snap:=snap) (s:=s) h1 hy0 l (n+1) (i+1) (by omega)
  obtain⟨j2,hj2⟩:=vsz (snap:=snap) (s:=s) h1 hy0 l n (i+1) (by omega)
  have hc:cntK (y::l) y0.1=(bif vaj y.1 y0.1 then 1 else 0)+cntK l y0.1:=by
   unfold cntK
   rw [List.filter_cons]
   cases vaj y.1 y0.1
   ·simp
   ·simp only [if_true,List.length_cons,cond_true];omega
  rw [hc]
  have hi:0≤(u1:Int)∧(u1:Int)<(L.length:Int):=⟨by omega,by omega⟩
  simp only [vg6,hw,Int.toNat_natCast,hy0,if_pos hi]
  cases vaj y.1 y0.1 with
  |true=>exact⟨j1,fun k=>by simp only [cond_true,hj1];rw [show n+1+cntK l y0.1=n+(1+cntK l y0.1) by omega]⟩
  |false=>exact⟨j2,fun k=>by simp only [cond_false,hj2,Nat.zero_add]⟩
theorem vsx {L:List tVersion.D}(hL:L.length≤1048576){snap:Int}:∀(l s:List tVersion.D) (i:Nat),L.drop i=l→s.length+l.length≤3000000→∃j:Int,∀k,vgg snap L l s i k=k (j,s++l.filter (vwl L snap))
 |[],s,i,_,_=>⟨(i:Int),fun k=>by simp only [vgg,List.filter_nil,List.append_nil]⟩
 |y::l,s,i,hd,h=>by
  have hlt:=vbt hd
  have hy:L.getD i (Ty.zero tVersion)=y:=(vcs hd).2 _
  simp only [List.length_cons]at h
  have hm:s.length+[y].length≤VE.maxLen:=by show _≤4294967296;simp only [List.length_singleton];omega
  have hi:0≤(i:Int)∧(i:Int)<(L.length:Int):=⟨by omega,by omega⟩
  obtain⟨j0,hj0⟩:=vsz (snap:=snap) (s:=s) hlt hy L 0 0 (by omega)
  have hz:((0:Nat):Int)=0:=rfl
  rw [hz]at hj0
  obtain⟨j1,hj1⟩:=vsx hL (snap:=snap) l (s++[y]) (i+1) (vau hd) (by rw [List.length_append,List.length_singleton];omega)
  obtain⟨j2,hj2⟩:=vsx hL (snap:=snap) l s (i+1) (vau hd) (by omega)
  have hc:(decide (((0+cntK L y.1:Nat):Int)>1))=decide (1<cntK L y.1):=by
   rw [Nat.zero_add]
   by_cases c:1<cntK L y.1
   ·rw [decide_eq_true c,decide_eq_true (by omega)]
   ·rw [decide_eq_false c,decide_eq_false (by omega)]
  have key:∀b:Bool,vwl L snap y=b→((y::l).filter (vwl L snap))=bif b then y::l.filter (vwl L snap)else l.filter (vwl L snap):=fun b hb=>by
   rw [List.filter_cons,hb];cases b<;>rfl
  have hk:vwl L snap y=(decide (y.2.2.2>snap) || !y.2.2.1||decide (1<cntK L y.1)):=rfl
  simp only [vgg,hj0,vcu,Int.toNat_natCast,hy,cond_true,if_pos hm,if_pos hi,hc]
  cases h2:y.2.2.1 with
  |false=>
   rw [h2,Bool.not_false,Bool.or_true,Bool.true_or]at hk
   exact⟨j1,fun k=>by simp only [cond_true,Bool.not_false];rw [hj1,key _ hk];simp only [cond_true,List.append_assoc,List.singleton_append]⟩
  |true=>
   rw [h2,Bool.not_true,Bool.or_false]at hk
   cases h1:decide (y.2.2.2>snap)with
   |true=>
    rw [h1,Bool.true_or]at hk
    exact⟨j1,fun k=>by simp only [cond_true,cond_false,Bool.not_true];rw [hj1,key _ hk];simp only [cond_true,List.append_assoc,List.singleton_append]⟩
   |false=>
    rw [h1,Bool.false_or]at hk
    cases h3:decide (1<cntK L y.1)with
    |true=>
     rw [h3]at hk
     exact⟨j1,fun k=>by simp only [cond_true,cond_false,Bool.not_true];rw [hj1,key _ hk];simp only [cond_true,List.append_assoc,List.singleton_append]⟩
    |false=>
     rw [h3]at hk
     exact⟨j2,fun k=>by simp only [cond_false,Bool.not_true];rw [hj2,key _ hk];simp only [cond_false]⟩
theorem wzc {L:List tVersion.D}(hL:L.length≤1048576)(snap:Int) (k):vsm L snap k=k (w69 L snap):=by
 rw [w9j (by omega)]
 unfold wgo
 obtain⟨j,hj⟩:=vsq hL (snap:=snap) L [] 0 rfl (by simp;omega)
 have hl:=v3l L snap L 0
 obtain⟨j2,hj2⟩:=vsx (L:=vnv L snap L 0) (by omega) (snap:=snap) (vnv L snap L 0) [] 0 rfl (by simp;omega)
 rw [hj]
 simp only [List.nil_append]at hj2 ⊢
 rw [wyz (by omega),hj2]
 rfl
end
end Go.VE
/- Plain laws: the text of a transaction,there and back. -/
namespace Go.VE
noncomputable section
set_option linter.unusedVariables false
set_option linter.unusedSimpArgs false
set_option maxRecDepth 100000
def Back (s:ByteArray)(a c:Int)(P:List Int):Prop:=0≤a∧c=a+(P.length:Int)∧c≤(s.size:Int)∧(vck s).drop a.toNat=P++(vck s).drop c.toNat
theorem Back.at {s:ByteArray}{a c:Int}{P:List Int}(h:Back s a c P):0≤a∧a≤(s.size:Int)∧0≤c∧c≤(s.size:Int):=by
 obtain⟨a1,a2,a3,a4⟩:=h
 omega
theorem Back.nil {s:ByteArray}{a c:Int}(h:Back s a c []):c=a:=by have:=h.2.1;simp at this;exact this
end
end Go.VE
/- Plain laws: slices.DeleteFunc,its loop. -/
namespace Go.VE
noncomputable section
set_option linter.unusedVariables false
set_option linter.unusedSimpArgs false
set_option maxRecDepth 100000
def inD (lo hi:Nat)(dd:List Nat):Prop:=∀d∈dd,lo≤d∧d<hi
theorem wi8 {lo hi:Nat}:∀{dd:List Nat},inD lo hi dd→hasD dd hi=false
 |[],_=>rfl
 |a::l,h=>by
  have h1:=h a (by simp)
  have hb:Nat.beq a hi=false:=by
   cases hb:Nat.beq a hi with
   |false=>rfl
   |true=>have:=Nat.eq_of_beq_eq_true hb;omega
  simp only [hasD,hb,wi8 (dd:=l) (fun d hd=>h d (by simp [hd])),Bool.or_self]
theorem w36 {lo hi:Nat}:∀{dd:List Nat},inD lo hi dd→loD lo dd=[]
 |[],_=>rfl
 |a::l,h=>by
  have h1:=h a (by simp)
  have hb:Nat.blt a lo=false:=by
   cases hb:Nat.blt a lo with
   |false=>rfl
   |true=>rw [Nat.blt_eq]at hb;omega
  simp only [loD,hb,cond_false,w36 (dd:=l) (fun d hd=>h d (by simp [hd]))]
theorem wx3 {lo hi:Nat}:∀{dd:List Nat},inD lo hi dd→inD (lo+1) (hi+1) (delD lo dd)
 |[],_=>fun d hd=>by simp [delD]at hd
 |a::l,h=>by
  have h1:=h a (by simp)
  have ih:=wx3 (dd:=l) (fun d hd=>h d (by simp [hd]))
  intro d hd
  simp only [delD]at hd
  cases hb:Nat.beq a lo with
  |true=>rw [hb]at hd;exact ih d hd
  |false=>
   rw [hb]at hd
   simp only [cond_false,List.mem_cons]at hd
   rcases hd with rfl|hd
   ·have:d≠lo:=fun e=>by subst e;rw [Nat.beq_refl]at hb;cases hb
    omega
   ·exact ih d hd
structure DelAt {α:Type} (p:α→Bool) (xs0:List α) (i j:Nat) (xs:List α) (dd:List Nat):Prop where
 len:xs.length=xs0.length
 lt:i<j
 le:j≤xs0.length
 kept:xs.take i=(xs0.take j).filter fun x=>!p x
 rest:xs.drop j=xs0.drop j
 dead:inD i j dd
theorem DelAt.get {α:Type}{p:α→Bool}{xs0 xs:List α}{i j:Nat}{dd:List Nat}(h:DelAt p xs0 i j xs dd)(hj:j<xs0.length)(d:α):xs.getD j d=xs0[j]:=by
 have h1:=congrArg (fun l=>l[0]?) h.rest
 simp only [List.getElem?_drop,Nat.add_zero,List.getElem?_eq_getElem hj]at h1
 simp [List.getD,h1]
theorem vs3 {α:Type}(f:α→Bool)(xs:List α){j:Nat}(hj:j<xs.length):(xs.take (j+1)).filter f=(xs.take j).filter f++(if f xs[j]then [xs[j]]else []):=by
 rw [List.take_add_one,List.getElem?_eq_getElem hj,List.filter_append]
 congr 1
 cases hf:f xs[j]<;>simp [hf]
theorem DelAt.skip {α:Type}{p:α→Bool}{xs0 xs:List α}{i j:Nat}{dd:List Nat}(h:DelAt p xs0 i j xs dd)(hj:j<xs0.length)(hp:p xs0[j]=true):DelAt p xs0 i (j+1) xs dd where
 len:=h.len
 lt:=Nat.lt_succ_of_lt h.lt
 le:=hj
 kept:=by rw [vs3 _ _ hj,h.kept,hp];simp
 rest:=by rw [←List.drop_drop,←List.drop_drop,h.rest]
 dead:=fun d hd=>⟨(h.dead d hd).1,Nat.lt_succ_of_lt (h.dead d hd).2⟩
theorem DelAt.keep {α:Type}{p:α→Bool}{xs0 xs:List α}{i j:Nat}{dd:List Nat}(h:DelAt p xs0 i j xs dd)(hj:j<xs0.length)(hp:p xs0[j]=false):DelAt p xs0 (i+1) (j+1) (xs.set i xs0[j]) (j::j::delD i dd) where
 len:=by rw [List.length_set];exact h.len
 lt:=Nat.succ_lt_succ h.lt
 le:=hj
 kept:=by
  have hi:i<xs.length:=by have:=h.lt;have:=h.len;omega
  rw [vs3 _ _ hj,←h.kept,hp,List.take_add_one,List.getElem?_set_self hi,List.take_set_of_le (Nat.le_refl i)]
  simp
 rest:=by
  have:=h.lt
  rw [List.drop_set_of_lt (by omega),←List.drop_drop,←List.drop_drop,h.rest]
 dead:=fun d hd=>by
  have:=h.lt
  simp only [List.mem_cons]at hd
  rcases hd with rfl|rfl|hd
  ·omega
  ·omega
  ·exact wx3 h.dead d hd
theorem DelAt.done {α:Type}{p:α→Bool}{xs0 xs:List α}{i j:Nat}{dd:List Nat}(h:DelAt p xs0 i j xs dd)(hj:¬j<xs0.length):xs.take i=(xs0.filter fun x=>!p x)∧i=(xs0.filter fun x=>!p x).length∧loD i dd=[]:=by
 have e:j=xs0.length:=by have:=h.le;omega
 have h1:=h.kept
 rw [e,List.take_length]at h1
 refine⟨h1,?_,w36 h.dead⟩
 rw [←h1,List.length_take]
 have:=h.lt
 have:=h.le
 have:=h.len
 omega
theorem DelAt.start {α:Type}{p:α→Bool}{xs0:List α}{i:Nat}(hi:i<xs0.length)(hp:p xs0[i]=true)(hb:∀t (ht:t<xs0.length),t<i→p xs0[t]=false):DelAt p xs0 i (i+1) xs0 [] where
 len:=rfl
 lt:=Nat.lt_succ_self i
 le:=hi
 kept:=by
  rw [vs3 _ _ hi,hp]
  simp only [Bool.not_true,Bool.false_eq_true,if_false,List.append_nil]
  refine(List.filter_eq_self.2 fun y hy=>?_).symm
  obtain⟨t,ht,rfl⟩:=List.getElem_of_mem hy
  rw [List.length_take]at ht
  rw [List.getElem_take,hb t (by omega) (by omega)]
  rfl
 rest:=rfl
 dead:=fun d hd=>by cases hd
end
end Go.VE
/- Plain laws: slices.DeleteFunc answers the filtered list;bases with transactions given up. -/
namespace Go.VE
noncomputable section
set_option linter.unusedVariables false
set_option linter.unusedSimpArgs false
set_option maxRecDepth 100000
theorem wdy (p:tTxn.D→Bool):∀(l:List tTxn.D) (i:Nat),(atF p l i = -1∧∀y∈l,p y=false)∨∃(a:Nat) (ha:a<l.length),atF p l i=((i+a:Nat):Int)∧p l[a]=true∧∀t (ht:t<l.length),t<a→p l[t]=false
 |[],i=>.inl ⟨rfl,fun y h=>by cases h⟩
 |y::l,i=>by
  cases hp:p y with
  |true=>exact .inr ⟨0,by simp,by simp only [atF,hp,cond_true,Nat.add_zero],hp,fun t _ h=>by omega⟩
  |false=>
   rcases wdy p l (i+1)with⟨h,hn⟩|⟨a,ha,h,h1,h2⟩
   ·exact .inl ⟨by simp only [atF,hp,cond_false,h],fun z hz=>by rcases List.mem_cons.1 hz with rfl|hz;exact hp;exact hn z hz⟩
   ·refine .inr ⟨a+1,by simp only [List.length_cons];omega,by simp only [atF,hp,cond_false,h];congr 1;omega,h1,fun t ht hta=>?_⟩
    cases t with
    |zero=>exact hp
    |succ t=>exact h2 t (by simpa using ht) (by omega)
def tagS {α:Type}(b:Bool)(x:α):α⊕α:=bif b then .inr x else .inl x
theorem vts {σ:Type}{c:σ}{p:tTxn.D→Bool}{xs0:List tTxn.D}(hl:xs0.length≤1048576)
  {B:((Int×Int×List tTxn.D×List Nat×σ)⊕(Int×Int×List tTxn.D×List Nat×σ))→(((Int×Int×List tTxn.D×List Nat×σ)⊕(Int×Int×List tTxn.D×List Nat×σ))⊕((Int×Int×List tTxn.D×List Nat×σ)⊕(Int×Int×List tTxn.D×List Nat×σ))→Option Res)→Option Res}
  (hk:∀b (i j:Nat) xs dd k,i<xs.length→j<xs.length→xs.length≤1048576→hasD dd j=false→p (xs.getD j (Ty.zero tTxn))=false→B (tagS b ((i:Int),(j:Int),xs,dd,c)) k=k (.inl (tagS true (((i+1:Nat):Int),((j+1:Nat):Int),xs.set i (xs.getD j (Ty.zero tTxn)),j::j::delD i dd,c))))
  (hs:∀b (i j:Nat) xs dd k,j<xs.length→xs.length≤1048576→hasD dd j=false→p (xs.getD j (Ty.zero tTxn))=true→B (tagS b ((i:Int),(j:Int),xs,dd,c)) k=k (.inl (tagS b ((i:Int),((j+1:Nat):Int),xs,dd,c))))
  (he:∀b (i j:Nat) xs dd k,¬j<xs.length→B (tagS b ((i:Int),(j:Int),xs,dd,c)) k=k (.inr (tagS b ((i:Int),(j:Int),xs,dd,c)))) :
  ∀(n:Nat) (xs:List tTxn.D) (i j:Nat) (dd:List Nat) (b:Bool) (q:Nat),xs0.length-j=n→DelAt p xs0 i j xs dd→n<q→
   ∃b' i' xs' dd',(i'≤xs'.length∧xs'.take i'=xs0.filter (fun x=>!p x)∧loD i' dd'=[])∧∀K,vab B q (tagS b ((i:Int),(j:Int),xs,dd,c)) K=K (tagS b' ((i':Int),((xs0.length:Nat):Int),xs',dd',c))
 |n,xs,i,j,dd,b,0,_,_,hq=>by omega
 |0,xs,i,j,dd,b,q+1,hn,h,_=>by
  have hlen:=h.len;have hle:=h.le;have hlt:=h.lt
  have hj:j=xs0.length:=by omega
  subst hj
  obtain⟨h1,h2,h3⟩:=h.done (by omega)
  refine⟨b,i,xs,dd,⟨by omega,h1,h3⟩,fun K=>?_⟩
  simp only [vab]
  rw [he b i _ xs dd _ (by omega)]
  simp only [Sum.elim_inr]
 |n+1,xs,i,j,dd,b,q+1,hn,h,hq=>by
  have hlen:=h.len;have hle:=h.le;have hlt:=h.lt
  have hj:j<xs0.length:=by omega
  have hd:hasD dd j=false:=wi8 h.dead
  have hg:=h.get hj (Ty.zero tTxn)
  cases hp:p xs0[j]with
  |true=>
   obtain⟨b',i',xs',dd',hh,hK⟩:=vts hl hk hs he n xs i (j+1) dd b q (by omega) (h.skip hj hp) (by omega)
   refine⟨b',i',xs',dd',hh,fun K=>?_⟩
   simp only [vab]
   rw [hs b i j xs dd _ (by omega) (by omega) hd (by rw [hg];exact hp)]
   simp only [Sum.elim_inl]
   exact hK K
  |false=>
   obtain⟨b',i',xs',dd',hh,hK⟩:=vts hl hk hs he n (xs.set i xs0[j]) (i+1) (j+1) (j::j::delD i dd) true q (by omega) (h.keep hj hp) (by omega)
   refine⟨b',i',xs',dd',hh,fun K=>?_⟩
   simp only [vab]
   rw [hk b i j xs dd _ (by omega) (by omega) (by omega) hd (by rw [hg];exact hp),hg]
   simp only [Sum.elim_inl]
   exact hK K
theorem v9d {p:tTxn.D→Bool}{l:List tTxn.D}(h:∀y∈l,p y=false):l.filter (fun x=>!p x)=l:=
 List.filter_eq_self.2 fun y hy=>by rw [h y hy];rfl
theorem wiv (x:tTxn.D)(c:ByteArray) (k):vxc x c k=k (vaj x.2.2.2.2.2.2.2 c,c):=by rw [wvv];rfl
theorem v6d {u0 u1}{c:ByteArray}:∀(l:List tTxn.D) (i:Nat),
  (∃a:Nat,atF (fun x=>vaj x.2.2.2.2.2.2.2 c) l i=(a:Int)∧∀k,vme u0 u1 l c i k=k (.inl ((a:Int),(a:Int),c)))∨
  ((∃b:Int,∀k,vme u0 u1 l c i k=k (.inr (b,c)))∧atF (fun x=>vaj x.2.2.2.2.2.2.2 c) l i = -1)
 |[],i=>.inr ⟨⟨_,fun k=>rfl⟩,rfl⟩
 |y::l,i=>by
  have ih:=v6d (u0:=u0) (u1:=u1) (c:=c) l (i+1)
  simp only [vme,atF,wiv]
  cases vaj y.2.2.2.2.2.2.2 c
  ·exact ih
  ·exact .inl ⟨i,rfl,fun k=>rfl⟩
theorem wry {l:List tTxn.D}(c:ByteArray)(hl:l.length≤1048576) (k):v3x l c k=k (atF (fun x=>vaj x.2.2.2.2.2.2.2 c) l 0,c):=by
 rw [xan (by omega)]
 unfold wr5
 rcases v6d (u0:=l) (u1:=0) (c:=c) l 0 with⟨a,ha,h⟩|⟨⟨b,h⟩,ha⟩<;>rw [h,ha]<;>rfl
theorem w7c {l:List tTxn.D}(hl:l.length≤1048576)(c:ByteArray) :
  ∃s,(s = .inl (l.filter (fun x=>!(vaj x.2.2.2.2.2.2.2 c)),c)∨s = .inr (c,l.filter (fun x=>!(vaj x.2.2.2.2.2.2.2 c))))∧∀k,v8k l c k=k s:=by
 rcases wdy (fun x=>vaj x.2.2.2.2.2.2.2 c) l 0 with⟨h,hn⟩|⟨a,ha,h,h1,h2⟩
 ·refine⟨.inl (l,c),.inl (by rw [v9d hn]),fun k=>?_⟩
  rw [w5g]
  unfold wkq
  rw [wry c hl]
  simp only [h]
  rfl
 ·obtain⟨b',i',xs',dd',⟨q1,q2,q3⟩,hK⟩:=vts (c:=(c)) (p:=fun x=>vaj x.2.2.2.2.2.2.2 c) hl (B:=vio)
   (fun b i j xs dd k hi hj hx hd hp=>by
    have hw1:IntKind.wrap .i64 ((i:Int)+1)=((i+1:Nat):Int):=vaz (by omega)
    have hw2:IntKind.wrap .i64 ((j:Int)+1)=((j+1:Nat):Int):=vaz (by omega)
    cases b<;>simp only [vio,tagS,cond_true,cond_false,Sum.elim_inl,Sum.elim_inr,show (j:Int)<(xs.length:Int) by omega,show (0:Int)≤(j:Int) by omega,show (i:Int)<(xs.length:Int) by omega,show (0:Int)≤(i:Int) by omega,and_self,if_true,decide_true,Int.toNat_natCast,hd,wiv,hp,Bool.not_false,hw1,hw2])
   (fun b i j xs dd k hj hx hd hp=>by
    have hw2:IntKind.wrap .i64 ((j:Int)+1)=((j+1:Nat):Int):=vaz (by omega)
    cases b<;>simp only [vio,tagS,cond_true,cond_false,Sum.elim_inl,Sum.elim_inr,show (j:Int)<(xs.length:Int) by omega,show (0:Int)≤(j:Int) by omega,and_self,if_true,decide_true,Int.toNat_natCast,hd,wiv,hp,Bool.not_true,hw2])
   (fun b i j xs dd k hj=>by
    cases b<;>simp only [vio,tagS,cond_true,cond_false,Sum.elim_inl,Sum.elim_inr,show ¬(j:Int)<(xs.length:Int) by omega,decide_false])
   (l.length-(a+1)) l a (a+1) [] false Fuel rfl (DelAt.start ha h1 h2) (Nat.lt_of_lt_of_le (by omega) vcr)
  refine⟨.inr (c,l.filter (fun x=>!(vaj x.2.2.2.2.2.2.2 c))),.inr rfl,fun k=>?_⟩
  have hw1:IntKind.wrap .i64 ((a:Int)+1)=((a+1:Nat):Int):=vaz (by omega)
  have hne:((a:Int)==(-1:Int))=false:=by rw [beq_eq_false_iff_ne];omega
  have ez:((0+a:Nat):Int)=(a:Int):=by omega
  have hlen:((xs'.take i'++List.replicate (xs'.length-i') (Ty.zero tTxn)).length:Nat)=xs'.length:=by rw [List.length_append,List.length_take,List.length_replicate];omega
  have htk:(xs'.take i'++List.replicate (xs'.length-i') (Ty.zero tTxn)).take i'=l.filter (fun x=>!(vaj x.2.2.2.2.2.2.2 c)):=by
   rw [List.take_append_of_le_length (by rw [List.length_take];omega),List.take_take,Nat.min_self,q2]
  rw [w5g]
  unfold wkq
  rw [wry c hl]
  simp only [tagS,cond_false]at hK
  simp only [h,ez,hne,cond_false,hw1,hK]
  cases b'<;>simp only [tagS,cond_true,cond_false,Sum.elim_inl,Sum.elim_inr,show (0:Int)≤(i':Int) by omega,show (i':Int)≤(xs'.length:Int) by omega,and_self,if_true,Int.toNat_natCast,hlen,q3,geD,htk]
theorem wh3 (x:tTxn.D)(c:Int) (k):vxr x c k=k (decide (x.2.2.2.1≤c),c):=by rw [wqr];rfl
theorem v3a {u0 u1}{c:Int}:∀(l:List tTxn.D) (i:Nat),
  (∃a:Nat,atF (fun x=>decide (x.2.2.2.1≤c)) l i=(a:Int)∧∀k,vhg u0 u1 l c i k=k (.inl ((a:Int),(a:Int),c)))∨
  ((∃b:Int,∀k,vhg u0 u1 l c i k=k (.inr (b,c)))∧atF (fun x=>decide (x.2.2.2.1≤c)) l i = -1)
 |[],i=>.inr ⟨⟨_,fun k=>rfl⟩,rfl⟩
 |y::l,i=>by
  have ih:=v3a (u0:=u0) (u1:=u1) (c:=c) l (i+1)
  simp only [vhg,atF,wh3]
  cases decide (y.2.2.2.1≤c)
  ·exact ih
  ·exact .inl ⟨i,rfl,fun k=>rfl⟩
theorem wlo {l:List tTxn.D}(c:Int)(hl:l.length≤1048576) (k):vs0 l c k=k (atF (fun x=>decide (x.2.2.2.1≤c)) l 0,c):=by
 rw [w7j (by omega)]
 unfold wgy
 rcases v3a (u0:=l) (u1:=0) (c:=c) l 0 with⟨a,ha,h⟩|⟨⟨b,h⟩,ha⟩<;>rw [h,ha]<;>rfl
theorem w79 {l:List tTxn.D}(hl:l.length≤1048576)(c:Int) :
  ∃s,(s = .inl (l.filter (fun x=>!(decide (x.2.2.2.1≤c))),c)∨s = .inr (c,l.filter (fun x=>!(decide (x.2.2.2.1≤c)))))∧∀k,v7n l c k=k s:=by
 rcases wdy (fun x=>decide (x.2.2.2.1≤c)) l 0 with⟨h,hn⟩|⟨a,ha,h,h1,h2⟩
 ·refine⟨.inl (l,c),.inl (by rw [v9d hn]),fun k=>?_⟩
  rw [w4z]
  unfold wjk
  rw [wlo c hl]
  simp only [h]
  rfl
 ·obtain⟨b',i',xs',dd',⟨q1,q2,q3⟩,hK⟩:=vts (c:=(c)) (p:=fun x=>decide (x.2.2.2.1≤c)) hl (B:=vh6)
   (fun b i j xs dd k hi hj hx hd hp=>by
    have hw1:IntKind.wrap .i64 ((i:Int)+1)=((i+1:Nat):Int):=vaz (by omega)
    have hw2:IntKind.wrap .i64 ((j:Int)+1)=((j+1:Nat):Int):=vaz (by omega)
    cases b<;>simp only [vh6,tagS,cond_true,cond_false,Sum.elim_inl,Sum.elim_inr,show (j:Int)<(xs.length:Int) by omega,show (0:Int)≤(j:Int) by omega,show (i:Int)<(xs.length:Int) by omega,show (0:Int)≤(i:Int) by omega,and_self,if_true,decide_true,Int.toNat_natCast,hd,wh3,hp,Bool.not_false,hw1,hw2])
   (fun b i j xs dd k hj hx hd hp=>by
    have hw2:IntKind.wrap .i64 ((j:Int)+1)=((j+1:Nat):Int):=vaz (by omega)
    cases b<;>simp only [vh6,tagS,cond_true,cond_false,Sum.elim_inl,Sum.elim_inr,show (j:Int)<(xs.length:Int) by omega,show (0:Int)≤(j:Int) by omega,and_self,if_true,decide_true,Int.toNat_natCast,hd,wh3,hp,Bool.not_true,hw2])
   (fun b i j xs dd k hj=>by
    cases b<;>simp only [vh6,tagS,cond_true,cond_false,Sum.elim_inl,Sum.elim_inr,show ¬(j:Int)<(xs.length:Int) by omega,decide_false])
   (l.length-(a+1)) l a (a+1) [] false Fuel rfl (DelAt.start ha h1 h2) (Nat.lt_of_lt_of_le (by omega) vcr)
  refine⟨.inr (c,l.filter (fun x=>!(decide (x.2.2.2.1≤c)))),.inr rfl,fun k=>?_⟩
  have hw1:IntKind.wrap .i64 ((a:Int)+1)=((a+1:Nat):Int):=vaz (by omega)
  have hne:((a:Int)==(-1:Int))=false:=by rw [beq_eq_false_iff_ne];omega
  have ez:((0+a:Nat):Int)=(a:Int):=by omega
  have hlen:((xs'.take i'++List.replicate (xs'.length-i') (Ty.zero tTxn)).length:Nat)=xs'.length:=by rw [List.length_append,List.length_take,List.length_replicate];omega
  have htk:(xs'.take i'++List.replicate (xs'.length-i') (Ty.zero tTxn)).take i'=l.filter (fun x=>!(decide (x.2.2.2.1≤c))):=by
   rw [List.take_append_of_le_length (by rw [List.length_take];omega),List.take_take,Nat.min_self,q2]
  rw [w4z]
  unfold wjk
  rw [wlo c hl]
  simp only [tagS,cond_false]at hK
  simp only [h,ez,hne,cond_false,hw1,hK]
  cases b'<;>simp only [tagS,cond_true,cond_false,Sum.elim_inl,Sum.elim_inr,show (0:Int)≤(i':Int) by omega,show (i':Int)≤(xs'.length:Int) by omega,and_self,if_true,Int.toNat_natCast,hlen,q3,geD,htk]
theorem vwn {c:ByteArray} {u2 u3 u4 u5 u6 u7 u8 u9 u10 u11 u12}:∀(l acc:List tTxn.D) (i:Nat),(∀y∈l,y.2.2.2.2.1.length≤1048576∧y.2.2.2.2.2.1.length≤1048576)→acc.length+l.length≤1048576→
  ∃j:Int,∀K,vfd c u2 u3 u4 u5 u6 u7 u8 u9 u10 u11 u12 l acc i K=K (j,acc++l.filter (fun x=>!(vaj x.2.2.2.2.2.2.2 c)))
 |[],acc,i,_,_=>⟨_,fun K=>by simp only [vfd,List.filter_nil,List.append_nil];rfl⟩
 |y::l,acc,i,hw,h=>by
  simp only [List.length_cons]at h
  have hy:=hw y (by simp)
  cases hs:vaj y.2.2.2.2.2.2.2 c with
  |true=>
   obtain⟨j,hj⟩:=vwn (c:=c) (u2:=u2) (u3:=u3) (u4:=u4) (u5:=u5) (u6:=u6) (u7:=u7) (u8:=u8) (u9:=u9) (u10:=u10) (u11:=u11) (u12:=u12) l acc (i+1) (fun z hz=>hw z (by simp [hz])) (by omega)
   exact⟨j,fun K=>by simp only [vfd,hs,Bool.not_true,cond_false,hj,List.filter_cons,Bool.false_eq_true,if_false]⟩
  |false=>
   obtain⟨j,hj⟩:=vwn (c:=c) (u2:=u2) (u3:=u3) (u4:=u4) (u5:=u5) (u6:=u6) (u7:=u7) (u8:=u8) (u9:=u9) (u10:=u10) (u11:=u11) (u12:=u12) l (acc++[y]) (i+1) (fun z hz=>hw z (by simp [hz])) (by rw [List.length_append,List.length_singleton];omega)
   refine⟨j,fun K=>?_⟩
   simp only [vfd,hs,Bool.not_false,cond_true,vfh hy.1 hy.2,va7]
   rw [if_pos (by rw [List.length_singleton];have:VE.maxLen=4294967296:=rfl;omega),hj]
   simp only [List.filter_cons,hs,Bool.not_false,if_true,List.append_assoc,List.singleton_append]
theorem vbf {b:tBase.D}(h:OkBs b) (k):vdj b k=k (b.2.2.2.1,b.2.2.2.2,b.1,b.2.1,b.2.2.1):=by
 rw [wfd]
 unfold waa
 rw [if_pos (by have h1:=h.1;have:VE.maxLen=4294967296:=rfl;simp only [List.length_nil];omega)]
 simp only [wlx h.2.1,wlx h.2.2,List.nil_append]
theorem vbx {b:tBase.D}(h:OkBs b) (k):vim b k=k (b.2.2.2.1,b.2.2.2.2,b.1,b.2.1,b.2.2.1):=by
 rw [wwu]
 unfold wkh
 rw [if_pos (by have h1:=h.1;have:VE.maxLen=4294967296:=rfl;omega)]
 simp only [wwf h.2.1,wwf h.2.2]
def upB (b:tBase.D)(c:ByteArray):List tTxn.D:=b.2.2.1.filter (fun x=>!(vaj x.2.2.2.2.2.2.2 c))
theorem w0e {b:tBase.D}(h:OkBs b)(c:ByteArray) (k):vr9 b c k=k (b.2.2.2.1,b.2.2.2.2,b.1,b.2.1,upB b c):=by
 rw [w8v (by have:=h.2.2.2;omega)]
 unfold wgp
 simp only [vbf h]
 obtain⟨j,hj⟩:=vwn (c:=c) (u2:=b.1) (u3:=b.2.1) (u4:=b.2.2.1) (u5:=b.2.2.2.1) (u6:=b.2.2.2.2) (u7:=0) (u8:=0) (u9:=b.2.2.2.1) (u10:=b.2.2.2.2) (u11:=b.1) (u12:=b.2.1) b.2.2.1 [] 0 h.2.2.1 (by simpa using h.2.2.2)
 simp only [hj,List.nil_append,upB]
theorem w6f {b:tBase.D}(h:OkBs b)(c:ByteArray) (k):v1e b c k=k (b.2.2.2.1,b.2.2.2.2,b.1,b.2.1,upB b c):=by
 rw [wt7]
 unfold wjl
 simp only [vbx h]
 obtain⟨s,hs,hk⟩:=w7c (l:=b.2.2.1) h.2.2.2 c
 rw [hk]
 rcases hs with rfl|rfl<;>rfl
end
end Go.VE
/- Plain laws: bases tidied;who leaves. -/
namespace Go.VE
noncomputable section
set_option linter.unusedVariables false
set_option linter.unusedSimpArgs false
set_option maxRecDepth 100000
theorem vvw {o:Int} {u2 u3 u4 u5 u6 u7 u8 u9 u10 u11 u13}:∀(l acc:List tTxn.D) (i:Nat),(∀y∈l,y.2.2.2.2.1.length≤1048576∧y.2.2.2.2.2.1.length≤1048576)→acc.length+l.length≤1048576→
  ∃j:Int,∀K,ve8 o u2 u3 u4 u5 u6 u7 u8 u9 u10 u11 u13 l acc i K=K (j,acc++l.filter (fun x=>!(decide (x.2.2.2.1≤o))))
 |[],acc,i,_,_=>⟨_,fun K=>by simp only [ve8,List.filter_nil,List.append_nil];rfl⟩
 |y::l,acc,i,hw,h=>by
  simp only [List.length_cons]at h
  have hy:=hw y (by simp)
  by_cases hs:y.2.2.2.1≤o
  ·obtain⟨j,hj⟩:=vvw (o:=o) (u2:=u2) (u3:=u3) (u4:=u4) (u5:=u5) (u6:=u6) (u7:=u7) (u8:=u8) (u9:=u9) (u10:=u10) (u11:=u11) (u13:=u13) l acc (i+1) (fun z hz=>hw z (by simp [hz])) (by omega)
   have hn:decide (y.2.2.2.1>o)=false:=decide_eq_false (Int.not_lt.2 hs)
   exact⟨j,fun K=>by simp only [ve8,hn,cond_false,hj,List.filter_cons,decide_eq_true hs,Bool.not_true,Bool.false_eq_true,if_false]⟩
  ·obtain⟨j,hj⟩:=vvw (o:=o) (u2:=u2) (u3:=u3) (u4:=u4) (u5:=u5) (u6:=u6) (u7:=u7) (u8:=u8) (u9:=u9) (u10:=u10) (u11:=u11) (u13:=u13) l (acc++[y]) (i+1) (fun z hz=>hw z (by simp [hz])) (by rw [List.length_append,List.length_singleton];omega)
   have hn:decide (y.2.2.2.1>o)=true:=decide_eq_true (Int.not_le.1 hs)
   refine⟨j,fun K=>?_⟩
   simp only [ve8,hn,cond_true,vfh hy.1 hy.2,va7]
   rw [if_pos (by rw [List.length_singleton];have:VE.maxLen=4294967296:=rfl;omega),hj]
   simp only [List.filter_cons,decide_eq_false hs,Bool.not_false,if_true,List.append_assoc,List.singleton_append]
def w8r (b:tBase.D)(o:Int):List tTxn.D:=b.2.1.filter (fun x=>!(decide (x.2.2.2.1≤o)))
def veq (b:tBase.D)(l:List tTxn.D):tBase.D:=(w69 b.1 (vmj b.2.2.2.1 l),(w8r b (vmj b.2.2.2.1 l),b.2.2))
theorem vvq {b:tBase.D}(h:OkBs b){l:List tTxn.D}(hl:l.length≤1048576) (k):vta b l k=k (b.2.2.2.1,b.2.2.2.2,(veq b l).1,(veq b l).2.1,b.2.2.1):=by
 rw [w74 (by have:=h.2.1.2;omega)]
 unfold wff
 simp only [vbf h,w1w hl]
 obtain⟨j,hj⟩:=vvw (o:=vmj b.2.2.2.1 l) (u2:=b.1) (u3:=b.2.1) (u4:=b.2.2.1) (u5:=b.2.2.2.1) (u6:=b.2.2.2.2) (u7:=0) (u8:=0) (u9:=b.2.2.2.1) (u10:=b.2.2.2.2) (u11:=b.1) (u13:=b.2.2.1) b.2.1 [] 0 h.2.1.1 (by simpa using h.2.1.2)
 simp only [hj,List.nil_append,wzc h.1,veq,w8r]
theorem vsr {b:tBase.D}(h:OkBs b){l:List tTxn.D}(hl:l.length≤1048576) (k):wcr b l k=k (b.2.2.2.1,b.2.2.2.2,(veq b l).1,(veq b l).2.1,b.2.2.1):=by
 rw [wrz]
 unfold wl1
 simp only [vbx h,w87 hl]
 obtain⟨s,hs,hk⟩:=w79 (l:=b.2.1) h.2.1.2 (vmj b.2.2.2.1 l)
 rw [hk]
 rcases hs with rfl|rfl<;>simp only [Sum.elim_inl,Sum.elim_inr,w7o h.1,veq,w8r]
end
end Go.VE
/- Plain laws: who is let through,who is made ready. -/
namespace Go.VE
noncomputable section
set_option linter.unusedVariables false
set_option linter.unusedSimpArgs false
set_option maxRecDepth 100000
theorem wiw (x:tTxn.D)(c1:Int)(c2:Int)(c3:Int)(c4:Int)(c5:Bool)(c6:ByteArray) (k):vxt x c1 c2 c3 c4 c5 c6 k=k ((x.1==c1),c1,c2,c3,c4,c5,c6):=by rw [wur];rfl
theorem v13 {u0 u1}{c1:Int}{c2:Int}{c3:Int}{c4:Int}{c5:Bool}{c6:ByteArray}:∀(l:List tTxn.D) (i:Nat),
  (∃a:Nat,atF (fun x=>(x.1==c1)) l i=(a:Int)∧∀k,vg8 u0 u1 l c1 c2 c3 c4 c5 c6 i k=k (.inl ((a:Int),(a:Int),c1,c2,c3,c4,c5,c6)))∨
  ((∃b:Int,∀k,vg8 u0 u1 l c1 c2 c3 c4 c5 c6 i k=k (.inr (b,c1,c2,c3,c4,c5,c6)))∧atF (fun x=>(x.1==c1)) l i = -1)
 |[],i=>.inr ⟨⟨_,fun k=>rfl⟩,rfl⟩
 |y::l,i=>by
  have ih:=v13 (u0:=u0) (u1:=u1) (c1:=c1) (c2:=c2) (c3:=c3) (c4:=c4) (c5:=c5) (c6:=c6) l (i+1)
  simp only [vg8,atF,wiw]
  cases (y.1==c1)
  ·exact ih
  ·exact .inl ⟨i,rfl,fun k=>rfl⟩
theorem wld {l:List tTxn.D}(c1:Int)(c2:Int)(c3:Int)(c4:Int)(c5:Bool)(c6:ByteArray)(hl:l.length≤1048576) (k):vr5 l c1 c2 c3 c4 c5 c6 k=k (atF (fun x=>(x.1==c1)) l 0,c1,c2,c3,c4,c5,c6):=by
 rw [w66 (by omega)]
 unfold whh
 rcases v13 (u0:=l) (u1:=0) (c1:=c1) (c2:=c2) (c3:=c3) (c4:=c4) (c5:=c5) (c6:=c6) l 0 with⟨a,ha,h⟩|⟨⟨b,h⟩,ha⟩<;>rw [h,ha]<;>rfl
theorem w6p {l:List tTxn.D}(hl:l.length≤1048576)(c1:Int)(c2:Int)(c3:Int)(c4:Int)(c5:Bool)(c6:ByteArray) :
  ∃s,(s = .inl (l.filter (fun x=>!((x.1==c1))),c1,c2,c3,c4,c5,c6)∨s = .inr (c1,c2,c3,c4,c5,c6,l.filter (fun x=>!((x.1==c1)))))∧∀k,v67 l c1 c2 c3 c4 c5 c6 k=k s:=by
 rcases wdy (fun x=>(x.1==c1)) l 0 with⟨h,hn⟩|⟨a,ha,h,h1,h2⟩
 ·refine⟨.inl (l,c1,c2,c3,c4,c5,c6),.inl (by rw [v9d hn]),fun k=>?_⟩
  rw [w4u]
  unfold wkf
  rw [wld c1 c2 c3 c4 c5 c6 hl]
  simp only [h]
  rfl
 ·obtain⟨b',i',xs',dd',⟨q1,q2,q3⟩,hK⟩:=vts (c:=(c1,c2,c3,c4,c5,c6)) (p:=fun x=>(x.1==c1)) hl (B:=vic)
   (fun b i j xs dd k hi hj hx hd hp=>by
    have hw1:IntKind.wrap .i64 ((i:Int)+1)=((i+1:Nat):Int):=vaz (by omega)
    have hw2:IntKind.wrap .i64 ((j:Int)+1)=((j+1:Nat):Int):=vaz (by omega)
    cases b<;>simp only [vic,tagS,cond_true,cond_false,Sum.elim_inl,Sum.elim_inr,show (j:Int)<(xs.length:Int) by omega,show (0:Int)≤(j:Int) by omega,show (i:Int)<(xs.length:Int) by omega,show (0:Int)≤(i:Int) by omega,and_self,if_true,decide_true,Int.toNat_natCast,hd,wiw,hp,Bool.not_false,hw1,hw2])
   (fun b i j xs dd k hj hx hd hp=>by
    have hw2:IntKind.wrap .i64 ((j:Int)+1)=((j+1:Nat):Int):=vaz (by omega)
    cases b<;>simp only [vic,tagS,cond_true,cond_false,Sum.elim_inl,Sum.elim_inr,show (j:Int)<(xs.length:Int) by omega,show (0:Int)≤(j:Int) by omega,and_self,if_true,decide_true,Int.toNat_natCast,hd,wiw,hp,Bool.not_true,hw2])
   (fun b i j xs dd k hj=>by
    cases b<;>simp only [vic,tagS,cond_true,cond_false,Sum.elim_inl,Sum.elim_inr,show ¬(j:Int)<(xs.length:Int) by omega,decide_false])
   (l.length-(a+1)) l a (a+1) [] false Fuel rfl (DelAt.start ha h1 h2) (Nat.lt_of_lt_of_le (by omega) vcr)
  refine⟨.inr (c1,c2,c3,c4,c5,c6,l.filter (fun x=>!((x.1==c1)))),.inr rfl,fun k=>?_⟩
  have hw1:IntKind.wrap .i64 ((a:Int)+1)=((a+1:Nat):Int):=vaz (by omega)
  have hne:((a:Int)==(-1:Int))=false:=by rw [beq_eq_false_iff_ne];omega
  have ez:((0+a:Nat):Int)=(a:Int):=by omega
  have hlen:((xs'.take i'++List.replicate (xs'.length-i') (Ty.zero tTxn)).length:Nat)=xs'.length:=by rw [List.length_append,List.length_take,List.length_replicate];omega
  have htk:(xs'.take i'++List.replicate (xs'.length-i') (Ty.zero tTxn)).take i'=l.filter (fun x=>!((x.1==c1))):=by
   rw [List.take_append_of_le_length (by rw [List.length_take];omega),List.take_take,Nat.min_self,q2]
  rw [w4u]
  unfold wkf
  rw [wld c1 c2 c3 c4 c5 c6 hl]
  simp only [tagS,cond_false]at hK
  simp only [h,ez,hne,cond_false,hw1,hK]
  cases b'<;>simp only [tagS,cond_true,cond_false,Sum.elim_inl,Sum.elim_inr,show (0:Int)≤(i':Int) by omega,show (i':Int)≤(xs'.length:Int) by omega,and_self,if_true,Int.toNat_natCast,hlen,q3,geD,htk]
def vwy (b:tBase.D)(t:tTxn.D):tTxn.D:=(t.1,((3:Int),(t.2.2.1,(IntKind.wrap .i64 (b.2.2.2.1+1),(t.2.2.2.2.1,(t.2.2.2.2.2.1,((t.2.2.2.2.2.2.1||b.2.1.any (fun x=>vel t x)),(⟨#[]⟩:ByteArray))))))))
def outT (d y:tTxn.D):tTxn.D:=(y.1,(y.2.1,(y.2.2.1,(y.2.2.2.1,(y.2.2.2.2.1,(y.2.2.2.2.2.1,((y.2.2.2.2.2.2.1||vt6 y d),y.2.2.2.2.2.2.2)))))))
def vq9 (b:tBase.D)(t:tTxn.D):Int:=if IntKind.wrap .i64 (t.1+1)>b.2.2.2.2 then IntKind.wrap .i64 (t.1+1)else b.2.2.2.2
def vnf (b:tBase.D)(t:tTxn.D):List tTxn.D:=(b.2.2.1.filter (fun x=>!(x.1==t.1))).map (outT (vwy b t))
def vbi (b:tBase.D)(t:tTxn.D):tBase.D:=(vft b.1 t.2.2.2.2.2.1 (IntKind.wrap .i64 (b.2.2.2.1+1)),(b.2.1++[vwy b t],(vnf b t,(IntKind.wrap .i64 (b.2.2.2.1+1),vq9 b t))))
theorem xar (n m:Int)(h0:0≤n)(h1:n≤16383):(if IntKind.wrap .i64 (n+1)>m then IntKind.wrap .i64 (n+1)else m)=bif decide (n≥m)then IntKind.wrap .i64 (n+1)else m:=by
 have hw:IntKind.wrap .i64 (n+1)=n+1:=va9 (by omega) (by omega)
 rw [hw]
 by_cases hc:n≥m
 ·rw [if_pos (by omega),decide_eq_true hc];rfl
 ·rw [if_neg (by omega),decide_eq_false hc];rfl
theorem wkj (b:tBase.D){t:tTxn.D}(ht:tTxn.wt t≤1048576):tTxn.wt (vwy b t)≤1048576:=by
 rw [vom]at ht ⊢
 unfold vwy
 have:(⟨#[]⟩:ByteArray).size=0:=rfl
 simp only at *
 omega
theorem vww {c:Int}{d:tTxn.D}(hd:tTxn.wt d≤1048576) {u1 u2 u3 u4 u5 u7 u8 u9 u10 u11 u12 u13 u14 u15 u16 u17 u26 u27 u28 u29 u30}:∀(l acc:List tTxn.D) (i:Nat),(∀y∈l,tTxn.wt y≤1048576)→acc.length+l.length≤1048576→
  ∃j:Int,∀K,vey u1 u2 u3 u4 u5 c u7 u8 u9 u10 u11 u12 u13 u14 u15 u16 u17 d.1 d.2.1 d.2.2.1 d.2.2.2.1 d.2.2.2.2.1 d.2.2.2.2.2.1 d.2.2.2.2.2.2.1 d.2.2.2.2.2.2.2 u26 u27 u28 u29 u30 l acc i K=K (j,acc++(l.filter (fun x=>!(x.1==c))).map (outT d))
 |[],acc,i,_,_=>⟨_,fun K=>by simp only [vey,List.filter_nil,List.map_nil,List.append_nil];rfl⟩
 |y::l,acc,i,hw,h=>by
  simp only [List.length_cons]at h
  have hy:=hw y (by simp)
  have hl:=vkj hy
  cases hs:y.1==c with
  |true=>
   obtain⟨j,hj⟩:=vww (c:=c) hd (u1:=u1) (u2:=u2) (u3:=u3) (u4:=u4) (u5:=u5) (u7:=u7) (u8:=u8) (u9:=u9) (u10:=u10) (u11:=u11) (u12:=u12) (u13:=u13) (u14:=u14) (u15:=u15) (u16:=u16) (u17:=u17) (u26:=u26) (u27:=u27) (u28:=u28) (u29:=u29) (u30:=u30) l acc (i+1) (fun z hz=>hw z (by simp [hz])) (by omega)
   exact⟨j,fun K=>by simp only [vey,vfh hl.1 hl.2,hs,cond_true,hj,List.filter_cons,Bool.not_true,Bool.false_eq_true,if_false]⟩
  |false=>
   obtain⟨j,hj⟩:=vww (c:=c) hd (u1:=u1) (u2:=u2) (u3:=u3) (u4:=u4) (u5:=u5) (u7:=u7) (u8:=u8) (u9:=u9) (u10:=u10) (u11:=u11) (u12:=u12) (u13:=u13) (u14:=u14) (u15:=u15) (u16:=u16) (u17:=u17) (u26:=u26) (u27:=u27) (u28:=u28) (u29:=u29) (u30:=u30) l (acc++[outT d y]) (i+1) (fun z hz=>hw z (by simp [hz])) (by rw [List.length_append,List.length_singleton];omega)
   refine⟨j,fun K=>?_⟩
   have hm:acc.length+1≤VE.maxLen:=by have:VE.maxLen=4294967296:=rfl;omega
   simp only [vey,vfh hl.1 hl.2,hs,cond_false,va7,wm7 hy hd,vd7,List.length_singleton,if_pos hm,List.filter_cons,Bool.not_false,if_true,List.map_cons]
   unfold outT at hj ⊢
   simp only [List.append_assoc,List.singleton_append]at hj
   cases ha:vt6 y d with
   |true=>rw [ha,Bool.or_true]at hj;simp only [cond_true,hj,Bool.or_true]
   |false=>rw [ha,Bool.or_false]at hj;simp only [cond_false,hj,Bool.or_false]
theorem wd6 {d:tTxn.D}(hd:tTxn.wt d≤1048576){N:Nat}(hN:N≤1048576){a2 a3 a4 a5:Int}{a6:Bool}{a7:ByteArray}{a8 a9 a10 a11:Int}{a19:List tVersion.D}{a20 a21:List tTxn.D}{a22:List tVersion.D}{a23:List tTxn.D} :
  ∀(l pre:List tTxn.D) (q:Nat),pre.length+l.length=N→l.length<q→(∀y∈l,tTxn.wt y≤1048576)→∃j:Int,∀K,
   vab vpx q ((N:Int),(pre.length:Int),a2,a3,a4,a5,a6,a7,a8,a9,a10,a11,d.1,d.2.1,d.2.2.1,d.2.2.2.1,d.2.2.2.2.2.2.1,d.2.2.2.2.2.2.2,pre++l,a19,a20,a21,a22,a23,d.2.2.2.2.1,d.2.2.2.2.2.1) K =
    K ((N:Int),j,a2,a3,a4,a5,a6,a7,a8,a9,a10,a11,d.1,d.2.1,d.2.2.1,d.2.2.2.1,d.2.2.2.2.2.2.1,d.2.2.2.2.2.2.2,pre++l.map (outT d),a19,a20,a21,a22,a23,d.2.2.2.2.1,d.2.2.2.2.2.1)
 |_,_,0,_,h,_=>by omega
 |[],pre,q+1,hn,_,_=>⟨_,fun K=>by
   simp only [List.length_nil,Nat.add_zero]at hn
   simp only [vab,vpx,show ¬(pre.length:Int)<(N:Int) by omega,decide_false,cond_false,Sum.elim_inr,List.map_nil];rfl⟩
 |y::l,pre,q+1,hn,hq,hw=>by
  simp only [List.length_cons]at hn hq
  have hy:=hw y (by simp)
  obtain⟨j,hj⟩:=wd6 (a2:=a2) (a3:=a3) (a4:=a4) (a5:=a5) (a6:=a6) (a7:=a7) (a8:=a8) (a9:=a9) (a10:=a10) (a11:=a11) (a19:=a19) (a20:=a20) (a21:=a21) (a22:=a22) (a23:=a23) hd hN l (pre++[outT d y]) q (by rw [List.length_append,List.length_singleton];omega) (by omega) (fun z hz=>hw z (by simp [hz]))
  refine⟨j,fun K=>?_⟩
  have hlen:(pre++y::l).length=N:=by rw [List.length_append,List.length_cons];omega
  have hg:(pre++y::l).getD pre.length (Ty.zero tTxn)=y:=by simp [List.getD]
  have hset:∀z,(pre++y::l).set pre.length z=(pre++[z])++l:=fun z=>by simp
  have hw1:IntKind.wrap .i64 ((pre.length:Int)+1)=((pre.length+1:Nat):Int):=vaz (by omega)
  have hpl:∀z:tTxn.D,((pre++[z]).length:Int)=((pre.length+1:Nat):Int):=fun z=>by rw [List.length_append,List.length_singleton]
  rw [hpl]at hj
  simp only [vab,vpx,show (pre.length:Int)<(N:Int) by omega,decide_true,cond_true,hlen,show (0:Int)≤(pre.length:Int) by omega,and_self,if_true,Int.toNat_natCast,hg,hset,hw1,va7,wwx hy hd,Sum.elim_inl,List.map_cons]
  unfold outT at hj ⊢
  simp only [List.append_assoc,List.singleton_append]at hj ⊢
  cases ho:y.2.2.2.2.2.2.1 with
  |true=>simp only [ho,Bool.true_or]at hj;simp only [cond_true,hj,Bool.true_or]
  |false=>simp only [ho,Bool.false_or]at hj;simp only [cond_false,hj,Bool.false_or]
theorem wmn {b:tBase.D}(hb:tBase.wt b≤1048576){t:tTxn.D}(ht:tTxn.wt t≤1048576)(h0:(0:Int)≤(t.1:Int))(h1:(t.1:Int)≤(16383:Int)) (k) :
  vtd b t k=k ((vbi b t).2.2.2.1,(vbi b t).2.2.2.2,(vbi b t).1,(vbi b t).2.1,(vbi b t).2.2.1):=by
 have ho:=vky hb
 obtain⟨w1,w2,w3⟩:=vht hb
 have hl:=vkj ht
 have hm:b.2.1.length+1≤VE.maxLen:=by have:=ho.2.1.2;have:VE.maxLen=4294967296:=rfl;omega
 have hd:=wkj b ht
 rw [w7y (by have:=ho.2.2.2;omega)]
 unfold wfz
 have key:∀o:Bool,(t.2.2.2.2.2.2.1||b.2.1.any (fun x=>vel t x))=o→∀(K:Int×Int×Int×Int×Int×Int×ByteArray×List vah×List dTxn×List dTxn→Option Res),vdh b.1 b.2.1 b.2.2.1 b.2.2.2.1 b.2.2.2.2 t.1 t.2.1 t.2.2.1 t.2.2.2.1 t.2.2.2.2.1 t.2.2.2.2.2.1 t.2.2.2.2.2.2.1 t.2.2.2.2.2.2.2 0 0 b.2.2.2.1 b.2.2.2.2 t.1 t.2.1 t.2.2.1 t.2.2.2.1 o t.2.2.2.2.2.2.2 [] [] [] b.1 b.2.1 b.2.2.1 t.2.2.2.2.1 t.2.2.2.2.2.1 K =
   K (IntKind.wrap .i64 (b.2.2.2.1+1),vq9 b t,IntKind.wrap .i64 (b.2.2.2.1+1),vq9 b t,3,IntKind.wrap .i64 (b.2.2.2.1+1),(⟨#[]⟩:ByteArray),(vbi b t).1,(vbi b t).2.1,(vbi b t).2.2.1):=fun o hO K=>by
  obtain⟨j,hj⟩:=vww (c:=t.1) hd (u1:=b.1) (u2:=b.2.1) (u3:=b.2.2.1) (u4:=b.2.2.2.1) (u5:=b.2.2.2.2) (u7:=t.2.1) (u8:=t.2.2.1) (u9:=t.2.2.2.1) (u10:=t.2.2.2.2.1) (u11:=t.2.2.2.2.2.1) (u12:=t.2.2.2.2.2.2.1) (u13:=t.2.2.2.2.2.2.2) (u14:=0) (u15:=0) (u16:=IntKind.wrap .i64 (b.2.2.2.1+1)) (u17:=b.2.2.2.2) (u26:=[]) (u27:=[]) (u28:=[]) (u29:=vft b.1 t.2.2.2.2.2.1 (IntKind.wrap .i64 (b.2.2.2.1+1))) (u30:=b.2.1++[vwy b t]) b.2.2.1 [] 0 (fun y hy=>vbh hy w3) (by simpa using ho.2.2.2)
  have hnx:vq9 b t=bif decide (t.1≥b.2.2.2.2)then IntKind.wrap .i64 (t.1+1)else b.2.2.2.2:=xar t.1 b.2.2.2.2 h0 h1
  simp only [vwy,hO,List.nil_append]at hj
  unfold vdh
  simp only [w2b ho.1 hl.2,List.length_singleton,if_pos hm,hj,hnx,vbi,vnf,vwy,hO]
  cases decide (t.1≥b.2.2.2.2)<;>rfl
 cases hO:t.2.2.2.2.2.2.1 with
 |true=>
  have k1:=key true (by rw [hO];rfl)
  rw [hO]at k1
  simp only [vbf ho,vfh hl.1 hl.2,cond_true,k1,hO]
  rfl
 |false=>
  have k1:=key (b.2.1.any (fun x=>vel t x)) (by rw [hO];rfl)
  rw [hO]at k1
  simp only [vbf ho,vfh hl.1 hl.2,cond_false,wnc ht w2,k1,hO]
  rfl
theorem wtk {b:tBase.D}(hb:tBase.wt b≤1048576){t:tTxn.D}(ht:tTxn.wt t≤1048576) (k) :
  v5u b t k=k ((vbi b t).2.2.2.1,(vbi b t).2.2.2.2,(vbi b t).1,(vbi b t).2.1,(vbi b t).2.2.1):=by
 have ho:=vky hb
 obtain⟨w1,w2,w3⟩:=vht hb
 have hl:=vkj ht
 have hm:b.2.1.length+1≤VE.maxLen:=by have:=ho.2.1.2;have:VE.maxLen=4294967296:=rfl;omega
 have hd:=wkj b ht
 rw [wwb]
 unfold wm8
 obtain⟨s,hs,hk⟩:=w6p (l:=b.2.2.1) ho.2.2.2 t.1 t.2.1 t.2.2.1 t.2.2.2.1 t.2.2.2.2.2.2.1 t.2.2.2.2.2.2.2
 obtain⟨j,hj⟩:=wd6 hd (N:=(b.2.2.1.filter (fun x=>!(x.1==t.1))).length) (Nat.le_trans (List.length_filter_le _ _) ho.2.2.2) (a2:=t.1) (a3:=t.2.1) (a4:=t.2.2.1) (a5:=t.2.2.2.1) (a6:=t.2.2.2.2.2.2.1) (a7:=t.2.2.2.2.2.2.2) (a8:=0) (a9:=0) (a10:=IntKind.wrap .i64 (b.2.2.2.1+1)) (a11:=b.2.2.2.2) (a19:=[]) (a20:=[]) (a21:=[]) (a22:=vft b.1 t.2.2.2.2.2.1 (IntKind.wrap .i64 (b.2.2.2.1+1))) (a23:=b.2.1) (b.2.2.1.filter (fun x=>!(x.1==t.1))) [] Fuel (by simp) (Nat.lt_of_le_of_lt (Nat.le_trans (List.length_filter_le _ _) ho.2.2.2) (Nat.lt_of_lt_of_le (by omega) vcr)) (fun y hy=>vbh (List.mem_filter.1 hy).1 w3)
 simp only [List.nil_append,List.length_nil,Int.natCast_zero,vwy]at hj
 have key:∀o:Bool,(t.2.2.2.2.2.2.1||b.2.1.any (fun x=>vel t x))=o→∀(K:_→Option Res),vdi (b.1,b.2.1,b.2.2.1,b.2.2.2.1,b.2.2.2.2,t.1,t.2.1,t.2.2.1,t.2.2.2.1,t.2.2.2.2.1,t.2.2.2.2.2.1,t.2.2.2.2.2.2.1,t.2.2.2.2.2.2.2,0,0,b.2.2.2.1,b.2.2.2.2,t.1,3,t.2.2.1,IntKind.wrap .i64 (b.2.2.2.1+1),o,(⟨#[]⟩:ByteArray),b.1,b.2.1,b.2.2.1,t.2.2.2.2.1,t.2.2.2.2.2.1) K =
   K (t.1,t.2.1,t.2.2.1,t.2.2.2.1,t.2.2.2.2.2.2.1,t.2.2.2.2.2.2.2,IntKind.wrap .i64 (b.2.2.2.1+1),vq9 b t,IntKind.wrap .i64 (b.2.2.2.1+1),vq9 b t,t.1,3,t.2.2.1,IntKind.wrap .i64 (b.2.2.2.1+1),o,(⟨#[]⟩:ByteArray),(vbi b t).1,(vbi b t).2.1,(vbi b t).2.2.1):=fun o hO K=>by
  simp only [hO]at hj
  simp only [vdi,w8i ho.1 hl.2,vfl,hk,vbi,vnf,vwy,hO,vq9]
  rcases hs with rfl|rfl<;>simp only [Sum.elim_inl,Sum.elim_inr,hj,List.length_singleton,if_pos hm]
 cases hO:t.2.2.2.2.2.2.1 with
 |true=>
  have k1:=key true (by rw [hO];rfl)
  rw [hO]at k1
  simp only [vbx ho,v05 hl.1 hl.2,cond_true,k1,hO]
  rfl
 |false=>
  have k1:=key (b.2.1.any (fun x=>vel t x)) (by rw [hO];rfl)
  rw [hO]at k1
  simp only [vbx ho,v05 hl.1 hl.2,cond_false,wuu ht w2,k1,hO]
  rfl
end
end Go.VE
/- Plain laws: who is made ready. -/
namespace Go.VE
noncomputable section
set_option linter.unusedVariables false
set_option linter.unusedSimpArgs false
set_option maxRecDepth 100000
def rdyT (b:tBase.D)(t:tTxn.D)(c:ByteArray):tTxn.D:=(t.1,((2:Int),(t.2.2.1,(t.2.2.2.1,(t.2.2.2.2.1,(t.2.2.2.2.2.1,((t.2.2.2.2.2.2.1||b.2.1.any (fun x=>vel t x)),c)))))))
def v3o (b:tBase.D)(t:tTxn.D)(c:ByteArray):List tTxn.D:=((b.2.2.1.filter (fun x=>vai x.2.2.2.2.2.2.2 c))++[rdyT b t c])++b.2.2.1.filter (fun x=>!(vai x.2.2.2.2.2.2.2 c))
def vut (b:tBase.D)(t:tTxn.D)(c:ByteArray):tBase.D:=(b.1,(b.2.1,(v3o b t c,(b.2.2.2.1,vq9 b t))))
theorem vs6 {c:ByteArray} {u2 u3 u4 u5 u6 u7 u8 u9 u10 u11 u12 u13 u14 u15 u16 u17 u18 u19 u20 u21 u22 u23 u24 u25 u26 u28 u29}:∀(l acc:List tTxn.D) (i:Nat),(∀y∈l,y.2.2.2.2.1.length≤1048576∧y.2.2.2.2.2.1.length≤1048576)→acc.length+l.length≤3000000→
  ∃j:Int,∀K,vfm c u2 u3 u4 u5 u6 u7 u8 u9 u10 u11 u12 u13 u14 u15 u16 u17 u18 u19 u20 u21 u22 u23 u24 u25 u26 u28 u29 l acc i K=K (j,acc++l.filter (fun x=>vai x.2.2.2.2.2.2.2 c))
 |[],acc,i,_,_=>⟨_,fun K=>by simp only [vfm,List.filter_nil,List.append_nil];rfl⟩
 |y::l,acc,i,hw,h=>by
  simp only [List.length_cons]at h
  have hy:=hw y (by simp)
  cases hs:vai y.2.2.2.2.2.2.2 c with
  |false=>
   obtain⟨j,hj⟩:=vs6 (c:=c) (u2:=u2) (u3:=u3) (u4:=u4) (u5:=u5) (u6:=u6) (u7:=u7) (u8:=u8) (u9:=u9) (u10:=u10) (u11:=u11) (u12:=u12) (u13:=u13) (u14:=u14) (u15:=u15) (u16:=u16) (u17:=u17) (u18:=u18) (u19:=u19) (u20:=u20) (u21:=u21) (u22:=u22) (u23:=u23) (u24:=u24) (u25:=u25) (u26:=u26) (u28:=u28) (u29:=u29) l acc (i+1) (fun z hz=>hw z (by simp [hz])) (by omega)
   exact⟨j,fun K=>by simp only [vfm,hs,cond_false,hj,List.filter_cons,Bool.false_eq_true,if_false]⟩
  |true=>
   obtain⟨j,hj⟩:=vs6 (c:=c) (u2:=u2) (u3:=u3) (u4:=u4) (u5:=u5) (u6:=u6) (u7:=u7) (u8:=u8) (u9:=u9) (u10:=u10) (u11:=u11) (u12:=u12) (u13:=u13) (u14:=u14) (u15:=u15) (u16:=u16) (u17:=u17) (u18:=u18) (u19:=u19) (u20:=u20) (u21:=u21) (u22:=u22) (u23:=u23) (u24:=u24) (u25:=u25) (u26:=u26) (u28:=u28) (u29:=u29) l (acc++[y]) (i+1) (fun z hz=>hw z (by simp [hz])) (by rw [List.length_append,List.length_singleton];omega)
   refine⟨j,fun K=>?_⟩
   simp only [vfm,hs,cond_true,vfh hy.1 hy.2,va7]
   rw [if_pos (by rw [List.length_singleton];have:VE.maxLen=4294967296:=rfl;omega),hj]
   simp only [List.filter_cons,hs,if_true,List.append_assoc,List.singleton_append]
theorem vsu {c:ByteArray} {u2 u3 u4 u5 u6 u7 u8 u9 u10 u11 u12 u13 u14 u15 u16 u17 u18 u19 u20}:∀(l acc:List tTxn.D) (i:Nat),(∀y∈l,y.2.2.2.2.1.length≤1048576∧y.2.2.2.2.2.1.length≤1048576)→acc.length+l.length≤3000000→
  ∃j:Int,∀K,vf1 c u2 u3 u4 u5 u6 u7 u8 u9 u10 u11 u12 u13 u14 u15 u16 u17 u18 u19 u20 l acc i K=K (j,acc++l.filter (fun x=>!(vai x.2.2.2.2.2.2.2 c)))
 |[],acc,i,_,_=>⟨_,fun K=>by simp only [vf1,List.filter_nil,List.append_nil];rfl⟩
 |y::l,acc,i,hw,h=>by
  simp only [List.length_cons]at h
  have hy:=hw y (by simp)
  cases hs:vai y.2.2.2.2.2.2.2 c with
  |true=>
   obtain⟨j,hj⟩:=vsu (c:=c) (u2:=u2) (u3:=u3) (u4:=u4) (u5:=u5) (u6:=u6) (u7:=u7) (u8:=u8) (u9:=u9) (u10:=u10) (u11:=u11) (u12:=u12) (u13:=u13) (u14:=u14) (u15:=u15) (u16:=u16) (u17:=u17) (u18:=u18) (u19:=u19) (u20:=u20) l acc (i+1) (fun z hz=>hw z (by simp [hz])) (by omega)
   exact⟨j,fun K=>by simp only [vf1,hs,Bool.not_true,Bool.not_false,cond_false,hj,List.filter_cons,Bool.false_eq_true,if_false]⟩
  |false=>
   obtain⟨j,hj⟩:=vsu (c:=c) (u2:=u2) (u3:=u3) (u4:=u4) (u5:=u5) (u6:=u6) (u7:=u7) (u8:=u8) (u9:=u9) (u10:=u10) (u11:=u11) (u12:=u12) (u13:=u13) (u14:=u14) (u15:=u15) (u16:=u16) (u17:=u17) (u18:=u18) (u19:=u19) (u20:=u20) l (acc++[y]) (i+1) (fun z hz=>hw z (by simp [hz])) (by rw [List.length_append,List.length_singleton];omega)
   refine⟨j,fun K=>?_⟩
   simp only [vf1,hs,Bool.not_true,Bool.not_false,cond_true,vfh hy.1 hy.2,va7]
   rw [if_pos (by rw [List.length_singleton];have:VE.maxLen=4294967296:=rfl;omega),hj]
   simp only [List.filter_cons,hs,Bool.not_true,Bool.not_false,if_true,List.append_assoc,List.singleton_append]
theorem vwg {c:ByteArray} {u3 u4 u5 u6 u7 u8 u9 u10 u11 u12 u13 u14 u15 u16 u17 u18 u19 u20 u23 u25 u26 u27 u28 u29 u30 u31}:∀(l a1 a2:List tTxn.D) (dd:List Nat) (i:Nat),inD 0 i dd→a1.length+l.length≤1048576→a2.length+l.length≤1048576→
  ∃(j:Int) (dd':List Nat),∀K,vij c u3 u4 u5 u6 u7 u8 u9 u10 u11 u12 u13 u14 u15 u16 u17 u18 u19 u20 u23 u25 u26 u27 u28 u29 u30 u31 l a1 a2 dd i K=K (j,a1++l.filter (fun x=>vai x.2.2.2.2.2.2.2 c),a2++l.filter (fun x=>!(vai x.2.2.2.2.2.2.2 c)),dd')
 |[],a1,a2,dd,i,_,_,_=>⟨_,dd,fun K=>by simp only [vij,List.filter_nil,List.append_nil];rfl⟩
 |y::l,a1,a2,dd,i,hd,h1,h2=>by
  simp only [List.length_cons]at h1 h2
  have hh:hasD dd i=false:=wi8 hd
  have hd':inD 0 (i+1) (i::i::dd):=fun d hm=>by
   simp only [List.mem_cons]at hm
   rcases hm with rfl|rfl|hm
   ·omega
   ·omega
   ·have:=hd d hm;omega
  have hmx:VE.maxLen=4294967296:=rfl
  cases hs:vai y.2.2.2.2.2.2.2 c with
  |true=>
   obtain⟨j,dd',hj⟩:=vwg (c:=c) (u3:=u3) (u4:=u4) (u5:=u5) (u6:=u6) (u7:=u7) (u8:=u8) (u9:=u9) (u10:=u10) (u11:=u11) (u12:=u12) (u13:=u13) (u14:=u14) (u15:=u15) (u16:=u16) (u17:=u17) (u18:=u18) (u19:=u19) (u20:=u20) (u23:=u23) (u25:=u25) (u26:=u26) (u27:=u27) (u28:=u28) (u29:=u29) (u30:=u30) (u31:=u31) l (a1++[y]) a2 (i::i::dd) (i+1) hd' (by rw [List.length_append,List.length_singleton];omega) (by omega)
   refine⟨j,dd',fun K=>?_⟩
   have hm:a1.length+[y].length≤VE.maxLen:=by rw [List.length_singleton];omega
   simp only [vij,Int.toNat_natCast,hh,cond_false,hs,cond_true,if_pos hm,hj,List.filter_cons,if_true,Bool.not_true,Bool.false_eq_true,if_false,List.append_assoc,List.singleton_append]
  |false=>
   obtain⟨j,dd',hj⟩:=vwg (c:=c) (u3:=u3) (u4:=u4) (u5:=u5) (u6:=u6) (u7:=u7) (u8:=u8) (u9:=u9) (u10:=u10) (u11:=u11) (u12:=u12) (u13:=u13) (u14:=u14) (u15:=u15) (u16:=u16) (u17:=u17) (u18:=u18) (u19:=u19) (u20:=u20) (u23:=u23) (u25:=u25) (u26:=u26) (u27:=u27) (u28:=u28) (u29:=u29) (u30:=u30) (u31:=u31) l a1 (a2++[y]) (i::i::dd) (i+1) hd' (by omega) (by rw [List.length_append,List.length_singleton];omega)
   refine⟨j,dd',fun K=>?_⟩
   have hm:a2.length+[y].length≤VE.maxLen:=by rw [List.length_singleton];omega
   simp only [vij,Int.toNat_natCast,hh,cond_false,hs,if_pos hm,hj,List.filter_cons,if_true,Bool.not_false,Bool.false_eq_true,if_false,List.append_assoc,List.singleton_append]
theorem wz5 {b:tBase.D}(hb:tBase.wt b≤1048576){t:tTxn.D}(ht:tTxn.wt t≤1048576)(c:ByteArray)(h0:(0:Int)≤(t.1:Int))(h1:(t.1:Int)≤(16383:Int)) (k) :
  vtg b t c k=k (b.2.2.2.1,vq9 b t,b.1,b.2.1,v3o b t c):=by
 have ho:=vky hb
 obtain⟨w1,w2,w3⟩:=vht hb
 have hl:=vkj ht
 have hmx:VE.maxLen=4294967296:=rfl
 have hlr:=ho.2.2.2
 rw [w7d (by omega)]
 unfold whp
 have hm:(b.2.2.1.filter (fun x=>vai x.2.2.2.2.2.2.2 c)).length+1≤VE.maxLen:=by have:=List.length_filter_le (fun x:tTxn.D=>vai x.2.2.2.2.2.2.2 c) b.2.2.1;omega
 have hnx:vq9 b t=bif decide (t.1≥b.2.2.2.2)then IntKind.wrap .i64 (t.1+1)else b.2.2.2.2:=xar t.1 b.2.2.2.2 h0 h1
 have key:∀o:Bool,(t.2.2.2.2.2.2.1||b.2.1.any (fun x=>vel t x))=o→∀(K:Int×Int×List dTxn→Option Res),vdc c b.1 b.2.1 b.2.2.1 b.2.2.2.1 b.2.2.2.2 t.1 t.2.1 t.2.2.1 t.2.2.2.1 t.2.2.2.2.1 t.2.2.2.2.2.1 t.2.2.2.2.2.2.1 t.2.2.2.2.2.2.2 0 0 b.2.2.2.1 b.2.2.2.2 t.1 2 t.2.2.1 t.2.2.2.1 o c b.1 b.2.1 b.2.2.1 t.2.2.2.2.1 t.2.2.2.2.2.1 K =
   K (vq9 b t,vq9 b t,v3o b t c):=fun o hO K=>by
  unfold vdc
  obtain⟨j1,hj1⟩:=vs6 (c:=c) (u2:=b.1) (u3:=b.2.1) (u4:=b.2.2.1) (u5:=b.2.2.2.1) (u6:=b.2.2.2.2) (u7:=t.1) (u8:=t.2.1) (u9:=t.2.2.1) (u10:=t.2.2.2.1) (u11:=t.2.2.2.2.1) (u12:=t.2.2.2.2.2.1) (u13:=t.2.2.2.2.2.2.1) (u14:=t.2.2.2.2.2.2.2) (u15:=0) (u16:=0) (u17:=b.2.2.2.1) (u18:=b.2.2.2.2) (u19:=t.1) (u20:=2) (u21:=t.2.2.1) (u22:=t.2.2.2.1) (u23:=o) (u24:=c) (u25:=b.1) (u26:=b.2.1) (u28:=t.2.2.2.2.1) (u29:=t.2.2.2.2.2.1) b.2.2.1 [] 0 ho.2.2.1 (by simp only [List.length_nil];omega)
  obtain⟨j2,hj2⟩:=vsu (c:=c) (u2:=b.1) (u3:=b.2.1) (u4:=b.2.2.1) (u5:=b.2.2.2.1) (u6:=b.2.2.2.2) (u7:=t.1) (u8:=t.2.1) (u9:=t.2.2.1) (u10:=t.2.2.2.1) (u11:=t.2.2.2.2.1) (u12:=t.2.2.2.2.2.1) (u13:=t.2.2.2.2.2.2.1) (u14:=t.2.2.2.2.2.2.2) (u15:=0) (u16:=0) (u17:=b.2.2.2.1) (u18:=b.2.2.2.2) (u19:=b.1) (u20:=b.2.1) b.2.2.1 (b.2.2.1.filter (fun x=>vai x.2.2.2.2.2.2.2 c)++[(t.1,(2,(t.2.2.1,(t.2.2.2.1,(t.2.2.2.2.1,(t.2.2.2.2.2.1,(o,c)))))))]) 0 ho.2.2.1 (by rw [List.length_append,List.length_singleton];have:=List.length_filter_le (fun x:tTxn.D=>vai x.2.2.2.2.2.2.2 c) b.2.2.1;omega)
  simp only [hj1,List.nil_append,List.length_singleton,if_pos hm,hj2,hnx,v3o,rdyT,hO]
  cases decide (t.1≥b.2.2.2.2)<;>rfl
 cases hO:t.2.2.2.2.2.2.1 with
 |true=>
  have k1:=key true (by rw [hO];rfl)
  rw [hO]at k1
  simp only [vbf ho,vfh hl.1 hl.2,cond_true,k1,hO]
 |false=>
  have k1:=key (b.2.1.any (fun x=>vel t x)) (by rw [hO];rfl)
  rw [hO]at k1
  simp only [vbf ho,vfh hl.1 hl.2,cond_false,wnc ht w2,k1,hO]
theorem w7e {b:tBase.D}(hb:tBase.wt b≤1048576){t:tTxn.D}(ht:tTxn.wt t≤1048576)(c:ByteArray) (k) :
  vxb b t c k=k (b.2.2.2.1,vq9 b t,b.1,b.2.1,v3o b t c):=by
 have ho:=vky hb
 obtain⟨w1,w2,w3⟩:=vht hb
 have hl:=vkj ht
 have hmx:VE.maxLen=4294967296:=rfl
 have hlr:=ho.2.2.2
 have g1:=List.length_filter_le (fun x:tTxn.D=>vai x.2.2.2.2.2.2.2 c) b.2.2.1
 have g2:=List.length_filter_le (fun x:tTxn.D=>!(vai x.2.2.2.2.2.2.2 c)) b.2.2.1
 have hm:(b.2.2.1.filter (fun x=>vai x.2.2.2.2.2.2.2 c)).length+1≤VE.maxLen:=by omega
 have hm2:∀z:tTxn.D,(b.2.2.1.filter (fun x=>vai x.2.2.2.2.2.2.2 c)++[z]).length+(b.2.2.1.filter (fun x=>!(vai x.2.2.2.2.2.2.2 c))).length≤VE.maxLen:=fun z=>by rw [List.length_append,List.length_singleton];omega
 rw [xbd]
 unfold wub
 have key:∀o:Bool,(t.2.2.2.2.2.2.1||b.2.1.any (fun x=>vel t x))=o→∀(K:_→Option Res),vb1 (c,t.1,t.2.1,t.2.2.1,t.2.2.2.1,t.2.2.2.2.1,t.2.2.2.2.2.1,t.2.2.2.2.2.2.1,t.2.2.2.2.2.2.2,0,0,b.2.2.2.1,b.2.2.2.2,t.1,2,t.2.2.1,t.2.2.2.1,o,c,[],[],[],b.1,b.2.1,b.2.2.1,t.2.2.2.2.1,t.2.2.2.2.2.1) K =
   ves c t.1 t.2.1 t.2.2.1 t.2.2.2.1 t.2.2.2.2.1 t.2.2.2.2.2.1 t.2.2.2.2.2.2.1 t.2.2.2.2.2.2.2 0 0 b.2.2.2.1 b.2.2.2.2 t.1 2 t.2.2.1 t.2.2.2.1 o c [] [] [] b.1 b.2.1 b.2.2.1 t.2.2.2.2.1 t.2.2.2.2.2.1 (fun z=>K (c,t.1,t.2.1,t.2.2.1,t.2.2.2.1,t.2.2.2.2.1,t.2.2.2.2.2.1,t.2.2.2.2.2.2.1,t.2.2.2.2.2.2.2,b.2.2.2.1,z.1,b.2.2.2.1,z.2.1,t.1,2,t.2.2.1,t.2.2.2.1,o,c,b.1,b.2.1,z.2.2)):=fun o hO K=>v4d (by omega)
 have key2:∀o:Bool,(t.2.2.2.2.2.2.1||b.2.1.any (fun x=>vel t x))=o→∀(K:Int×Int×List dTxn→Option Res),ves c t.1 t.2.1 t.2.2.1 t.2.2.2.1 t.2.2.2.2.1 t.2.2.2.2.2.1 t.2.2.2.2.2.2.1 t.2.2.2.2.2.2.2 0 0 b.2.2.2.1 b.2.2.2.2 t.1 2 t.2.2.1 t.2.2.2.1 o c [] [] [] b.1 b.2.1 b.2.2.1 t.2.2.2.2.1 t.2.2.2.2.2.1 K =
   K (vq9 b t,vq9 b t,v3o b t c):=fun o hO K=>by
  unfold ves
  obtain⟨j,dd,hj⟩:=vwg (c:=c) (u3:=t.1) (u4:=t.2.1) (u5:=t.2.2.1) (u6:=t.2.2.2.1) (u7:=t.2.2.2.2.1) (u8:=t.2.2.2.2.2.1) (u9:=t.2.2.2.2.2.2.1) (u10:=t.2.2.2.2.2.2.2) (u11:=0) (u12:=0) (u13:=b.2.2.2.1) (u14:=b.2.2.2.2) (u15:=t.1) (u16:=2) (u17:=t.2.2.1) (u18:=t.2.2.2.1) (u19:=o) (u20:=c) (u23:=b.2.2.1) (u25:=[]) (u26:=[]) (u27:=[]) (u28:=b.1) (u29:=b.2.1) (u30:=t.2.2.2.2.1) (u31:=t.2.2.2.2.2.1) b.2.2.1 [] [] [] 0 (fun d hd=>by cases hd) (by simpa using hlr) (by simpa using hlr)
  simp only [hj,List.nil_append,List.length_singleton,if_pos hm,if_pos (hm2 _),vq9,v3o,rdyT,hO]
 cases hO:t.2.2.2.2.2.2.1 with
 |true=>
  have k1:=key true (by rw [hO];rfl)
  have k2:=key2 true (by rw [hO];rfl)
  rw [hO]at k1 k2
  simp only [vbx ho,v05 hl.1 hl.2,cond_true,k1,k2,hO]
 |false=>
  have k1:=key (b.2.1.any (fun x=>vel t x)) (by rw [hO];rfl)
  have k2:=key2 (b.2.1.any (fun x=>vel t x)) (by rw [hO];rfl)
  rw [hO]at k1 k2
  simp only [vbx ho,v05 hl.1 hl.2,cond_false,wuu ht w2,k1,k2,hO]
end
end Go.VE
/- Plain laws: a record played on a base. -/
namespace Go.VE
noncomputable section
set_option linter.unusedVariables false
set_option linter.unusedSimpArgs false
set_option maxRecDepth 100000
theorem wrt {T:Ty}{l m:List T.D}(h:l.Sublist m):(Ty.slice T).wt l≤(Ty.slice T).wt m:=by
 rw [Ty.wt_slice,Ty.wt_slice]
 induction h with
 |slnil=>exact Nat.le_refl _
 |cons a _ ih=>simp only [List.length_cons,wtL];omega
 |cons_cons a _ ih=>simp only [List.length_cons,wtL];omega
theorem wdv (L:List tVersion.D)(snap:Int):∀(l:List tVersion.D) (i:Nat),(vnv L snap l i).Sublist l
 |[],i=>List.Sublist.slnil
 |y::l,i=>by
  have:=wdv L snap l (i+1)
  simp only [vnv]
  cases decide (y.2.2.2>snap)||(vmk L y.1 snap==(i:Int))
  ·exact this.cons _
  ·exact this.cons_cons _
theorem v9s (b:tBase.D)(l:List tTxn.D):tBase.wt (veq b l)≤tBase.wt b:=by
 rw [voy,voy]
 have h1:(Ty.slice tVersion).wt (veq b l).1≤(Ty.slice tVersion).wt b.1:=wrt (T:=tVersion) (List.Sublist.trans List.filter_sublist (wdv _ _ _ _))
 have h2:(Ty.slice tTxn).wt (veq b l).2.1≤(Ty.slice tTxn).wt b.2.1:=wrt (T:=tTxn) List.filter_sublist
 have h3:(veq b l).2.2.1=b.2.2.1:=rfl
 rw [h3]
 omega
theorem wdf {T:Ty}{c n:Nat}{l:List T.D}(h:∀y∈l,T.wt y≤c)(hl:l.length≤n):(Ty.slice T).wt l≤n+c*n:=by
 rw [Ty.wt_slice]
 have:=w5n h
 have h2:c*l.length≤c*n:=Nat.mul_le_mul_left c hl
 omega
theorem vcw {t:tTxn.D}(h:vc8 t=true):tTxn.wt t≤412:=by
 obtain⟨_,_,_,_,h1,h2,h3,h4,h5⟩:=vc7 h
 rw [vom]
 have g1:(Ty.slice tRange).wt t.2.2.2.2.1≤8+24*8:=wdf (T:=tRange) (fun y hy=>by rw [wal];have:=h2 y hy;omega) h1
 have g2:(Ty.slice tWrite).wt t.2.2.2.2.2.1≤8+24*8:=wdf (T:=tWrite) (fun y hy=>by rw [v9y];have:=h4 y hy;omega) h3
 omega
theorem w2a {l:List tVersion.D}{v y:tVersion.D}(h:y∈insV l v):y∈l∨y=v:=by
 unfold insV at h
 rw [List.mem_append,List.mem_cons]at h
 rcases h with h|h|h
 ·exact .inl ((List.takeWhile_sublist _).subset h)
 ·exact .inr h
 ·exact .inl ((List.dropWhile_sublist _).subset h)
theorem vw9 {cs:Int}{y:tVersion.D}:∀{w:List tWrite.D} {l:List tVersion.D},y∈vft l w cs→y∈l∨∃x∈w,y=vf4 cs x
 |[],l,h=>.inl h
 |x::w,l,h=>by
  rcases vw9 (w:=w) (l:=insV l (vf4 cs x)) h with h|⟨z,hz,e⟩
  ·rcases w2a h with h|h
   ·exact .inl h
   ·exact .inr ⟨x,by simp,h⟩
  ·exact .inr ⟨z,by simp [hz],e⟩
structure SmB (b:tBase.D):Prop where
 v:b.1.length≤120∧∀y∈b.1,tVersion.wt y≤24
 p:b.2.1.length≤12∧∀y∈b.2.1,tTxn.wt y≤412
 r:b.2.2.1.length≤3∧∀y∈b.2.2.1,tTxn.wt y≤412
theorem vzq {b:tBase.D}(hw:tBase.wt b≤1048576)(h:vbo b=true):SmB b:=by
 obtain⟨_,_,h1,h2,h3,h4,h5,h6⟩:=vjg hw h
 exact⟨⟨h1,fun y hy=>by rw [vpk];have:=h2 y hy;unfold wwd at this;omega⟩,⟨h3,fun y hy=>vcw (h4 y hy).2⟩,⟨h5,fun y hy=>vcw (h6 y hy).2⟩⟩
theorem wm9 {b:tBase.D}(h1:b.1.length≤200)(h2:∀y∈b.1,tVersion.wt y≤24)(h3:b.2.1.length≤200)(h4:∀y∈b.2.1,tTxn.wt y≤1000)(h5:b.2.2.1.length≤200)(h6:∀y∈b.2.2.1,tTxn.wt y≤1000):tBase.wt b≤1048576:=by
 rw [voy]
 have g1:=wdf (T:=tVersion) h2 h1
 have g2:=wdf (T:=tTxn) h4 h3
 have g3:=wdf (T:=tTxn) h6 h5
 omega
theorem vhp {b:tBase.D}(hs:SmB b){t:tTxn.D}(ht:tTxn.wt t≤412)(hw:t.2.2.2.2.2.1.length≤8)(hx:∀y∈t.2.2.2.2.2.1,y.1.size≤12∧y.2.1.size≤12):tBase.wt (vbi b t)≤1048576:=by
 have hp:=hs.p.1
 have hv:=hs.v.1
 have hr:=hs.r.1
 refine wm9 ?_ ?_ ?_ ?_ ?_ ?_
 ·show (vft b.1 t.2.2.2.2.2.1 _).length≤200
  rw [vpe];omega
 ·intro y hy
  rcases vw9 hy with hy|⟨x,hx',rfl⟩
  ·exact hs.v.2 y hy
  ·rw [vpk];have:=hx x hx';show x.1.size+x.2.1.size≤24;omega
 ·show (b.2.1++[vwy b t]).length≤200
  rw [List.length_append,List.length_singleton];omega
 ·intro y hy
  rcases List.mem_append.1 hy with hy|hy
  ·have:=hs.p.2 y hy;omega
  ·rw [List.mem_singleton]at hy
   subst hy
   have:tTxn.wt (vwy b t)≤tTxn.wt t:=by
    rw [vom,vom]
    have:(⟨#[]⟩:ByteArray).size=0:=rfl
    unfold vwy
    simp only
    omega
   omega
 ·show (vnf b t).length≤200
  unfold vnf
  rw [List.length_map]
  have:=List.length_filter_le (fun x:tTxn.D=>!(x.1==t.1)) b.2.2.1
  omega
 ·intro y hy
  have hy':y∈vnf b t:=hy
  unfold vnf at hy'
  obtain⟨z,hz,rfl⟩:=List.mem_map.1 hy'
  have h1:=hs.r.2 z (List.mem_filter.1 hz).1
  have:tTxn.wt (outT (vwy b t) z)=tTxn.wt z:=by rw [vom,vom];rfl
  omega
theorem whx {b:tBase.D}(hs:SmB b){t:tTxn.D}(ht:tTxn.wt t≤412){c:ByteArray}(hc:c.size≤500):tBase.wt (vut b t c)≤1048576:=by
 have hp:=hs.p.1
 have hv:=hs.v.1
 have hr:=hs.r.1
 refine wm9 ?_ ?_ ?_ ?_ ?_ ?_
 ·show b.1.length≤200;omega
 ·exact fun y hy=>hs.v.2 y hy
 ·show b.2.1.length≤200;omega
 ·exact fun y hy=>Nat.le_trans (hs.p.2 y hy) (by omega)
 ·show (v3o b t c).length≤200
  unfold v3o
  rw [List.length_append,List.length_append,List.length_singleton]
  have h1:=List.length_filter_le (fun x:tTxn.D=>vai x.2.2.2.2.2.2.2 c) b.2.2.1
  have h2:=List.length_filter_le (fun x:tTxn.D=>!(vai x.2.2.2.2.2.2.2 c)) b.2.2.1
  omega
 ·intro y hy
  have hy':y∈v3o b t c:=hy
  unfold v3o at hy'
  rcases List.mem_append.1 hy' with hy|hy
  ·rcases List.mem_append.1 hy with hy|hy
   ·exact Nat.le_trans (hs.r.2 y (List.mem_filter.1 hy).1) (by omega)
   ·rw [List.mem_singleton]at hy
    subst hy
    have:tTxn.wt (rdyT b t c)≤tTxn.wt t+c.size:=by
     rw [vom,vom]
     unfold rdyT
     simp only
     omega
    omega
  ·exact Nat.le_trans (hs.r.2 y (List.mem_filter.1 hy).1) (by omega)
theorem w8w (b:tBase.D)(c:ByteArray):tBase.wt (b.1,(b.2.1,(upB b c,b.2.2.2)))≤tBase.wt b:=by
 rw [voy,voy]
 have h3:(Ty.slice tTxn).wt (upB b c)≤(Ty.slice tTxn).wt b.2.2.1:=wrt (T:=tTxn) List.filter_sublist
 simp only
 omega
def vlq (b:tBase.D)(c:ByteArray):Int:=atF (fun x=>vaj x.2.2.2.2.2.2.2 c) b.2.2.1 0
def wi6 (b:tBase.D)(r:tRecord.D):tBase.D:=
 bif r.1==1 then vbi b r.2.1 else
 bif r.1==2 then vut b r.2.1 r.2.1.2.2.2.2.2.2.2 else
 bif r.1==3 then(bif r.2.2.2.1 then vbi b (rd (Ty.zero tTxn) b.2.2.1 (vlq b r.2.2.1))else(b.1,(b.2.1,(upB b r.2.2.1,b.2.2.2))))else r.2.2.2.2
def wn1 (b:tBase.D)(r:tRecord.D):Bool:=
 bif r.1==1 then r.2.1.2.2.2.1==IntKind.wrap .i64 (b.2.2.2.1+1)else
 bif r.1==2 then decide ((b.2.2.1.length:Int)<3)&&decide (vlq b r.2.1.2.2.2.2.2.2.2<0)else
 bif r.1==3 then decide (vlq b r.2.2.1≥0)else true
def wg9 (b:tBase.D)(r:tRecord.D):tBase.D×Bool:=
 bif vbo b&&vea r&&wn1 b r&&vbo (veq (wi6 b r) [])then(veq (wi6 b r) [],true)else(b,false)
theorem vsh (b:tBase.D)(c:ByteArray):vlq b c = -1∨∃(a:Nat) (ha:a<b.2.2.1.length),vlq b c=(a:Int)∧rd (Ty.zero tTxn) b.2.2.1 (a:Int)=b.2.2.1[a]:=by
 rcases wdy (fun x=>vaj x.2.2.2.2.2.2.2 c) b.2.2.1 0 with⟨h,_⟩|⟨a,ha,h,_⟩
 ·exact .inl h
 ·exact .inr ⟨a,ha,by rw [show vlq b c=_ from h];omega,by simp [rd,List.getElem?_eq_getElem ha]⟩
theorem vhm {r:tRecord.D}(h:vea r=true)(hk:(r.1==1)=true∨(r.1==2)=true):vc8 r.2.1=true:=by
 unfold vea at h
 cases h1:r.1==1 with
 |true=>rw [h1]at h;simp only [cond_true,Bool.and_eq_true]at h;exact h.1.1.1.1
 |false=>
  rcases hk with hk|hk
  ·rw [h1]at hk;cases hk
  ·rw [h1,hk]at h;simp only [cond_true,cond_false,Bool.and_eq_true]at h;exact h.1.1.1.1
theorem w7a {b:tBase.D}{r:tRecord.D}(hb:tBase.wt b≤1048576)(hr:tRecord.wt r≤1048576)(h1:vbo b=true)(h2:vea r=true)(h3:wn1 b r=true):tBase.wt (wi6 b r)≤1048576:=by
 have hs:=vzq hb h1
 unfold wi6
 unfold wn1 at h3
 cases k1:r.1==1 with
 |true=>
  have ht:=vhm h2 (.inl k1)
  obtain⟨_,_,_,_,_,_,g1,g2,_⟩:=vc7 ht
  exact vhp hs (vcw ht) g1 g2
 |false=>
  cases k2:r.1==2 with
  |true=>
   have ht:=vhm h2 (.inr k2)
   obtain⟨_,_,_,_,_,_,_,_,g⟩:=vc7 ht
   exact whx hs (vcw ht) (by omega)
  |false=>
   cases k3:r.1==3 with
   |true=>
    rw [k1,k2,k3]at h3
    simp only [cond_true,cond_false,decide_eq_true_eq]at h3 ⊢
    cases r.2.2.2.1 with
    |false=>exact Nat.le_trans (w8w b _) hb
    |true=>
     rcases vsh b r.2.2.1 with h|⟨a,ha,h,e⟩
     ·rw [h]at h3;omega
     ·simp only [cond_true,h,e]
      have hm:b.2.2.1[a]∈b.2.2.1:=List.getElem_mem ha
      obtain⟨_,_,_,_,_,_,_,h6⟩:=vjg hb h1
      have ht:=(h6 _ hm).2
      obtain⟨_,_,_,_,_,_,g1,g2,_⟩:=vc7 ht
      exact vhp hs (vcw ht) g1 g2
   |false=>simp only [cond_false];rw [vgl]at hr;omega
theorem w76 {b:tBase.D}{r:tRecord.D}(hb:tBase.wt b≤1048576)(hr:tRecord.wt r≤1048576):tBase.wt (wg9 b r).1≤1048576:=by
 unfold wg9
 cases h:vbo b&&vea r&&wn1 b r&&vbo (veq (wi6 b r) [])with
 |false=>exact hb
 |true=>
  simp only [Bool.and_eq_true]at h
  exact Nat.le_trans (v9s _ _) (w7a hb hr h.1.1.1 h.1.1.2 h.1.2)
def outP (z:tBase.D×Bool):Int×Int×Bool×List vah×List dTxn×List dTxn:=(z.1.2.2.2.1,z.1.2.2.2.2,z.2,z.1.1,z.1.2.1,z.1.2.2.1)
end
end Go.VE
/- Plain laws: a record played,by both. -/
namespace Go.VE
noncomputable section
set_option linter.unusedVariables false
set_option linter.unusedSimpArgs false
set_option maxRecDepth 100000
structure Fin (x:tBase.D):Prop where
 ok:OkBs x
 wt:tBase.wt x≤1048576
 bi:∀k,vrd ((veq x []).1,((veq x []).2.1,x.2.2)) k=k (vbo (veq x []))
 bs:∀k,vir ((veq x []).1,((veq x []).2.1,x.2.2)) k=k (vbo (veq x []))
theorem vrf {x:tBase.D}(h:tBase.wt x≤1048576):Fin x:=
 ⟨vky h,h,fun k=>whm (b:=veq x []) (Nat.le_trans (v9s x []) h) k,fun k=>v9z (b:=veq x []) (Nat.le_trans (v9s x []) h) k⟩
theorem vgw:([]:List tTxn.D).length≤1048576:=by simp
theorem ve5 (x:tBase.D)(l:List tTxn.D):(veq x l).2.2=x.2.2:=rfl
theorem w64 {b:tBase.D}{r:tRecord.D}(hb:tBase.wt b≤1048576)(hr:tRecord.wt r≤1048576) (k):v5j b r k=k (outP (wg9 b r)):=by
 have ho:=vky hb
 rw [wv6]
 unfold wl4 wg9 outP
 simp only [whm hb,w6y hr]
 cases h1:vbo b with
 |false=>simp only [Bool.not_false,cond_true,vbx ho,Bool.false_and,cond_false]
 |true=>
 cases h2:vea r with
 |false=>simp only [Bool.not_false,Bool.not_true,cond_true,cond_false,vbx ho,Bool.false_and,Bool.and_false]
 |true=>
 have hs:=vzq hb h1
 have hrb:tBase.wt r.2.2.2.2≤1048576:=by rw [vgl]at hr;omega
 unfold wn1 wi6
 simp only [Bool.not_true,cond_false,Bool.true_and,vfz,va7,vbx ho]
 cases k1:r.1==1 with
 |true=>
  have ht:=vhm h2 (.inl k1)
  obtain⟨_,_,_,_,_,_,g1,g2,_⟩:=vc7 ht
  have F:=vrf (vhp hs (vcw ht) g1 g2)
  have htw:tTxn.wt r.2.1≤1048576:=Nat.le_trans (vcw ht) (by omega)
  simp only [cond_true,wtk hb htw,vax,Sum.elim_inl,Sum.elim_inr,va7,vsr F.ok vgw,F.bi,ve5]
  cases hc:(r.2.1.2.2.2.1==IntKind.wrap .i64 (b.2.2.2.1+1))with
  |false=>simp only [Bool.not_false,cond_true,vbx ho,Bool.false_and,cond_false]
  |true=>
   cases hB:vbo (veq (vbi b r.2.1) [])<;>simp only [Bool.not_true,Bool.not_false,cond_true,cond_false,Bool.true_and,Bool.and_false,vbx ho,ve5]
 |false=>
 cases k2:r.1==2 with
 |true=>
  have ht:=vhm h2 (.inr k2)
  obtain⟨_,_,_,_,_,_,_,_,g⟩:=vc7 ht
  have F:=vrf (whx (c:=r.2.1.2.2.2.2.2.2.2) hs (vcw ht) (by omega))
  have htw:tTxn.wt r.2.1≤1048576:=Nat.le_trans (vcw ht) (by omega)
  have hM:∀k,vxb b r.2.1 r.2.1.2.2.2.2.2.2.2 k=k ((vut b r.2.1 r.2.1.2.2.2.2.2.2.2).2.2.2.1,(vut b r.2.1 r.2.1.2.2.2.2.2.2.2).2.2.2.2,(vut b r.2.1 r.2.1.2.2.2.2.2.2.2).1,(vut b r.2.1 r.2.1.2.2.2.2.2.2.2).2.1,(vut b r.2.1 r.2.1.2.2.2.2.2.2.2).2.2.1):=fun k=>w7e hb htw _ k
  have hR:∀k,vw4 b r.2.1.2.2.2.2.2.2.2 k=k (vlq b r.2.1.2.2.2.2.2.2.2):=fun k=>wtp b _ ho.2.2.2 k
  simp only [cond_true,cond_false]
  cases h3:decide ((b.2.2.1.length:Int)<3)with
  |false=>
   simp only [cond_false,va7,hM,vax,Sum.elim_inl,Sum.elim_inr,vsr F.ok vgw,Bool.false_and,Bool.not_false,cond_true,vbx ho]
  |true=>
   simp only [cond_true,hR,va7,hM,vax,Sum.elim_inl,Sum.elim_inr,vsr F.ok vgw,F.bi,Bool.true_and,ve5]
   cases hc:decide (vlq b r.2.1.2.2.2.2.2.2.2<0)with
   |false=>simp only [Bool.not_false,cond_true,vbx ho,Bool.false_and,cond_false]
   |true=>
    cases hB:vbo (veq (vut b r.2.1 r.2.1.2.2.2.2.2.2.2) [])<;>simp only [Bool.not_true,Bool.not_false,cond_true,cond_false,Bool.true_and,Bool.and_false,vbx ho,ve5]
 |false=>
 cases k3:r.1==3 with
 |true=>
  have hR:∀k,vw4 b r.2.2.1 k=k (vlq b r.2.2.1):=fun k=>wtp b _ ho.2.2.2 k
  have FU:=vrf (Nat.le_trans (w8w b r.2.2.1) hb)
  have hU:∀k,v1e b r.2.2.1 k=k (((b.1,(b.2.1,(upB b r.2.2.1,b.2.2.2))):tBase.D).2.2.2.1,((b.1,(b.2.1,(upB b r.2.2.1,b.2.2.2))):tBase.D).2.2.2.2,((b.1,(b.2.1,(upB b r.2.2.1,b.2.2.2))):tBase.D).1,((b.1,(b.2.1,(upB b r.2.2.1,b.2.2.2))):tBase.D).2.1,((b.1,(b.2.1,(upB b r.2.2.1,b.2.2.2))):tBase.D).2.2.1):=fun k=>w6f ho _ k
  generalize hx:((b.1,(b.2.1,(upB b r.2.2.1,b.2.2.2))):tBase.D)=x at *
  simp only [cond_true,cond_false,hR]
  rcases vsh b r.2.2.1 with hp|⟨a,ha,hp,e⟩
  ·have hn:decide (vlq b r.2.2.1≥0)=false:=by rw [hp];rfl
   simp only [hn,cond_false,va7,hU,vax,Sum.elim_inl,Sum.elim_inr,vsr FU.ok vgw,Bool.false_and,Bool.not_false,cond_true,vbx ho]
  ·have hn:decide (vlq b r.2.2.1≥0)=true:=by rw [hp];exact decide_eq_true (by omega)
   cases hy:r.2.2.2.1 with
   |false=>
    simp only [hn,cond_true,cond_false,hy,va7,hU,vax,Sum.elim_inl,Sum.elim_inr,vsr FU.ok vgw,FU.bi,Bool.true_and,Bool.not_true,ve5,vbx ho]
    cases hB:vbo (veq (x) [])<;>simp only [Bool.not_true,Bool.not_false,cond_true,cond_false,Bool.true_and,Bool.and_false,vbx ho,vbf ho,ve5,decide_true,decide_false,if_true,Bool.and_self]
   |true=>
    have hm:b.2.2.1[a]∈b.2.2.1:=List.getElem_mem ha
    obtain⟨_,_,_,_,_,_,_,h6⟩:=vjg hb h1
    have ht:=(h6 _ hm).2
    obtain⟨_,_,_,_,_,_,g1,g2,_⟩:=vc7 ht
    have F:=vrf (vhp hs (vcw ht) g1 g2)
    have htw:tTxn.wt b.2.2.1[a]≤1048576:=Nat.le_trans (vcw ht) (by omega)
    simp only [hn,cond_true,cond_false,hy,va7,hp,e,show (0:Int)≤(a:Int) by omega,show (a:Int)<(b.2.2.1.length:Int) by omega,and_self,if_true,decide_true,wtk hb htw,vax,Sum.elim_inl,Sum.elim_inr,vsr F.ok vgw,F.bi,Bool.true_and,Bool.not_true,ve5,show decide ((a:Int)≥0)=true from decide_eq_true (by omega),vbx ho]
    cases hB:vbo (veq (vbi b b.2.2.1[a]) [])<;>simp only [Bool.not_true,Bool.not_false,cond_true,cond_false,Bool.true_and,Bool.and_false,vbx ho,vbf ho,ve5,decide_true,decide_false,if_true,Bool.and_self]
 |false=>
  have F:=vrf hrb
  simp only [cond_false,vbx F.ok,vax,Sum.elim_inl,Sum.elim_inr,va7,vsr F.ok vgw,F.bi,Bool.true_and,Bool.not_true,ve5,vbx ho]
  cases hB:vbo (veq r.2.2.2.2 [])<;>simp only [Bool.not_true,Bool.not_false,cond_true,cond_false,Bool.true_and,Bool.and_false,vbx ho,vbf ho,ve5,decide_true,decide_false,if_true,Bool.and_self]
theorem w05 {b:tBase.D}{r:tRecord.D}(hb:tBase.wt b≤1048576)(hr:tRecord.wt r≤1048576) (k):v1m b r k=k (outP (wg9 b r)):=by
 have ho:=vky hb
 rw [wfg]
 unfold wah wg9 outP
 simp only [v9z hb,w3j hr]
 cases h1:vbo b with
 |false=>simp only [Bool.not_false,cond_true,vbf ho,Bool.false_and,cond_false]
 |true=>
 cases h2:vea r with
 |false=>simp only [Bool.not_false,Bool.not_true,cond_true,cond_false,vbf ho,Bool.false_and,Bool.and_false]
 |true=>
 have hs:=vzq hb h1
 have hrb:tBase.wt r.2.2.2.2≤1048576:=by rw [vgl]at hr;omega
 unfold wn1 wi6
 simp only [Bool.not_true,cond_false,Bool.true_and,vet,va7]
 rw [wf5]
 unfold v82
 cases k1:r.1==1 with
 |true=>
  have ht:=vhm h2 (.inl k1)
  obtain⟨s1,_,_,_,_,_,g1,g2,_⟩:=vc7 ht
  have F:=vrf (vhp hs (vcw ht) g1 g2)
  have htw:tTxn.wt r.2.1≤1048576:=Nat.le_trans (vcw ht) (by omega)
  cases h3:r.2.1.2.2.2.1==IntKind.wrap .i64 (b.2.2.2.1+1)with
  |false=>simp only [cond_true,cond_false,bne,h3,Bool.not_false,Sum.elim_inl,Bool.not_true,vbf ho,Bool.false_and]
  |true=>
   simp only [cond_true,cond_false,bne,h3,Bool.not_true,Bool.true_and,wmn hb htw s1.1 s1.2,Sum.elim_inl,Sum.elim_inr,va7,vvq F.ok vgw,F.bs,ve5,vbf ho]
   cases hB:vbo (veq (vbi b r.2.1) [])<;>simp only [Bool.not_true,Bool.not_false,cond_true,cond_false,Bool.true_and,Bool.and_false,vbx ho,vbf ho,ve5,decide_true,decide_false,if_true,Bool.and_self]
 |false=>
 cases k2:r.1==2 with
 |true=>
  have ht:=vhm h2 (.inr k2)
  obtain⟨s1,_,_,_,_,_,_,_,g⟩:=vc7 ht
  have F:=vrf (whx (c:=r.2.1.2.2.2.2.2.2.2) hs (vcw ht) (by omega))
  have htw:tTxn.wt r.2.1≤1048576:=Nat.le_trans (vcw ht) (by omega)
  have hM:∀k,vtg b r.2.1 r.2.1.2.2.2.2.2.2.2 k=k ((vut b r.2.1 r.2.1.2.2.2.2.2.2.2).2.2.2.1,(vut b r.2.1 r.2.1.2.2.2.2.2.2.2).2.2.2.2,(vut b r.2.1 r.2.1.2.2.2.2.2.2.2).1,(vut b r.2.1 r.2.1.2.2.2.2.2.2.2).2.1,(vut b r.2.1 r.2.1.2.2.2.2.2.2.2).2.2.1):=fun k=>wz5 hb htw _ s1.1 s1.2 k
  have hR:∀k,vna b r.2.1.2.2.2.2.2.2.2 k=k (vlq b r.2.1.2.2.2.2.2.2.2):=fun k=>wlz b _ ho.2.2.2 k
  simp only [cond_true,cond_false]
  by_cases h3:(b.2.2.1.length:Int)<3
  ·have hge:¬(b.2.2.1.length:Int)≥3:=by omega
   simp only [decide_eq_true h3,decide_eq_false hge,cond_false,hR,Bool.true_and]
   by_cases h4:vlq b r.2.1.2.2.2.2.2.2.2<0
   ·have hge:¬vlq b r.2.1.2.2.2.2.2.2.2≥0:=by omega
    simp only [decide_eq_true h4,decide_eq_false hge,cond_false,veu,va7,hM,Sum.elim_inl,Sum.elim_inr,vvq F.ok vgw,F.bs,ve5,Bool.not_true,Bool.true_and,vbf ho]
    cases hB:vbo (veq (vut b r.2.1 r.2.1.2.2.2.2.2.2.2) [])<;>simp only [Bool.not_true,Bool.not_false,cond_true,cond_false,Bool.true_and,Bool.and_false,vbx ho,vbf ho,ve5,decide_true,decide_false,if_true,Bool.and_self]
   ·have hge:vlq b r.2.1.2.2.2.2.2.2.2≥0:=by omega
    simp only [decide_eq_false h4,decide_eq_true hge,cond_true,Sum.elim_inl,Bool.not_false,vbf ho,Bool.false_and,cond_false]
  ·have hge:(b.2.2.1.length:Int)≥3:=by omega
   simp only [decide_eq_false h3,decide_eq_true hge,cond_true,Sum.elim_inl,Bool.not_false,vbf ho,Bool.false_and,cond_false]
 |false=>
 cases k3:r.1==3 with
 |true=>
  have hR:∀k,vna b r.2.2.1 k=k (vlq b r.2.2.1):=fun k=>wlz b _ ho.2.2.2 k
  have FU:=vrf (Nat.le_trans (w8w b r.2.2.1) hb)
  have hU:∀k,vr9 b r.2.2.1 k=k (((b.1,(b.2.1,(upB b r.2.2.1,b.2.2.2))):tBase.D).2.2.2.1,((b.1,(b.2.1,(upB b r.2.2.1,b.2.2.2))):tBase.D).2.2.2.2,((b.1,(b.2.1,(upB b r.2.2.1,b.2.2.2))):tBase.D).1,((b.1,(b.2.1,(upB b r.2.2.1,b.2.2.2))):tBase.D).2.1,((b.1,(b.2.1,(upB b r.2.2.1,b.2.2.2))):tBase.D).2.2.1):=fun k=>w0e ho _ k
  generalize hx:((b.1,(b.2.1,(upB b r.2.2.1,b.2.2.2))):tBase.D)=x at *
  simp only [cond_true,cond_false,hR]
  rcases vsh b r.2.2.1 with hp|⟨a,ha,hp,e⟩
  ·have hn:decide (vlq b r.2.2.1≥0)=false:=by rw [hp];rfl
   have hl:decide (vlq b r.2.2.1<0)=true:=by rw [hp];rfl
   simp only [hn,hl,cond_true,cond_false,Sum.elim_inl,Bool.not_false,vbf ho,Bool.false_and]
  ·have hn:decide (vlq b r.2.2.1≥0)=true:=by rw [hp];exact decide_eq_true (by omega)
   have hl:decide (vlq b r.2.2.1<0)=false:=by rw [hp];exact decide_eq_false (by omega)
   cases hy:r.2.2.2.1 with
   |false=>
    simp only [hn,hl,cond_true,cond_false,hy,va7,hU,Sum.elim_inl,Sum.elim_inr,vvq FU.ok vgw,FU.bs,Bool.true_and,Bool.not_true,ve5,vbf ho]
    cases hB:vbo (veq (x) [])<;>simp only [Bool.not_true,Bool.not_false,cond_true,cond_false,Bool.true_and,Bool.and_false,vbx ho,vbf ho,ve5,decide_true,decide_false,if_true,Bool.and_self]
   |true=>
    have hm:b.2.2.1[a]∈b.2.2.1:=List.getElem_mem ha
    obtain⟨_,_,_,_,_,_,_,h6⟩:=vjg hb h1
    have ht:=(h6 _ hm).2
    obtain⟨s1,_,_,_,_,_,g1,g2,_⟩:=vc7 ht
    have F:=vrf (vhp hs (vcw ht) g1 g2)
    have htw:tTxn.wt b.2.2.1[a]≤1048576:=Nat.le_trans (vcw ht) (by omega)
    simp only [hn,hl,cond_true,cond_false,hy,va7,hp,e,show (0:Int)≤(a:Int) by omega,show (a:Int)<(b.2.2.1.length:Int) by omega,and_self,if_true,decide_true,wmn hb htw s1.1 s1.2,Sum.elim_inl,Sum.elim_inr,vvq F.ok vgw,F.bs,Bool.true_and,Bool.not_true,ve5,show decide ((a:Int)≥0)=true from decide_eq_true (by omega),show decide ((a:Int)<0)=false from decide_eq_false (by omega),vbf ho]
    cases hB:vbo (veq (vbi b b.2.2.1[a]) [])<;>simp only [Bool.not_true,Bool.not_false,cond_true,cond_false,Bool.true_and,Bool.and_false,vbx ho,vbf ho,ve5,decide_true,decide_false,if_true,Bool.and_self]
 |false=>
  have F:=vrf hrb
  simp only [cond_false,vbf F.ok,Sum.elim_inl,Sum.elim_inr,va7,vvq F.ok vgw,F.bs,Bool.true_and,Bool.not_true,ve5,vbf ho]
  cases hB:vbo (veq r.2.2.2.2 [])<;>simp only [Bool.not_true,Bool.not_false,cond_true,cond_false,Bool.true_and,Bool.and_false,vbx ho,vbf ho,ve5,decide_true,decide_false,if_true,Bool.and_self]
def vzt (r:tRecord.D):Int:=2*(r.2.1.2.2.2.2.1.length:Int)+3*(r.2.1.2.2.2.2.2.1.length:Int)+cntB r.2.2.2.2
theorem wqs (r:tRecord.D):0≤vzt r∧vzt r≤6*(tRecord.wt r:Nat):=by
 have h1:=vom r.2.1
 have h2:=wga r.2.2.2.2
 have h3:=vyj r.2.2.2.2
 have h4:r.2.1.2.2.2.2.1.length≤(Ty.slice tRange).wt r.2.1.2.2.2.2.1:=vca (T:=tRange) (Nat.le_refl _)
 have h5:r.2.1.2.2.2.2.2.1.length≤(Ty.slice tWrite).wt r.2.1.2.2.2.2.2.1:=vca (T:=tWrite) (Nat.le_refl _)
 rw [vgl]
 unfold vzt
 omega
theorem wdd {r:tRecord.D}(h:tRecord.wt r≤1048576){c:Int}(h0:0≤c)(hc:c+vzt r≤9000000)(a0 a1 a2 a3 a4:Int)(a5:Bool)(a6 a7:ByteArray)(a8:Bool)(a9 a10:Int) :
  ∃z,∀k,wd1 a0 a1 a2 a3 a4 a5 a6 a7 a8 a9 a10 c r.2.1.2.2.2.2.1 r.2.1.2.2.2.2.2.1 r.2.2.2.2.1 r.2.2.2.2.2.1 r.2.2.2.2.2.2.1 k=k (c+vzt r,z):=by
 have h3:=vyj r.2.2.2.2
 have hr:=h
 rw [vgl]at hr
 have hl:=vkj (a:=r.2.1) (by omega)
 have ho:=vky (b:=r.2.2.2.2) (by omega)
 unfold vzt at *
 refine⟨(vtj c r.2.1.2.2.2.2.1,vvp (c+2*(r.2.1.2.2.2.2.1.length:Int)) r.2.1.2.2.2.2.2.1,(vnl (c+2*(r.2.1.2.2.2.2.1.length:Int)+3*(r.2.1.2.2.2.2.2.1.length:Int)) r.2.2.2.2).1,(vnl (c+2*(r.2.1.2.2.2.2.1.length:Int)+3*(r.2.1.2.2.2.2.2.1.length:Int)) r.2.2.2.2).2.1,(vnl (c+2*(r.2.1.2.2.2.2.1.length:Int)+3*(r.2.1.2.2.2.2.2.1.length:Int)) r.2.2.2.2).2.2.1),fun k=>?_⟩
 rw [wtf]
 unfold wmw
 rw [wun]
 unfold wko
 simp only [vng hl.1 h0 (show c+2*(r.2.1.2.2.2.2.1.length:Int)≤9000000 by omega),vnn hl.2 (show 0≤c+2*(r.2.1.2.2.2.2.1.length:Int) by omega) (show c+2*(r.2.1.2.2.2.2.1.length:Int)+3*(r.2.1.2.2.2.2.2.1.length:Int)≤9000000 by omega),
  vr0 ho (show 0≤c+2*(r.2.1.2.2.2.2.1.length:Int)+3*(r.2.1.2.2.2.2.2.1.length:Int) by omega) (show c+2*(r.2.1.2.2.2.2.1.length:Int)+3*(r.2.1.2.2.2.2.2.1.length:Int)+cntB r.2.2.2.2≤9000000 by omega)]
 rw [show c+2*(r.2.1.2.2.2.2.1.length:Int)+3*(r.2.1.2.2.2.2.2.1.length:Int)+cntB r.2.2.2.2=c+(2*(r.2.1.2.2.2.2.1.length:Int)+3*(r.2.1.2.2.2.2.2.1.length:Int)+cntB r.2.2.2.2) by omega]
end
end Go.VE
/- The plain laws. -/
namespace Go.VE
set_option linter.unusedVariables false
set_option linter.unusedSimpArgs false
set_option maxRecDepth 100000
theorem vwq (x:tBase.D)(y:tRecord.D)(hx:tBase.wf x)(hy:tRecord.wf y)(k:Bool→Option Res):wlv x y k=k true:=by
 rw [wxz]
 unfold wjq
 obtain⟨r0,q0,p0⟩:=wc5 hx (a:=1048576) (by omega) (by omega)
 rw [q0]
 rcases p0 with p0|⟨p0,e0⟩
 ·simp [p0]
 have c0:¬r0<0:=by omega
 simp only [c0,decide_false,cond_false]
 obtain⟨r1,q1,p1⟩:=wfu hy (a:=r0) p0 (by omega)
 rw [q1]
 rcases p1 with p1|⟨p1,e1⟩
 ·simp [p1]
 have c1:¬r1<0:=by omega
 simp only [c1,decide_false,cond_false]
 have wx:tBase.wt x≤1048576:=by omega
 have wy:tRecord.wt y≤1048576:=by omega
 have hw:=w76 wx wy
 have hcx:=wga x
 have hpx:=vyj x
 have hcy:=wqs y
 have hok0:=vky wx
 have hM0:=fun a0 a1 k=>vr0 hok0 (c:=1) (by omega) (by omega) a0 a1 k
 obtain⟨zR,hMR⟩:=wdd wy (c:=1+cntB x) (by omega) (by omega) y.1 y.2.1.1 y.2.1.2.1 y.2.1.2.2.1 y.2.1.2.2.2.1 y.2.1.2.2.2.2.2.2.1 y.2.1.2.2.2.2.2.2.2 y.2.2.1 y.2.2.2.1 y.2.2.2.2.2.2.2.1 y.2.2.2.2.2.2.2.2
 simp only [wjn wx,wnp wy,w05 wx wy,w64 wx wy,va7,vfg,vfi,vfw]
 generalize wg9 x y=p at *
 have hok:=vky hw
 have hcp:=wga p.1
 have hpp:=vyj p.1
 have hE:=fun k=>wa9 hw k
 generalize hg:cntB p.1=g at *
 generalize hm:vnl 1 p.1=m at *
 have hM1:∀a0 a1 k,vxk a0 a1 1 p.1.1 p.1.2.1 p.1.2.2.1 k=k (1+g,m.1,m.2.1,m.2.2.1):=fun a0 a1 k=>by
  have:=vr0 hok (c:=1) (by omega) (by rw [hg];omega) a0 a1 k
  rw [hg,hm]at this
  exact this
 have hH:∀z1 z2 k,v1z (m.1,(m.2.1,(m.2.2.1,(z1,z2)))) 1 k=k (1+g):=fun z1 z2 k=>by
  have:=wfe hok (c:=1) (by omega) (by rw [hg];omega) (z1,z2) k
  rw [hg,hm]at this
  exact this
 have n0:decide (1+cntB x+vzt y<0)=false:=decide_eq_false (by omega)
 have n1:decide (1+g<0)=false:=decide_eq_false (by omega)
 simp only [outP,va7,hE,wa9 wx,wnx wy,beq_self_eq_true,Bool.not_true,cond_false,hM0,hMR,n0,hM1,hH,n1,bne_self_eq_false,Sum.elim_inl,Sum.elim_inr]
end Go.VE
