/- The plain laws behind FnBoth. -/
import Derived.Test.YtaaoeehlfihjdaaGreatFnBothL
import Derived.KernelRfl
import Derived.Sort.Walk0
import Derived.Test.YtaaoeehlfihjdaaGreatP3
/- Plain laws: keys,ranges,writes,transactions,who is ahead of whom. -/
namespace Go.VE
noncomputable section
set_option linter.unusedVariables false
set_option linter.unusedSimpArgs false
set_option maxRecDepth 100000
def vdk (n lo hi:Int):Bool:=decide (n≥lo)&&decide (n≤hi)
theorem v36 (a b c) (k):ve4 a b c k=k (vdk a b c):=by
 rw [wky];unfold wej vdk;cases decide (a≥b)<;>rfl
def va0 (r:tRange.D)(key:ByteArray):Bool:=!(vaf key r.1)&&(vaf key r.2||va3 key r.2)
theorem wyl (r:tRange.D) (key) (k):v1i r key k=k (va0 r key):=by
 rw [wpq];unfold wb9 va0;cases vaf key r.1<;>rfl
def vbe (r:List tRange.D)(w:List tWrite.D):Bool:=r.any fun x=>w.any fun y=>va0 x y.1
def vdh (a b:List tWrite.D):Bool:=a.any fun x=>b.any fun y=>va3 x.1 y.1
theorem v0o {u0} {u1} {u2} {u3} {u4} {u5} {u8} {u9}:∀l i,∃j:Int,∀k,vny u0 u1 u2 u3 u4 u5 u8 u9 l i k=k (bif l.any (fun y=>va0 (u8,u9) y.1)then .inl (true,j)else .inr j)
 |[],i=>⟨_,fun k=>rfl⟩
 |y::l,i=>by
  obtain⟨j,hj⟩:=v0o (u0:=u0) (u1:=u1) (u2:=u2) (u3:=u3) (u4:=u4) (u5:=u5) (u8:=u8) (u9:=u9) l (i+1)
  simp only [vny,wyl,hj,List.any_cons]
  cases hp:(va0 (u8,u9) y.1)
  ·exact⟨j,fun k=>by(try simp only [Bool.false_or])<;>(try (simp [hp]))⟩
  ·exact⟨(i:Int),fun k=>by(try simp only [Bool.true_or,cond_true])<;>(try (simp [hp]))⟩
theorem v2k {u0} {u1} {u2}:∀l i,∃j:Int,∀k,vne u0 u1 u2 l i k=k (bif l.any (fun y=>u0.any fun z=>va0 y z.1)then .inr (true,j)else .inl j)
 |[],i=>⟨_,fun k=>rfl⟩
 |y::l,i=>by
  obtain⟨j,hj⟩:=v2k (u0:=u0) (u1:=u1) (u2:=u2) l (i+1)
  obtain⟨j2,hj2⟩:=v0o (u0:=u0) (u1:=u1) (u2:=u2) (u3:=(u2.length:Int)) (u4:=(i:Int)) (u5:=u0) (u8:=y.1) (u9:=y.2) u0 0
  simp only [vne,hj,hj2,List.any_cons]
  cases hp:(u0.any fun z=>va0 y z.1)
  ·exact⟨j,fun k=>by simp⟩
  ·exact⟨(i:Int),fun k=>by simp⟩
theorem wwl {r:List tRange.D}{w:List tWrite.D}(hr:r.length≤1048576)(hw:w.length≤1048576) (k):v2i r w k=k (vbe r w):=by
 rw [w1z (by omega) (by omega)]
 unfold wlf vbe
 obtain⟨j,hj⟩:=v2k (u0:=w) (u1:=false) (u2:=r) r 0
 rw [hj]
 cases (r.any fun x=>w.any fun y=>va0 x y.1)<;>rfl
theorem v1q {u0} {u1} {u2} {u3} {u4} {u5} {u8} {u9} {u10}:∀l i,∃j:Int,∀k,vmt u0 u1 u2 u3 u4 u5 u8 u9 u10 l i k=k (bif l.any (fun y=>va3 u8 y.1)then .inl (true,j)else .inr j)
 |[],i=>⟨_,fun k=>rfl⟩
 |y::l,i=>by
  obtain⟨j,hj⟩:=v1q (u0:=u0) (u1:=u1) (u2:=u2) (u3:=u3) (u4:=u4) (u5:=u5) (u8:=u8) (u9:=u9) (u10:=u10) l (i+1)
  simp only [vmt,hj,List.any_cons]
  cases hp:(va3 u8 y.1)
  ·exact⟨j,fun k=>by(try simp only [Bool.false_or])<;>(try (simp [hp]))⟩
  ·exact⟨(i:Int),fun k=>by(try simp only [Bool.true_or,cond_true])<;>(try (simp [hp]))⟩
theorem v1h {u0 u1 u2}:∀l i,∃j:Int,∀k,vnm u0 u1 u2 l i k=k (bif l.any (fun y=>u0.any fun z=>va3 y.1 z.1)then .inr (true,j)else .inl j)
 |[],i=>⟨_,fun k=>rfl⟩
 |y::l,i=>by
  obtain⟨j,hj⟩:=v1h (u0:=u0) (u1:=u1) (u2:=u2) l (i+1)
  obtain⟨j2,hj2⟩:=v1q (u0:=u0) (u1:=u1) (u2:=u2) (u3:=(u2.length:Int)) (u4:=(i:Int)) (u5:=u0) (u8:=y.1) (u9:=y.2.1) (u10:=y.2.2) u0 0
  simp only [vnm,hj,hj2,List.any_cons]
  cases hp:(u0.any fun z=>va3 y.1 z.1)
  ·exact⟨j,fun k=>by simp⟩
  ·exact⟨(i:Int),fun k=>by simp⟩
theorem wyt {r w:List tWrite.D}(hr:r.length≤1048576)(hw:w.length≤1048576) (k):vxq r w k=k (vdh r w):=by
 rw [w1a (by omega) (by omega)]
 unfold wmf vdh
 obtain⟨j,hj⟩:=v1h (u0:=w) (u1:=false) (u2:=r) r 0
 rw [hj]
 cases (r.any fun x=>w.any fun y=>va3 x.1 y.1)<;>rfl
def vgg (s:ByteArray):Bool:=!((vea s).any fun y=>decide (y<97)||decide (y>122))&&vdk s.size 1 3
theorem v1m {u0} {u1}:∀l i,∃j:Int,∀k,vn2 u0 u1 l i k=k (bif l.any (fun y=>decide (y<97)||decide (y>122))then .inl (false,j)else .inr j)
 |[],i=>⟨_,fun k=>rfl⟩
 |y::l,i=>by
  obtain⟨j,hj⟩:=v1m (u0:=u0) (u1:=u1) l (i+1)
  simp only [vn2,hj,List.any_cons]
  cases hp:(decide (y<97)||decide (y>122))
  ·exact⟨j,fun k=>by(try simp only [Bool.false_or])<;>(try (revert hp;cases decide (y<97)<;>cases decide (y>122)<;>simp))⟩
  ·exact⟨(i:Int),fun k=>by(try simp only [Bool.true_or,cond_true])<;>(try (revert hp;cases decide (y<97)<;>cases decide (y>122)<;>simp))⟩
theorem vkf {s:ByteArray}(hs:s.size≤1048576) (k):vj1 s k=k (vgg s):=by
 rw [w0t (by omega)]
 unfold wjo vgg
 obtain⟨j,hj⟩:=v1m (u0:=s) (u1:=false) (vea s) 0
 rw [hj]
 cases ((vea s).any fun y=>decide (y<97)||decide (y>122))
 ·simp [v36]
 ·rfl
def vax (r:tRange.D):Bool:=vgg r.1&&vgg r.2&&(vaf r.1 r.2||va3 r.1 r.2)
def vat (w:tWrite.D):Bool:=vgg w.1&&decide ((w.2.1.size:Int)≤12)&&(!w.2.2||va3 w.2.1 ⟨#[]⟩)
def writesFrom:Option tWrite.D→List tWrite.D→Bool
 |_,[]=>true
 |p,y::l=>vat y&&(match p with|none=>true|some x=>vaf x.1 y.1)&&writesFrom (some y) l
def vas (l:List tWrite.D):Bool:=writesFrom none l&&decide ((l.length:Int)≤8)
theorem wkg {r:tRange.D}(hr:tRange.wt r≤1048576) (k):vtz r k=k (vax r):=by
 rw [wbc]at hr
 rw [wj5]
 unfold wd7 vax
 simp only [vkf (show r.1.size≤1048576 by omega),vkf (show r.2.size≤1048576 by omega)]
 cases vgg r.1<;>cases vgg r.2<;>simp
theorem v8c {r:tWrite.D}(hr:tWrite.wt r≤1048576) (k):vru r k=k (vat r):=by
 rw [v48]at hr
 rw [wle]
 unfold wb1 vat
 simp only [vkf (show r.1.size≤1048576 by omega)]
 cases vgg r.1<;>cases decide ((r.2.1.size:Int)≤12)<;>cases r.2.2<;>simp
theorem v12 {u0:List tWrite.D}(hu:∀y∈u0,tWrite.wt y≤1048576)(hl:u0.length≤1048576) {u1 u2}:∀(l:List tWrite.D) (i:Nat),u0.drop i=l→∃j:Int,∀k,
  vmg u0 u1 u2 l i k=k (bif writesFrom (if i=0 then none else some (u0.getD (i-1) (Ty.zero tWrite))) l then .inr j else .inl (false,j))
 |[],i,_=>⟨_,fun k=>rfl⟩
 |y::l,i,h=>by
  obtain⟨j,hj⟩:=v12 hu hl (u1:=u1) (u2:=u2) l (i+1) (vdz h)
  have hlt:=vg3 h
  have hy:=(vil h).2 (Ty.zero tWrite)
  rw [if_neg (by omega),show i+1-1=i by omega,hy]at hj
  simp only [vmg,v8c (hu y (viy h)),hj,writesFrom]
  by_cases hi:i=0
  ·subst hi
   simp only [if_pos,show ¬((0:Nat):Int)>0 by omega,decide_false,cond_false,Bool.and_true]
   cases vat y
   ·exact⟨((0:Nat):Int),fun k=>by simp⟩
   ·exact⟨j,fun k=>by simp⟩
  ·have hw:IntKind.wrap .i64 ((i:Int)-1)=((i-1:Nat):Int):=by rw [vff (by omega) (by omega)];omega
   have hrd:rd (Ty.zero (.pair .str (.pair .str .bool))) u0 ((i-1:Nat):Int)=u0.getD (i-1) (Ty.zero tWrite):=rfl
   simp only [if_neg hi,show (i:Int)>0 by omega,decide_true,cond_true,hw,hrd,if_pos (show 0≤((i-1:Nat):Int)∧((i-1:Nat):Int)<(u0.length:Int) by omega)]
   cases vat y
   ·exact⟨(i:Int),fun k=>by simp⟩
   ·cases vaf (u0.getD (i-1) (Ty.zero tWrite)).1 y.1
    ·exact⟨(i:Int),fun k=>by simp⟩
    ·exact⟨j,fun k=>by simp⟩
theorem wxt {x:List tWrite.D}(hx:(Ty.slice tWrite).wt x≤1048576) (k):vwh x k=k (vas x):=by
 have hl:=vdy hx
 rw [w10 (by omega)]
 unfold wk8 vas
 obtain⟨j,hj⟩:=v12 (u0:=x) (fun y hy=>vcj hy hx) hl (u1:=false) (u2:=x) x 0 rfl
 rw [hj]
 simp only [if_true]
 cases writesFrom none x<;>rfl
def vbb (t:tTxn.D):Bool:=
 vdk t.1 1 9999&&vdk t.2.1 1 3&&vdk t.2.2.1 0 9999 && !decide ((t.2.2.2.2.1.length:Int)>8)&&vas t.2.2.2.2.2.1 && !(t.2.2.2.2.1.any fun r=>!vax r) &&
 !((t.2.1==3) && !vdk t.2.2.2.1 (IntKind.wrap .i64 (t.2.2.1+1)) 9999) && !((t.2.1 != 3)&&(t.2.2.2.1 != 0)) &&
 !((t.2.1==2) && !vgg t.2.2.2.2.2.2.2) && !((t.2.1 != 2) && !va3 t.2.2.2.2.2.2.2 ⟨#[]⟩)&&((t.2.1 != 1) || !t.2.2.2.2.2.2.1)
theorem v08 {u0} {u1} {u4} {u5} {u6} {u7} {u8} {u9} {u10} {u11}:∀(l:List tRange.D) (i:Nat),(∀y∈l,tRange.wt y≤1048576)→∃j:Int,∀k,vm5 u0 u1 u4 u5 u6 u7 u8 u9 u10 u11 l i k=k (bif l.any (fun r=>!vax r)then .inl (false,j)else .inr j)
 |[],i,_=>⟨_,fun k=>rfl⟩
 |y::l,i,h=>by
  obtain⟨j,hj⟩:=v08 (u0:=u0) (u1:=u1) (u4:=u4) (u5:=u5) (u6:=u6) (u7:=u7) (u8:=u8) (u9:=u9) (u10:=u10) (u11:=u11) l (i+1) (fun y hy=>h y (by simp [hy]))
  simp only [vm5,wkg (h y (by simp)),hj,List.any_cons]
  cases vax y
  ·exact⟨(i:Int),fun k=>by simp⟩
  ·exact⟨j,fun k=>by simp⟩
theorem vse {t:tTxn.D}(ht:tTxn.wt t≤1048576) (k):vhk t k=k (vbb t):=by
 rw [wf7]at ht
 have h1:=vdy (T:=tRange) (xs:=t.2.2.2.2.1) (n:=1048576) (by omega)
 have h2:=vdy (T:=tWrite) (xs:=t.2.2.2.2.2.1) (n:=1048576) (by omega)
 rw [w2a (by omega)]
 unfold woo vbb
 obtain⟨j,hj⟩:=v08 (u0:=false) (u1:=t.2.2.2.2.1) (u4:=t.1) (u5:=t.2.1) (u6:=t.2.2.1) (u7:=t.2.2.2.1) (u8:=t.2.2.2.2.1) (u9:=t.2.2.2.2.2.1) (u10:=t.2.2.2.2.2.2.1) (u11:=t.2.2.2.2.2.2.2) t.2.2.2.2.1 0 (fun y hy=>vcj hy (by omega))
 simp only [hj,v36,wxt (show (Ty.slice tWrite).wt t.2.2.2.2.2.1≤1048576 by omega),vfh,vdp,vkf (show t.2.2.2.2.2.2.2.size≤1048576 by omega)]
 cases (t.2.2.2.2.1.any fun r=>!vax r)<;>simp only [Bool.not_true,Bool.not_false,cond_true,cond_false,Bool.true_and,Bool.and_true,Bool.and_false,Bool.false_and,Sum.elim_inl,Sum.elim_inr]
 cases vdk t.1 1 9999<;>simp only [Bool.not_true,Bool.not_false,cond_true,cond_false,Bool.true_and,Bool.false_and]
 cases vdk t.2.1 1 3<;>simp only [Bool.not_true,Bool.not_false,cond_true,cond_false,Bool.true_and,Bool.false_and]
 cases vdk t.2.2.1 0 9999<;>simp only [Bool.not_true,Bool.not_false,cond_true,cond_false,Bool.true_and,Bool.false_and]
 cases decide ((t.2.2.2.2.1.length:Int)>8)<;>simp only [Bool.not_true,Bool.not_false,cond_true,cond_false,Bool.true_and,Bool.false_and]
 cases vas t.2.2.2.2.2.1<;>simp only [Bool.not_true,Bool.not_false,cond_true,cond_false,Bool.true_and,Bool.false_and]
 simp only [bne]
 cases t.2.1==3<;>cases t.2.1==2<;>cases t.2.1==1<;>cases vdk t.2.2.2.1 (IntKind.wrap .i64 (t.2.2.1+1)) 9999<;>cases t.2.2.2.1==0<;>cases vgg t.2.2.2.2.2.2.2<;>cases va3 t.2.2.2.2.2.2.2 ⟨#[]⟩<;>cases t.2.2.2.2.2.2.1<;>rfl
def wh2 (a b:tTxn.D):Bool:=(a.2.1==3)&&decide (a.2.2.2.1≤b.2.2.1)
def v3s (a b:tTxn.D):Bool:=(a.1 != b.1) && !(wh2 a b) && !(wh2 b a)
def vbl (a b:tTxn.D):Bool:=v3s a b&&vbe a.2.2.2.2.1 b.2.2.2.2.2.1
theorem wyb (a b:tTxn.D) (k):v0y a b k=k (wh2 a b):=by
 rw [wlk];unfold wcm wh2;cases a.2.1==3<;>rfl
theorem wxm (a b:tTxn.D) (k):v58 a b k=k (v3s a b):=by
 rw [wk3];unfold wdd v3s;simp only [wyb]
 cases (a.1 != b.1)<;>cases wh2 a b<;>cases wh2 b a<;>rfl
theorem vqa {a:tTxn.D}(ha:tTxn.wt a≤1048576):a.2.2.2.2.1.length≤1048576∧a.2.2.2.2.2.1.length≤1048576:=by
 rw [wf7]at ha
 exact⟨vdy (T:=tRange) (by omega),vdy (T:=tWrite) (by omega)⟩
theorem vl3 {a b:tTxn.D}(ha:tTxn.wt a≤1048576)(hb:tTxn.wt b≤1048576) (k):vio a b k=k (vbl a b):=by
 rw [wjy];unfold wdi vbl
 simp only [wxm,wwl (vqa ha).1 (vqa hb).2]
 cases v3s a b<;>rfl
end
end Go.VE
/- Plain laws: one of a list that passes a test;what is seen;the oldest. -/
namespace Go.VE
noncomputable section
set_option linter.unusedVariables false
set_option linter.unusedSimpArgs false
set_option maxRecDepth 100000
theorem voi (x:tTxn.D) (k):vla x k=k (x.2.1==2):=by rw [wiw];rfl
theorem vvk (x:tTxn.D) (k):vo4 x k=k (x.2.1==3):=by rw [wlw];rfl
def va1 (t x:tTxn.D):Bool:=(x.1 != t.1)&&((x.2.1==2)||((x.2.1==3)&&decide (x.2.2.2.1>t.2.2.1)))&&vdh x.2.2.2.2.2.1 t.2.2.2.2.2.1
def vb5 (t x:tTxn.D):Bool:=(x.2.1==3)&&vbl t x
def vec (t x:tTxn.D):Bool:=((x.2.1==2)||(x.2.1==3))&&vbl x t
theorem ww6 {x t:tTxn.D}(hx:tTxn.wt x≤1048576)(ht:tTxn.wt t≤1048576) (k):v0m x t.1 t.2.1 t.2.2.1 t.2.2.2.1 t.2.2.2.2.1 t.2.2.2.2.2.1 t.2.2.2.2.2.2.1 t.2.2.2.2.2.2.2 k=k (va1 t x,t.1,t.2.1,t.2.2.1,t.2.2.2.1,t.2.2.2.2.1,t.2.2.2.2.2.1,t.2.2.2.2.2.2.1,t.2.2.2.2.2.2.2):=by
 rw [wpx]
 unfold wbt va1
 simp only [voi,vvk,vcz,wyt (vqa hx).2 (vqa ht).2]
 cases (x.1 != t.1)<;>cases (x.2.1==2)<;>cases (x.2.1==3)<;>cases decide (x.2.2.2.1>t.2.2.1)<;>cases vdh x.2.2.2.2.2.1 t.2.2.2.2.2.1<;>rfl
theorem vxc {u0 u1}{t:tTxn.D}(ht:tTxn.wt t≤1048576):∀(l:List tTxn.D) (i:Nat),(∀y∈l,tTxn.wt y≤1048576)→∃a:Nat,∃b:Int,∀k,
  vi9 u0 u1 l t.1 t.2.1 t.2.2.1 t.2.2.2.1 t.2.2.2.2.1 t.2.2.2.2.2.1 t.2.2.2.2.2.2.1 t.2.2.2.2.2.2.2 i k=k (bif l.any (fun x=>va1 t x)then .inl ((a:Int),b,t.1,t.2.1,t.2.2.1,t.2.2.2.1,t.2.2.2.2.1,t.2.2.2.2.2.1,t.2.2.2.2.2.2.1,t.2.2.2.2.2.2.2)else .inr (b,t.1,t.2.1,t.2.2.1,t.2.2.2.1,t.2.2.2.2.1,t.2.2.2.2.2.1,t.2.2.2.2.2.2.1,t.2.2.2.2.2.2.2))
 |[],i,_=>⟨0,_,fun k=>rfl⟩
 |y::l,i,h=>by
  obtain⟨a,b,hab⟩:=vxc (u0:=u0) (u1:=u1) ht l (i+1) (fun y hy=>h y (by simp [hy]))
  simp only [vi9,ww6 (h y (by simp)) ht,hab,List.any_cons]
  cases va1 t y
  ·exact⟨a,b,fun k=>rfl⟩
  ·exact⟨i,(i:Int),fun k=>rfl⟩
theorem wxh {t:tTxn.D}{l:List tTxn.D}(ht:tTxn.wt t≤1048576)(hl:(Ty.slice tTxn).wt l≤1048576) (k):v0s t l k=k (l.any fun x=>va1 t x):=by
 have hlen:=vdy hl
 obtain⟨a,b,hab⟩:=vxc (u0:=l) (u1:=0) ht l 0 (fun y hy=>vcj hy hl)
 rw [wja]
 unfold wec
 rw [wjc]
 unfold wdc
 rw [wm7]
 unfold we4
 rw [wwz (by omega)]
 unfold v81
 rw [hab]
 cases (l.any fun x=>va1 t x)
 ·rfl
 ·have:decide ((a:Int)≥0)=true:=by simp
  simp only [cond_true,Sum.elim_inl,this]
theorem ww3 {x t:tTxn.D}(hx:tTxn.wt x≤1048576)(ht:tTxn.wt t≤1048576) (k):v1l x t.1 t.2.1 t.2.2.1 t.2.2.2.1 t.2.2.2.2.1 t.2.2.2.2.2.1 t.2.2.2.2.2.2.1 t.2.2.2.2.2.2.2 k=k (vb5 t x,t.1,t.2.1,t.2.2.1,t.2.2.2.1,t.2.2.2.2.1,t.2.2.2.2.2.1,t.2.2.2.2.2.2.1,t.2.2.2.2.2.2.2):=by
 rw [wjt]
 unfold wdx vb5
 simp only [vvk,vcz,vl3 ht hx]
 cases (x.2.1==3)<;>cases vbl t x<;>rfl
theorem vv7 {u0 u1}{t:tTxn.D}(ht:tTxn.wt t≤1048576):∀(l:List tTxn.D) (i:Nat),(∀y∈l,tTxn.wt y≤1048576)→∃a:Nat,∃b:Int,∀k,
  vjx u0 u1 l t.1 t.2.1 t.2.2.1 t.2.2.2.1 t.2.2.2.2.1 t.2.2.2.2.2.1 t.2.2.2.2.2.2.1 t.2.2.2.2.2.2.2 i k=k (bif l.any (fun x=>vb5 t x)then .inl ((a:Int),b,t.1,t.2.1,t.2.2.1,t.2.2.2.1,t.2.2.2.2.1,t.2.2.2.2.2.1,t.2.2.2.2.2.2.1,t.2.2.2.2.2.2.2)else .inr (b,t.1,t.2.1,t.2.2.1,t.2.2.2.1,t.2.2.2.2.1,t.2.2.2.2.2.1,t.2.2.2.2.2.2.1,t.2.2.2.2.2.2.2))
 |[],i,_=>⟨0,_,fun k=>rfl⟩
 |y::l,i,h=>by
  obtain⟨a,b,hab⟩:=vv7 (u0:=u0) (u1:=u1) ht l (i+1) (fun y hy=>h y (by simp [hy]))
  simp only [vjx,ww3 (h y (by simp)) ht,hab,List.any_cons]
  cases vb5 t y
  ·exact⟨a,b,fun k=>rfl⟩
  ·exact⟨i,(i:Int),fun k=>rfl⟩
theorem v9i {t:tTxn.D}{l:List tTxn.D}(ht:tTxn.wt t≤1048576)(hl:(Ty.slice tTxn).wt l≤1048576) (k):vte t l k=k (l.any fun x=>vb5 t x):=by
 have hlen:=vdy hl
 obtain⟨a,b,hab⟩:=vv7 (u0:=l) (u1:=0) ht l 0 (fun y hy=>vcj hy hl)
 rw [wi3]
 unfold wfp
 rw [wke]
 unfold wb4
 rw [wmj]
 unfold wfn
 rw [wy0 (by omega)]
 unfold v8u
 rw [hab]
 cases (l.any fun x=>vb5 t x)
 ·rfl
 ·have:decide ((a:Int)≥0)=true:=by simp
  simp only [cond_true,Sum.elim_inl,this]
theorem wyp {x t:tTxn.D}(hx:tTxn.wt x≤1048576)(ht:tTxn.wt t≤1048576) (k):v2l x t.1 t.2.1 t.2.2.1 t.2.2.2.1 t.2.2.2.2.1 t.2.2.2.2.2.1 t.2.2.2.2.2.2.1 t.2.2.2.2.2.2.2 k=k (vec t x,t.1,t.2.1,t.2.2.1,t.2.2.2.1,t.2.2.2.2.1,t.2.2.2.2.2.1,t.2.2.2.2.2.2.1,t.2.2.2.2.2.2.2):=by
 rw [wpf]
 unfold wd2 vec
 simp only [voi,vvk,vcz,vl3 hx ht]
 cases (x.2.1==2)<;>cases (x.2.1==3)<;>cases vbl x t<;>rfl
theorem vvs {u0 u1}{t:tTxn.D}(ht:tTxn.wt t≤1048576):∀(l:List tTxn.D) (i:Nat),(∀y∈l,tTxn.wt y≤1048576)→∃a:Nat,∃b:Int,∀k,
  vj3 u0 u1 l t.1 t.2.1 t.2.2.1 t.2.2.2.1 t.2.2.2.2.1 t.2.2.2.2.2.1 t.2.2.2.2.2.2.1 t.2.2.2.2.2.2.2 i k=k (bif l.any (fun x=>vec t x)then .inl ((a:Int),b,t.1,t.2.1,t.2.2.1,t.2.2.2.1,t.2.2.2.2.1,t.2.2.2.2.2.1,t.2.2.2.2.2.2.1,t.2.2.2.2.2.2.2)else .inr (b,t.1,t.2.1,t.2.2.1,t.2.2.2.1,t.2.2.2.2.1,t.2.2.2.2.2.1,t.2.2.2.2.2.2.1,t.2.2.2.2.2.2.2))
 |[],i,_=>⟨0,_,fun k=>rfl⟩
 |y::l,i,h=>by
  obtain⟨a,b,hab⟩:=vvs (u0:=u0) (u1:=u1) ht l (i+1) (fun y hy=>h y (by simp [hy]))
  simp only [vj3,wyp (h y (by simp)) ht,hab,List.any_cons]
  cases vec t y
  ·exact⟨a,b,fun k=>rfl⟩
  ·exact⟨i,(i:Int),fun k=>rfl⟩
theorem wjl {t:tTxn.D}{l:List tTxn.D}(ht:tTxn.wt t≤1048576)(hl:(Ty.slice tTxn).wt l≤1048576) (k):v0w t l k=k (l.any fun x=>vec t x):=by
 have hlen:=vdy hl
 obtain⟨a,b,hab⟩:=vvs (u0:=l) (u1:=0) ht l 0 (fun y hy=>vcj hy hl)
 rw [wkc]
 unfold wer
 rw [wod]
 unfold wcx
 rw [wn7]
 unfold wfd
 rw [wyc (by omega)]
 unfold wbm
 rw [hab]
 cases (l.any fun x=>vec t x)
 ·rfl
 ·have:decide ((a:Int)≥0)=true:=by simp
  simp only [cond_true,Sum.elim_inl,this]
def zV:tVersion.D:=Ty.zero tVersion
def lastAtF (u0:List tVersion.D)(key:ByteArray)(snap:Int):List tVersion.D→Int→Nat→Int
 |[],s,_=>s
 |y::l,s,i=>bif va3 y.1 key&&(decide (y.2.2.2≤snap)&&(decide (s<0)||decide (y.2.2.2>(rd zV u0 s).2.2.2)))then lastAtF u0 key snap l (i:Int) (i+1)else lastAtF u0 key snap l s (i+1)
def va7 (xs:List tVersion.D)(key:ByteArray)(snap:Int):Int:=lastAtF xs key snap xs (-1) 0
theorem vss {u0 u1 u2} {u4}:∀(l:List tVersion.D) (s:Int) (i:Nat),u0.drop i=l→(s<0∨0≤s∧s<(u0.length:Int))→
  ∃j:Int,(∀k,vhr u0 u1 u2 u4 l s i k=k (lastAtF u0 u1 u2 l s i,j))∧(lastAtF u0 u1 u2 l s i<0∨0≤lastAtF u0 u1 u2 l s i∧lastAtF u0 u1 u2 l s i<(u0.length:Int))
 |[],s,i,_,hs=>⟨_,fun k=>rfl,hs⟩
 |y::l,s,i,h,hs=>by
  have hlt:=vg3 h
  obtain⟨j1,hj1,b1⟩:=vss (u0:=u0) (u1:=u1) (u2:=u2) (u4:=u4) l s (i+1) (vdz h) hs
  obtain⟨j2,hj2,b2⟩:=vss (u0:=u0) (u1:=u1) (u2:=u2) (u4:=u4) l (i:Int) (i+1) (vdz h) (.inr (by omega))
  have hz:(Ty.zero tVersion)=zV:=rfl
  simp only [vhr,hj1,hj2,lastAtF,hz]
  cases va3 y.1 u1
  ·exact⟨j1,fun k=>rfl,b1⟩
  ·cases decide (y.2.2.2≤u2)
   ·exact⟨j1,fun k=>rfl,b1⟩
   ·by_cases c:s<0
    ·simp only [c,decide_true,cond_true,Bool.true_or,Bool.and_self];exact⟨j2,fun k=>rfl,b2⟩
    ·simp only [c,decide_false,cond_true,cond_false,Bool.false_or,Bool.true_and]
     simp only [if_pos (show 0≤s∧s<(u0.length:Int) by omega)]
     cases decide (y.2.2.2>(rd zV u0 s).2.2.2)
     ·exact⟨j1,fun k=>rfl,b1⟩
     ·exact⟨j2,fun k=>rfl,b2⟩
theorem wma {xs:List tVersion.D}(hl:xs.length≤1048576) (key) (snap) (k):vtm xs key snap k=k (va7 xs key snap):=by
 rw [wz6 (by omega)]
 unfold wl8 va7
 obtain⟨j,hj,_⟩:=vss (u0:=xs) (u1:=key) (u2:=snap) (u4:=xs) xs (-1) 0 rfl (.inl (by omega))
 rw [hj]
theorem vl6 {u0:List tVersion.D}{key:ByteArray}{snap:Int}:∀(l:List tVersion.D) (s:Int) (i:Nat),i+l.length≤u0.length→(s<0∨0≤s∧s<(u0.length:Int))→(lastAtF u0 key snap l s i<0∨0≤lastAtF u0 key snap l s i∧lastAtF u0 key snap l s i<(u0.length:Int))
 |[],s,i,_,hs=>hs
 |y::l,s,i,h,hs=>by
  simp only [List.length_cons]at h
  simp only [lastAtF]
  cases (va3 y.1 key&&(decide (y.2.2.2≤snap)&&(decide (s<0)||decide (y.2.2.2>(rd zV u0 s).2.2.2))))
  ·exact vl6 l s (i+1) (by omega) hs
  ·exact vl6 l (i:Int) (i+1) (by omega) (.inr (by omega))
theorem v30 (xs:List tVersion.D)(key:ByteArray)(snap:Int):va7 xs key snap<0∨0≤va7 xs key snap∧va7 xs key snap<(xs.length:Int):=
 vl6 xs (-1) 0 (by omega) (.inl (by omega))
def vcb (xs:List tVersion.D)(key:ByteArray)(snap:Int):ByteArray×Bool:=
 bif decide (va7 xs key snap<0)then(⟨#[]⟩,false)else bif (rd zV xs (va7 xs key snap)).2.2.1 then(⟨#[]⟩,false)else((rd zV xs (va7 xs key snap)).2.1,true)
theorem wyk {xs:List tVersion.D}(hl:xs.length≤1048576) (key) (snap) (k):v7z xs key snap k=k (vcb xs key snap):=by
 have hb:=v30 xs key snap
 have hz:(Ty.zero tVersion)=zV:=rfl
 rw [wnm]
 unfold we3 vcb
 simp only [wma hl,hz]
 by_cases c:va7 xs key snap<0
 ·simp only [c,decide_true,cond_true]
 ·simp only [c,decide_false,cond_false]
  rw [if_pos (by omega)]
  cases (rd zV xs (va7 xs key snap)).2.2.1
  ·simp only [cond_false];rw [if_pos (by omega)]
  ·rfl
def vb7 (t:tTxn.D)(xs:List tVersion.D)(key:ByteArray):ByteArray×Bool:=
 match t.2.2.2.2.2.1.find? fun w=>va3 w.1 key with
 |some w=>bif w.2.2 then(⟨#[]⟩,false)else(w.2.1,true)
 |none=>vcb xs key t.2.2.1
theorem wys (w:tWrite.D) (key) (k):v2d w key k=k (va3 w.1 key,key):=by rw [wpv];rfl
theorem vyc {u0:List tWrite.D} {u1}{key:ByteArray}:∀(l:List tWrite.D) (i:Nat),u0.drop i=l→
  (∃a:Nat,∃b:Int,(∀k,vh0 u0 u1 l key i k=k (.inl ((a:Int),b,key)))∧a<u0.length∧l.find? (fun w=>va3 w.1 key)=some (rd (Ty.zero tWrite) u0 (a:Int)))∨
  (∃b:Int,(∀k,vh0 u0 u1 l key i k=k (.inr (b,key)))∧l.find? (fun w=>va3 w.1 key)=none)
 |[],i,_=>.inr ⟨_,fun k=>rfl,rfl⟩
 |y::l,i,h=>by
  have hlt:=vg3 h
  have hy:=(vil h).1 (Ty.zero tWrite)
  simp only [vh0,wys,List.find?_cons]
  cases va3 y.1 key
  ·simp only [cond_false];exact vyc l (i+1) (vdz h)
  ·exact .inl ⟨i,_,fun k=>rfl,hlt,by rw [hy]⟩
theorem wxq {t:tTxn.D}{xs:List tVersion.D}(ht:tTxn.wt t≤1048576)(hl:xs.length≤1048576) (key) (k):v6p t xs key k=k (vb7 t xs key):=by
 have hlen:=(vqa ht).2
 rw [wms]
 unfold wco
 rw [wir]
 unfold wep vb7
 rw [wyi (by omega)]
 unfold v9k
 rcases vyc (u0:=t.2.2.2.2.2.1) (u1:=0) (key:=key) t.2.2.2.2.2.1 0 rfl with⟨a,b,h1,h2,h3⟩|⟨b,h1,h3⟩
 ·rw [h1,h3]
  simp only [Sum.elim_inl,show decide ((a:Int)≥0)=true by simp,cond_true]
  rw [if_pos (by omega)]
  cases (rd (Ty.zero tWrite) t.2.2.2.2.2.1 (a:Int)).2.2
  ·simp only [cond_false];rw [if_pos (by omega)]
  ·rfl
 ·rw [h1,h3]
  simp only [Sum.elim_inr,show decide ((-1:Int)≥0)=false by decide,cond_false,wyk hl,vcz]
def vwm (n:Int)(l:List tTxn.D):Int:=l.foldl (fun s y=>if y.2.2.1<s then y.2.2.1 else s) n
theorem v1b {u1}:∀(l:List tTxn.D) (s:Int) (i:Nat),∃j:Int,∀k,vpz u1 l s i k=k (vwm s l,j)
 |[],s,i=>⟨_,fun k=>rfl⟩
 |y::l,s,i=>v1b l _ (i+1)
theorem wxa {b:tBase.D}{l:List tTxn.D}(hl:l.length≤1048576) (k):v0e b l k=k (vwm b.2.2.2.1 l):=by
 rw [w0b (by omega)]
 obtain⟨j,hj⟩:=v1b (u1:=l) l b.2.2.2.1 0
 unfold wng
 rw [hj]
theorem wv8 (k):v68 k=k ((0:Int),(1:Int)):=by rw [wjg];rfl
theorem wyh (k):v7r k=k ((0:Int),(1:Int)):=by rw [wkj];unfold we9;rw [wv8]
end
end Go.VE
/- Plain laws: where a name or an Id stands;a transaction's text. -/
namespace Go.VE
noncomputable section
set_option linter.unusedVariables false
set_option linter.unusedSimpArgs false
set_option maxRecDepth 100000
def atF (p:tTxn.D→Bool):List tTxn.D→Nat→Int
 |[],_=>-1
 |y::l,i=>bif p y then(i:Int)else atF p l (i+1)
theorem wyz (x:tTxn.D)(c:ByteArray) (k):v2f x c k=k (va3 x.2.2.2.2.2.2.2 c,c):=by rw [wl4];rfl
theorem vxv {u0 u1}{c:ByteArray}:∀(l:List tTxn.D) (i:Nat),
  (∃a:Nat,atF (fun x=>va3 x.2.2.2.2.2.2.2 c) l i=(a:Int)∧∀k,vhy u0 u1 l c i k=k (.inl ((a:Int),(a:Int),c)))∨
  ((∃b:Int,∀k,vhy u0 u1 l c i k=k (.inr (b,c)))∧atF (fun x=>va3 x.2.2.2.2.2.2.2 c) l i = -1)
 |[],i=>.inr ⟨⟨_,fun k=>rfl⟩,rfl⟩
 |y::l,i=>by
  have ih:=vxv (u0:=u0) (u1:=u1) (c:=c) l (i+1)
  simp only [vhy,atF,wyz]
  cases va3 y.2.2.2.2.2.2.2 c
  ·exact ih
  ·exact .inl ⟨i,rfl,fun k=>rfl⟩
theorem wnu (t:tBase.D)(c:ByteArray)(hl:(t.2.2.1).length≤1048576) (k):vtj t c k=k (atF (fun x=>va3 x.2.2.2.2.2.2.2 c) (t.2.2.1) 0):=by
 rw [wlq]
 unfold wcf
 rw [wwy (by omega)]
 unfold v96
 rcases vxv (u0:=(t.2.2.1)) (u1:=0) (c:=c) (t.2.2.1) 0 with⟨a,ha,h⟩|⟨⟨b,h⟩,ha⟩<;>rw [h,ha]<;>rfl
theorem wx9 (x:tTxn.D)(c:Int) (k):v2b x c k=k ((x.1==c),c):=by rw [wk2];rfl
theorem vx8 {u0 u1}{c:Int}:∀(l:List tTxn.D) (i:Nat),
  (∃a:Nat,atF (fun x=>(x.1==c)) l i=(a:Int)∧∀k,vh9 u0 u1 l c i k=k (.inl ((a:Int),(a:Int),c)))∨
  ((∃b:Int,∀k,vh9 u0 u1 l c i k=k (.inr (b,c)))∧atF (fun x=>(x.1==c)) l i = -1)
 |[],i=>.inr ⟨⟨_,fun k=>rfl⟩,rfl⟩
 |y::l,i=>by
  have ih:=vx8 (u0:=u0) (u1:=u1) (c:=c) l (i+1)
  simp only [vh9,atF,wx9]
  cases (y.1==c)
  ·exact ih
  ·exact .inl ⟨i,rfl,fun k=>rfl⟩
theorem vly (t:tEngine.D)(c:Int)(hl:(t.2).length≤1048576) (k):vo9 t c k=k (atF (fun x=>(x.1==c)) (t.2) 0):=by
 rw [woy]
 unfold wdm
 rw [wwj (by omega)]
 unfold wa7
 rcases vx8 (u0:=(t.2)) (u1:=0) (c:=c) (t.2) 0 with⟨a,ha,h⟩|⟨⟨b,h⟩,ha⟩<;>rw [h,ha]<;>rfl
theorem v8b {a b:ByteArray}(h:a.data.toList=b.data.toList):a=b:=by
 cases a;cases b;congr 1;exact Array.toList_inj.mp h
theorem vsn {a b:ByteArray}(h:va3 a b=true):a=b:=by
 rw [vh1,beq_iff_eq,ByteArray.toList_eq,ByteArray.toList_eq]at h
 exact v8b h
theorem wrs:∃n,Fuel=n+3:=⟨Fuel-3,by have:=vfl;omega⟩
theorem vg1 {s:ByteArray}(h:vgg s=true):s.size≤3:=by
 unfold vgg vdk at h
 simp only [Bool.and_eq_true,decide_eq_true_eq]at h
 omega
theorem vpi:∀{l:List tWrite.D} {p},writesFrom p l=true→∀y∈l,vat y=true
 |[],_,_,y,hy=>by cases hy
 |z::l,p,h,y,hy=>by
  simp only [writesFrom,Bool.and_eq_true]at h
  cases hy with
  |head=>exact h.1.1
  |tail _ hm=>exact vpi h.2 y hm
def v64 (n:Int):Prop:=0≤n∧n≤16383
theorem vpp {t:tTxn.D}(h:vbb t=true):v64 t.1∧v64 t.2.1∧v64 t.2.2.1∧v64 t.2.2.2.1∧
  t.2.2.2.2.1.length≤8∧(∀y∈t.2.2.2.2.1,y.1.size≤12∧y.2.size≤12)∧t.2.2.2.2.2.1.length≤8∧(∀y∈t.2.2.2.2.2.1,y.1.size≤12∧y.2.1.size≤12)∧t.2.2.2.2.2.2.2.size≤12:=by
 unfold vbb vdk vas at h
 simp only [Bool.and_eq_true,Bool.not_eq_true',decide_eq_true_eq,decide_eq_false_iff_not,List.any_eq_false,Bool.not_eq_true,Bool.and_eq_false_iff,beq_eq_false_iff_ne,bne_eq_false_iff_eq,Bool.not_eq_false',Bool.or_eq_true,ne_eq]at h
 obtain⟨⟨⟨⟨⟨⟨⟨⟨⟨⟨a1,a2⟩,a3⟩,a4⟩,⟨a5,a6⟩⟩,a7⟩,a8⟩,a9⟩,a10⟩,a11⟩,a12⟩:=h
 unfold v64
 refine⟨by omega,by omega,by omega,?_,by omega,fun y hy=>?_,by omega,fun y hy=>?_,?_⟩
 ·by_cases c:t.2.1=3
  ·have:=a8.resolve_left (fun hc=>hc c)
   have w:IntKind.wrap .i64 (t.2.2.1+1)=t.2.2.1+1:=vff (by omega) (by omega)
   rw [w]at this
   omega
  ·have:@Eq Int t.2.2.2.1 0:=a9.resolve_left (fun hc=>c hc)
   omega
 ·have:vax y=true:=by have:=a7 y hy;revert this;cases vax y<;>simp
  unfold vax at this
  simp only [Bool.and_eq_true]at this
  have b1:=vg1 this.1.1
  have b2:=vg1 this.1.2
  omega
 ·have:=vpi a5 y hy
  unfold vat at this
  simp only [Bool.and_eq_true,decide_eq_true_eq]at this
  have b1:=vg1 this.1.1
  omega
 ·by_cases c:t.2.1=2
  ·have:=vg1 (a10.resolve_left (fun hc=>hc c))
   omega
  ·have:=vsn (a11.resolve_left (fun hc=>c hc))
   rw [this];decide
end
end Go.VE
/- Plain laws of the draws: each gives,whatever the bytes. -/
namespace Go.VE
noncomputable section
set_option linter.unusedVariables false
set_option linter.unusedSimpArgs false
set_option maxRecDepth 100000
def Gives {α:Type}(F:(α→Option Res)→Option Res)(Q:α→Prop):Prop:=∃v,Q v∧∀k,F k=k v
theorem veb {α:Type}{v:α}{Q:α→Prop}(h:Q v):Gives (fun k=>k v) Q:=⟨v,h,fun _=>rfl⟩
theorem Gives.bind {α β:Type}{F:(β→Option Res)→Option Res}{R:β→Prop}(hF:Gives F R){H:β→(α→Option Res)→Option Res}{Q:α→Prop}(hH:∀v,R v→Gives (H v) Q):Gives (fun k=>F fun v=>H v k) Q:=by
 obtain⟨v,h1,h2⟩:=hF
 obtain⟨y,h3,h4⟩:=hH v h1
 exact⟨y,h3,fun k=>(h2 _).trans (h4 k)⟩
theorem vhd {α:Type}{c:Bool}{F G:(α→Option Res)→Option Res}{Q:α→Prop}(hF:c=true→Gives F Q)(hG:c=false→Gives G Q):Gives (fun k=>bif c then F k else G k) Q:=by
 cases c
 ·exact hG rfl
 ·exact hF rfl
theorem vu8 {α:Type}{c:Prop} [Decidable c]{F:(α→Option Res)→Option Res}{Q:α→Prop}(hc:c)(hF:Gives F Q):Gives (fun k=>if c then F k else none) Q:=by
 simp only [hc,if_true];exact hF
theorem wmy {α:Type}{c:Prop} [Decidable c]{F:(α→Option Res)→Option Res}{Q:α→Prop}(hc:¬c)(hF:Gives F Q):Gives (fun k=>if c then none else F k) Q:=by
 simp only [hc,if_false];exact hF
theorem voo {β γ:Type}{b:β→(β⊕γ→Option Res)→Option Res}{x:β}{n:Nat}{Q:γ→Prop}(h:Gives (b x) (fun r=>(∀y,r = .inl y→Gives (vad b n y) Q)∧∀z,r = .inr z→Q z)):Gives (vad b (n+1) x) Q:=by
 obtain⟨v,h1,h2⟩:=h
 cases v with
 |inl y=>
  obtain⟨w,h3,h4⟩:=h1.1 y rfl
  exact⟨w,h3,fun k=>by rw [vad,h2];exact h4 k⟩
 |inr z=>exact⟨z,h1.2 z rfl,fun k=>by rw [vad,h2];rfl⟩
theorem wvk {β γ:Type}{Q:γ→Prop}{G:β→Prop}{y:β}(h:G y):(∀x,(Sum.inl y:β⊕γ) = .inl x→G x)∧∀z,(Sum.inl y:β⊕γ) = .inr z→Q z:=⟨fun _ e=>by cases e;exact h,fun _ e=>(nomatch e)⟩
theorem wdl {β γ:Type}{Q:γ→Prop}{G:β→Prop}{z:γ}(h:Q z):(∀x,(Sum.inr z:β⊕γ) = .inl x→G x)∧∀w,(Sum.inr z:β⊕γ) = .inr w→Q w:=⟨fun _ e=>(nomatch e),fun _ e=>by cases e;exact h⟩
def Dr (l:List Int)(p:Int):Prop:=l.length≤1048576∧0≤p
def okW (n:Nat)(l:List tWrite.D):Prop:=l.length≤n∧∀y∈l,y.1.size≤20∧y.2.1.size≤20
theorem wea (v:BitVec (IntKind.bits .i64)):0≤IntKind.wrap .i64 ((v &&& BitVec.ofInt (IntKind.bits .i64) (255:Int)).toNat:Int)∧IntKind.wrap .i64 ((v &&& BitVec.ofInt (IntKind.bits .i64) (255:Int)).toNat:Int)≤255:=by
 have h:(v &&& BitVec.ofInt (IntKind.bits .i64) (255:Int)).toNat≤255:=by
  rw [BitVec.toNat_and]
  exact Nat.le_trans Nat.and_le_right (by decide)
 rw [vff (by omega) (by omega)]
 omega
theorem wh5 {a0:List Int}(hl:a0.length≤1048576):∀(m:Nat) (i:Nat) (s:Int) (n:Nat),a0.length-i=m→m<n→Gives (vad vmk n (a0,s,(i:Int))) (fun z=>z.1=a0):=by
 intro m
 induction m with
 |zero=>
  intro i s n hm hn
  obtain⟨n,rfl⟩:∃q,n=q+1:=⟨n-1,by omega⟩
  apply voo
  unfold vmk
  refine vhd (fun c=>by have c:=of_decide_eq_true c;(first|dsimp only at c|skip);omega) (fun _=>veb ?_)
  exact wdl rfl
 |succ m ih=>
  intro i s n hm hn
  obtain⟨n,rfl⟩:∃q,n=q+1:=⟨n-1,by omega⟩
  apply voo
  unfold vmk
  refine vhd (fun c=>vhd (fun _=>?_) (fun _=>veb ?_)) (fun _=>veb ?_)
  ·refine Gives.bind (R:=fun z=>z.1=a0∧z.2.2=((i+1:Nat):Int)) ?_ (fun z hz=>veb ?_)
   ·unfold vfe
    refine vu8 ⟨by dsimp only;omega,by have c:=of_decide_eq_true c;dsimp only at c ⊢;omega⟩ (veb ⟨rfl,?_⟩)
    exact vcf (by omega)
   ·refine wvk ?_
    rw [hz.1,hz.2]
    exact ih (i+1) _ n (by omega) (by omega)
  ·exact wdl rfl
  ·exact wdl rfl
theorem ww0 {a0:List Int}(hl:a0.length≤1048576):Gives (vyl a0) (fun z=>Dr z.1 z.2.1):=by
 rw [wbk]
 unfold v3y
 refine Gives.bind (wh5 hl a0.length 0 _ Fuel rfl (by have:=vfl;omega)) (fun z hz=>veb ?_)
 rw [hz]
 exact⟨hl,Int.le_refl _⟩
theorem vwo {l:List Int}{p s:Int}(h:Dr l p):Gives (vkm l p s) (fun y=>0≤y.1∧y.1≤255∧Dr y.2.1 y.2.2.1):=by
 rw [v8l]
 unfold v3a
 have h1:=h.1
 have h2:=h.2
 refine vhd (fun c=>vu8 ⟨h2,of_decide_eq_true c⟩ (veb ⟨(wea _).1,(wea _).2,h1,?_⟩)) (fun _=>veb ⟨(wea _).1,(wea _).2,h⟩)
 have c:=of_decide_eq_true c
 show 0≤IntKind.wrap .i64 (p+1)
 rw [vff (by omega) (by omega)]
 omega
theorem wqc {T:Ty}{c:Nat}:∀{l:List T.D},(∀y∈l,T.wt y≤c)→wtL T l≤c*l.length
 |[],_=>by simp [wtL]
 |y::l,h=>by
  have h1:=h y (by simp)
  have h2:=wqc (l:=l) (fun z hz=>h z (List.mem_cons_of_mem y hz))
  simp only [wtL,List.length_cons,Nat.mul_add];omega
theorem wwd (l:List Int) (k):v76 l k=k (decide ((l.length:Int)>1048576)):=by rw [wjh];rfl
end
end Go.VE
/- Plain laws: a range is read. -/
namespace Go.VE
noncomputable section
set_option linter.unusedVariables false
set_option linter.unusedSimpArgs false
set_option maxRecDepth 100000
theorem v1a (a b:ByteArray):va3 a b=va3 b a:=by rw [vh1,vh1];exact Bool.beq_comm
theorem v5p (a b:tRange.D):Ty.eqB tRange a b=Ty.eqB tRange b a:=by
 simp only [Ty.eqB];rw [v1a a.1,v1a a.2]
def vao (t:tTxn.D)(r:tRange.D):Bool×List tRange.D:=
 bif !vbb t then(false,t.2.2.2.2.1)else bif t.2.1 != 1 then(false,t.2.2.2.2.1)else bif !vax r then(false,t.2.2.2.2.1)else
 bif t.2.2.2.2.1.any (fun y=>Ty.eqB tRange y r)then(true,t.2.2.2.2.1)else bif decide ((t.2.2.2.2.1.length:Int)≥8)then(false,t.2.2.2.2.1)else(true,t.2.2.2.2.1++[r])
theorem vwr {u0 u1 u4 u5}:∀(l:List tRange.D) (i:Nat),∃a:Nat,∃b:Int,∀k,vj4 u0 u1 u4 u5 l i k=k (bif l.any (fun y=>Ty.eqB tRange y (u4,u5))then .inl ((a:Int),(a:Int))else .inr b)
 |[],i=>⟨0,_,fun k=>rfl⟩
 |y::l,i=>by
  obtain⟨a,b,hab⟩:=vwr (u0:=u0) (u1:=u1) (u4:=u4) (u5:=u5) l (i+1)
  simp only [vj4,hab,List.any_cons,v5p (u4,u5) y]
  cases Ty.eqB tRange y (u4,u5)
  ·exact⟨a,b,fun k=>rfl⟩
  ·exact⟨i,(i:Int),fun k=>rfl⟩
theorem wrh {l:List tRange.D}(hl:l.length≤1048576)(r:tRange.D) (k):vsm l r k=k (l.any fun y=>Ty.eqB tRange y r):=by
 obtain⟨a,b,hab⟩:=vwr (u0:=l) (u1:=0) (u4:=r.1) (u5:=r.2) l 0
 rw [wai]
 unfold v4o
 rw [wym (by omega)]
 unfold v8k
 rw [hab]
 simp only [vcz]
 cases (l.any fun y=>Ty.eqB tRange y r)
 ·rfl
 ·have:decide ((a:Int)≥0)=true:=by simp
  simp only [cond_true,Sum.elim_inl,this]
theorem v3m {a:tTxn.D}(ha:tTxn.wt a≤1048576):a.2.2.2.2.1.length≤1048576∧a.2.2.2.2.2.1.length≤1048576:=by
 rw [wf7]at ha
 exact⟨vdy (T:=tRange) (by omega),vdy (T:=tWrite) (by omega)⟩
theorem vkr {t:tTxn.D}(hr:t.2.2.2.2.1.length≤1048576)(hw:t.2.2.2.2.2.1.length≤1048576) (k):vhc t k=k (t.1,t.2.1,t.2.2.1,t.2.2.2.1,t.2.2.2.2.2.2.1,t.2.2.2.2.2.2.2,t.2.2.2.2.1,t.2.2.2.2.2.1):=by
 rw [wnb]
 unfold wb6
 rw [if_pos (by simp only [VE.maxLen];omega),if_pos (by simp only [VE.maxLen];omega)]
theorem wwm {t:tTxn.D}(ht:tTxn.wt t≤1048576){r:tRange.D}(hr:tRange.wt r≤1048576) (k):v0v t r k=k (t.1,t.2.1,t.2.2.1,t.2.2.2.1,t.2.2.2.2.2.2.1,t.2.2.2.2.2.2.2,(vao t r).1,(vao t r).2,t.2.2.2.2.2.1):=by
 have hl:=v3m ht
 rw [w1k]
 unfold woa vao
 simp only [vkr hl.1 hl.2,vse ht,wkg hr]
 cases hok:vbb t
 ·rfl
 ·simp only [Bool.not_true,cond_false]
  cases t.2.1 != 1
  ·cases vax r
   ·rfl
   ·simp only [Bool.not_true,cond_false]
    unfold vg5
    simp only [wrh hl.1,vcz]
    have h8:=(vpp hok).2.2.2.2.1
    have e8:((t.2.2.2.2.1.length:Int)==8)=decide ((t.2.2.2.2.1.length:Int)≥8):=by
     by_cases c:(t.2.2.2.2.1.length:Int)≥8
     ·rw [decide_eq_true c];simp;omega
     ·rw [decide_eq_false c];simp;omega
    rw [e8]
    cases t.2.2.2.2.1.any (fun y=>Ty.eqB tRange y r)
    ·cases decide ((t.2.2.2.2.1.length:Int)≥8)
     ·simp only [cond_false];rw [if_pos (by simp only [List.length_singleton,VE.maxLen];omega)]
     ·rfl
    ·rfl
  ·rfl
end
end Go.VE
/- Plain laws: versions,bases. -/
namespace Go.VE
noncomputable section
set_option linter.unusedVariables false
set_option linter.unusedSimpArgs false
set_option maxRecDepth 100000
def vau (v:tVersion.D):Bool:=vgg v.1&&decide ((v.2.1.size:Int)≤12)&&(!v.2.2.1||va3 v.2.1 ⟨#[]⟩)&&vdk v.2.2.2 1 9999
def va8 (x y:tVersion.D):Bool:=vaf x.1 y.1||(va3 x.1 y.1&&decide (x.2.2.2<y.2.2.2))
def versFrom:Option tVersion.D→List tVersion.D→Bool
 |_,[]=>true
 |p,y::l=>vau y&&(match p with|none=>true|some x=>va8 x y)&&versFrom (some y) l
def vaj (l:List tVersion.D):Bool:=versFrom none l&&decide ((l.length:Int)≤120)
def cmpS (x y:ByteArray):Int:=bif vaf x y then -1 else bif !(vaf x y||va3 x y)then 1 else 0
def cmpI (x y:Int):Int:=bif decide (x<y)then -1 else bif decide (x>y)then 1 else 0
def cmpV (x y:tVersion.D):Int:=bif cmpS x.1 y.1 != 0 then cmpS x.1 y.1 else cmpI x.2.2.2 y.2.2.2
theorem wx5 (x y) (k):v7x x y k=k (cmpS x y):=by
 rw [wlc]
 unfold wca cmpS
 rw [woz]
 unfold wff
 simp only [vsr,Bool.not_true,cond_false]
 cases vaf x y<;>cases va3 x y<;>rfl
theorem ww8 (x y) (k):v6j x y k=k (cmpI x y):=by
 rw [wmq]
 unfold wb0 cmpI
 rw [wn2]
 unfold wbq
 simp only [bne_self_eq_false,cond_false]
 cases decide (x<y)<;>cases decide (x>y)<;>rfl
theorem wiy (x y:tVersion.D) (k):vqx x y k=k (cmpV x y):=by
 rw [wn3]
 unfold wcu cmpV
 simp only [wx5,ww8]
 cases cmpS x.1 y.1 != 0<;>rfl
theorem wta (x y:tVersion.D):decide (cmpV x y≥0) = !va8 x y:=by
 unfold cmpV va8 cmpS cmpI
 cases h1:vaf x.1 y.1
 ·cases h2:va3 x.1 y.1
  ·simp
  ·simp only [cond_false,Bool.or_true,Bool.not_true,bne_self_eq_false,Bool.false_or,Bool.true_and]
   by_cases h3:x.2.2.2<y.2.2.2
   ·simp [h3]
   ·by_cases h4:x.2.2.2>y.2.2.2
    ·simp [h3,h4]
    ·simp [h3,h4]
 ·simp
theorem v19 {u0:List tVersion.D}(hu:∀y∈u0,tVersion.wt y≤1048576)(hl:u0.length≤1048576) {u1 u2}:∀(l:List tVersion.D) (i:Nat),u0.drop i=l→∃j:Int,∀k,
  viz u0 u1 u2 l i k=k (bif versFrom (if i=0 then none else some (u0.getD (i-1) (Ty.zero tVersion))) l then .inr j else .inl (false,j))
 |[],i,_=>⟨_,fun k=>rfl⟩
 |y::l,i,h=>by
  obtain⟨j,hj⟩:=v19 hu hl (u1:=u1) (u2:=u2) l (i+1) (vdz h)
  have hlt:=vg3 h
  have hy:=(vil h).2 (Ty.zero tVersion)
  have hyw:=hu y (viy h)
  rw [wo2]at hyw
  rw [if_neg (by omega),show i+1-1=i by omega,hy]at hj
  simp only [viz,vkf (show y.1.size≤1048576 by omega),v36,wiy,wta,hj,versFrom,vau]
  have hsz:decide ((y.2.1.size:Int)>12) = !decide ((y.2.1.size:Int)≤12):=by
   by_cases h:(y.2.1.size:Int)≤12
   ·simp [h]
   ·simp [h];omega
  rw [hsz]
  by_cases hi:i=0
  ·subst hi
   simp only [if_pos,show ¬((0:Nat):Int)>0 by omega,decide_false,cond_false,Bool.and_true]
   cases vgg y.1<;>cases decide ((y.2.1.size:Int)≤12)<;>cases y.2.2.1<;>cases va3 y.2.1 ⟨#[]⟩<;>cases vdk y.2.2.2 1 9999<;>first|(refine⟨((0:Nat):Int),fun k=>?_⟩;simp;done)|(refine⟨j,fun k=>?_⟩;simp;done)
  ·have hw:IntKind.wrap .i64 ((i:Int)-1)=((i-1:Nat):Int):=by rw [vff (by omega) (by omega)];omega
   have hrd:rd (Ty.zero tVersion) u0 ((i-1:Nat):Int)=u0.getD (i-1) (Ty.zero tVersion):=rfl
   simp only [if_neg hi,show (i:Int)>0 by omega,decide_true,cond_true,hw,hrd,if_pos (show 0≤((i-1:Nat):Int)∧((i-1:Nat):Int)<(u0.length:Int) by omega)]
   cases vgg y.1<;>cases decide ((y.2.1.size:Int)≤12)<;>cases y.2.2.1<;>cases va3 y.2.1 ⟨#[]⟩<;>cases vdk y.2.2.2 1 9999<;>cases va8 (u0.getD (i-1) (Ty.zero tVersion)) y<;>first|(refine⟨(i:Int),fun k=>?_⟩;simp;done)|(refine⟨j,fun k=>?_⟩;simp;done)
theorem wwx {x:List tVersion.D}(hx:(Ty.slice tVersion).wt x≤1048576) (k):vw3 x k=k (vaj x):=by
 have hl:=vdy hx
 rw [w1m (by omega)]
 unfold wof vaj
 obtain⟨j,hj⟩:=v19 (u0:=x) (fun y hy=>vcj hy hx) hl (u1:=false) (u2:=x) x 0 rfl
 rw [hj]
 simp only [if_true]
 cases versFrom none x<;>rfl
def pastFrom (cs:Int):Option tTxn.D→List tTxn.D→Bool
 |_,[]=>true
 |p,y::l=>vbb y&&(y.2.1==3)&&decide (y.2.2.2.1≤cs)&&(match p with|none=>true|some x=>decide (x.2.2.2.1<y.2.2.2.1))&&pastFrom cs (some y) l
def readyFrom (cs:Int):Option tTxn.D→List tTxn.D→Bool
 |_,[]=>true
 |p,y::l=>vbb y&&(y.2.1==2)&&decide (y.2.2.1≤cs)&&(match p with|none=>true|some x=>vaf x.2.2.2.2.2.2.2 y.2.2.2.2.2.2.2)&&readyFrom cs (some y) l
def vfn (nx:Int):List Int→List Int→Bool
 |_,[]=>true
 |pre,y::l=>decide (y<nx) && !(pre.any fun z=>z==y)&&vfn nx (pre++[y]) l
theorem v2c {u5:List tTxn.D}(hu:∀y∈u5,tTxn.wt y≤1048576)(hl:u5.length≤1048576) {u0 u1 u4 u6 u7 u8}:∀(l:List tTxn.D) (i:Nat),u5.drop i=l→∃j:Int,∀k,
  vme u0 u1 u4 u5 u6 u7 u8 l i k=k (bif pastFrom u7 (if i=0 then none else some (u5.getD (i-1) (Ty.zero tTxn))) l then .inr j else .inl (false,j))
 |[],i,_=>⟨_,fun k=>rfl⟩
 |y::l,i,h=>by
  obtain⟨j,hj⟩:=v2c hu hl (u0:=u0) (u1:=u1) (u4:=u4) (u6:=u6) (u7:=u7) (u8:=u8) l (i+1) (vdz h)
  have hlt:=vg3 h
  have hy:=(vil h).2 (Ty.zero tTxn)
  rw [if_neg (by omega),show i+1-1=i by omega,hy]at hj
  have hcs:decide (y.2.2.2.1>u7) = !decide (y.2.2.2.1≤u7):=by rw [Bool.eq_iff_iff];simp
  simp only [vme,vse (hu y (viy h)),vvk,hj,pastFrom,hcs]
  by_cases hi:i=0
  ·subst hi
   simp only [if_pos,show ¬((0:Nat):Int)>0 by omega,decide_false,cond_false,Bool.and_true]
   cases vbb y<;>cases (y.2.1==3)<;>cases decide (y.2.2.2.1≤u7)<;>first|(refine⟨((0:Nat):Int),fun k=>?_⟩;simp;done)|(refine⟨j,fun k=>?_⟩;simp;done)
  ·have hw:IntKind.wrap .i64 ((i:Int)-1)=((i-1:Nat):Int):=by rw [vff (by omega) (by omega)];omega
   have hrd:rd (Ty.zero tTxn) u5 ((i-1:Nat):Int)=u5.getD (i-1) (Ty.zero tTxn):=rfl
   simp only [if_neg hi,show (i:Int)>0 by omega,decide_true,cond_true,hw,hrd,if_pos (show 0≤((i-1:Nat):Int)∧((i-1:Nat):Int)<(u5.length:Int) by omega)]
   generalize u5.getD (i-1) (Ty.zero tTxn)=x
   have hge:decide (x.2.2.2.1≥y.2.2.2.1) = !decide (x.2.2.2.1<y.2.2.2.1):=by rw [Bool.eq_iff_iff];simp
   rw [hge]
   cases vbb y<;>cases (y.2.1==3)<;>cases decide (y.2.2.2.1≤u7)<;>cases decide (x.2.2.2.1<y.2.2.2.1)<;>first|(refine⟨(i:Int),fun k=>?_⟩;simp;done)|(refine⟨j,fun k=>?_⟩;simp;done)
theorem v1n {u6:List tTxn.D}(hu:∀y∈u6,tTxn.wt y≤1048576)(hl:u6.length≤1048576) {u0 u1 u4 u5 u7 u8}:∀(l:List tTxn.D) (i:Nat),u6.drop i=l→∃j:Int,∀k,
  vl9 u0 u1 u4 u5 u6 u7 u8 l i k=k (bif readyFrom u7 (if i=0 then none else some (u6.getD (i-1) (Ty.zero tTxn))) l then .inr j else .inl (false,j))
 |[],i,_=>⟨_,fun k=>rfl⟩
 |y::l,i,h=>by
  obtain⟨j,hj⟩:=v1n hu hl (u0:=u0) (u1:=u1) (u4:=u4) (u5:=u5) (u7:=u7) (u8:=u8) l (i+1) (vdz h)
  have hlt:=vg3 h
  have hy:=(vil h).2 (Ty.zero tTxn)
  rw [if_neg (by omega),show i+1-1=i by omega,hy]at hj
  have hcs:decide (y.2.2.1>u7) = !decide (y.2.2.1≤u7):=by rw [Bool.eq_iff_iff];simp
  simp only [vl9,vse (hu y (viy h)),voi,hj,readyFrom,hcs]
  by_cases hi:i=0
  ·subst hi
   simp only [if_pos,show ¬((0:Nat):Int)>0 by omega,decide_false,cond_false,Bool.and_true]
   cases vbb y<;>cases (y.2.1==2)<;>cases decide (y.2.2.1≤u7)<;>first|(refine⟨((0:Nat):Int),fun k=>?_⟩;simp;done)|(refine⟨j,fun k=>?_⟩;simp;done)
  ·have hw:IntKind.wrap .i64 ((i:Int)-1)=((i-1:Nat):Int):=by rw [vff (by omega) (by omega)];omega
   have hrd:rd (Ty.zero tTxn) u6 ((i-1:Nat):Int)=u6.getD (i-1) (Ty.zero tTxn):=rfl
   simp only [if_neg hi,show (i:Int)>0 by omega,decide_true,cond_true,hw,hrd,if_pos (show 0≤((i-1:Nat):Int)∧((i-1:Nat):Int)<(u6.length:Int) by omega)]
   generalize u6.getD (i-1) (Ty.zero tTxn)=x
   cases vbb y<;>cases (y.2.1==2)<;>cases decide (y.2.2.1≤u7)<;>cases vaf x.2.2.2.2.2.2.2 y.2.2.2.2.2.2.2<;>first|(refine⟨(i:Int),fun k=>?_⟩;simp;done)|(refine⟨j,fun k=>?_⟩;simp;done)
theorem v1r {u0 u1 u4 u5 u6 u7 u8}:∀(l:List tVersion.D) (i:Nat),∃j:Int,∀k,
  vnl u0 u1 u4 u5 u6 u7 u8 l i k=k (bif l.all (fun y=>decide (y.2.2.2≤u7))then .inr j else .inl (false,j))
 |[],i=>⟨_,fun k=>rfl⟩
 |y::l,i=>by
  obtain⟨j,hj⟩:=v1r (u0:=u0) (u1:=u1) (u4:=u4) (u5:=u5) (u6:=u6) (u7:=u7) (u8:=u8) l (i+1)
  have hcs:decide (y.2.2.2>u7) = !decide (y.2.2.2≤u7):=by rw [Bool.eq_iff_iff];simp
  simp only [vnl,hj,List.all_cons,hcs]
  cases decide (y.2.2.2≤u7)
  ·exact⟨(i:Int),fun k=>rfl⟩
  ·exact⟨j,fun k=>rfl⟩
theorem v7m {u0 u2}{α:Type}:∀(l:List (List tTxn.D)) (s:Int) (i:Nat),0≤s→s+((l.map List.length).sum:Int)≤100000000→∃j:Int,∀k,vmh u0 u2 l s i k=k (s+((l.map List.length).sum:Int),j)
 |[],s,i,_,_=>⟨_,fun k=>by simp [vmh];rfl⟩
 |y::l,s,i,h0,h=>by
  simp only [List.map_cons,List.sum_cons]at h
  have hw:IntKind.wrap .i64 (s+(y.length:Int))=s+(y.length:Int):=vff (by omega) (by omega)
  obtain⟨j,hj⟩:=v7m (u0:=u0) (u2:=u2) (α:=α) l (s+(y.length:Int)) (i+1) (by omega) (by push_cast at h;omega)
  refine⟨j,fun k=>?_⟩
  simp only [vmh,hw,show decide (s+(y.length:Int)<0)=false by simp;omega,cond_false,hj]
  congr 2
  simp only [List.map_cons,List.sum_cons]
  push_cast
  omega
theorem vwn {u:List (List tTxn.D)}(hu:u.length≤1000):∀(l:List (List tTxn.D)) (i:Nat) (s:List tTxn.D) (q:Nat),u.drop i=l→s.length+(l.map List.length).sum≤100000000→l.length<q→
  ∃j:Int,∀K,vad vfr q (.inl (u,(u.length:Int),(i:Int),s)) K=K (.inl (u,(u.length:Int),j,s++l.flatten))
 |[],i,s,q,h,hs,hq=>by
  obtain⟨q,rfl⟩:∃r,q=r+1:=⟨q-1,by omega⟩
  have hi:u.length≤i:=by have:=congrArg List.length h;simp at this;omega
  refine⟨(i:Int),fun K=>?_⟩
  simp only [vad,vfr,Sum.elim_inl,show ¬((i:Int)<(u.length:Int)) by omega,decide_false,cond_false,Sum.elim_inr,List.flatten_nil,List.append_nil]
 |y::l,i,s,q,h,hs,hq=>by
  obtain⟨q,rfl⟩:∃r,q=r+1:=⟨q-1,by omega⟩
  simp only [List.map_cons,List.sum_cons,List.length_cons]at hs hq
  have hlt:=vg3 h
  have hy:=(vil h).1 (Ty.zero (.slice tTxn))
  have hm:s.length+y.length≤VE.maxLen:=by show _≤4294967296;omega
  have hw:IntKind.wrap .i64 ((i:Int)+1)=((i+1:Nat):Int):=vcf (by omega)
  obtain⟨j,hj⟩:=vwn hu l (i+1) (s++y) q (vdz h) (by rw [List.length_append];omega) (by omega)
  refine⟨j,fun K=>?_⟩
  simp only [vad,vfr,Sum.elim_inl,show ((i:Int)<(u.length:Int)) by omega,show (0:Int)≤(i:Int) by omega,decide_true,cond_true,and_self,if_true,hy,hm,hw]
  rw [hj,List.flatten_cons,List.append_assoc]
theorem wii {u:List (List tTxn.D)}(hu:u.length≤1000)(hs:(u.map List.length).sum≤100000000){q:Nat}(hq:u.length<q) :
  ∃z:(_⊕_),(∃j:Int,z = .inl (u,(u.length:Int),j,u.flatten)∨z = .inr (u,(u.length:Int),j,u.flatten))∧∀K,vad vfr q (.inr (u,(u.length:Int),(0:Int),([]:List tTxn.D))) K=K z:=by
 obtain⟨q,rfl⟩:∃r,q=r+1:=⟨q-1,by omega⟩
 cases h:u with
 |nil=>
  refine⟨_,⟨0,.inr rfl⟩,fun K=>?_⟩
  simp only [vad,vfr,Sum.elim_inr,List.length_nil]
  rfl
 |cons y l=>
  rw [←h]
  have hd:u.drop 0=y::l:=by rw [List.drop_zero,h]
  have hlt:=vg3 hd
  have hy:=(vil hd).1 (Ty.zero (.slice tTxn))
  have hs':y.length+(l.map List.length).sum≤100000000:=by rw [h]at hs;simpa using hs
  have hm:([]:List tTxn.D).length+y.length≤VE.maxLen:=by show _≤4294967296;simp;omega
  have hl:u.length=l.length+1:=by rw [h];rfl
  obtain⟨j,hj⟩:=vwn hu l 1 ([]++y) q (by rw [h];rfl) (by simpa using hs') (by omega)
  refine⟨_,⟨j,.inl rfl⟩,fun K=>?_⟩
  simp only [vad,vfr,Sum.elim_inl,Sum.elim_inr,show ((0:Int)<(u.length:Int)) by omega,Int.le_refl,decide_true,cond_true,and_self,if_true]
  rw [show rd (Ty.zero (.slice tTxn)) u (0:Int)=y from hy,if_pos hm,show IntKind.wrap .i64 ((0:Int)+1)=((1:Nat):Int) by rfl]
  rw [hj]
  congr 2
  rw [h,List.flatten_cons,List.nil_append]
theorem vo0 (n:Int)(h0:0≤n)(h1:n≤100000000):∃y,(y = .inl ([]:List tTxn.D)∨y = .inr ([]:List tTxn.D))∧∀k,vsy n k=k y:=by
 simp only [waa]
 unfold v28
 have e0:IntKind.wrap .i64 ((0:Int)-0)=0:=vff (by omega) (by omega)
 have e1:IntKind.wrap .i64 (n-0)=n:=by rw [vff (by omega) (by omega)];omega
 simp only [e0,e1,show decide (n<0)=false by simp;omega,cond_false]
 by_cases hn:n>0
 ·have e3:0≤n∧n≤(VE.maxLen:Int):=⟨h0,by show n≤4294967296;omega⟩
  simp only [hn,decide_true,cond_true]
  refine⟨_,.inl rfl,fun k=>?_⟩
  rw [if_pos (by omega),if_pos e3,if_pos ⟨by omega,by omega⟩]
  simp
 ·simp only [hn,decide_false,cond_false]
  exact⟨_,.inr rfl,fun k=>rfl⟩
theorem wcc {u:List (List tTxn.D)}(hu:u.length≤1000)(hs:(u.map List.length).sum≤100000000)(f:List tTxn.D→Option Res):vmn u (Sum.elim f f)=f u.flatten:=by
 rw [wzo (by omega)]
 unfold wos
 obtain⟨j,hj⟩:=v7m (u0:=u) (u2:=u) (α:=Unit) u 0 0 (by omega) (by omega)
 rw [hj]
 obtain⟨y,hy,hg⟩:=vo0 (0+((u.map List.length).sum:Int)) (by omega) (by omega)
 rw [hg]
 rcases hy with rfl|rfl
 ·simp only [Sum.elim_inl]
  obtain⟨j2,hj2⟩:=vwn hu u 0 [] Fuel (List.drop_zero) (by simpa using hs) (Nat.lt_of_lt_of_le (by omega) vfl)
  rw [show (0:Int)=((0:Nat):Int)from rfl,hj2]
  simp
 ·simp only [Sum.elim_inr]
  obtain⟨z,⟨j2,hz⟩,hj2⟩:=wii hu hs (q:=Fuel) (Nat.lt_of_lt_of_le (by omega) vfl)
  rw [hj2]
  rcases hz with rfl|rfl<;>simp
theorem wpl {a b:List tTxn.D}(ha:a.length≤1048577)(hb:b.length≤1048577) (f):vmn [a,b] (Sum.elim f f)=f (a++b):=by
 rw [wcc (by simp) (by simp;omega)]
 simp
theorem wyw (x t:tTxn.D) (k):v0x x t.1 t.2.1 t.2.2.1 t.2.2.2.1 t.2.2.2.2.1 t.2.2.2.2.2.1 t.2.2.2.2.2.2.1 t.2.2.2.2.2.2.2 k=k ((x.1==t.1),t.1,t.2.1,t.2.2.1,t.2.2.2.1,t.2.2.2.2.1,t.2.2.2.2.2.1,t.2.2.2.2.2.2.1,t.2.2.2.2.2.2.2):=by
 rw [wnz];rfl
theorem vww {u0 u1}{t:tTxn.D}:∀(l:List tTxn.D) (i:Nat),∃a:Nat,∃b:Int,∀k,
  vi6 u0 u1 l t.1 t.2.1 t.2.2.1 t.2.2.2.1 t.2.2.2.2.1 t.2.2.2.2.2.1 t.2.2.2.2.2.2.1 t.2.2.2.2.2.2.2 i k=k (bif l.any (fun x=>x.1==t.1)then .inl ((a:Int),b,t.1,t.2.1,t.2.2.1,t.2.2.2.1,t.2.2.2.2.1,t.2.2.2.2.2.1,t.2.2.2.2.2.2.1,t.2.2.2.2.2.2.2)else .inr (b,t.1,t.2.1,t.2.2.1,t.2.2.2.1,t.2.2.2.2.1,t.2.2.2.2.2.1,t.2.2.2.2.2.2.1,t.2.2.2.2.2.2.2))
 |[],i=>⟨0,_,fun k=>rfl⟩
 |y::l,i=>by
  obtain⟨a,b,hab⟩:=vww (u0:=u0) (u1:=u1) (t:=t) l (i+1)
  simp only [vi6,wyw,hab,List.any_cons]
  cases y.1==t.1
  ·exact⟨a,b,fun k=>rfl⟩
  ·exact⟨i,(i:Int),fun k=>rfl⟩
theorem wwe {t:tTxn.D}{l:List tTxn.D}(hlen:l.length≤3000000) (k):v2m l t.1 t.2.1 t.2.2.1 t.2.2.2.1 t.2.2.2.2.1 t.2.2.2.2.2.1 t.2.2.2.2.2.2.1 t.2.2.2.2.2.2.2 k=k (l.any (fun x=>x.1==t.1),t.1,t.2.1,t.2.2.1,t.2.2.2.1,t.2.2.2.2.1,t.2.2.2.2.2.1,t.2.2.2.2.2.2.1,t.2.2.2.2.2.2.2):=by
 obtain⟨a,b,hab⟩:=vww (u0:=l) (u1:=0) (t:=t) l 0
 rw [wp4]
 unfold wbx
 rw [v91]
 unfold v5l
 rw [wws (by omega)]
 unfold v9b
 rw [hab]
 cases (l.any fun x=>x.1==t.1)
 ·rfl
 ·have:decide ((a:Int)≥0)=true:=by simp
  simp only [cond_true,Sum.elim_inl,this]
theorem v09 {u0:List tTxn.D}(hl:u0.length≤3000000) {u1 u2 u3}:∀(l:List tTxn.D) (i:Nat),u0.drop i=l→∃j:Int,∀k,
  vmy u0 u1 u2 u3 l i k=k (bif vfn u1 ((u0.take i).map (·.1)) (l.map (·.1))then .inr j else .inl (false,j))
 |[],i,_=>⟨_,fun k=>rfl⟩
 |y::l,i,h=>by
  obtain⟨j,hj⟩:=v09 hl (u1:=u1) (u2:=u2) (u3:=u3) l (i+1) (vdz h)
  have hlt:=vg3 h
  have hge:decide (y.1≥u1) = !decide (y.1<u1):=by rw [Bool.eq_iff_iff];simp
  have hy:u0[i]=y:=by have:=v4e h;rw [List.getElem?_eq_getElem hlt]at this;exact Option.some.inj this
  have htk:(u0.take (i+1)).map (·.1)=(u0.take i).map (·.1)++[y.1]:=by rw [List.take_succ_eq_append_getElem hlt,List.map_append,hy];rfl
  have han:((u0.take i).map (·.1)).any (fun z=>z==y.1)=(u0.take i).any (fun x=>x.1==y.1):=by rw [List.any_map];rfl
  rw [htk]at hj
  have hsl:((u0.take (i:Int).toNat).drop (0:Int).toNat)=u0.take i:=by simp
  simp only [vmy,if_pos (show 0≤(0:Int)∧(0:Int)≤(i:Int)∧(i:Int)≤(u0.length:Int) by omega),hsl,wwe (t:=y) (show (u0.take i).length≤3000000 by simp;omega),hj,hge,List.map_cons,vfn,han]
  cases decide (y.1<u1)<;>cases (u0.take i).any (fun x=>x.1==y.1)<;>first|(refine⟨(i:Int),fun k=>?_⟩;simp;done)|(refine⟨j,fun k=>?_⟩;simp;done)
theorem wkx {l:List tTxn.D}(hl:l.length≤3000000)(n:Int) (k):vlj l n k=k (vfn n [] (l.map (·.1))):=by
 rw [w14 (by omega)]
 unfold wl3
 obtain⟨j,hj⟩:=v09 (u0:=l) hl (u1:=n) (u2:=false) (u3:=l) l 0 rfl
 rw [hj]
 simp only [List.take_zero,List.map_nil]
 cases vfn n [] (l.map (·.1))<;>rfl
def vbn (b:tBase.D):Bool:=
 vaj b.1&&decide ((b.2.1.length:Int)≤12)&&decide ((b.2.2.1.length:Int)≤3)&&vdk b.2.2.2.1 0 9999&&vdk b.2.2.2.2 1 9999 &&
  (b.1.all fun y=>decide (y.2.2.2≤b.2.2.2.1))&&pastFrom b.2.2.2.1 none b.2.1&&readyFrom b.2.2.2.1 none b.2.2.1&&vfn b.2.2.2.2 [] (b.2.1.map (·.1)++b.2.2.1.map (·.1))
theorem vqg {b:tBase.D}(hb:tBase.wt b≤1048576):(Ty.slice tVersion).wt b.1≤1048576∧(Ty.slice tTxn).wt b.2.1≤1048576∧(Ty.slice tTxn).wt b.2.2.1≤1048576:=by
 rw [v7f]at hb;omega
theorem wxb {b:tBase.D}(hb:tBase.wt b≤1048576) (k):vv5 b k=k (vbn b):=by
 obtain⟨h1,h2,h3⟩:=vqg hb
 have l1:=vdy h1
 have l2:=vdy h2
 have l3:=vdy h3
 rw [w1u (by omega) (by omega) (by omega)]
 unfold wpw vbn
 have hs1:decide ((b.2.1.length:Int)>12) = !decide ((b.2.1.length:Int)≤12):=by rw [Bool.eq_iff_iff];simp
 have hs2:decide ((b.2.2.1.length:Int)>3) = !decide ((b.2.2.1.length:Int)≤3):=by rw [Bool.eq_iff_iff];simp
 simp only [wwx h1,v36,hs1,hs2]
 cases vaj b.1
 ·rfl
 cases decide ((b.2.1.length:Int)≤12)
 ·rfl
 cases decide ((b.2.2.1.length:Int)≤3)
 ·rfl
 cases vdk b.2.2.2.1 0 9999
 ·rfl
 cases vdk b.2.2.2.2 1 9999
 ·rfl
 simp only [Bool.not_true,cond_false,Bool.true_and,Bool.and_self,vg7]
 obtain⟨j0,hj0⟩:=v1r (u0:=false) (u1:=b.1) (u4:=b.1) (u5:=b.2.1) (u6:=b.2.2.1) (u7:=b.2.2.2.1) (u8:=b.2.2.2.2) b.1 0
 rw [hj0]
 cases (b.1.all fun y=>decide (y.2.2.2≤b.2.2.2.1))
 ·rfl
 obtain⟨j2,hj2⟩:=v2c (u5:=b.2.1) (fun y hy=>vcj hy h2) l2 (u0:=false) (u1:=b.2.1) (u4:=b.1) (u6:=b.2.2.1) (u7:=b.2.2.2.1) (u8:=b.2.2.2.2) b.2.1 0 rfl
 simp only [cond_true,Sum.elim_inr,hj2,if_true]
 cases pastFrom b.2.2.2.1 none b.2.1
 ·rfl
 obtain⟨j4,hj4⟩:=v1n (u6:=b.2.2.1) (fun y hy=>vcj hy h3) l3 (u0:=false) (u1:=b.2.2.1) (u4:=b.1) (u5:=b.2.1) (u7:=b.2.2.2.1) (u8:=b.2.2.2.2) b.2.2.1 0 rfl
 simp only [cond_true,Sum.elim_inr,hj4,if_true]
 cases readyFrom b.2.2.2.1 none b.2.2.1
 ·rfl
 simp only [cond_true,Sum.elim_inr,wpl (show b.2.1.length≤1048577 by omega) (show b.2.2.1.length≤1048577 by omega),wkx (show (b.2.1++b.2.2.1).length≤3000000 by simp;omega),List.map_append,Bool.true_and]
end
end Go.VE
/- Plain laws: numbers and texts that are read. -/
namespace Go.VE
noncomputable section
set_option linter.unusedVariables false
set_option linter.unusedSimpArgs false
set_option maxRecDepth 100000
def encN (n:Nat):List Int:=if n>127 then((n % 128+128:Nat):Int)::encN (n / 128)else [(n:Int)]
 termination_by n
 decreasing_by omega
def rvF (i n:Nat):List Int→Option (Nat×Nat)
 |[]=>none
 |c::l=>if 5≤i then none else
   if c<128 then(if n+(c.toNat % 128)*128^i≤1000000000∧(encN (n+(c.toNat % 128)*128^i)).length=i+1 then some (n+(c.toNat % 128)*128^i,i+1)else none)
   else rvF (i+1) (n+(c.toNat % 128)*128^i) l
def rvR (a:Nat):Option (Nat×Nat)→Int×Int×Bool
 |none=>(0,0,false)
 |some (n,c)=>((n:Int),((a+c:Nat):Int),true)
def v4x (s:ByteArray)(a:Int):Int×Int×Bool:=
 bif vdk a 0 (s.size:Int)then rvR a.toNat (rvF 0 0 ((vea s).drop a.toNat))else(0,0,false)
def numB (s:ByteArray)(a:Int)(b:Bool):Int×Int×Bool:=
 bif b then((0:Int),a,true)else bif !(v4x s a).2.2 then((0:Int),a,true)else((v4x s a).1,(v4x s a).2.1,b)
def nx (s:ByteArray)(p:Int×Int×Bool):Int×Int×Bool:=numB s p.2.1 p.2.2
end
end Go.VE
/- Plain laws: an engine and a record are right. -/
namespace Go.VE
noncomputable section
set_option linter.unusedVariables false
set_option linter.unusedSimpArgs false
set_option maxRecDepth 100000
theorem wsr {a b c:List tTxn.D}(ha:a.length≤1048577)(hb:b.length≤1048577)(hc:c.length≤1048577) (f):vmn [a,b,c] (Sum.elim f f)=f (a++(b++c)):=by
 rw [wcc (by simp) (by simp;omega)]
 simp
def via (cs:Int):Option tTxn.D→List tTxn.D→Bool
 |_,[]=>true
 |p,y::l=>vbb y&&(y.2.1==1)&&decide (y.2.2.1≤cs)&&(match p with|none=>true|some x=>decide (x.1<y.1))&&via cs (some y) l
def wan (y:Int)(l:List tTxn.D):Bool:=!(l.any fun z=>z.1==y)
def openAll (cs nx:Int)(p r:List tTxn.D):Option tTxn.D→List tTxn.D→Bool
 |_,[]=>true
 |o,y::l=>vbb y&&(y.2.1==1)&&decide (y.1<nx)&&decide (y.2.2.1≤cs)&&(match o with|none=>true|some x=>decide (x.1<y.1))&&wan y.1 p&&wan y.1 r&&openAll cs nx p r (some y) l
theorem v1k {u9:List tTxn.D}(hu:∀y∈u9,tTxn.wt y≤1048576)(hl:u9.length≤1048576) {u0 u1 u4 u5 u6 u7 u8}:∀(l:List tTxn.D) (i:Nat),u9.drop i=l→∃j:Int,∀k,
  vlt u0 u1 u4 u5 u6 u7 u8 u9 l i k=k (bif via u7 (if i=0 then none else some (u9.getD (i-1) (Ty.zero tTxn))) l then .inr j else .inl (false,j))
 |[],i,_=>⟨_,fun k=>rfl⟩
 |y::l,i,h=>by
  obtain⟨j,hj⟩:=v1k hu hl (u0:=u0) (u1:=u1) (u4:=u4) (u5:=u5) (u6:=u6) (u7:=u7) (u8:=u8) l (i+1) (vdz h)
  have hlt:=vg3 h
  have hy:=(vil h).2 (Ty.zero tTxn)
  rw [if_neg (by omega),show i+1-1=i by omega,hy]at hj
  have hcs:decide (y.2.2.1>u7) = !decide (y.2.2.1≤u7):=by rw [Bool.eq_iff_iff];simp
  have hb:(y.2.1 != 1) = !(y.2.1==1):=rfl
  simp only [vlt,vse (hu y (viy h)),hj,via,hcs,hb]
  by_cases hi:i=0
  ·subst hi
   simp only [if_pos,show ¬((0:Nat):Int)>0 by omega,decide_false,cond_false,Bool.and_true]
   cases vbb y<;>cases (y.2.1==1)<;>cases decide (y.2.2.1≤u7)<;>first|(refine⟨((0:Nat):Int),fun k=>?_⟩;simp;done)|(refine⟨j,fun k=>?_⟩;simp;done)
  ·have hw:IntKind.wrap .i64 ((i:Int)-1)=((i-1:Nat):Int):=by rw [vff (by omega) (by omega)];omega
   have hrd:rd (Ty.zero tTxn) u9 ((i-1:Nat):Int)=u9.getD (i-1) (Ty.zero tTxn):=rfl
   simp only [if_neg hi,show (i:Int)>0 by omega,decide_true,cond_true,hw,hrd,if_pos (show 0≤((i-1:Nat):Int)∧((i-1:Nat):Int)<(u9.length:Int) by omega)]
   generalize u9.getD (i-1) (Ty.zero tTxn)=x
   have hge:decide (x.1≥y.1) = !decide (x.1<y.1):=by rw [Bool.eq_iff_iff];simp
   rw [hge]
   cases vbb y<;>cases (y.2.1==1)<;>cases decide (y.2.2.1≤u7)<;>cases decide (x.1<y.1)<;>first|(refine⟨(i:Int),fun k=>?_⟩;simp;done)|(refine⟨j,fun k=>?_⟩;simp;done)
theorem vo8 (nx:Int):∀(A pre B:List Int),vfn nx pre (A++B)=(vfn nx pre A&&vfn nx (pre++A) B)
 |[],pre,B=>by simp [vfn]
 |y::A,pre,B=>by
  simp only [List.cons_append,vfn,vo8 nx A (pre++[y]) B,List.append_assoc,List.nil_append,Bool.and_assoc]
theorem vti (cs nx:Int)(P:List Int):∀(l:List tTxn.D) (Q:List Int) (o:Option tTxn.D),(∀x,o=some x→∀q∈Q,q≤x.1)→(o=none→Q=[])→via cs o l=true→
  vfn nx (P++Q) (l.map (·.1))=l.all (fun y=>decide (y.1<nx) && !(P.any fun z=>z==y.1))
 |[],Q,o,_,_,_=>rfl
 |y::l,Q,o,h1,h2,h=>by
  simp only [via,Bool.and_eq_true]at h
  have hQ:∀q∈Q,q<y.1:=by
   intro q hq
   cases o with
   |none=>rw [h2 rfl]at hq;cases hq
   |some x=>
    have a1:=h1 x rfl q hq
    have a2:x.1<y.1:=of_decide_eq_true h.1.2
    exact Int.lt_of_le_of_lt a1 a2
  have hno:(Q.any fun z=>z==y.1)=false:=by
   rw [List.any_eq_false]
   intro q hq hc
   have a1:=hQ q hq
   have:q=y.1:=by simpa using hc
   omega
  have ih:=vti cs nx P l (Q++[y.1]) (some y) (fun x hx q hq=>by
   cases hx
   rcases List.mem_append.1 hq with hq|hq
   ·exact Int.le_of_lt (hQ q hq)
   ·rw [List.mem_singleton]at hq;omega) (fun h=>by cases h) h.2
  simp only [List.map_cons,vfn,List.all_cons,List.any_append,hno,Bool.or_false]
  rw [List.append_assoc,ih]
theorem v1u (cs nx:Int)(p r:List tTxn.D):∀(l:List tTxn.D) (o:Option tTxn.D),openAll cs nx p r o l=(via cs o l&&l.all (fun y=>decide (y.1<nx) && !((p.map (·.1)++r.map (·.1)).any fun z=>z==y.1)))
 |[],o=>rfl
 |y::l,o=>by
  have e:(!((p.map (·.1)++r.map (·.1)).any fun z=>z==y.1))=(wan y.1 p&&wan y.1 r):=by
   unfold wan
   rw [List.any_append,List.any_map,List.any_map,Bool.not_or];rfl
  simp only [openAll,via,List.all_cons,v1u cs nx p r l (some y),e]
  generalize via cs (some y) l=c1
  generalize (match o with|none=>true|some x=>decide (x.1<y.1))=c2
  generalize (l.all fun y=>decide (y.1<nx) && !((p.map (·.1)++r.map (·.1)).any fun z=>z==y.1))=c3
  cases vbb y<;>cases (y.2.1==1)<;>cases decide (y.1<nx)<;>cases decide (y.2.2.1≤cs)<;>cases c2<;>cases wan y.1 p<;>cases wan y.1 r<;>cases c1<;>cases c3<;>rfl
def vav (e:tEngine.D):Bool:=vbn e.1&&decide ((e.2.length:Int)≤4)&&openAll e.1.2.2.2.1 e.1.2.2.2.2 e.1.2.1 e.1.2.2.1 none e.2
theorem wiv {e:tEngine.D}(he:tEngine.wt e≤1048576) (k):vuc e k=k (vav e):=by
 rw [vjo]at he
 have hb:tBase.wt e.1≤1048576:=by omega
 have ho:(Ty.slice tTxn).wt e.2≤1048576:=by omega
 obtain⟨h1,h2,h3⟩:=vqg hb
 have l2:=vdy h2
 have l3:=vdy h3
 have l4:=vdy ho
 rw [w1q (by omega)]
 unfold wou vav
 have hs:decide ((e.2.length:Int)>4) = !decide ((e.2.length:Int)≤4):=by rw [Bool.eq_iff_iff];simp
 simp only [wxb hb,hs]
 cases hB:vbn e.1
 ·rfl
 cases decide ((e.2.length:Int)≤4)
 ·rfl
 have hids:vfn e.1.2.2.2.2 [] (e.1.2.1.map (·.1)++e.1.2.2.1.map (·.1))=true:=by
  unfold vbn at hB
  simp only [Bool.and_eq_true]at hB
  exact hB.2
 obtain⟨j,hj⟩:=v1k (u9:=e.2) (fun y hy=>vcj hy ho) l4 (u0:=false) (u1:=e.2) (u4:=e.1.1) (u5:=e.1.2.1) (u6:=e.1.2.2.1) (u7:=e.1.2.2.2.1) (u8:=e.1.2.2.2.2) e.2 0 rfl
 have hlen:(e.1.2.1++(e.1.2.2.1++e.2)).length≤3145728:=by simp only [List.length_append];omega
 have hlen2:(e.1.2.1++(e.1.2.2.1++e.2)).length≤3000000:=by
  have:e.1.2.1.length+e.1.2.2.1.length+e.2.length≤2097152:=by
   have q1:tBase.wt e.1=_:=v7f e.1
   rw [Ty.wt_slice,Ty.wt_slice,Ty.wt_slice]at q1
   rw [Ty.wt_slice]at he
   omega
  simp only [List.length_append];omega
 simp only [Bool.not_true,cond_false,Bool.true_and,wsr (show e.1.2.1.length≤1048577 by omega) (show e.1.2.2.1.length≤1048577 by omega) (show e.2.length≤1048577 by omega),wkx hlen2,vfj,hj,if_true]
 rw [show (e.1.2.1++(e.1.2.2.1++e.2)).map (·.1)=(e.1.2.1.map (·.1)++e.1.2.2.1.map (·.1))++e.2.map (·.1) by simp,vo8,hids,v1u,Bool.true_and,List.nil_append]
 cases hO:via e.1.2.2.2.1 none e.2
 ·cases vfn e.1.2.2.2.2 (e.1.2.1.map (·.1)++e.1.2.2.1.map (·.1)) (e.2.map (·.1))<;>rfl
 ·have:=vti e.1.2.2.2.1 e.1.2.2.2.2 (e.1.2.1.map (·.1)++e.1.2.2.1.map (·.1)) e.2 [] none (fun x h=>by cases h) (fun _=>rfl) hO
  rw [List.append_nil]at this
  rw [this,Bool.true_and]
  cases e.2.all (fun y=>decide (y.1<e.1.2.2.2.2) && !((e.1.2.1.map (·.1)++e.1.2.2.1.map (·.1)).any fun z=>z==y.1))<;>rfl
end
end Go.VE
/- Plain laws: danger. -/
namespace Go.VE
noncomputable section
set_option linter.unusedVariables false
set_option linter.unusedSimpArgs false
set_option maxRecDepth 100000
def dA (t x:tTxn.D):Bool:=((x.2.1==2)||(x.2.1==3))&&x.2.2.2.2.2.2.1&&vbl t x
def dB (p x:tTxn.D):Bool:=(x.2.1==2)&&vbl x p
def dC (t:tTxn.D)(l0:List tTxn.D)(x:tTxn.D):Bool:=(x.2.1==2)&&vbl x t&&(vbl t x||l0.any fun y=>dB x y)
def dE (t x:tTxn.D):Bool:=(x.2.1==2)&&vbl t x
def dF (t p x:tTxn.D):Bool:=(x.2.1==2)&&(x.1 != t.1)&&vbl p x
def dG (l0:List tTxn.D)(t x:tTxn.D):Bool:=dE t x&&l0.any fun y=>dF t x y
theorem wyn {x:tTxn.D}{t:tTxn.D}(hx:tTxn.wt x≤1048576)(ht:tTxn.wt t≤1048576) (k):v01 x t.1 t.2.1 t.2.2.1 t.2.2.2.1 t.2.2.2.2.1 t.2.2.2.2.2.1 t.2.2.2.2.2.2.1 t.2.2.2.2.2.2.2 k=k (dA t x,t.1,t.2.1,t.2.2.1,t.2.2.2.1,t.2.2.2.2.1,t.2.2.2.2.2.1,t.2.2.2.2.2.2.1,t.2.2.2.2.2.2.2):=by
 rw [wpj]
 unfold wd8 dA
 simp only [voi,vvk,vcz,vl3 ht hx]
 cases (x.2.1==2)<;>cases (x.2.1==3)<;>cases x.2.2.2.2.2.2.1<;>cases vbl t x<;>rfl
theorem vxt {u0 u1}{t:tTxn.D}(ht:tTxn.wt t≤1048576):∀(l:List tTxn.D) (i:Nat),(∀y∈l,tTxn.wt y≤1048576)→∃a:Nat,∃b:Int,∀k,
  vjc u0 u1 l t.1 t.2.1 t.2.2.1 t.2.2.2.1 t.2.2.2.2.1 t.2.2.2.2.2.1 t.2.2.2.2.2.2.1 t.2.2.2.2.2.2.2 i k=k (bif l.any (fun x=>dA t x)then .inl ((a:Int),b,t.1,t.2.1,t.2.2.1,t.2.2.2.1,t.2.2.2.2.1,t.2.2.2.2.2.1,t.2.2.2.2.2.2.1,t.2.2.2.2.2.2.2)else .inr (b,t.1,t.2.1,t.2.2.1,t.2.2.2.1,t.2.2.2.2.1,t.2.2.2.2.2.1,t.2.2.2.2.2.2.1,t.2.2.2.2.2.2.2))
 |[],i,_=>⟨0,_,fun k=>rfl⟩
 |y::l,i,h=>by
  obtain⟨a,b,hab⟩:=vxt (u0:=u0) (u1:=u1) ht l (i+1) (fun y hy=>h y (by simp [hy]))
  simp only [vjc,wyn (h y (by simp)) ht,hab,List.any_cons]
  cases dA t y
  ·exact⟨a,b,fun k=>rfl⟩
  ·exact⟨i,(i:Int),fun k=>rfl⟩
theorem wye {t:tTxn.D}(ht:tTxn.wt t≤1048576){l:List tTxn.D}(hl:(Ty.slice tTxn).wt l≤1048576) (k):v6k l t.1 t.2.1 t.2.2.1 t.2.2.2.1 t.2.2.2.2.1 t.2.2.2.2.2.1 t.2.2.2.2.2.2.1 t.2.2.2.2.2.2.2 k=k ((l.any fun x=>dA t x),t.1,t.2.1,t.2.2.1,t.2.2.2.1,t.2.2.2.2.1,t.2.2.2.2.2.1,t.2.2.2.2.2.2.1,t.2.2.2.2.2.2.2):=by
 have hlen:=vdy hl
 obtain⟨a,b,hab⟩:=vxt (u0:=l) (u1:=0) ht l 0 (fun y hy=>vcj hy hl)
 rw [wp0]
 unfold wcb
 rw [wmg]
 unfold wck
 rw [wwf (by omega)]
 unfold wab
 rw [hab]
 cases (l.any fun x=>dA t x)
 ·rfl
 ·have:decide ((a:Int)≥0)=true:=by simp
  simp only [cond_true,Sum.elim_inl,this]
theorem wwu {x:tTxn.D}{t:tTxn.D}(hx:tTxn.wt x≤1048576)(ht:tTxn.wt t≤1048576) (k):v0b x t.1 t.2.1 t.2.2.1 t.2.2.2.1 t.2.2.2.2.1 t.2.2.2.2.2.1 t.2.2.2.2.2.2.1 t.2.2.2.2.2.2.2 k=k (dB t x,t.1,t.2.1,t.2.2.1,t.2.2.2.1,t.2.2.2.2.1,t.2.2.2.2.2.1,t.2.2.2.2.2.2.1,t.2.2.2.2.2.2.2):=by
 rw [wpr]
 unfold wfg dB
 simp only [voi,vcz,vl3 hx ht]
 cases (x.2.1==2)<;>cases vbl x t<;>rfl
theorem vyw {u0 u1}{t:tTxn.D}(ht:tTxn.wt t≤1048576):∀(l:List tTxn.D) (i:Nat),(∀y∈l,tTxn.wt y≤1048576)→∃a:Nat,∃b:Int,∀k,
  vjl u0 u1 l t.1 t.2.1 t.2.2.1 t.2.2.2.1 t.2.2.2.2.1 t.2.2.2.2.2.1 t.2.2.2.2.2.2.1 t.2.2.2.2.2.2.2 i k=k (bif l.any (fun x=>dB t x)then .inl ((a:Int),b,t.1,t.2.1,t.2.2.1,t.2.2.2.1,t.2.2.2.2.1,t.2.2.2.2.2.1,t.2.2.2.2.2.2.1,t.2.2.2.2.2.2.2)else .inr (b,t.1,t.2.1,t.2.2.1,t.2.2.2.1,t.2.2.2.2.1,t.2.2.2.2.2.1,t.2.2.2.2.2.2.1,t.2.2.2.2.2.2.2))
 |[],i,_=>⟨0,_,fun k=>rfl⟩
 |y::l,i,h=>by
  obtain⟨a,b,hab⟩:=vyw (u0:=u0) (u1:=u1) ht l (i+1) (fun y hy=>h y (by simp [hy]))
  simp only [vjl,wwu (h y (by simp)) ht,hab,List.any_cons]
  cases dB t y
  ·exact⟨a,b,fun k=>rfl⟩
  ·exact⟨i,(i:Int),fun k=>rfl⟩
theorem wxu {t:tTxn.D}(ht:tTxn.wt t≤1048576){l:List tTxn.D}(hl:(Ty.slice tTxn).wt l≤1048576) (k):v7o l t.1 t.2.1 t.2.2.1 t.2.2.2.1 t.2.2.2.2.1 t.2.2.2.2.2.1 t.2.2.2.2.2.2.1 t.2.2.2.2.2.2.2 k=k ((l.any fun x=>dB t x),t.1,t.2.1,t.2.2.1,t.2.2.2.1,t.2.2.2.2.1,t.2.2.2.2.2.1,t.2.2.2.2.2.2.1,t.2.2.2.2.2.2.2):=by
 have hlen:=vdy hl
 obtain⟨a,b,hab⟩:=vyw (u0:=l) (u1:=0) ht l 0 (fun y hy=>vcj hy hl)
 rw [wob]
 unfold wfa
 rw [woi]
 unfold wdw
 rw [wv7 (by omega)]
 unfold v84
 rw [hab]
 cases (l.any fun x=>dB t x)
 ·rfl
 ·have:decide ((a:Int)≥0)=true:=by simp
  simp only [cond_true,Sum.elim_inl,this]
theorem wx6 {x:tTxn.D}{t:tTxn.D}{l0:List tTxn.D}(hx:tTxn.wt x≤1048576)(ht:tTxn.wt t≤1048576)(hl0:(Ty.slice tTxn).wt l0≤1048576) (k):v1j x t.1 t.2.1 t.2.2.1 t.2.2.2.1 t.2.2.2.2.1 t.2.2.2.2.2.1 t.2.2.2.2.2.2.1 t.2.2.2.2.2.2.2 l0 k=k (dC t l0 x,t.1,t.2.1,t.2.2.1,t.2.2.2.1,t.2.2.2.2.1,t.2.2.2.2.2.1,t.2.2.2.2.2.2.1,t.2.2.2.2.2.2.2,l0):=by
 rw [wnj]
 unfold wdv dC
 simp only [voi,vcz,vl3 hx ht,vgb,vl3 ht hx,wxu hx hl0]
 cases (x.2.1==2)<;>cases vbl x t<;>cases vbl t x<;>cases (l0.any fun y=>dB x y)<;>rfl
theorem vvy {u0 u1}{t:tTxn.D}{l0:List tTxn.D}(ht:tTxn.wt t≤1048576)(hl0:(Ty.slice tTxn).wt l0≤1048576):∀(l:List tTxn.D) (i:Nat),(∀y∈l,tTxn.wt y≤1048576)→∃a:Nat,∃b:Int,∀k,
  vj9 u0 u1 l t.1 t.2.1 t.2.2.1 t.2.2.2.1 t.2.2.2.2.1 t.2.2.2.2.2.1 t.2.2.2.2.2.2.1 t.2.2.2.2.2.2.2 l0 i k=k (bif l.any (fun x=>dC t l0 x)then .inl ((a:Int),b,t.1,t.2.1,t.2.2.1,t.2.2.2.1,t.2.2.2.2.1,t.2.2.2.2.2.1,t.2.2.2.2.2.2.1,t.2.2.2.2.2.2.2,l0)else .inr (b,t.1,t.2.1,t.2.2.1,t.2.2.2.1,t.2.2.2.2.1,t.2.2.2.2.2.1,t.2.2.2.2.2.2.1,t.2.2.2.2.2.2.2,l0))
 |[],i,_=>⟨0,_,fun k=>rfl⟩
 |y::l,i,h=>by
  obtain⟨a,b,hab⟩:=vvy (u0:=u0) (u1:=u1) ht hl0 l (i+1) (fun y hy=>h y (by simp [hy]))
  simp only [vj9,wx6 (h y (by simp)) ht hl0,hab,List.any_cons]
  cases dC t l0 y
  ·exact⟨a,b,fun k=>rfl⟩
  ·exact⟨i,(i:Int),fun k=>rfl⟩
theorem wwg {t:tTxn.D}{l0:List tTxn.D}(ht:tTxn.wt t≤1048576)(hl0:(Ty.slice tTxn).wt l0≤1048576){l:List tTxn.D}(hl:(Ty.slice tTxn).wt l≤1048576) (k):v7k l t.1 t.2.1 t.2.2.1 t.2.2.2.1 t.2.2.2.2.1 t.2.2.2.2.2.1 t.2.2.2.2.2.2.1 t.2.2.2.2.2.2.2 l0 k=k ((l.any fun x=>dC t l0 x),t.1,t.2.1,t.2.2.1,t.2.2.2.1,t.2.2.2.2.1,t.2.2.2.2.2.1,t.2.2.2.2.2.2.1,t.2.2.2.2.2.2.2,l0):=by
 have hlen:=vdy hl
 obtain⟨a,b,hab⟩:=vvy (u0:=l) (u1:=0) ht hl0 l 0 (fun y hy=>vcj hy hl)
 rw [wnd]
 unfold weq
 rw [wkv]
 unfold wef
 rw [wx7 (by omega)]
 unfold waq
 rw [hab]
 cases (l.any fun x=>dC t l0 x)
 ·rfl
 ·have:decide ((a:Int)≥0)=true:=by simp
  simp only [cond_true,Sum.elim_inl,this]
theorem wmv {x:tTxn.D}{t:tTxn.D}(hx:tTxn.wt x≤1048576)(ht:tTxn.wt t≤1048576) (k):vxn x t.1 t.2.1 t.2.2.1 t.2.2.2.1 t.2.2.2.2.1 t.2.2.2.2.2.1 t.2.2.2.2.2.2.1 t.2.2.2.2.2.2.2 k=k (dE t x,t.1,t.2.1,t.2.2.1,t.2.2.2.1,t.2.2.2.2.1,t.2.2.2.2.2.1,t.2.2.2.2.2.2.1,t.2.2.2.2.2.2.2):=by
 rw [wix]
 unfold weu dE
 simp only [voi,vcz,vl3 ht hx]
 cases (x.2.1==2)<;>cases vbl t x<;>rfl
theorem vxf {u0 u1}{t:tTxn.D}(ht:tTxn.wt t≤1048576):∀(l:List tTxn.D) (i:Nat),(∀y∈l,tTxn.wt y≤1048576)→∃a:Nat,∃b:Int,∀k,
  vjn u0 u1 l t.1 t.2.1 t.2.2.1 t.2.2.2.1 t.2.2.2.2.1 t.2.2.2.2.2.1 t.2.2.2.2.2.2.1 t.2.2.2.2.2.2.2 i k=k (bif l.any (fun x=>dE t x)then .inl ((a:Int),b,t.1,t.2.1,t.2.2.1,t.2.2.2.1,t.2.2.2.2.1,t.2.2.2.2.2.1,t.2.2.2.2.2.2.1,t.2.2.2.2.2.2.2)else .inr (b,t.1,t.2.1,t.2.2.1,t.2.2.2.1,t.2.2.2.2.1,t.2.2.2.2.2.1,t.2.2.2.2.2.2.1,t.2.2.2.2.2.2.2))
 |[],i,_=>⟨0,_,fun k=>rfl⟩
 |y::l,i,h=>by
  obtain⟨a,b,hab⟩:=vxf (u0:=u0) (u1:=u1) ht l (i+1) (fun y hy=>h y (by simp [hy]))
  simp only [vjn,wmv (h y (by simp)) ht,hab,List.any_cons]
  cases dE t y
  ·exact⟨a,b,fun k=>rfl⟩
  ·exact⟨i,(i:Int),fun k=>rfl⟩
theorem wwo {t:tTxn.D}(ht:tTxn.wt t≤1048576){l:List tTxn.D}(hl:(Ty.slice tTxn).wt l≤1048576) (k):v60 l t.1 t.2.1 t.2.2.1 t.2.2.2.1 t.2.2.2.2.1 t.2.2.2.2.2.1 t.2.2.2.2.2.2.1 t.2.2.2.2.2.2.2 k=k ((l.any fun x=>dE t x),t.1,t.2.1,t.2.2.1,t.2.2.2.1,t.2.2.2.2.1,t.2.2.2.2.2.1,t.2.2.2.2.2.2.1,t.2.2.2.2.2.2.2):=by
 have hlen:=vdy hl
 obtain⟨a,b,hab⟩:=vxf (u0:=l) (u1:=0) ht l 0 (fun y hy=>vcj hy hl)
 rw [wjr]
 unfold we8
 rw [wpg]
 unfold wfj
 rw [wxi (by omega)]
 unfold wav
 rw [hab]
 cases (l.any fun x=>dE t x)
 ·rfl
 ·have:decide ((a:Int)≥0)=true:=by simp
  simp only [cond_true,Sum.elim_inl,this]
theorem wwr {x:tTxn.D}{t p:tTxn.D}(hx:tTxn.wt x≤1048576)(ht:tTxn.wt t≤1048576)(hp:tTxn.wt p≤1048576) (k):v0j x t.1 t.2.1 t.2.2.1 t.2.2.2.1 t.2.2.2.2.1 t.2.2.2.2.2.1 t.2.2.2.2.2.2.1 t.2.2.2.2.2.2.2 p.1 p.2.1 p.2.2.1 p.2.2.2.1 p.2.2.2.2.1 p.2.2.2.2.2.1 p.2.2.2.2.2.2.1 p.2.2.2.2.2.2.2 k=k (dF t p x,t.1,t.2.1,t.2.2.1,t.2.2.2.1,t.2.2.2.2.1,t.2.2.2.2.2.1,t.2.2.2.2.2.2.1,t.2.2.2.2.2.2.2,p.1,p.2.1,p.2.2.1,p.2.2.2.1,p.2.2.2.2.1,p.2.2.2.2.2.1,p.2.2.2.2.2.2.1,p.2.2.2.2.2.2.2):=by
 rw [wkf]
 unfold wdj dF
 simp only [voi,vcz,vl3 hp hx]
 cases (x.2.1==2)<;>cases (x.1 != t.1)<;>cases vbl p x<;>rfl
theorem vu9 {u0 u1}{t p:tTxn.D}(ht:tTxn.wt t≤1048576)(hp:tTxn.wt p≤1048576):∀(l:List tTxn.D) (i:Nat),(∀y∈l,tTxn.wt y≤1048576)→∃a:Nat,∃b:Int,∀k,
  vj8 u0 u1 l t.1 t.2.1 t.2.2.1 t.2.2.2.1 t.2.2.2.2.1 t.2.2.2.2.2.1 t.2.2.2.2.2.2.1 t.2.2.2.2.2.2.2 p.1 p.2.1 p.2.2.1 p.2.2.2.1 p.2.2.2.2.1 p.2.2.2.2.2.1 p.2.2.2.2.2.2.1 p.2.2.2.2.2.2.2 i k=k (bif l.any (fun x=>dF t p x)then .inl ((a:Int),b,t.1,t.2.1,t.2.2.1,t.2.2.2.1,t.2.2.2.2.1,t.2.2.2.2.2.1,t.2.2.2.2.2.2.1,t.2.2.2.2.2.2.2,p.1,p.2.1,p.2.2.1,p.2.2.2.1,p.2.2.2.2.1,p.2.2.2.2.2.1,p.2.2.2.2.2.2.1,p.2.2.2.2.2.2.2)else .inr (b,t.1,t.2.1,t.2.2.1,t.2.2.2.1,t.2.2.2.2.1,t.2.2.2.2.2.1,t.2.2.2.2.2.2.1,t.2.2.2.2.2.2.2,p.1,p.2.1,p.2.2.1,p.2.2.2.1,p.2.2.2.2.1,p.2.2.2.2.2.1,p.2.2.2.2.2.2.1,p.2.2.2.2.2.2.2))
 |[],i,_=>⟨0,_,fun k=>rfl⟩
 |y::l,i,h=>by
  obtain⟨a,b,hab⟩:=vu9 (u0:=u0) (u1:=u1) ht hp l (i+1) (fun y hy=>h y (by simp [hy]))
  simp only [vj8,wwr (h y (by simp)) ht hp,hab,List.any_cons]
  cases dF t p y
  ·exact⟨a,b,fun k=>rfl⟩
  ·exact⟨i,(i:Int),fun k=>rfl⟩
theorem wy2 {t p:tTxn.D}(ht:tTxn.wt t≤1048576)(hp:tTxn.wt p≤1048576){l:List tTxn.D}(hl:(Ty.slice tTxn).wt l≤1048576) (k):v7l l t.1 t.2.1 t.2.2.1 t.2.2.2.1 t.2.2.2.2.1 t.2.2.2.2.2.1 t.2.2.2.2.2.2.1 t.2.2.2.2.2.2.2 p.1 p.2.1 p.2.2.1 p.2.2.2.1 p.2.2.2.2.1 p.2.2.2.2.2.1 p.2.2.2.2.2.2.1 p.2.2.2.2.2.2.2 k=k ((l.any fun x=>dF t p x),t.1,t.2.1,t.2.2.1,t.2.2.2.1,t.2.2.2.2.1,t.2.2.2.2.2.1,t.2.2.2.2.2.2.1,t.2.2.2.2.2.2.2,p.1,p.2.1,p.2.2.1,p.2.2.2.1,p.2.2.2.2.1,p.2.2.2.2.2.1,p.2.2.2.2.2.2.1,p.2.2.2.2.2.2.2):=by
 have hlen:=vdy hl
 obtain⟨a,b,hab⟩:=vu9 (u0:=l) (u1:=0) ht hp l 0 (fun y hy=>vcj hy hl)
 rw [wkt]
 unfold wc8
 rw [wop]
 unfold wcp
 rw [wx2 (by omega)]
 unfold v9m
 rw [hab]
 cases (l.any fun x=>dF t p x)
 ·rfl
 ·have:decide ((a:Int)≥0)=true:=by simp
  simp only [cond_true,Sum.elim_inl,this]
theorem wx8 {x:tTxn.D}{l0:List tTxn.D}{t:tTxn.D}(hx:tTxn.wt x≤1048576)(hl0:(Ty.slice tTxn).wt l0≤1048576)(ht:tTxn.wt t≤1048576) (k):v16 x l0 t.1 t.2.1 t.2.2.1 t.2.2.2.1 t.2.2.2.2.1 t.2.2.2.2.2.1 t.2.2.2.2.2.2.1 t.2.2.2.2.2.2.2 k=k (dG l0 t x,l0,t.1,t.2.1,t.2.2.1,t.2.2.2.1,t.2.2.2.2.1,t.2.2.2.2.2.1,t.2.2.2.2.2.2.1,t.2.2.2.2.2.2.2):=by
 rw [wpp]
 unfold wed dG
 simp only [vcz,wmv hx ht,wy2 ht hx hl0]
 cases dE t x<;>cases (l0.any fun y=>dF t x y)<;>rfl
theorem vw2 {u0 u1}{l0:List tTxn.D}{t:tTxn.D}(hl0:(Ty.slice tTxn).wt l0≤1048576)(ht:tTxn.wt t≤1048576):∀(l:List tTxn.D) (i:Nat),(∀y∈l,tTxn.wt y≤1048576)→∃a:Nat,∃b:Int,∀k,
  vi4 u0 u1 l l0 t.1 t.2.1 t.2.2.1 t.2.2.2.1 t.2.2.2.2.1 t.2.2.2.2.2.1 t.2.2.2.2.2.2.1 t.2.2.2.2.2.2.2 i k=k (bif l.any (fun x=>dG l0 t x)then .inl ((a:Int),b,l0,t.1,t.2.1,t.2.2.1,t.2.2.2.1,t.2.2.2.2.1,t.2.2.2.2.2.1,t.2.2.2.2.2.2.1,t.2.2.2.2.2.2.2)else .inr (b,l0,t.1,t.2.1,t.2.2.1,t.2.2.2.1,t.2.2.2.2.1,t.2.2.2.2.2.1,t.2.2.2.2.2.2.1,t.2.2.2.2.2.2.2))
 |[],i,_=>⟨0,_,fun k=>rfl⟩
 |y::l,i,h=>by
  obtain⟨a,b,hab⟩:=vw2 (u0:=u0) (u1:=u1) hl0 ht l (i+1) (fun y hy=>h y (by simp [hy]))
  simp only [vi4,wx8 (h y (by simp)) hl0 ht,hab,List.any_cons]
  cases dG l0 t y
  ·exact⟨a,b,fun k=>rfl⟩
  ·exact⟨i,(i:Int),fun k=>rfl⟩
theorem wyj {l0:List tTxn.D}{t:tTxn.D}(hl0:(Ty.slice tTxn).wt l0≤1048576)(ht:tTxn.wt t≤1048576){l:List tTxn.D}(hl:(Ty.slice tTxn).wt l≤1048576) (k):v0d l l0 t.1 t.2.1 t.2.2.1 t.2.2.2.1 t.2.2.2.2.1 t.2.2.2.2.2.1 t.2.2.2.2.2.2.1 t.2.2.2.2.2.2.2 k=k ((l.any fun x=>dG l0 t x),l0,t.1,t.2.1,t.2.2.1,t.2.2.2.1,t.2.2.2.2.1,t.2.2.2.2.2.1,t.2.2.2.2.2.2.1,t.2.2.2.2.2.2.2):=by
 have hlen:=vdy hl
 obtain⟨a,b,hab⟩:=vw2 (u0:=l) (u1:=0) hl0 ht l 0 (fun y hy=>vcj hy hl)
 rw [wpe]
 unfold wb8
 rw [wns]
 unfold wc9
 rw [wxx (by omega)]
 unfold wax
 rw [hab]
 cases (l.any fun x=>dG l0 t x)
 ·rfl
 ·have:decide ((a:Int)≥0)=true:=by simp
  simp only [cond_true,Sum.elim_inl,this]
def vbr (t:tTxn.D)(l:List tTxn.D):Bool:=((l.any fun x=>vec t x)&&(l.any fun x=>vb5 t x))||(l.any fun x=>dA t x)||(l.any fun x=>dC t l x)
def vah (t:tTxn.D)(l:List tTxn.D):Bool:=vbr t l||((l.any fun x=>vec t x)&&(l.any fun x=>dE t x))||(l.any fun x=>dG l t x)
theorem wmr {t:tTxn.D}{l:List tTxn.D}(ht:tTxn.wt t≤1048576)(hl:(Ty.slice tTxn).wt l≤1048576) (k):vq7 t l k=k (vbr t l):=by
 rw [wjn]
 unfold wee vbr
 simp only [wjl ht hl,v9i ht hl,veu,wye ht hl,wwg ht hl hl]
 cases (l.any fun x=>vec t x)<;>cases (l.any fun x=>vb5 t x)<;>cases (l.any fun x=>dA t x)<;>cases (l.any fun x=>dC t l x)<;>rfl
theorem v9h {t:tTxn.D}{l:List tTxn.D}(ht:tTxn.wt t≤1048576)(hl:(Ty.slice tTxn).wt l≤1048576) (k):v2a t l k=k (vah t l):=by
 rw [wpb]
 unfold wdg vah
 simp only [wmr ht hl,wjl ht hl,wwo ht hl,wyj hl ht hl]
 cases vbr t l<;>cases (l.any fun x=>vec t x)<;>cases (l.any fun x=>dE t x)<;>cases (l.any fun x=>dG l t x)<;>rfl
end
end Go.VE
/- Plain laws: keys in order;what a scan sees. -/
namespace Go.VE
noncomputable section
set_option linter.unusedVariables false
set_option linter.unusedSimpArgs false
set_option maxRecDepth 100000
theorem v0q (x y:ByteArray):vaf x y=decide (x.data.toList<y.data.toList):=by
 rw [vf2,ByteArray.toList_eq,ByteArray.toList_eq]
 exact Go.Proofs.bytesLess_eq _ _
theorem vmj {x y z:ByteArray}(h1:vaf x y=true)(h2:vaf y z=true):vaf x z=true:=by
 rw [v0q]at *
 exact decide_eq_true (List.lt_trans (of_decide_eq_true h1) (of_decide_eq_true h2))
theorem v7p {x y:ByteArray}(h1:vaf x y=false)(h2:vaf y x=false):x=y:=by
 rw [v0q]at *
 have a:=List.not_lt.1 (of_decide_eq_false h1)
 have b:=List.not_lt.1 (of_decide_eq_false h2)
 exact v8b (List.le_antisymm b a)
def ddT (p:ByteArray):List ByteArray→List ByteArray
 |[]=>[]
 |y::l=>bif va3 y p then ddT y l else y::ddT y l
def dd:List ByteArray→List ByteArray
 |[]=>[]
 |a::l=>a::ddT a l
end
end Go.VE
/- Plain laws: a write that is put into others. -/
namespace Go.VE
noncomputable section
set_option linter.unusedVariables false
set_option linter.unusedSimpArgs false
set_option maxRecDepth 100000
def putB (l:List tWrite.D)(w:tWrite.D):List tWrite.D:=(l.filter fun y=>vaf y.1 w.1)++w::l.filter fun y=>!(vaf y.1 w.1||va3 y.1 w.1)
end
end Go.VE
/- Plain laws: what is marked in versions,transactions,bases and engines is held. -/
namespace Go.VE
noncomputable section
set_option linter.unusedVariables false
set_option linter.unusedSimpArgs false
set_option maxRecDepth 100000
def OkTs (l:List tTxn.D):Prop:=(∀y∈l,y.2.2.2.2.1.length≤1048576∧y.2.2.2.2.2.1.length≤1048576)∧l.length≤1048576
theorem v9n {l:List tTxn.D}(h:(Ty.slice tTxn).wt l≤1048576):OkTs l:=
 ⟨fun y hy=>by
  have:=vcj hy h
  rw [wf7]at this
  exact⟨vdy (T:=tRange) (by omega),vdy (T:=tWrite) (by omega)⟩,vdy h⟩
def OkBs (b:tBase.D):Prop:=b.1.length≤1048576∧OkTs b.2.1∧OkTs b.2.2.1
theorem vyv {b:tBase.D}(h:tBase.wt b≤1048576):OkBs b:=by
 rw [v7f]at h
 exact⟨vdy (T:=tVersion) (by omega),v9n (by omega),v9n (by omega)⟩
def OkE (e:tEngine.D):Prop:=OkBs e.1∧OkTs e.2
theorem v1p {e:tEngine.D}(h:tEngine.wt e≤1048576):OkE e:=by
 rw [vjo]at h
 exact⟨vyv (by omega),v9n (by omega)⟩
end
end Go.VE
/- Plain laws of engines: copies,comparisons,marks where lists are short;GetKey. -/
namespace Go.VE
noncomputable section
set_option linter.unusedVariables false
set_option linter.unusedSimpArgs false
set_option maxRecDepth 100000
theorem v63 {u0:List tTxn.D}:∀(l acc:List tTxn.D) (i:Nat),(∀y∈l,y.2.2.2.2.1.length≤1048576∧y.2.2.2.2.2.1.length≤1048576)→acc.length+l.length≤1048576→
  ∃j:Int,∀K,vmi u0 l acc i K=K (j,acc++l)
 |[],acc,i,_,_=>⟨_,fun K=>by simp only [vmi,List.append_nil];rfl⟩
 |y::l,acc,i,hw,h=>by
  simp only [List.length_cons]at h
  obtain⟨j,hj⟩:=v63 (u0:=u0) l (acc++[y]) (i+1) (fun z hz=>hw z (by simp [hz])) (by rw [List.length_append,List.length_singleton];omega)
  have hy:=hw y (by simp)
  refine⟨j,fun K=>?_⟩
  simp only [vmi,vkr hy.1 hy.2,vcz]
  rw [if_pos (by rw [List.length_singleton];have:VE.maxLen=4294967296:=rfl;omega),hj]
  simp only [List.append_assoc,List.singleton_append]
theorem vw6 {l:List tTxn.D}(h:OkTs l) (k):vtx l k=k l:=by
 rw [wzt (by have:=h.2;omega)]
 obtain⟨j,hj⟩:=v63 (u0:=l) l [] 0 h.1 (by simpa using h.2)
 simp only [wi9,hj,List.nil_append]
theorem v23 {e:tEngine.D}(h:OkE e) (k):vm7 e k=k (e.1.2.2.2.1,e.1.2.2.2.2,e.1.1,e.1.2.1,e.1.2.2.1,e.2):=by
 rw [wnh]
 unfold we0
 rw [wd0]
 unfold v6b
 rw [if_pos (by have h1:=h.1.1;have:VE.maxLen=4294967296:=rfl;omega)]
 simp only [vw6 h.1.2.1,vw6 h.1.2.2,vw6 h.2]
theorem v6u (p:tTxn.D→Bool):∀(l:List tTxn.D) (i:Nat),atF p l i = -1∨∃a:Nat,atF p l i=(a:Int)∧i≤a∧a<i+l.length
 |[],i=>.inl rfl
 |y::l,i=>by
  simp only [atF]
  cases p y
  ·rcases v6u p l (i+1)with h|⟨a,h,h1,h2⟩
   ·exact .inl h
   ·exact .inr ⟨a,h,by omega,by simp only [List.length_cons];omega⟩
  ·exact .inr ⟨i,rfl,Nat.le_refl _,by simp only [List.length_cons];omega⟩
def vc8 (e:tEngine.D)(c:Int):Int:=atF (fun x=>x.1==c) e.2 0
theorem vp3 (e:tEngine.D)(c:Int):vc8 e c = -1∨∃a:Nat,∃t,vc8 e c=(a:Int)∧a<e.2.length∧e.2[a]? = some t∧rd (Ty.zero tTxn) e.2 (a:Int)=t:=by
 rcases v6u (fun x=>x.1==c) e.2 0 with h|⟨a,h,h1,h2⟩
 ·exact .inl h
 ·have hlt:a<e.2.length:=by omega
  exact .inr ⟨a,e.2[a],h,hlt,List.getElem?_eq_getElem hlt,by simp [rd,List.getElem?_eq_getElem hlt]⟩
def w2n (t:tTxn.D)(r:List tRange.D):tTxn.D:=(t.1,(t.2.1,(t.2.2.1,(t.2.2.2.1,(r,(t.2.2.2.2.2.1,(t.2.2.2.2.2.2.1,t.2.2.2.2.2.2.2)))))))
def vbk (e:tEngine.D)(c:Int)(key:ByteArray):(ByteArray×Bool×Int)×List tTxn.D:=
 if vc8 e c<0 then((⟨#[]⟩,false,1),e.2)else
 bif !(vgg key)then((⟨#[]⟩,false,2),e.2)else
 bif !((vao (rd (Ty.zero tTxn) e.2 (vc8 e c)) (key,key)).1)then((⟨#[]⟩,false,3),e.2)else
  (((vb7 (rd (Ty.zero tTxn) e.2 (vc8 e c)) e.1.1 key).1,(vb7 (rd (Ty.zero tTxn) e.2 (vc8 e c)) e.1.1 key).2,0),
   e.2.set (vc8 e c).toNat (w2n (rd (Ty.zero tTxn) e.2 (vc8 e c)) (vao (rd (Ty.zero tTxn) e.2 (vc8 e c)) (key,key)).2))
theorem wiu {e:tEngine.D}(h:tEngine.wt e≤1048576)(c:Int){key:ByteArray}(hk:key.size≤1048576) (k) :
  vqn e c key k=k (e.1.2.2.2.1,e.1.2.2.2.2,(vbk e c key).1.1,(vbk e c key).1.2.1,(vbk e c key).1.2.2,e.1.1,e.1.2.1,e.1.2.2.1,(vbk e c key).2):=by
 have hE:=vjo e
 have hB:=v7f e.1
 have ho:=v1p h
 rw [wor]
 unfold wfo vbk
 rw [vkf hk,wi7]
 unfold weo
 simp only [v23 ho,vly e c ho.2.2,show atF (fun x:tTxn.D=>x.1==c) e.2 0=vc8 e c from rfl]
 rcases vp3 e c with hp|⟨a,t,hp,hlt,ht,hr⟩
 ·simp only [hp,show ((-1:Int)<0) by decide,decide_true,cond_true,if_true]
  rfl
 have hn:¬vc8 e c<0:=by rw [hp];omega
 simp only [hn,decide_false,cond_false,if_false]
 cases hko:vgg key with
 |false=>simp only [Bool.not_false,cond_true];rfl
 |true=>
  have hks:=vg1 hko
  have htw:tTxn.wt t≤1048576:=vcj (T:=tTxn) (List.mem_of_getElem? ht) (by omega)
  have hkr:tRange.wt ((key,key):tRange.D)≤1048576:=by rw [wbc];simp only;omega
  have hi:(0≤vc8 e c∧vc8 e c<(e.2.length:Int)):=by rw [hp];omega
  simp only [Bool.not_true,cond_false]
  rw [if_pos hi]
  rw [hp,hr,wwm htw hkr]
  cases hrr:(vao t (key,key)).1 with
  |false=>simp only [Bool.not_false,cond_true];rfl
  |true=>
   simp only [Bool.not_true,cond_false]
   rw [if_pos (by rw [←hp];exact hi)]
   simp only [bne_self_eq_false,cond_false]
   rw [if_pos (by rw [←hp];exact hi)]
   refine(wxq htw ho.1.1 key _).trans ?_
   rfl
end
end Go.VE
/- Plain laws: Begin. -/
namespace Go.VE
noncomputable section
set_option linter.unusedVariables false
set_option linter.unusedSimpArgs false
set_option maxRecDepth 100000
def newT (e:vbs):tTxn.D:=(e.1.2.2.2.2,((1:Int),(e.1.2.2.2.1,((0:Int),(([]:List vb6),(([]:List vbt),(false,(⟨#[]⟩:ByteArray))))))))
def mayB (e:vbs):Bool:=vav e&&decide ((e.2.length:Int)<4)&&decide (e.1.2.2.2.2<9999)
def vc7 (e:vbs):(Int×Int×Int)×List tTxn.D:=
 bif mayB e then((e.1.2.2.2.2+1,e.1.2.2.2.2,0),e.2++[newT e])else((e.1.2.2.2.2,0,3),e.2)
theorem vyz {e:vbs}(h:vav e=true):(e.2.length:Int)≤4∧1≤e.1.2.2.2.2∧e.1.2.2.2.2≤9999:=by
 unfold vav vbn vdk at h
 simp only [Bool.and_eq_true,decide_eq_true_eq]at h
 omega
theorem wmc {e:vbs}(h:tEngine.wt e≤1048576) (k) :
  vub e k=k (e.1.2.2.2.1,(vc7 e).1.1,(vc7 e).1.2.1,(vc7 e).1.2.2,e.1.1,e.1.2.1,e.1.2.2.1,(vc7 e).2):=by
 have ho:=v1p h
 rw [wp7]
 unfold wex vc7 mayB
 simp only [v23 ho,wiv h]
 cases hE:vav e
 ·rfl
 have hp:=vyz hE
 simp only [Bool.not_true,cond_false,Bool.true_and]
 by_cases h4:(e.2.length:Int)<4
 ·have e4:((e.2.length:Int)==4)=false:=by simp only [beq_eq_false_iff_ne,ne_eq];omega
  by_cases h9:e.1.2.2.2.2<9999
  ·have e9:(e.1.2.2.2.2==9999)=false:=by simp only [beq_eq_false_iff_ne,ne_eq];omega
   have w1:IntKind.wrap .i64 (e.1.2.2.2.2+1)=e.1.2.2.2.2+1:=vff (by omega) (by omega)
   simp only [h4,h9,e4,e9,decide_true,cond_false,cond_true,Bool.and_self,vgu,w1]
   rw [if_pos (by have:VE.maxLen=4294967296:=rfl;simp only [List.length_singleton];omega)]
   rfl
  ·have e9:(e.1.2.2.2.2==9999)=true:=by simp only [beq_iff_eq];omega
   simp only [h4,h9,e4,e9,decide_false,decide_true,cond_false,cond_true,Bool.and_false]
 ·have e4:((e.2.length:Int)==4)=true:=by simp only [beq_iff_eq];omega
  simp only [h4,e4,decide_false,decide_true,cond_false,cond_true,Bool.false_and]
end
end Go.VE
/- Plain laws: a key that is written. -/
namespace Go.VE
noncomputable section
set_option linter.unusedVariables false
set_option linter.unusedSimpArgs false
set_option maxRecDepth 100000
theorem v66 {u1 u2:ByteArray}{u3:Bool}{L:List tWrite.D}(hL:L.length≤1048576):∀(l:List tWrite.D) (i q:Nat),L.drop i=l→l.length<q→∀K,
  vad vpm q ((i:Int),u1,u2,u3,L) K=K (((i+(l.takeWhile fun y=>vaf y.1 u1).length:Nat):Int),u1,u2,u3,L)
 |l,i,0,_,h=>by omega
 |[],i,q+1,hd,_=>fun K=>by
  have hge:=v2q hd
  simp only [vad,vpm,hge,decide_false,cond_false,Sum.elim_inr,List.takeWhile_nil,List.length_nil,Nat.add_zero]
 |y::l,i,q+1,hd,hq=>fun K=>by
  have hlt:=vg3 hd
  have hy:L.getD i (Ty.zero tWrite)=y:=(vil hd).2 _
  have hw1:IntKind.wrap .i64 ((i:Int)+1)=((i+1:Nat):Int):=vcf (by omega)
  have ih:=v66 (u1:=u1) (u2:=u2) (u3:=u3) hL l (i+1) q (vdz hd) (by simpa using hq) K
  simp only [vad,vpm,vf8,show (i:Int)<(L.length:Int) by omega,show (0:Int)≤(i:Int) by omega,and_self,if_true,decide_true,cond_true,Int.toNat_natCast,hy,hw1,List.takeWhile_cons]
  cases vaf y.1 u1
  ·simp only [cond_false,Sum.elim_inr,Bool.false_eq_true,if_false,List.length_nil,Nat.add_zero]
  ·simp only [cond_true,Sum.elim_inl,if_true,List.length_cons]
   rw [ih]
   congr 2
   omega
def ascW (l:List tWrite.D):Prop:=l.Pairwise fun a b=>vaf a.1 b.1=true
theorem wgh {l:List tWrite.D}(h:ascW l)(u:ByteArray):l.takeWhile (fun y=>vaf y.1 u)=l.filter (fun y=>vaf y.1 u)∧
  l.dropWhile (fun y=>vaf y.1 u)=l.filter (fun y=>!vaf y.1 u):=by
 induction l with
 |nil=>exact⟨rfl,rfl⟩
 |cons y l ih=>
  obtain⟨h1,h2⟩:=List.pairwise_cons.1 h
  obtain⟨a,b⟩:=ih h2
  cases hy:vaf y.1 u with
  |true=>simp [List.takeWhile_cons,List.dropWhile_cons,List.filter_cons,hy,a,b]
  |false=>
   have hall:∀z∈l,vaf z.1 u=false:=fun z hz=>by
    cases hz2:vaf z.1 u with
    |false=>rfl
    |true=>rw [vmj (h1 z hz) hz2]at hy;cases hy
   have e1:l.filter (fun y=>vaf y.1 u)=[]:=List.filter_eq_nil_iff.2 fun z hz=>by simp [hall z hz]
   have e2:l.filter (fun y=>!vaf y.1 u)=l:=List.filter_eq_self.2 fun z hz=>by simp [hall z hz]
   simp [List.takeWhile_cons,List.dropWhile_cons,List.filter_cons,hy,e1,e2]
theorem vw0 (x:ByteArray):vaf x x=false:=by
 cases h:vaf x x
 ·rfl
 ·have:=vmj h h
  rw [vf2]at h
  rw [Go.Proofs.bytesLess_eq,decide_eq_true_eq]at h
  exact absurd h (List.lt_irrefl _)
theorem wwh {l:List tWrite.D}(hl:l.length≤1048576)(ha:ascW l)(w:tWrite.D) (k):v1s l w k=k (putB l w):=by
 rw [wln]
 unfold we1
 rw [if_pos (by show _≤4294967296;omega)]
 have hj:=v66 (u1:=w.1) (u2:=w.2.1) (u3:=w.2.2) hl l 0 Fuel rfl (vay (by omega))
 have hz:((0:Nat):Int)=0:=rfl
 rw [hz]at hj
 rw [hj]
 obtain⟨s1,s2⟩:=wgh ha w.1
 generalize hP:l.takeWhile (fun y=>vaf y.1 w.1)=P at s1 s2
 generalize hD:l.dropWhile (fun y=>vaf y.1 w.1)=D at s1 s2
 have hPD:l=P++D:=by rw [←hP,←hD];exact(List.takeWhile_append_dropWhile).symm
 have hlen:l.length=P.length+D.length:=by rw [hPD,List.length_append]
 simp only [Nat.zero_add]
 have hins:insL l (P.length:Int) [(w.1,(w.2.1,w.2.2))]=P++w::D:=by
  unfold insL
  rw [Int.toNat_natCast,hPD,List.take_left,List.drop_left,List.append_assoc,List.singleton_append]
 have hasc:D.Pairwise fun a b=>vaf a.1 b.1=true:=by rw [s2];exact List.Pairwise.filter _ ha
 cases hDD:D with
 |nil=>
  have e:¬((P.length:Int)<(l.length:Int)):=by rw [hlen,hDD];simp
  simp only [e,decide_false,cond_false]
  rw [v3f]
  unfold vsp
  rw [if_pos ⟨by omega,by omega,by simp,by simp;omega⟩,hins]
  unfold putB
  rw [←s1,hDD]
  have:(l.filter fun y=>!(vaf y.1 w.1||va3 y.1 w.1))=[]:=by
   have h0:l.filter (fun y=>!vaf y.1 w.1)=[]:=by rw [←s2,hDD]
   rw [List.filter_eq_nil_iff]at h0 ⊢
   intro z hz
   have:=h0 z hz
   cases h1:vaf z.1 w.1 with
   |true=>simp
   |false=>rw [h1]at this;exact absurd rfl this
  rw [this]
 |cons d D'=>
  have e:((P.length:Int)<(l.length:Int)):=by rw [hlen,hDD];simp;omega
  have hd0:vaf d.1 w.1=false:=by
   have:d∈l.filter (fun y=>!vaf y.1 w.1):=by rw [←s2,hDD];simp
   simpa using(List.mem_filter.1 this).2
  have hget:l.getD P.length (Ty.zero tWrite)=d:=by rw [hPD,hDD];simp
  have hrest:∀z∈D',vaf d.1 z.1=true:=fun z hz=>by rw [hDD]at hasc;exact(List.pairwise_cons.1 hasc).1 z hz
  have hf:(l.filter fun y=>!(vaf y.1 w.1||va3 y.1 w.1))=D.filter fun y=>!va3 y.1 w.1:=by
   rw [s2,List.filter_filter]
   congr 1
   funext y
   cases vaf y.1 w.1<;>cases va3 y.1 w.1<;>rfl
  have hD'ne:va3 d.1 w.1=true∨vaf w.1 d.1=true:=by
   cases h1:va3 d.1 w.1 with
   |true=>exact .inl rfl
   |false=>
    refine .inr ?_
    cases h2:vaf w.1 d.1 with
    |true=>rfl
    |false=>rw [v7p hd0 h2,vsr]at h1;cases h1
  have hD'f:D'.filter (fun y=>!va3 y.1 w.1)=D':=List.filter_eq_self.2 fun z hz=>by
   have hzd:=hrest z hz
   cases h1:va3 z.1 w.1 with
   |false=>rfl
   |true=>
    have hzw:z.1=w.1:=vsn h1
    rw [hzw]at hzd
    rcases hD'ne with h2|h2
    ·rw [vsn h2,vw0]at hzd;cases hzd
    ·have:=vmj hzd h2
     rw [vw0]at this;cases this
  simp only [e,decide_true,cond_true]
  rw [if_pos ⟨by omega,trivial⟩,Int.toNat_natCast,hget]
  unfold putB
  rw [←s1,hf,hDD,List.filter_cons]
  cases he:va3 d.1 w.1 with
  |true=>
   simp only [cond_true,Bool.not_true,Bool.false_eq_true,if_false,hD'f]
   rw [if_pos ⟨by omega,trivial⟩,hPD,hDD]
   congr 1
   rw [List.set_append_right _ _ (Nat.le_refl _),Nat.sub_self,List.set_cons_zero]
  |false=>
   simp only [cond_false,Bool.not_false,if_true,hD'f]
   rw [v3f]
   unfold vsp
   rw [if_pos ⟨by omega,by omega,by simp,by simp;omega⟩,hins,hDD]
theorem vo7:∀(l:List tWrite.D) (p:Option tWrite.D),writesFrom p l=true→ascW l∧(∀x,p=some x→∀y∈l,vaf x.1 y.1=true)∧∀y∈l,vat y=true
 |[],p,_=>⟨List.Pairwise.nil,(fun _ _ y hy=>by simp at hy),(fun y hy=>by simp at hy)⟩
 |y::l,p,h=>by
  simp only [writesFrom,Bool.and_eq_true]at h
  obtain⟨⟨h1,h2⟩,h3⟩:=h
  obtain⟨a,b,c⟩:=vo7 l (some y) h3
  refine⟨List.pairwise_cons.2 ⟨b y rfl,a⟩,fun x hx z hz=>?_,fun z hz=>?_⟩
  ·subst hx
   rcases List.mem_cons.1 hz with e|e
   ·rw [e];exact h2
   ·exact vmj h2 (b y rfl z e)
  ·rcases List.mem_cons.1 hz with e|e
   ·rw [e];exact h1
   ·exact c z e
theorem v5z {t:tTxn.D}(h:vbb t=true):vas t.2.2.2.2.2.1=true:=by
 unfold vbb at h
 simp only [Bool.and_eq_true]at h
 exact h.1.1.1.1.1.1.2
theorem wgf {t:tTxn.D}(h:vbb t=true)(W:List tWrite.D):vbb (t.1,(t.2.1,(t.2.2.1,(t.2.2.2.1,(t.2.2.2.2.1,(W,(t.2.2.2.2.2.2.1,t.2.2.2.2.2.2.2)))))))=vas W:=by
 unfold vbb at h ⊢
 simp only [Bool.and_eq_true]at h
 obtain⟨⟨⟨⟨⟨⟨⟨⟨⟨⟨a1,a2⟩,a3⟩,a4⟩,a5⟩,a6⟩,a7⟩,a8⟩,a9⟩,a10⟩,a11⟩:=h
 simp only [a1,a2,a3,a4,a6,a7,a8,a9,a10,a11,Bool.true_and,Bool.and_true]
theorem wsz {l:List tWrite.D}{w y:tWrite.D}(h:y∈putB l w):y∈l∨y=w:=by
 unfold putB at h
 rcases List.mem_append.1 h with h|h
 ·exact .inl (List.mem_filter.1 h).1
 ·rcases List.mem_cons.1 h with h|h
  ·exact .inr h
  ·exact .inl (List.mem_filter.1 h).1
theorem wa9 (l:List tWrite.D)(w:tWrite.D):(putB l w).length≤l.length+1:=by
 unfold putB
 have h1:l.length=(l.filter fun y=>vaf y.1 w.1).length+(l.filter fun y=>!vaf y.1 w.1).length:=by
  induction l with
  |nil=>rfl
  |cons y l ih=>cases h:vaf y.1 w.1<;>simp [List.filter_cons,h]<;>omega
 have h2:(l.filter fun y=>!(vaf y.1 w.1||va3 y.1 w.1)).length≤(l.filter fun y=>!vaf y.1 w.1).length:=by
  have:(l.filter fun y=>!(vaf y.1 w.1||va3 y.1 w.1))=(l.filter fun y=>!vaf y.1 w.1).filter fun y=>!va3 y.1 w.1:=by
   rw [List.filter_filter]
   congr 1
   funext y
   cases vaf y.1 w.1<;>cases va3 y.1 w.1<;>rfl
  rw [this]
  exact List.length_filter_le _ _
 rw [List.length_append,List.length_cons]
 omega
theorem v5s {y:tWrite.D}(h:vat y=true):y.1.size≤3∧y.2.1.size≤12:=by
 unfold vat at h
 simp only [Bool.and_eq_true,decide_eq_true_eq]at h
 exact⟨by have:=vg1 h.1.1;omega,by omega⟩
def vaw (t:tTxn.D)(w:tWrite.D):Bool×List tWrite.D:=
 bif !vbb t then(false,t.2.2.2.2.2.1)else bif t.2.1 != 1 then(false,t.2.2.2.2.2.1)else bif !vat w then(false,t.2.2.2.2.2.1)else
 bif !vas (putB t.2.2.2.2.2.1 w)then(false,t.2.2.2.2.2.1)else(true,putB t.2.2.2.2.2.1 w)
theorem wv4 {t:tTxn.D}(h:vbb t=true){w:tWrite.D}(hw:vat w=true):okW 65 (putB t.2.2.2.2.2.1 w):=by
 have hs:=vpp h
 refine⟨by have:=wa9 t.2.2.2.2.2.1 w;have:=hs.2.2.2.2.2.2.1;omega,fun y hy=>?_⟩
 rcases wsz hy with hy|rfl
 ·have:=hs.2.2.2.2.2.2.2.1 y hy;omega
 ·have:=v5s hw;omega
theorem wz4 {t:tTxn.D}(h:vbb t=true){w:tWrite.D}(hw:vat w=true):(Ty.slice tWrite).wt (putB t.2.2.2.2.2.1 w)≤1048576∧
  tTxn.wt (t.1,(t.2.1,(t.2.2.1,(t.2.2.2.1,(t.2.2.2.2.1,(putB t.2.2.2.2.2.1 w,(t.2.2.2.2.2.2.1,t.2.2.2.2.2.2.2)))))))≤1048576:=by
 have hk:=wv4 h hw
 have hs:=vpp h
 have h2:=wqc (T:=tWrite) (c:=40) (l:=putB t.2.2.2.2.2.1 w) (fun y hy=>by have:=hk.2 y hy;rw [v48];omega)
 have h1:=wqc (T:=tRange) (c:=40) (l:=t.2.2.2.2.1) (fun y hy=>by have:=hs.2.2.2.2.2.1 y hy;rw [wbc];omega)
 have e:=wf7 (t.1,(t.2.1,(t.2.2.1,(t.2.2.2.1,(t.2.2.2.2.1,(putB t.2.2.2.2.2.1 w,(t.2.2.2.2.2.2.1,t.2.2.2.2.2.2.2)))))))
 have hl:=hk.1
 have hr:=hs.2.2.2.2.1
 have hn:=hs.2.2.2.2.2.2.2.2
 rw [Ty.wt_slice,Ty.wt_slice]at e
 dsimp only at e
 constructor
 ·rw [Ty.wt_slice];omega
 ·rw [e];omega
theorem wyq {t:tTxn.D}(ht:tTxn.wt t≤1048576){w:tWrite.D}(hw:tWrite.wt w≤1048576) (k):v1e t w k=k (t.1,t.2.1,t.2.2.1,t.2.2.2.1,t.2.2.2.2.2.2.1,t.2.2.2.2.2.2.2,(vaw t w).1,t.2.2.2.2.1,(vaw t w).2):=by
 have hl:=v3m ht
 rw [w07]
 unfold wlz vaw
 simp only [vkr hl.1 hl.2,vse ht,v8c hw]
 cases hok:vbb t
 ·rfl
 ·simp only [Bool.not_true,cond_false]
  cases t.2.1 != 1
  ·cases hwo:vat w
   ·rfl
   ·simp only [Bool.not_true,cond_false]
    have hwr:=v5z hok
    unfold vas at hwr
    rw [Bool.and_eq_true]at hwr
    have ha:=(vo7 _ _ hwr.1).1
    have hsw:=wgf hok (putB t.2.2.2.2.2.1 w)
    have hT:=fun k=>vse (wz4 hok hwo).2 k
    unfold vg8
    simp only [wwh hl.2 ha,vcz,hT,hsw,vkr hl.1 hl.2]
    cases vas (putB t.2.2.2.2.2.1 w)<;>rfl
  ·rfl
def w2g (t:tTxn.D)(w:List tWrite.D):tTxn.D:=(t.1,(t.2.1,(t.2.2.1,(t.2.2.2.1,(t.2.2.2.2.1,(w,(t.2.2.2.2.2.2.1,t.2.2.2.2.2.2.2)))))))
def vb2 (e:tEngine.D)(c:Int)(w:tWrite.D):Int×List tTxn.D:=
 if vc8 e c<0 then(1,e.2)else
 bif !(vat w)then(2,e.2)else
 bif !((vaw (rd (Ty.zero tTxn) e.2 (vc8 e c)) w).1)then(3,e.2)else
  (0,e.2.set (vc8 e c).toNat (w2g (rd (Ty.zero tTxn) e.2 (vc8 e c)) (vaw (rd (Ty.zero tTxn) e.2 (vc8 e c)) w).2))
theorem wiz {e:tEngine.D}(h:tEngine.wt e≤1048576)(c:Int){w:tWrite.D}(hk:tWrite.wt w≤1048576) (k) :
  vqo e c w k=k (e.1.2.2.2.1,e.1.2.2.2.2,(vb2 e c w).1,e.1.1,e.1.2.1,e.1.2.2.1,(vb2 e c w).2):=by
 have hE:=vjo e
 have ho:=v1p h
 rw [wk4]
 unfold wcq vb2
 simp only [v23 ho,vly e c ho.2.2,v8c hk,show atF (fun x:tTxn.D=>x.1==c) e.2 0=vc8 e c from rfl]
 rcases vp3 e c with hp|⟨a,t,hp,hlt,ht,hr⟩
 ·simp only [hp,show ((-1:Int)<0) by decide,decide_true,cond_true,if_true]
 have hn:¬vc8 e c<0:=by rw [hp];omega
 simp only [hn,decide_false,cond_false,if_false]
 cases hko:vat w with
 |false=>simp only [Bool.not_false,cond_true]
 |true=>
  have htw:tTxn.wt t≤1048576:=vcj (T:=tTxn) (List.mem_of_getElem? ht) (by omega)
  have hi:(0≤vc8 e c∧vc8 e c<(e.2.length:Int)):=by rw [hp];omega
  simp only [Bool.not_true,cond_false]
  rw [if_pos hi]
  rw [hp,hr,wyq htw hk]
  cases hrr:(vaw t w).1 with
  |false=>simp only [Bool.not_false,cond_true]
  |true=>
   simp only [Bool.not_true,cond_false]
   rw [if_pos (by rw [←hp];exact hi)]
   rfl
end
end Go.VE
/- Plain laws: versions that are put into others. -/
namespace Go.VE
noncomputable section
set_option linter.unusedVariables false
set_option linter.unusedSimpArgs false
set_option maxRecDepth 100000
def leV (v y:tVersion.D):Bool:=vaf y.1 v.1||(va3 y.1 v.1&&decide (y.2.2.2≤v.2.2.2))
def insV (l:List tVersion.D)(v:tVersion.D):List tVersion.D:=l.takeWhile (leV v)++v::l.dropWhile (leV v)
def vpl (cs:Int)(x:tWrite.D):tVersion.D:=(x.1,(x.2.1,(x.2.2,cs)))
def va9 (l:List tVersion.D)(w:List tWrite.D)(cs:Int):List tVersion.D:=w.foldl (fun out x=>insV out (vpl cs x)) l
theorem v83 (l:List tVersion.D)(v:tVersion.D):(insV l v).length=l.length+1:=by
 unfold insV
 have:=congrArg List.length (List.takeWhile_append_dropWhile (p:=leV v) (l:=l))
 rw [List.length_append]at this
 rw [List.length_append,List.length_cons]
 omega
theorem wya (l:List tVersion.D)(v:tVersion.D):l.drop (l.takeWhile (leV v)).length=l.dropWhile (leV v):=by
 have:=List.takeWhile_append_dropWhile (p:=leV v) (l:=l)
 generalize l.takeWhile (leV v)=a at *
 generalize l.dropWhile (leV v)=b at *
 rw [←this,List.drop_left]
theorem wyo (l:List tVersion.D)(v:tVersion.D):l.take (l.takeWhile (leV v)).length=l.takeWhile (leV v):=by
 have:=List.takeWhile_append_dropWhile (p:=leV v) (l:=l)
 generalize l.takeWhile (leV v)=a at *
 generalize l.dropWhile (leV v)=b at *
 rw [←this,List.take_left]
theorem w2m (l:List tVersion.D)(v:tVersion.D):(l.takeWhile (leV v)).length+(l.dropWhile (leV v)).length=l.length:=by
 have:=congrArg List.length (List.takeWhile_append_dropWhile (p:=leV v) (l:=l))
 rwa [List.length_append]at this
theorem wrd (y v:tVersion.D):decide (cmpV y v>0) = !leV v y:=by
 unfold cmpV leV cmpS cmpI
 cases h1:vaf y.1 v.1
 ·cases h2:va3 y.1 v.1
  ·simp
  ·by_cases h3:y.2.2.2<v.2.2.2
   ·simp [h3];exact Int.le_of_lt h3
   ·by_cases h4:y.2.2.2>v.2.2.2
    ·simp [h3,h4]
    ·simp [h3,h4];exact Int.not_lt.1 h4
 ·simp
theorem vyf {u0 u1}{v1 v2:ByteArray}{v3:Bool}{v4:Int}:∀(l:List tVersion.D) (i:Nat),∃j:Int,∀k,
  vjk u0 u1 l v1 v2 v3 v4 i k=k (bif l.all (leV (v1,(v2,(v3,v4))))then .inr (j,v1,v2,v3,v4)else .inl (((i+(l.takeWhile (leV (v1,(v2,(v3,v4))))).length:Nat):Int),j,v1,v2,v3,v4))
 |[],i=>⟨(i:Int),fun k=>rfl⟩
 |y::l,i=>by
  obtain⟨j,hj⟩:=vyf (u0:=u0) (u1:=u1) (v1:=v1) (v2:=v2) (v3:=v3) (v4:=v4) l (i+1)
  simp only [vjk,wkr,wdp,wiy,wrd,List.all_cons,List.takeWhile_cons]
  cases leV (v1,(v2,(v3,v4))) y
  ·exact⟨(i:Int),fun k=>by simp⟩
  ·refine⟨j,fun k=>?_⟩
   simp only [Bool.not_true,cond_false,Bool.true_and,if_true,List.length_cons,hj]
   rw [show i+1+(l.takeWhile (leV (v1,(v2,(v3,v4))))).length=i+((l.takeWhile (leV (v1,(v2,(v3,v4))))).length+1) by omega]
theorem wvl {α:Type}{p:α→Bool}:∀{l:List α},l.all p=true→l.takeWhile p=l
 |[],_=>rfl
 |y::l,h=>by
  simp only [List.all_cons,Bool.and_eq_true]at h
  rw [List.takeWhile_cons,if_pos h.1,wvl h.2]
theorem v1t {u0:Int}{u1:List tWrite.D}:∀(l:List tWrite.D) (s:List tVersion.D) (i:Nat),s.length+l.length≤2097152→∃j:Int,∀k,
  vma u0 u1 l s i k=k (j,va9 s l u0)
 |[],s,i,_=>⟨(i:Int),fun k=>rfl⟩
 |y::l,s,i,h=>by
  simp only [List.length_cons]at h
  have hil:=v83 s (vpl u0 y)
  obtain⟨j,hj⟩:=v1t (u0:=u0) (u1:=u1) l (insV s (vpl u0 y)) (i+1) (by omega)
  refine⟨j,fun k=>?_⟩
  obtain⟨j2,hj2⟩:=vyf (u0:=s) (u1:=0) (v1:=y.1) (v2:=y.2.1) (v3:=y.2.2) (v4:=u0) s 0
  have htw:=w2m s (vpl u0 y)
  have hins:∀n:Nat,n=(s.takeWhile (leV (vpl u0 y))).length→insL s (n:Int) [vpl u0 y]=insV s (vpl u0 y):=by
   intro n hn
   unfold insL insV
   rw [Int.toNat_natCast,hn,wyo,wya,List.append_assoc,List.singleton_append]
  have hk:∀(n:Nat) (K:List tVersion.D×List tVersion.D→Option Res),n=(s.takeWhile (leV (vpl u0 y))).length→vn5 (n:Int) s [vpl u0 y] K=K ([vpl u0 y],insV s (vpl u0 y)):=by
   intro n K hn
   rw [v97]
   unfold vvd
   rw [if_pos ⟨by omega,by omega,by simp,by simp;omega⟩,hins n hn]
  simp only [vma]
  rw [wxy (by omega)]
  unfold v8f
  rw [hj2]
  change (bif s.all (leV (vpl u0 y))then(Sum.inr (j2,y.1,y.2.1,y.2.2,u0):(Int×Int×ByteArray×ByteArray×Bool×Int)⊕(Int×ByteArray×ByteArray×Bool×Int))else .inl (((0+(s.takeWhile (leV (vpl u0 y))).length:Nat):Int),j2,y.1,y.2.1,y.2.2,u0)).elim _ _=_
  cases ha:s.all (leV (vpl u0 y))
  ·simp only [cond_false,Sum.elim_inl,Nat.zero_add,show ¬((((s.takeWhile (leV (vpl u0 y))).length:Nat):Int)<0) by omega,decide_false]
   exact(hk _ _ rfl).trans (hj k)
  ·simp only [cond_true,Sum.elim_inr,show ((-1:Int)<0) by decide,decide_true]
   exact(hk _ _ (by rw [wvl ha])).trans (hj k)
theorem ww9 {l:List tVersion.D}{w:List tWrite.D}(hl:l.length≤1048576)(hw:w.length≤1048576)(cs:Int) (k):v1v l w cs k=k (va9 l w cs):=by
 rw [w02 (by omega)]
 unfold wm3
 rw [if_pos (by show _≤4294967296;omega)]
 obtain⟨j,hj⟩:=v1t (u0:=cs) (u1:=w) w l 0 (by omega)
 rw [hj]
end
end Go.VE
/- Plain laws: what is trimmed. -/
namespace Go.VE
noncomputable section
set_option linter.unusedVariables false
set_option linter.unusedSimpArgs false
set_option maxRecDepth 100000
def trimF (L:List tVersion.D)(snap:Int):List tVersion.D→Nat→List tVersion.D
 |[],_=>[]
 |y::l,i=>bif decide (y.2.2.2>snap)||(va7 L y.1 snap==(i:Int))then y::trimF L snap l (i+1)else trimF L snap l (i+1)
def cntK (L:List tVersion.D)(key:ByteArray):Nat:=(L.filter fun y=>va3 y.1 key).length
def ven (L:List tVersion.D)(snap:Int)(y:tVersion.D):Bool:=decide (y.2.2.2>snap) || !y.2.2.1||decide (1<cntK L y.1)
def vf5 (L:List tVersion.D)(snap:Int):List tVersion.D:=(trimF L snap L 0).filter (ven (trimF L snap L 0) snap)
theorem v70 (L:List tVersion.D)(snap:Int):∀(l:List tVersion.D) (i:Nat),(trimF L snap l i).length≤l.length
 |[],i=>Nat.le_refl _
 |y::l,i=>by
  have:=v70 L snap l (i+1)
  simp only [trimF]
  cases decide (y.2.2.2>snap)||(va7 L y.1 snap==(i:Int))
  ·simp only [cond_false,List.length_cons];omega
  ·simp only [cond_true,List.length_cons];omega
theorem vta {L:List tVersion.D}(hL:L.length≤1048576){snap:Int}{u2:List tVersion.D}:∀(l s:List tVersion.D) (i:Nat),s.length+l.length≤3000000→∃j:Int,∀k,vkx L snap u2 l s i k=k (j,s++trimF L snap l i)
 |[],s,i,_=>⟨(i:Int),fun k=>by simp only [vkx,trimF,List.append_nil]⟩
 |y::l,s,i,h=>by
  simp only [List.length_cons]at h
  have hm:s.length+[y].length≤VE.maxLen:=by show _≤4294967296;simp only [List.length_singleton];omega
  obtain⟨j1,hj1⟩:=vta hL (snap:=snap) (u2:=u2) l (s++[y]) (i+1) (by rw [List.length_append,List.length_singleton];omega)
  obtain⟨j2,hj2⟩:=vta hL (snap:=snap) (u2:=u2) l s (i+1) (by omega)
  simp only [vkx,trimF,vem,wma hL,vcz,cond_true,if_pos hm]
  cases decide (y.2.2.2>snap)with
  |true=>exact⟨j1,fun k=>by simp only [cond_true,Bool.true_or,hj1,List.append_assoc,List.singleton_append]⟩
  |false=>
   simp only [cond_false,Bool.false_or]
   cases va7 L y.1 snap==(i:Int)with
   |true=>exact⟨j1,fun k=>by simp only [cond_true,hj1,List.append_assoc,List.singleton_append]⟩
   |false=>exact⟨j2,fun k=>by simp only [cond_false,hj2]⟩
theorem vsd {u0:ByteArray}{u4:List tVersion.D}:∀(l:List tVersion.D) (n i:Nat),n+l.length≤3000000→∃j:Int,∀k,vmd u0 u4 l (n:Int) i k=k (((n+cntK l u0:Nat):Int),j)
 |[],n,i,_=>⟨(i:Int),fun k=>rfl⟩
 |y::l,n,i,h=>by
  simp only [List.length_cons]at h
  have hw:IntKind.wrap .i64 ((n:Int)+1)=((n+1:Nat):Int):=vcf (by omega)
  obtain⟨j1,hj1⟩:=vsd (u0:=u0) (u4:=u4) l (n+1) (i+1) (by omega)
  obtain⟨j2,hj2⟩:=vsd (u0:=u0) (u4:=u4) l n (i+1) (by omega)
  have hc:cntK (y::l) u0=(bif va3 y.1 u0 then 1 else 0)+cntK l u0:=by
   unfold cntK
   rw [List.filter_cons]
   cases va3 y.1 u0
   ·simp
   ·simp only [if_true,List.length_cons,cond_true];omega
  rw [hc]
  simp only [vmd,hw]
  cases va3 y.1 u0 with
  |true=>exact⟨j1,fun k=>by simp only [cond_true,hj1];rw [show n+1+cntK l u0=n+(1+cntK l u0) by omega]⟩
  |false=>exact⟨j2,fun k=>by simp only [cond_false,hj2,Nat.zero_add]⟩
theorem wyr {u0:ByteArray}{u4:List tVersion.D}(h:u4.length≤1048576) (k):v0n u0 u4 k=k ((cntK u4 u0:Int),u4):=by
 rw [wzj (by omega)]
 unfold wpy
 obtain⟨j,hj⟩:=vsd (u0:=u0) (u4:=u4) u4 0 0 (by omega)
 have hz:((0:Nat):Int)=0:=rfl
 rw [hz]at hj
 rw [hj,Nat.zero_add]
theorem vs3 {L:List tVersion.D}(hL:L.length≤1048576){snap:Int}:∀(l s:List tVersion.D) (i q:Nat),L.drop i=l→l.length<q→s.length+l.length≤3000000→∃j:Int,∀K,
  vad vn7 q (snap,(L.length:Int),(i:Int),s,L) K=K (snap,(L.length:Int),j,s++l.filter (ven L snap),L)
 |l,s,i,0,_,h,_=>by omega
 |[],s,i,q+1,hd,_,_=>by
  have hge:=v2q hd
  exact⟨(i:Int),fun K=>by simp only [vad,vn7,hge,decide_false,cond_false,Sum.elim_inr,List.filter_nil,List.append_nil]⟩
 |y::l,s,i,q+1,hd,hq,h=>by
  have hlt:=vg3 hd
  have hy:L.getD i (Ty.zero tVersion)=y:=(vil hd).2 _
  have hw1:IntKind.wrap .i64 ((i:Int)+1)=((i+1:Nat):Int):=vcf (by omega)
  simp only [List.length_cons]at h
  have hm:s.length+[y].length≤VE.maxLen:=by show _≤4294967296;simp only [List.length_singleton];omega
  obtain⟨j1,hj1⟩:=vs3 hL (snap:=snap) l (s++[y]) (i+1) q (vdz hd) (by simpa using hq) (by rw [List.length_append,List.length_singleton];omega)
  obtain⟨j2,hj2⟩:=vs3 hL (snap:=snap) l s (i+1) q (vdz hd) (by simpa using hq) (by omega)
  have hc:(decide ((cntK L y.1:Int)>1))=decide (1<cntK L y.1):=by
   by_cases c:1<cntK L y.1
   ·rw [decide_eq_true c,decide_eq_true (by omega)]
   ·rw [decide_eq_false c,decide_eq_false (by omega)]
  have key:∀b:Bool,ven L snap y=b→((y::l).filter (ven L snap))=bif b then y::l.filter (ven L snap)else l.filter (ven L snap):=fun b hb=>by
   rw [List.filter_cons,hb];cases b<;>rfl
  have hk:ven L snap y=(decide (y.2.2.2>snap) || !y.2.2.1||decide (1<cntK L y.1)):=rfl
  simp only [vad,vn7,show (i:Int)<(L.length:Int) by omega,show (0:Int)≤(i:Int) by omega,and_self,if_true,decide_true,cond_true,Int.toNat_natCast,hy,hw1,if_pos hm,wyr hL,hc,Sum.elim_inl]
  cases h1:decide (y.2.2.2>snap)with
  |true=>
   rw [h1]at hk
   exact⟨j1,fun K=>by simp only [cond_true];rw [hj1,key _ hk];simp only [Bool.true_or,cond_true,List.append_assoc,List.singleton_append]⟩
  |false=>
   rw [h1]at hk
   cases h2:y.2.2.1 with
   |false=>
    rw [h2]at hk
    exact⟨j1,fun K=>by simp only [cond_true,cond_false,Bool.not_false];rw [hj1,key _ hk];simp only [Bool.false_or,Bool.not_false,Bool.true_or,cond_true,List.append_assoc,List.singleton_append]⟩
   |true=>
    rw [h2]at hk
    cases h3:decide (1<cntK L y.1)with
    |true=>
     rw [h3]at hk
     exact⟨j1,fun K=>by simp only [cond_true,cond_false,Bool.not_true];rw [hj1,key _ hk];simp only [Bool.false_or,Bool.not_true,cond_true,List.append_assoc,List.singleton_append]⟩
    |false=>
     rw [h3]at hk
     exact⟨j2,fun K=>by simp only [cond_false,Bool.not_true];rw [hj2,key _ hk];simp only [Bool.false_or,Bool.not_true,cond_false]⟩
theorem wx3 {L:List tVersion.D}(hL:L.length≤1048576)(snap:Int) (k):vyn L snap k=k (vf5 L snap):=by
 rw [w0k (by omega)]
 unfold wi8
 obtain⟨j,hj⟩:=vta hL (snap:=snap) (u2:=L) L [] 0 (by simp;omega)
 have hl:=v70 L snap L 0
 obtain⟨j2,hj2⟩:=vs3 (L:=trimF L snap L 0) (by omega) (snap:=snap) (trimF L snap L 0) [] 0 Fuel rfl (Nat.lt_of_lt_of_le (by omega) vfl) (by simp;omega)
 have hz:((0:Nat):Int)=0:=rfl
 rw [hz]at hj2
 rw [hj]
 simp only [List.nil_append]at hj2 ⊢
 rw [hj2]
 rfl
theorem wjv {l:List Int}{p s:Int}(h:Dr l p):Gives (vvh 10000 l p s) (fun y=>0≤y.1∧y.1<10000∧Dr y.2.1 y.2.2.1):=by
 rw [waj]
 unfold v4t
 refine vhd (fun c=>by cases c) (fun _=>vhd (fun c=>by cases c) (fun _=>(vwo h).bind (fun y2 h2=>(vwo h2.2.2).bind (fun y3 h3=>(vwo h3.2.2).bind (fun y4 h4=>(vwo h4.2.2).bind (fun y5 h5=>wmy (by decide) (veb ?_)))))))
 have w1:IntKind.wrap .i64 (y2.1*16777216)=y2.1*16777216:=vff (by omega) (by omega)
 have w2:IntKind.wrap .i64 (y3.1*65536)=y3.1*65536:=vff (by omega) (by omega)
 have w3:IntKind.wrap .i64 (y4.1*256)=y4.1*256:=vff (by omega) (by omega)
 have w4:IntKind.wrap .i64 (y2.1*16777216+y3.1*65536)=y2.1*16777216+y3.1*65536:=vff (by omega) (by omega)
 have w5:IntKind.wrap .i64 (y2.1*16777216+y3.1*65536+y4.1*256)=y2.1*16777216+y3.1*65536+y4.1*256:=vff (by omega) (by omega)
 have w6:IntKind.wrap .i64 (y2.1*16777216+y3.1*65536+y4.1*256+y5.1)=y2.1*16777216+y3.1*65536+y4.1*256+y5.1:=vff (by omega) (by omega)
 rw [w1,w2,w3,w4,w5,w6]
 exact⟨Int.tmod_nonneg _ (by omega),Int.tmod_lt_of_pos _ (by decide),h5.2.2⟩
theorem wg0:∀(m i:Nat) (l:List Int) (p s:Int) (acc:List Int) (n:Nat),i+m=12→m<n→acc.length=i∧(∀y∈acc,0≤y∧y<10000)→Dr l p→
  Gives (vad vl8 n ((i:Int),l,p,s,acc)) (fun z=>z.2.2.2.2.length=12∧∀y∈z.2.2.2.2,0≤y∧y<10000):=by
 intro m
 induction m with
 |zero=>
  intro i l p s acc n hm hn ha h
  obtain⟨n,rfl⟩:∃q,n=q+1:=⟨n-1,by omega⟩
  apply voo
  unfold vl8
  exact vhd (fun c=>by have c:=of_decide_eq_true c;dsimp only at c;omega) (fun _=>veb (wdl ⟨by dsimp only;omega,ha.2⟩))
 |succ m ih=>
  intro i l p s acc n hm hn ha h
  obtain⟨n,rfl⟩:∃q,n=q+1:=⟨n-1,by omega⟩
  apply voo
  unfold vl8
  have e:IntKind.wrap .i64 ((i:Int)+1)=((i+1:Nat):Int):=vcf (by omega)
  refine vhd (fun _=>(wjv h).bind (fun y hy=>vu8 ?_ (veb (wvk ?_)))) (fun c=>by have c:=of_decide_eq_false c;dsimp only at c;omega)
  ·have:=ha.1;show _≤4294967296;simp only [List.length_singleton];omega
  ·simp only [e]
   refine ih (i+1) _ _ _ _ n (by omega) (by omega) ⟨by rw [List.length_append,List.length_singleton,ha.1],fun z hz=>?_⟩ hy.2.2
   rcases List.mem_append.1 hz with hz|hz
   ·exact ha.2 z hz
   ·rw [List.mem_singleton]at hz;rw [hz];exact⟨hy.1,hy.2.1⟩
theorem ww5 {a0:List Int}(hl:a0.length≤1048576):Gives (vwu a0) (fun y=>y.length=12∧∀z∈y,0≤z∧z<10000):=by
 rw [v9e]
 unfold v4y
 exact(ww0 hl).bind (fun y1 h1=>(vwo h1).bind (fun y2 h2=>(wg0 12 0 _ _ _ [] Fuel rfl (by have:=vfl;omega) ⟨rfl,fun y hy=>by cases hy⟩ h2.2.2).bind (fun z hz=>veb hz)))
end
end Go.VE
/- Plain laws: the text of a transaction,there and back. -/
namespace Go.VE
noncomputable section
set_option linter.unusedVariables false
set_option linter.unusedSimpArgs false
set_option maxRecDepth 100000
def Back (s:ByteArray)(a c:Int)(P:List Int):Prop:=0≤a∧c=a+(P.length:Int)∧c≤(s.size:Int)∧(vea s).drop a.toNat=P++(vea s).drop c.toNat
theorem Back.two {s:ByteArray}{a b c:Int}{P Q:List Int}(h1:Back s a b P)(h2:Back s b c Q):Back s a c (P++Q):=by
 obtain⟨a1,a2,a3,a4⟩:=h1
 obtain⟨b1,b2,b3,b4⟩:=h2
 refine⟨a1,by rw [List.length_append];omega,b3,?_⟩
 rw [a4,b4,List.append_assoc]
theorem Back.at {s:ByteArray}{a c:Int}{P:List Int}(h:Back s a c P):0≤a∧a≤(s.size:Int)∧0≤c∧c≤(s.size:Int):=by
 obtain⟨a1,a2,a3,a4⟩:=h
 omega
theorem Back.nil {s:ByteArray}{a c:Int}(h:Back s a c []):c=a:=by have:=h.2.1;simp at this;exact this
end
end Go.VE
/- Plain laws: slices.DeleteFunc,its loop. -/
namespace Go.VE
noncomputable section
set_option linter.unusedVariables false
set_option linter.unusedSimpArgs false
set_option maxRecDepth 100000
def inD (lo hi:Nat)(dd:List Nat):Prop:=∀d∈dd,lo≤d∧d<hi
theorem wak {lo hi:Nat}:∀{dd:List Nat},inD lo hi dd→hasD dd hi=false
 |[],_=>rfl
 |a::l,h=>by
  have h1:=h a (by simp)
  have hb:Nat.beq a hi=false:=by
   cases hb:Nat.beq a hi with
   |false=>rfl
   |true=>have:=Nat.eq_of_beq_eq_true hb;omega
  simp only [hasD,hb,wak (dd:=l) (fun d hd=>h d (by simp [hd])),Bool.or_self]
theorem wvj {lo hi:Nat}:∀{dd:List Nat},inD lo hi dd→loD lo dd=[]
 |[],_=>rfl
 |a::l,h=>by
  have h1:=h a (by simp)
  have hb:Nat.blt a lo=false:=by
   cases hb:Nat.blt a lo with
   |false=>rfl
   |true=>rw [Nat.blt_eq]at hb;omega
  simp only [loD,hb,cond_false,wvj (dd:=l) (fun d hd=>h d (by simp [hd]))]
theorem wku {lo hi:Nat}:∀{dd:List Nat},inD lo hi dd→inD (lo+1) (hi+1) (delD lo dd)
 |[],_=>fun d hd=>by simp [delD]at hd
 |a::l,h=>by
  have h1:=h a (by simp)
  have ih:=wku (dd:=l) (fun d hd=>h d (by simp [hd]))
  intro d hd
  simp only [delD]at hd
  cases hb:Nat.beq a lo with
  |true=>rw [hb]at hd;exact ih d hd
  |false=>
   rw [hb]at hd
   simp only [cond_false,List.mem_cons]at hd
   rcases hd with rfl|hd
   ·have:d≠lo:=fun e=>by subst e;rw [Nat.beq_refl]at hb;cases hb
    omega
   ·exact ih d hd
structure DelAt {α:Type} (p:α→Bool) (xs0:List α) (i j:Nat) (xs:List α) (dd:List Nat):Prop where
 len:xs.length=xs0.length
 lt:i<j
 le:j≤xs0.length
 kept:xs.take i=(xs0.take j).filter fun x=>!p x
 rest:xs.drop j=xs0.drop j
 dead:inD i j dd
theorem DelAt.get {α:Type}{p:α→Bool}{xs0 xs:List α}{i j:Nat}{dd:List Nat}(h:DelAt p xs0 i j xs dd)(hj:j<xs0.length)(d:α):xs.getD j d=xs0[j]:=by
 have h1:=congrArg (fun l=>l[0]?) h.rest
 simp only [List.getElem?_drop,Nat.add_zero,List.getElem?_eq_getElem hj]at h1
 simp [List.getD,h1]
theorem vp8 {α:Type}(f:α→Bool)(xs:List α){j:Nat}(hj:j<xs.length):(xs.take (j+1)).filter f=(xs.take j).filter f++(if f xs[j]then [xs[j]]else []):=by
 rw [List.take_add_one,List.getElem?_eq_getElem hj,List.filter_append]
 congr 1
 cases hf:f xs[j]<;>simp [hf]
theorem DelAt.skip {α:Type}{p:α→Bool}{xs0 xs:List α}{i j:Nat}{dd:List Nat}(h:DelAt p xs0 i j xs dd)(hj:j<xs0.length)(hp:p xs0[j]=true):DelAt p xs0 i (j+1) xs dd where
 len:=h.len
 lt:=Nat.lt_succ_of_lt h.lt
 le:=hj
 kept:=by rw [vp8 _ _ hj,h.kept,hp];simp
 rest:=by rw [←List.drop_drop,←List.drop_drop,h.rest]
 dead:=fun d hd=>⟨(h.dead d hd).1,Nat.lt_succ_of_lt (h.dead d hd).2⟩
theorem DelAt.keep {α:Type}{p:α→Bool}{xs0 xs:List α}{i j:Nat}{dd:List Nat}(h:DelAt p xs0 i j xs dd)(hj:j<xs0.length)(hp:p xs0[j]=false):DelAt p xs0 (i+1) (j+1) (xs.set i xs0[j]) (j::j::delD i dd) where
 len:=by rw [List.length_set];exact h.len
 lt:=Nat.succ_lt_succ h.lt
 le:=hj
 kept:=by
  have hi:i<xs.length:=by have:=h.lt;have:=h.len;omega
  rw [vp8 _ _ hj,←h.kept,hp,List.take_add_one,List.getElem?_set_self hi,List.take_set_of_le (Nat.le_refl i)]
  simp
 rest:=by
  have:=h.lt
  rw [List.drop_set_of_lt (by omega),←List.drop_drop,←List.drop_drop,h.rest]
 dead:=fun d hd=>by
  have:=h.lt
  simp only [List.mem_cons]at hd
  rcases hd with rfl|rfl|hd
  ·omega
  ·omega
  ·exact wku h.dead d hd
theorem DelAt.done {α:Type}{p:α→Bool}{xs0 xs:List α}{i j:Nat}{dd:List Nat}(h:DelAt p xs0 i j xs dd)(hj:¬j<xs0.length):xs.take i=(xs0.filter fun x=>!p x)∧i=(xs0.filter fun x=>!p x).length∧loD i dd=[]:=by
 have e:j=xs0.length:=by have:=h.le;omega
 have h1:=h.kept
 rw [e,List.take_length]at h1
 refine⟨h1,?_,wvj h.dead⟩
 rw [←h1,List.length_take]
 have:=h.lt
 have:=h.le
 have:=h.len
 omega
theorem DelAt.start {α:Type}{p:α→Bool}{xs0:List α}{i:Nat}(hi:i<xs0.length)(hp:p xs0[i]=true)(hb:∀t (ht:t<xs0.length),t<i→p xs0[t]=false):DelAt p xs0 i (i+1) xs0 [] where
 len:=rfl
 lt:=Nat.lt_succ_self i
 le:=hi
 kept:=by
  rw [vp8 _ _ hi,hp]
  simp only [Bool.not_true,Bool.false_eq_true,if_false,List.append_nil]
  refine(List.filter_eq_self.2 fun y hy=>?_).symm
  obtain⟨t,ht,rfl⟩:=List.getElem_of_mem hy
  rw [List.length_take]at ht
  rw [List.getElem_take,hb t (by omega) (by omega)]
  rfl
 rest:=rfl
 dead:=fun d hd=>by cases hd
end
end Go.VE
/- Plain laws: slices.DeleteFunc answers the filtered list;bases with transactions given up. -/
namespace Go.VE
noncomputable section
set_option linter.unusedVariables false
set_option linter.unusedSimpArgs false
set_option maxRecDepth 100000
theorem v77 (p:tTxn.D→Bool):∀(l:List tTxn.D) (i:Nat),(atF p l i = -1∧∀y∈l,p y=false)∨∃(a:Nat) (ha:a<l.length),atF p l i=((i+a:Nat):Int)∧p l[a]=true∧∀t (ht:t<l.length),t<a→p l[t]=false
 |[],i=>.inl ⟨rfl,fun y h=>by cases h⟩
 |y::l,i=>by
  cases hp:p y with
  |true=>exact .inr ⟨0,by simp,by simp only [atF,hp,cond_true,Nat.add_zero],hp,fun t _ h=>by omega⟩
  |false=>
   rcases v77 p l (i+1)with⟨h,hn⟩|⟨a,ha,h,h1,h2⟩
   ·exact .inl ⟨by simp only [atF,hp,cond_false,h],fun z hz=>by rcases List.mem_cons.1 hz with rfl|hz;exact hp;exact hn z hz⟩
   ·refine .inr ⟨a+1,by simp only [List.length_cons];omega,by simp only [atF,hp,cond_false,h];congr 1;omega,h1,fun t ht hta=>?_⟩
    cases t with
    |zero=>exact hp
    |succ t=>exact h2 t (by simpa using ht) (by omega)
def tagS {α:Type}(b:Bool)(x:α):α⊕α:=bif b then .inr x else .inl x
theorem vra {σ:Type}{c:σ}{p:tTxn.D→Bool}{xs0:List tTxn.D}(hl:xs0.length≤1048576)
  {B:((Int×Int×List tTxn.D×List Nat×σ)⊕(Int×Int×List tTxn.D×List Nat×σ))→(((Int×Int×List tTxn.D×List Nat×σ)⊕(Int×Int×List tTxn.D×List Nat×σ))⊕((Int×Int×List tTxn.D×List Nat×σ)⊕(Int×Int×List tTxn.D×List Nat×σ))→Option Res)→Option Res}
  (hk:∀b (i j:Nat) xs dd k,i<xs.length→j<xs.length→xs.length≤1048576→hasD dd j=false→p (xs.getD j (Ty.zero tTxn))=false→B (tagS b ((i:Int),(j:Int),xs,dd,c)) k=k (.inl (tagS true (((i+1:Nat):Int),((j+1:Nat):Int),xs.set i (xs.getD j (Ty.zero tTxn)),j::j::delD i dd,c))))
  (hs:∀b (i j:Nat) xs dd k,j<xs.length→xs.length≤1048576→hasD dd j=false→p (xs.getD j (Ty.zero tTxn))=true→B (tagS b ((i:Int),(j:Int),xs,dd,c)) k=k (.inl (tagS b ((i:Int),((j+1:Nat):Int),xs,dd,c))))
  (he:∀b (i j:Nat) xs dd k,¬j<xs.length→B (tagS b ((i:Int),(j:Int),xs,dd,c)) k=k (.inr (tagS b ((i:Int),(j:Int),xs,dd,c)))) :
  ∀(n:Nat) (xs:List tTxn.D) (i j:Nat) (dd:List Nat) (b:Bool) (q:Nat),xs0.length-j=n→DelAt p xs0 i j xs dd→n<q→
   ∃b' i' xs' dd',(i'≤xs'.length∧xs'.take i'=xs0.filter (fun x=>!p x)∧loD i' dd'=[])∧∀K,vad B q (tagS b ((i:Int),(j:Int),xs,dd,c)) K=K (tagS b' ((i':Int),((xs0.length:Nat):Int),xs',dd',c))
 |n,xs,i,j,dd,b,0,_,_,hq=>by omega
 |0,xs,i,j,dd,b,q+1,hn,h,_=>by
  have hlen:=h.len;have hle:=h.le;have hlt:=h.lt
  have hj:j=xs0.length:=by omega
  subst hj
  obtain⟨h1,h2,h3⟩:=h.done (by omega)
  refine⟨b,i,xs,dd,⟨by omega,h1,h3⟩,fun K=>?_⟩
  simp only [vad]
  rw [he b i _ xs dd _ (by omega)]
  simp only [Sum.elim_inr]
 |n+1,xs,i,j,dd,b,q+1,hn,h,hq=>by
  have hlen:=h.len;have hle:=h.le;have hlt:=h.lt
  have hj:j<xs0.length:=by omega
  have hd:hasD dd j=false:=wak h.dead
  have hg:=h.get hj (Ty.zero tTxn)
  cases hp:p xs0[j]with
  |true=>
   obtain⟨b',i',xs',dd',hh,hK⟩:=vra hl hk hs he n xs i (j+1) dd b q (by omega) (h.skip hj hp) (by omega)
   refine⟨b',i',xs',dd',hh,fun K=>?_⟩
   simp only [vad]
   rw [hs b i j xs dd _ (by omega) (by omega) hd (by rw [hg];exact hp)]
   simp only [Sum.elim_inl]
   exact hK K
  |false=>
   obtain⟨b',i',xs',dd',hh,hK⟩:=vra hl hk hs he n (xs.set i xs0[j]) (i+1) (j+1) (j::j::delD i dd) true q (by omega) (h.keep hj hp) (by omega)
   refine⟨b',i',xs',dd',hh,fun K=>?_⟩
   simp only [vad]
   rw [hk b i j xs dd _ (by omega) (by omega) (by omega) hd (by rw [hg];exact hp),hg]
   simp only [Sum.elim_inl]
   exact hK K
theorem v5h {p:tTxn.D→Bool}{l:List tTxn.D}(h:∀y∈l,p y=false):l.filter (fun x=>!p x)=l:=
 List.filter_eq_self.2 fun y hy=>by rw [h y hy];rfl
theorem v8i (x:tTxn.D)(c:Int) (k):vt8 x c k=k (decide (x.2.2.2.1≤c),c):=by rw [wkb];rfl
theorem vxb {u0 u1}{c:Int}:∀(l:List tTxn.D) (i:Nat),
  (∃a:Nat,atF (fun x=>decide (x.2.2.2.1≤c)) l i=(a:Int)∧∀k,vh4 u0 u1 l c i k=k (.inl ((a:Int),(a:Int),c)))∨
  ((∃b:Int,∀k,vh4 u0 u1 l c i k=k (.inr (b,c)))∧atF (fun x=>decide (x.2.2.2.1≤c)) l i = -1)
 |[],i=>.inr ⟨⟨_,fun k=>rfl⟩,rfl⟩
 |y::l,i=>by
  have ih:=vxb (u0:=u0) (u1:=u1) (c:=c) l (i+1)
  simp only [vh4,atF,v8i]
  cases decide (y.2.2.2.1≤c)
  ·exact ih
  ·exact .inl ⟨i,rfl,fun k=>rfl⟩
theorem wdt {l:List tTxn.D}(c:Int)(hl:l.length≤1048576) (k):vp1 l c k=k (atF (fun x=>decide (x.2.2.2.1≤c)) l 0,c):=by
 rw [wyg (by omega)]
 unfold wad
 rcases vxb (u0:=l) (u1:=0) (c:=c) l 0 with⟨a,ha,h⟩|⟨⟨b,h⟩,ha⟩<;>rw [h,ha]<;>rfl
theorem wsw {l:List tTxn.D}(hl:l.length≤1048576)(c:Int) :
  ∃s,(s = .inl (l.filter (fun x=>!(decide (x.2.2.2.1≤c))),c)∨s = .inr (c,l.filter (fun x=>!(decide (x.2.2.2.1≤c)))))∧∀k,vs6 l c k=k s:=by
 rcases v77 (fun x=>decide (x.2.2.2.1≤c)) l 0 with⟨h,hn⟩|⟨a,ha,h,h1,h2⟩
 ·refine⟨.inl (l,c),.inl (by rw [v5h hn]),fun k=>?_⟩
  rw [wlh]
  unfold v4v
  rw [wdt c hl]
  simp only [h]
  rfl
 ·obtain⟨b',i',xs',dd',⟨q1,q2,q3⟩,hK⟩:=vra (c:=(c)) (p:=fun x=>decide (x.2.2.2.1≤c)) hl (B:=vf7)
   (fun b i j xs dd k hi hj hx hd hp=>by
    have hw1:IntKind.wrap .i64 ((i:Int)+1)=((i+1:Nat):Int):=vcf (by omega)
    have hw2:IntKind.wrap .i64 ((j:Int)+1)=((j+1:Nat):Int):=vcf (by omega)
    cases b<;>simp only [vf7,tagS,cond_true,cond_false,Sum.elim_inl,Sum.elim_inr,show (j:Int)<(xs.length:Int) by omega,show (0:Int)≤(j:Int) by omega,show (i:Int)<(xs.length:Int) by omega,show (0:Int)≤(i:Int) by omega,and_self,if_true,decide_true,Int.toNat_natCast,hd,v8i,hp,Bool.not_false,hw1,hw2])
   (fun b i j xs dd k hj hx hd hp=>by
    have hw2:IntKind.wrap .i64 ((j:Int)+1)=((j+1:Nat):Int):=vcf (by omega)
    cases b<;>simp only [vf7,tagS,cond_true,cond_false,Sum.elim_inl,Sum.elim_inr,show (j:Int)<(xs.length:Int) by omega,show (0:Int)≤(j:Int) by omega,and_self,if_true,decide_true,Int.toNat_natCast,hd,v8i,hp,Bool.not_true,hw2])
   (fun b i j xs dd k hj=>by
    cases b<;>simp only [vf7,tagS,cond_true,cond_false,Sum.elim_inl,Sum.elim_inr,show ¬(j:Int)<(xs.length:Int) by omega,decide_false])
   (l.length-(a+1)) l a (a+1) [] false Fuel rfl (DelAt.start ha h1 h2) (Nat.lt_of_lt_of_le (by omega) vfl)
  refine⟨.inr (c,l.filter (fun x=>!(decide (x.2.2.2.1≤c)))),.inr rfl,fun k=>?_⟩
  have hw1:IntKind.wrap .i64 ((a:Int)+1)=((a+1:Nat):Int):=vcf (by omega)
  have hne:((a:Int)==(-1:Int))=false:=by rw [beq_eq_false_iff_ne];omega
  have ez:((0+a:Nat):Int)=(a:Int):=by omega
  have hlen:((xs'.take i'++List.replicate (xs'.length-i') (Ty.zero tTxn)).length:Nat)=xs'.length:=by rw [List.length_append,List.length_take,List.length_replicate];omega
  have htk:(xs'.take i'++List.replicate (xs'.length-i') (Ty.zero tTxn)).take i'=l.filter (fun x=>!(decide (x.2.2.2.1≤c))):=by
   rw [List.take_append_of_le_length (by rw [List.length_take];omega),List.take_take,Nat.min_self,q2]
  rw [wlh]
  unfold v4v
  rw [wdt c hl]
  simp only [tagS,cond_false]at hK
  simp only [h,ez,hne,cond_false,hw1,hK]
  cases b'<;>simp only [tagS,cond_true,cond_false,Sum.elim_inl,Sum.elim_inr,show (0:Int)≤(i':Int) by omega,show (i':Int)≤(xs'.length:Int) by omega,and_self,if_true,Int.toNat_natCast,hlen,q3,geD,htk]
theorem wba (x:tTxn.D)(c:Int) (k):vtt x c k=k ((x.1==c),c):=by rw [wl2];rfl
theorem vxu {u0 u1}{c:Int}:∀(l:List tTxn.D) (i:Nat),
  (∃a:Nat,atF (fun x=>(x.1==c)) l i=(a:Int)∧∀k,vh6 u0 u1 l c i k=k (.inl ((a:Int),(a:Int),c)))∨
  ((∃b:Int,∀k,vh6 u0 u1 l c i k=k (.inr (b,c)))∧atF (fun x=>(x.1==c)) l i = -1)
 |[],i=>.inr ⟨⟨_,fun k=>rfl⟩,rfl⟩
 |y::l,i=>by
  have ih:=vxu (u0:=u0) (u1:=u1) (c:=c) l (i+1)
  simp only [vh6,atF,wba]
  cases (y.1==c)
  ·exact ih
  ·exact .inl ⟨i,rfl,fun k=>rfl⟩
theorem wd3 {l:List tTxn.D}(c:Int)(hl:l.length≤1048576) (k):vpq l c k=k (atF (fun x=>(x.1==c)) l 0,c):=by
 rw [wxn (by omega)]
 unfold v9p
 rcases vxu (u0:=l) (u1:=0) (c:=c) l 0 with⟨a,ha,h⟩|⟨⟨b,h⟩,ha⟩<;>rw [h,ha]<;>rfl
theorem wtb {l:List tTxn.D}(hl:l.length≤1048576)(c:Int) :
  ∃s,(s = .inl (l.filter (fun x=>!((x.1==c))),c)∨s = .inr (c,l.filter (fun x=>!((x.1==c)))))∧∀k,vs8 l c k=k s:=by
 rcases v77 (fun x=>(x.1==c)) l 0 with⟨h,hn⟩|⟨a,ha,h,h1,h2⟩
 ·refine⟨.inl (l,c),.inl (by rw [v5h hn]),fun k=>?_⟩
  rw [wnq]
  unfold v3k
  rw [wd3 c hl]
  simp only [h]
  rfl
 ·obtain⟨b',i',xs',dd',⟨q1,q2,q3⟩,hK⟩:=vra (c:=(c)) (p:=fun x=>(x.1==c)) hl (B:=vgm)
   (fun b i j xs dd k hi hj hx hd hp=>by
    have hw1:IntKind.wrap .i64 ((i:Int)+1)=((i+1:Nat):Int):=vcf (by omega)
    have hw2:IntKind.wrap .i64 ((j:Int)+1)=((j+1:Nat):Int):=vcf (by omega)
    cases b<;>simp only [vgm,tagS,cond_true,cond_false,Sum.elim_inl,Sum.elim_inr,show (j:Int)<(xs.length:Int) by omega,show (0:Int)≤(j:Int) by omega,show (i:Int)<(xs.length:Int) by omega,show (0:Int)≤(i:Int) by omega,and_self,if_true,decide_true,Int.toNat_natCast,hd,wba,hp,Bool.not_false,hw1,hw2])
   (fun b i j xs dd k hj hx hd hp=>by
    have hw2:IntKind.wrap .i64 ((j:Int)+1)=((j+1:Nat):Int):=vcf (by omega)
    cases b<;>simp only [vgm,tagS,cond_true,cond_false,Sum.elim_inl,Sum.elim_inr,show (j:Int)<(xs.length:Int) by omega,show (0:Int)≤(j:Int) by omega,and_self,if_true,decide_true,Int.toNat_natCast,hd,wba,hp,Bool.not_true,hw2])
   (fun b i j xs dd k hj=>by
    cases b<;>simp only [vgm,tagS,cond_true,cond_false,Sum.elim_inl,Sum.elim_inr,show ¬(j:Int)<(xs.length:Int) by omega,decide_false])
   (l.length-(a+1)) l a (a+1) [] false Fuel rfl (DelAt.start ha h1 h2) (Nat.lt_of_lt_of_le (by omega) vfl)
  refine⟨.inr (c,l.filter (fun x=>!((x.1==c)))),.inr rfl,fun k=>?_⟩
  have hw1:IntKind.wrap .i64 ((a:Int)+1)=((a+1:Nat):Int):=vcf (by omega)
  have hne:((a:Int)==(-1:Int))=false:=by rw [beq_eq_false_iff_ne];omega
  have ez:((0+a:Nat):Int)=(a:Int):=by omega
  have hlen:((xs'.take i'++List.replicate (xs'.length-i') (Ty.zero tTxn)).length:Nat)=xs'.length:=by rw [List.length_append,List.length_take,List.length_replicate];omega
  have htk:(xs'.take i'++List.replicate (xs'.length-i') (Ty.zero tTxn)).take i'=l.filter (fun x=>!((x.1==c))):=by
   rw [List.take_append_of_le_length (by rw [List.length_take];omega),List.take_take,Nat.min_self,q2]
  rw [wnq]
  unfold v3k
  rw [wd3 c hl]
  simp only [tagS,cond_false]at hK
  simp only [h,ez,hne,cond_false,hw1,hK]
  cases b'<;>simp only [tagS,cond_true,cond_false,Sum.elim_inl,Sum.elim_inr,show (0:Int)≤(i':Int) by omega,show (i':Int)≤(xs'.length:Int) by omega,and_self,if_true,Int.toNat_natCast,hlen,q3,geD,htk]
theorem vwy {b:tBase.D}(h:OkBs b) (k):vqj b k=k (b.2.2.2.1,b.2.2.2.2,b.1,b.2.1,b.2.2.1):=by
 rw [wd0]
 unfold v6b
 rw [if_pos (by have h1:=h.1;have:VE.maxLen=4294967296:=rfl;omega)]
 simp only [vw6 h.2.1,vw6 h.2.2]
end
end Go.VE
/- Plain laws: bases tidied;who leaves. -/
namespace Go.VE
noncomputable section
set_option linter.unusedVariables false
set_option linter.unusedSimpArgs false
set_option maxRecDepth 100000
def w1b (b:tBase.D)(o:Int):List tTxn.D:=b.2.1.filter (fun x=>!(decide (x.2.2.2.1≤o)))
def vd9 (b:tBase.D)(l:List tTxn.D):tBase.D:=(vf5 b.1 (vwm b.2.2.2.1 l),(w1b b (vwm b.2.2.2.1 l),b.2.2))
theorem v9d {b:tBase.D}(h:OkBs b){l:List tTxn.D}(hl:l.length≤1048576) (k):vtp b l k=k (b.2.2.2.1,b.2.2.2.2,(vd9 b l).1,(vd9 b l).2.1,b.2.2.1):=by
 rw [wlu]
 unfold wc4
 simp only [vwy h,wxa hl]
 obtain⟨s,hs,hk⟩:=wsw (l:=b.2.1) h.2.1.2 (vwm b.2.2.2.1 l)
 rw [hk]
 rcases hs with rfl|rfl<;>simp only [Sum.elim_inl,Sum.elim_inr,wx3 h.1,vd9,w1b]
def outB (e:tEngine.D)(c:Int):List tTxn.D:=e.2.filter (fun x=>!(x.1==c))
def vc0 (e:tEngine.D)(c:Int):tEngine.D:=(vd9 e.1 (outB e c),outB e c)
theorem v2w (e:tEngine.D)(c:Int):(outB e c).length≤e.2.length:=List.length_filter_le _ _
theorem v9x {e:tEngine.D}(h:OkE e)(c:Int) (k):vv9 e c k=k (e.1.2.2.2.1,e.1.2.2.2.2,e.1.1,e.1.2.1,e.1.2.2.1,outB e c):=by
 rw [wpn]
 unfold wez
 simp only [v23 h]
 obtain⟨s,hs,hk⟩:=wtb (l:=e.2) h.2.2 c
 rw [hk]
 rcases hs with rfl|rfl<;>rfl
theorem wci {e:tEngine.D}(h:OkE e){c:Int}(hc:¬vc8 e c<0) (k):vz9 e c k=k (e.1.2.2.2.1,e.1.2.2.2.2,0,(vc0 e c).1.1,(vc0 e c).1.2.1,e.1.2.2.1,outB e c):=by
 have hb:OkBs (e.1.1,(e.1.2.1,(e.1.2.2.1,(e.1.2.2.2.1,e.1.2.2.2.2)))):=h.1
 have ho:(outB e c).length≤1048576:=Nat.le_trans (v2w e c) h.2.2
 rw [wpo]
 unfold wcs
 simp only [v9x h,vly e c h.2.2,show atF (fun x:tTxn.D=>x.1==c) e.2 0=vc8 e c from rfl,hc,decide_false,cond_false,v9d hb ho,vc0]
end
end Go.VE
/- Plain laws: who is let through,who is made ready. -/
namespace Go.VE
noncomputable section
set_option linter.unusedVariables false
set_option linter.unusedSimpArgs false
set_option maxRecDepth 100000
theorem v88 (x:tTxn.D)(c1:Int)(c2:Int)(c3:Int)(c4:Int)(c5:Bool)(c6:ByteArray) (k):vt6 x c1 c2 c3 c4 c5 c6 k=k ((x.1==c1),c1,c2,c3,c4,c5,c6):=by rw [wi1];rfl
theorem vw7 {u0 u1}{c1:Int}{c2:Int}{c3:Int}{c4:Int}{c5:Bool}{c6:ByteArray}:∀(l:List tTxn.D) (i:Nat),
  (∃a:Nat,atF (fun x=>(x.1==c1)) l i=(a:Int)∧∀k,vh3 u0 u1 l c1 c2 c3 c4 c5 c6 i k=k (.inl ((a:Int),(a:Int),c1,c2,c3,c4,c5,c6)))∨
  ((∃b:Int,∀k,vh3 u0 u1 l c1 c2 c3 c4 c5 c6 i k=k (.inr (b,c1,c2,c3,c4,c5,c6)))∧atF (fun x=>(x.1==c1)) l i = -1)
 |[],i=>.inr ⟨⟨_,fun k=>rfl⟩,rfl⟩
 |y::l,i=>by
  have ih:=vw7 (u0:=u0) (u1:=u1) (c1:=c1) (c2:=c2) (c3:=c3) (c4:=c4) (c5:=c5) (c6:=c6) l (i+1)
  simp only [vh3,atF,v88]
  cases (y.1==c1)
  ·exact ih
  ·exact .inl ⟨i,rfl,fun k=>rfl⟩
theorem wbw {l:List tTxn.D}(c1:Int)(c2:Int)(c3:Int)(c4:Int)(c5:Bool)(c6:ByteArray)(hl:l.length≤1048576) (k):vpo l c1 c2 c3 c4 c5 c6 k=k (atF (fun x=>(x.1==c1)) l 0,c1,c2,c3,c4,c5,c6):=by
 rw [wwi (by omega)]
 unfold v90
 rcases vw7 (u0:=l) (u1:=0) (c1:=c1) (c2:=c2) (c3:=c3) (c4:=c4) (c5:=c5) (c6:=c6) l 0 with⟨a,ha,h⟩|⟨⟨b,h⟩,ha⟩<;>rw [h,ha]<;>rfl
theorem ws5 {l:List tTxn.D}(hl:l.length≤1048576)(c1:Int)(c2:Int)(c3:Int)(c4:Int)(c5:Bool)(c6:ByteArray) :
  ∃s,(s = .inl (l.filter (fun x=>!((x.1==c1))),c1,c2,c3,c4,c5,c6)∨s = .inr (c1,c2,c3,c4,c5,c6,l.filter (fun x=>!((x.1==c1)))))∧∀k,vs4 l c1 c2 c3 c4 c5 c6 k=k s:=by
 rcases v77 (fun x=>(x.1==c1)) l 0 with⟨h,hn⟩|⟨a,ha,h,h1,h2⟩
 ·refine⟨.inl (l,c1,c2,c3,c4,c5,c6),.inl (by rw [v5h hn]),fun k=>?_⟩
  rw [wko]
  unfold v3b
  rw [wbw c1 c2 c3 c4 c5 c6 hl]
  simp only [h]
  rfl
 ·obtain⟨b',i',xs',dd',⟨q1,q2,q3⟩,hK⟩:=vra (c:=(c1,c2,c3,c4,c5,c6)) (p:=fun x=>(x.1==c1)) hl (B:=vgq)
   (fun b i j xs dd k hi hj hx hd hp=>by
    have hw1:IntKind.wrap .i64 ((i:Int)+1)=((i+1:Nat):Int):=vcf (by omega)
    have hw2:IntKind.wrap .i64 ((j:Int)+1)=((j+1:Nat):Int):=vcf (by omega)
    cases b<;>simp only [vgq,tagS,cond_true,cond_false,Sum.elim_inl,Sum.elim_inr,show (j:Int)<(xs.length:Int) by omega,show (0:Int)≤(j:Int) by omega,show (i:Int)<(xs.length:Int) by omega,show (0:Int)≤(i:Int) by omega,and_self,if_true,decide_true,Int.toNat_natCast,hd,v88,hp,Bool.not_false,hw1,hw2])
   (fun b i j xs dd k hj hx hd hp=>by
    have hw2:IntKind.wrap .i64 ((j:Int)+1)=((j+1:Nat):Int):=vcf (by omega)
    cases b<;>simp only [vgq,tagS,cond_true,cond_false,Sum.elim_inl,Sum.elim_inr,show (j:Int)<(xs.length:Int) by omega,show (0:Int)≤(j:Int) by omega,and_self,if_true,decide_true,Int.toNat_natCast,hd,v88,hp,Bool.not_true,hw2])
   (fun b i j xs dd k hj=>by
    cases b<;>simp only [vgq,tagS,cond_true,cond_false,Sum.elim_inl,Sum.elim_inr,show ¬(j:Int)<(xs.length:Int) by omega,decide_false])
   (l.length-(a+1)) l a (a+1) [] false Fuel rfl (DelAt.start ha h1 h2) (Nat.lt_of_lt_of_le (by omega) vfl)
  refine⟨.inr (c1,c2,c3,c4,c5,c6,l.filter (fun x=>!((x.1==c1)))),.inr rfl,fun k=>?_⟩
  have hw1:IntKind.wrap .i64 ((a:Int)+1)=((a+1:Nat):Int):=vcf (by omega)
  have hne:((a:Int)==(-1:Int))=false:=by rw [beq_eq_false_iff_ne];omega
  have ez:((0+a:Nat):Int)=(a:Int):=by omega
  have hlen:((xs'.take i'++List.replicate (xs'.length-i') (Ty.zero tTxn)).length:Nat)=xs'.length:=by rw [List.length_append,List.length_take,List.length_replicate];omega
  have htk:(xs'.take i'++List.replicate (xs'.length-i') (Ty.zero tTxn)).take i'=l.filter (fun x=>!((x.1==c1))):=by
   rw [List.take_append_of_le_length (by rw [List.length_take];omega),List.take_take,Nat.min_self,q2]
  rw [wko]
  unfold v3b
  rw [wbw c1 c2 c3 c4 c5 c6 hl]
  simp only [tagS,cond_false]at hK
  simp only [h,ez,hne,cond_false,hw1,hK]
  cases b'<;>simp only [tagS,cond_true,cond_false,Sum.elim_inl,Sum.elim_inr,show (0:Int)≤(i':Int) by omega,show (i':Int)≤(xs'.length:Int) by omega,and_self,if_true,Int.toNat_natCast,hlen,q3,geD,htk]
def vd1 (b:tBase.D)(t:tTxn.D):tTxn.D:=(t.1,((3:Int),(t.2.2.1,(IntKind.wrap .i64 (b.2.2.2.1+1),(t.2.2.2.2.1,(t.2.2.2.2.2.1,((t.2.2.2.2.2.2.1||b.2.1.any (fun x=>vb5 t x)),(⟨#[]⟩:ByteArray))))))))
def outT (d y:tTxn.D):tTxn.D:=(y.1,(y.2.1,(y.2.2.1,(y.2.2.2.1,(y.2.2.2.2.1,(y.2.2.2.2.2.1,((y.2.2.2.2.2.2.1||vbl y d),y.2.2.2.2.2.2.2)))))))
def vsu (b:tBase.D)(t:tTxn.D):Int:=if IntKind.wrap .i64 (t.1+1)>b.2.2.2.2 then IntKind.wrap .i64 (t.1+1)else b.2.2.2.2
def vbh (b:tBase.D)(t:tTxn.D):List tTxn.D:=(b.2.2.1.filter (fun x=>!(x.1==t.1))).map (outT (vd1 b t))
def vaq (b:tBase.D)(t:tTxn.D):tBase.D:=(va9 b.1 t.2.2.2.2.2.1 (IntKind.wrap .i64 (b.2.2.2.1+1)),(b.2.1++[vd1 b t],(vbh b t,(IntKind.wrap .i64 (b.2.2.2.1+1),vsu b t))))
theorem wq0 (b:tBase.D){t:tTxn.D}(ht:tTxn.wt t≤1048576):tTxn.wt (vd1 b t)≤1048576:=by
 rw [wf7]at ht ⊢
 unfold vd1
 have:(⟨#[]⟩:ByteArray).size=0:=rfl
 simp only at *
 omega
theorem v5v {d:tTxn.D}(hd:tTxn.wt d≤1048576){N:Nat}(hN:N≤1048576){a2 a3 a4 a5:Int}{a6:Bool}{a7:ByteArray}{a8 a9 a10 a11:Int}{a19:List tVersion.D}{a20 a21:List tTxn.D}{a22:List tVersion.D}{a23:List tTxn.D} :
  ∀(l pre:List tTxn.D) (q:Nat),pre.length+l.length=N→l.length<q→(∀y∈l,tTxn.wt y≤1048576)→∃j:Int,∀K,
   vad vnf q ((N:Int),(pre.length:Int),a2,a3,a4,a5,a6,a7,a8,a9,a10,a11,d.1,d.2.1,d.2.2.1,d.2.2.2.1,d.2.2.2.2.2.2.1,d.2.2.2.2.2.2.2,pre++l,a19,a20,a21,a22,a23,d.2.2.2.2.1,d.2.2.2.2.2.1) K =
    K ((N:Int),j,a2,a3,a4,a5,a6,a7,a8,a9,a10,a11,d.1,d.2.1,d.2.2.1,d.2.2.2.1,d.2.2.2.2.2.2.1,d.2.2.2.2.2.2.2,pre++l.map (outT d),a19,a20,a21,a22,a23,d.2.2.2.2.1,d.2.2.2.2.2.1)
 |_,_,0,_,h,_=>by omega
 |[],pre,q+1,hn,_,_=>⟨_,fun K=>by
   simp only [List.length_nil,Nat.add_zero]at hn
   simp only [vad,vnf,show ¬(pre.length:Int)<(N:Int) by omega,decide_false,cond_false,Sum.elim_inr,List.map_nil];rfl⟩
 |y::l,pre,q+1,hn,hq,hw=>by
  simp only [List.length_cons]at hn hq
  have hy:=hw y (by simp)
  obtain⟨j,hj⟩:=v5v (a2:=a2) (a3:=a3) (a4:=a4) (a5:=a5) (a6:=a6) (a7:=a7) (a8:=a8) (a9:=a9) (a10:=a10) (a11:=a11) (a19:=a19) (a20:=a20) (a21:=a21) (a22:=a22) (a23:=a23) hd hN l (pre++[outT d y]) q (by rw [List.length_append,List.length_singleton];omega) (by omega) (fun z hz=>hw z (by simp [hz]))
  refine⟨j,fun K=>?_⟩
  have hlen:(pre++y::l).length=N:=by rw [List.length_append,List.length_cons];omega
  have hg:(pre++y::l).getD pre.length (Ty.zero tTxn)=y:=by simp [List.getD]
  have hset:∀z,(pre++y::l).set pre.length z=(pre++[z])++l:=fun z=>by simp
  have hw1:IntKind.wrap .i64 ((pre.length:Int)+1)=((pre.length+1:Nat):Int):=vcf (by omega)
  have hpl:∀z:tTxn.D,((pre++[z]).length:Int)=((pre.length+1:Nat):Int):=fun z=>by rw [List.length_append,List.length_singleton]
  rw [hpl]at hj
  simp only [vad,vnf,show (pre.length:Int)<(N:Int) by omega,decide_true,cond_true,hlen,show (0:Int)≤(pre.length:Int) by omega,and_self,if_true,Int.toNat_natCast,hg,hset,hw1,vcz,vl3 hy hd,Sum.elim_inl,List.map_cons]
  unfold outT at hj ⊢
  simp only [List.append_assoc,List.singleton_append]at hj ⊢
  cases ho:y.2.2.2.2.2.2.1 with
  |true=>simp only [ho,Bool.true_or]at hj;simp only [cond_true,hj,Bool.true_or]
  |false=>simp only [ho,Bool.false_or]at hj;simp only [cond_false,hj,Bool.false_or]
theorem wwp {b:tBase.D}(hb:tBase.wt b≤1048576){t:tTxn.D}(ht:tTxn.wt t≤1048576) (k) :
  v59 b t k=k ((vaq b t).2.2.2.1,(vaq b t).2.2.2.2,(vaq b t).1,(vaq b t).2.1,(vaq b t).2.2.1):=by
 have ho:=vyv hb
 obtain⟨w1,w2,w3⟩:=vqg hb
 have hl:=vqa ht
 have hm:b.2.1.length+1≤VE.maxLen:=by have:=ho.2.1.2;have:VE.maxLen=4294967296:=rfl;omega
 have hd:=wq0 b ht
 rw [wn5]
 unfold we6
 obtain⟨s,hs,hk⟩:=ws5 (l:=b.2.2.1) ho.2.2.2 t.1 t.2.1 t.2.2.1 t.2.2.2.1 t.2.2.2.2.2.2.1 t.2.2.2.2.2.2.2
 obtain⟨j,hj⟩:=v5v hd (N:=(b.2.2.1.filter (fun x=>!(x.1==t.1))).length) (Nat.le_trans (List.length_filter_le _ _) ho.2.2.2) (a2:=t.1) (a3:=t.2.1) (a4:=t.2.2.1) (a5:=t.2.2.2.1) (a6:=t.2.2.2.2.2.2.1) (a7:=t.2.2.2.2.2.2.2) (a8:=0) (a9:=0) (a10:=IntKind.wrap .i64 (b.2.2.2.1+1)) (a11:=b.2.2.2.2) (a19:=[]) (a20:=[]) (a21:=[]) (a22:=va9 b.1 t.2.2.2.2.2.1 (IntKind.wrap .i64 (b.2.2.2.1+1))) (a23:=b.2.1) (b.2.2.1.filter (fun x=>!(x.1==t.1))) [] Fuel (by simp) (Nat.lt_of_le_of_lt (Nat.le_trans (List.length_filter_le _ _) ho.2.2.2) (Nat.lt_of_lt_of_le (by omega) vfl)) (fun y hy=>vcj (List.mem_filter.1 hy).1 w3)
 simp only [List.nil_append,List.length_nil,Int.natCast_zero,vd1]at hj
 have key:∀o:Bool,(t.2.2.2.2.2.2.1||b.2.1.any (fun x=>vb5 t x))=o→∀(K:_→Option Res),vd7 (b.1,b.2.1,b.2.2.1,b.2.2.2.1,b.2.2.2.2,t.1,t.2.1,t.2.2.1,t.2.2.2.1,t.2.2.2.2.1,t.2.2.2.2.2.1,t.2.2.2.2.2.2.1,t.2.2.2.2.2.2.2,0,0,b.2.2.2.1,b.2.2.2.2,t.1,3,t.2.2.1,IntKind.wrap .i64 (b.2.2.2.1+1),o,(⟨#[]⟩:ByteArray),b.1,b.2.1,b.2.2.1,t.2.2.2.2.1,t.2.2.2.2.2.1) K =
   K (t.1,t.2.1,t.2.2.1,t.2.2.2.1,t.2.2.2.2.2.2.1,t.2.2.2.2.2.2.2,IntKind.wrap .i64 (b.2.2.2.1+1),vsu b t,IntKind.wrap .i64 (b.2.2.2.1+1),vsu b t,t.1,3,t.2.2.1,IntKind.wrap .i64 (b.2.2.2.1+1),o,(⟨#[]⟩:ByteArray),(vaq b t).1,(vaq b t).2.1,(vaq b t).2.2.1):=fun o hO K=>by
  simp only [hO]at hj
  simp only [vd7,ww9 ho.1 hl.2,vgw,hk,vaq,vbh,vd1,hO,vsu]
  rcases hs with rfl|rfl<;>simp only [Sum.elim_inl,Sum.elim_inr,hj,List.length_singleton,if_pos hm]
 cases hO:t.2.2.2.2.2.2.1 with
 |true=>
  have k1:=key true (by rw [hO];rfl)
  rw [hO]at k1
  simp only [vwy ho,vkr hl.1 hl.2,cond_true,k1,hO]
  rfl
 |false=>
  have k1:=key (b.2.1.any (fun x=>vb5 t x)) (by rw [hO];rfl)
  rw [hO]at k1
  simp only [vwy ho,vkr hl.1 hl.2,cond_false,v9i ht w2,k1,hO]
  rfl
end
end Go.VE
/- Plain laws: who is made ready. -/
namespace Go.VE
noncomputable section
set_option linter.unusedVariables false
set_option linter.unusedSimpArgs false
set_option maxRecDepth 100000
def rdyT (b:tBase.D)(t:tTxn.D)(c:ByteArray):tTxn.D:=(t.1,((2:Int),(t.2.2.1,(t.2.2.2.1,(t.2.2.2.2.1,(t.2.2.2.2.2.1,((t.2.2.2.2.2.2.1||b.2.1.any (fun x=>vb5 t x)),c)))))))
def vdl (b:tBase.D)(t:tTxn.D)(c:ByteArray):List tTxn.D:=((b.2.2.1.filter (fun x=>vaf x.2.2.2.2.2.2.2 c))++[rdyT b t c])++b.2.2.1.filter (fun x=>!(vaf x.2.2.2.2.2.2.2 c))
def vds (b:tBase.D)(t:tTxn.D)(c:ByteArray):tBase.D:=(b.1,(b.2.1,(vdl b t c,(b.2.2.2.1,vsu b t))))
theorem vsx {c:ByteArray} {u3 u4 u5 u6 u7 u8 u9 u10 u11 u12 u13 u14 u15 u16 u17 u18 u19 u20 u23 u25 u26 u27 u28 u29 u30 u31}:∀(l a1 a2:List tTxn.D) (dd:List Nat) (i:Nat),inD 0 i dd→a1.length+l.length≤1048576→a2.length+l.length≤1048576→
  ∃(j:Int) (dd':List Nat),∀K,vim c u3 u4 u5 u6 u7 u8 u9 u10 u11 u12 u13 u14 u15 u16 u17 u18 u19 u20 u23 u25 u26 u27 u28 u29 u30 u31 l a1 a2 dd i K=K (j,a1++l.filter (fun x=>vaf x.2.2.2.2.2.2.2 c),a2++l.filter (fun x=>!(vaf x.2.2.2.2.2.2.2 c)),dd')
 |[],a1,a2,dd,i,_,_,_=>⟨_,dd,fun K=>by simp only [vim,List.filter_nil,List.append_nil];rfl⟩
 |y::l,a1,a2,dd,i,hd,h1,h2=>by
  simp only [List.length_cons]at h1 h2
  have hh:hasD dd i=false:=wak hd
  have hd':inD 0 (i+1) (i::i::dd):=fun d hm=>by
   simp only [List.mem_cons]at hm
   rcases hm with rfl|rfl|hm
   ·omega
   ·omega
   ·have:=hd d hm;omega
  have hmx:VE.maxLen=4294967296:=rfl
  cases hs:vaf y.2.2.2.2.2.2.2 c with
  |true=>
   obtain⟨j,dd',hj⟩:=vsx (c:=c) (u3:=u3) (u4:=u4) (u5:=u5) (u6:=u6) (u7:=u7) (u8:=u8) (u9:=u9) (u10:=u10) (u11:=u11) (u12:=u12) (u13:=u13) (u14:=u14) (u15:=u15) (u16:=u16) (u17:=u17) (u18:=u18) (u19:=u19) (u20:=u20) (u23:=u23) (u25:=u25) (u26:=u26) (u27:=u27) (u28:=u28) (u29:=u29) (u30:=u30) (u31:=u31) l (a1++[y]) a2 (i::i::dd) (i+1) hd' (by rw [List.length_append,List.length_singleton];omega) (by omega)
   refine⟨j,dd',fun K=>?_⟩
   have hm:a1.length+[y].length≤VE.maxLen:=by rw [List.length_singleton];omega
   simp only [vim,Int.toNat_natCast,hh,cond_false,hs,cond_true,if_pos hm,hj,List.filter_cons,if_true,Bool.not_true,Bool.false_eq_true,if_false,List.append_assoc,List.singleton_append]
  |false=>
   obtain⟨j,dd',hj⟩:=vsx (c:=c) (u3:=u3) (u4:=u4) (u5:=u5) (u6:=u6) (u7:=u7) (u8:=u8) (u9:=u9) (u10:=u10) (u11:=u11) (u12:=u12) (u13:=u13) (u14:=u14) (u15:=u15) (u16:=u16) (u17:=u17) (u18:=u18) (u19:=u19) (u20:=u20) (u23:=u23) (u25:=u25) (u26:=u26) (u27:=u27) (u28:=u28) (u29:=u29) (u30:=u30) (u31:=u31) l a1 (a2++[y]) (i::i::dd) (i+1) hd' (by omega) (by rw [List.length_append,List.length_singleton];omega)
   refine⟨j,dd',fun K=>?_⟩
   have hm:a2.length+[y].length≤VE.maxLen:=by rw [List.length_singleton];omega
   simp only [vim,Int.toNat_natCast,hh,cond_false,hs,if_pos hm,hj,List.filter_cons,if_true,Bool.not_false,Bool.false_eq_true,if_false,List.append_assoc,List.singleton_append]
theorem wv9 {b:tBase.D}(hb:tBase.wt b≤1048576){t:tTxn.D}(ht:tTxn.wt t≤1048576)(c:ByteArray) (k) :
  v00 b t c k=k (b.2.2.2.1,vsu b t,b.1,b.2.1,vdl b t c):=by
 have ho:=vyv hb
 obtain⟨w1,w2,w3⟩:=vqg hb
 have hl:=vqa ht
 have hmx:VE.maxLen=4294967296:=rfl
 have hlr:=ho.2.2.2
 have g1:=List.length_filter_le (fun x:tTxn.D=>vaf x.2.2.2.2.2.2.2 c) b.2.2.1
 have g2:=List.length_filter_le (fun x:tTxn.D=>!(vaf x.2.2.2.2.2.2.2 c)) b.2.2.1
 have hm:(b.2.2.1.filter (fun x=>vaf x.2.2.2.2.2.2.2 c)).length+1≤VE.maxLen:=by omega
 have hm2:∀z:tTxn.D,(b.2.2.1.filter (fun x=>vaf x.2.2.2.2.2.2.2 c)++[z]).length+(b.2.2.1.filter (fun x=>!(vaf x.2.2.2.2.2.2.2 c))).length≤VE.maxLen:=fun z=>by rw [List.length_append,List.length_singleton];omega
 rw [wze]
 unfold wi2
 have key:∀o:Bool,(t.2.2.2.2.2.2.1||b.2.1.any (fun x=>vb5 t x))=o→∀(K:_→Option Res),vc5 (c,t.1,t.2.1,t.2.2.1,t.2.2.2.1,t.2.2.2.2.1,t.2.2.2.2.2.1,t.2.2.2.2.2.2.1,t.2.2.2.2.2.2.2,0,0,b.2.2.2.1,b.2.2.2.2,t.1,2,t.2.2.1,t.2.2.2.1,o,c,[],[],[],b.1,b.2.1,b.2.2.1,t.2.2.2.2.1,t.2.2.2.2.2.1) K =
   vfi c t.1 t.2.1 t.2.2.1 t.2.2.2.1 t.2.2.2.2.1 t.2.2.2.2.2.1 t.2.2.2.2.2.2.1 t.2.2.2.2.2.2.2 0 0 b.2.2.2.1 b.2.2.2.2 t.1 2 t.2.2.1 t.2.2.2.1 o c [] [] [] b.1 b.2.1 b.2.2.1 t.2.2.2.2.1 t.2.2.2.2.2.1 (fun z=>K (c,t.1,t.2.1,t.2.2.1,t.2.2.2.1,t.2.2.2.2.1,t.2.2.2.2.2.1,t.2.2.2.2.2.2.1,t.2.2.2.2.2.2.2,b.2.2.2.1,z.1,b.2.2.2.1,z.2.1,t.1,2,t.2.2.1,t.2.2.2.1,o,c,b.1,b.2.1,z.2.2)):=fun o hO K=>vy8 (by omega)
 have key2:∀o:Bool,(t.2.2.2.2.2.2.1||b.2.1.any (fun x=>vb5 t x))=o→∀(K:Int×Int×List dTxn→Option Res),vfi c t.1 t.2.1 t.2.2.1 t.2.2.2.1 t.2.2.2.2.1 t.2.2.2.2.2.1 t.2.2.2.2.2.2.1 t.2.2.2.2.2.2.2 0 0 b.2.2.2.1 b.2.2.2.2 t.1 2 t.2.2.1 t.2.2.2.1 o c [] [] [] b.1 b.2.1 b.2.2.1 t.2.2.2.2.1 t.2.2.2.2.2.1 K =
   K (vsu b t,vsu b t,vdl b t c):=fun o hO K=>by
  unfold vfi
  obtain⟨j,dd,hj⟩:=vsx (c:=c) (u3:=t.1) (u4:=t.2.1) (u5:=t.2.2.1) (u6:=t.2.2.2.1) (u7:=t.2.2.2.2.1) (u8:=t.2.2.2.2.2.1) (u9:=t.2.2.2.2.2.2.1) (u10:=t.2.2.2.2.2.2.2) (u11:=0) (u12:=0) (u13:=b.2.2.2.1) (u14:=b.2.2.2.2) (u15:=t.1) (u16:=2) (u17:=t.2.2.1) (u18:=t.2.2.2.1) (u19:=o) (u20:=c) (u23:=b.2.2.1) (u25:=[]) (u26:=[]) (u27:=[]) (u28:=b.1) (u29:=b.2.1) (u30:=t.2.2.2.2.1) (u31:=t.2.2.2.2.2.1) b.2.2.1 [] [] [] 0 (fun d hd=>by cases hd) (by simpa using hlr) (by simpa using hlr)
  simp only [hj,List.nil_append,List.length_singleton,if_pos hm,if_pos (hm2 _),vsu,vdl,rdyT,hO]
 cases hO:t.2.2.2.2.2.2.1 with
 |true=>
  have k1:=key true (by rw [hO];rfl)
  have k2:=key2 true (by rw [hO];rfl)
  rw [hO]at k1 k2
  simp only [vwy ho,vkr hl.1 hl.2,cond_true,k1,k2,hO]
 |false=>
  have k1:=key (b.2.1.any (fun x=>vb5 t x)) (by rw [hO];rfl)
  have k2:=key2 (b.2.1.any (fun x=>vb5 t x)) (by rw [hO];rfl)
  rw [hO]at k1 k2
  simp only [vwy ho,vkr hl.1 hl.2,cond_false,v9i ht w2,k1,k2,hO]
end
end Go.VE
/- Plain laws: a record played on a base. -/
namespace Go.VE
noncomputable section
set_option linter.unusedVariables false
set_option linter.unusedSimpArgs false
set_option maxRecDepth 100000
def veg (b:tBase.D)(c:ByteArray):Int:=atF (fun x=>va3 x.2.2.2.2.2.2.2 c) b.2.2.1 0
end
end Go.VE
/- Plain laws: judged,let through,made ready,in an engine. -/
namespace Go.VE
noncomputable section
set_option linter.unusedVariables false
set_option linter.unusedSimpArgs false
set_option maxRecDepth 100000
def vrx (e:tEngine.D):List tTxn.D:=e.1.2.1++e.1.2.2.1
def wsh (b:tBase.D):Bool:=decide ((b.2.1.length:Int)≥12)||decide ((b.1.length:Int)>100)||decide (b.2.2.2.1≥9999)
def vc2 (e:tEngine.D)(c:Int):tTxn.D:=rd (Ty.zero tTxn) e.2 (vc8 e c)
def vcy (e:tEngine.D)(c:Int):Int:=
 bif (vrx e).any (fun x=>va1 (vc2 e c) x)then 4 else bif vbr (vc2 e c) (vrx e)then 5 else bif wsh e.1 then 3 else 0
theorem wda {e:tEngine.D}(h:tEngine.wt e≤1048576):(Ty.slice tTxn).wt (vrx e)≤1048576:=by
 have hE:=vjo e
 have hB:=v7f e.1
 have key:∀a b:List tTxn.D,(Ty.slice tTxn).wt (a++b)=(Ty.slice tTxn).wt a+(Ty.slice tTxn).wt b:=fun a b=>by
  induction a with
  |nil=>rw [Ty.wt_slice,Ty.wt_slice,Ty.wt_slice];simp [wtL]
  |cons y a ih=>rw [Ty.wt_slice]at *;simp only [List.cons_append,List.length_cons,wtL];rw [Ty.wt_slice]at *;simp only [List.length_cons,wtL];omega
 unfold vrx
 rw [key]
 omega
theorem vuu {e:tEngine.D}(h:OkE e)(f:List tTxn.D→Option Res):vt1 e (Sum.elim f f)=f (vrx e):=by
 rw [wkl]
 unfold wem
 simp only [Sum.elim_inl,Sum.elim_inr]
 exact wpl (by have:=h.1.2.1.2;omega) (by have:=h.1.2.2.2;omega) f
theorem wxz (b:tBase.D) (k):vtl b k=k (wsh b):=by
 rw [wna]
 unfold wcd wsh
 cases decide ((b.2.1.length:Int)≥12)<;>cases decide ((b.1.length:Int)>100)<;>rfl
theorem v3c {e:tEngine.D}{c:Int}(h:¬vc8 e c<0):(0≤vc8 e c∧vc8 e c<(e.2.length:Int))∧∃a:Nat,e.2[a]? = some (vc2 e c):=by
 rcases vp3 e c with hp|⟨a,t,hp,hlt,ht,hr⟩
 ·rw [hp]at h;omega
 ·refine⟨by rw [hp];omega,a,?_⟩
  unfold vc2
  rw [hp,hr]
  exact ht
theorem v4z {e:tEngine.D}(h:tEngine.wt e≤1048576){c:Int}(hc:¬vc8 e c<0):tTxn.wt (vc2 e c)≤1048576:=by
 have hE:=vjo e
 obtain⟨_,a,ha⟩:=v3c hc
 exact vcj (T:=tTxn) (List.mem_of_getElem? ha) (by omega)
theorem vs7 {e:tEngine.D}(h:tEngine.wt e≤1048576){c:Int}(hc:¬vc8 e c<0) (k):v1x e c k=k (vcy e c):=by
 have ho:=v1p h
 have hp:=wda h
 have ht:=v4z h hc
 have hi:=(v3c hc).1
 rw [wm4]
 unfold wd4 vcy
 simp only [vly e c ho.2.2,show atF (fun x:tTxn.D=>x.1==c) e.2 0=vc8 e c from rfl,decide_eq_false hc,cond_false,if_pos hi,show rd (Ty.zero tTxn) e.2 (vc8 e c)=vc2 e c from rfl]
 rw [vuu ho,wxh ht hp]
 cases (vrx e).any fun x=>va1 (vc2 e c) x with
 |true=>simp only [cond_true]
 |false=>
  simp only [cond_false]
  rw [vuu ho,wmr ht hp]
  cases vbr (vc2 e c) (vrx e)with
  |true=>simp only [cond_true]
  |false=>
   simp only [cond_false,wxz]
   cases wsh e.1<;>simp only [cond_true,cond_false]
def vca (e:tEngine.D)(c:Int):Int×tEngine.D:=
 bif vcy e c==0 then(0,(vd9 (vaq e.1 (vc2 e c)) (outB e c),outB e c))else(vcy e c,vc0 e c)
def vfo (e:tEngine.D)(c:Int):Int:=
 bif vcy e c==0 then(bif vah (vc2 e c) (vrx e)then 5 else bif decide ((e.1.2.2.1.length:Int)≥3)then 3 else 0)else vcy e c
def vfu (e:tEngine.D)(c:Int)(s:ByteArray):Int×tEngine.D:=
 bif vfo e c==0 then(0,(vd9 (vds e.1 (vc2 e c) s) (outB e c),outB e c))else(vfo e c,vc0 e c)
def outQ (r:Int×tEngine.D)(kd:Int)(t:tTxn.D):Int×Int×Int×Int×Int×Int×Int×Bool×ByteArray×ByteArray×Bool×Int×Int×Int×(List vak)×(List dTxn)×(List dTxn)×(List dTxn)×(List vb6)×(List vbt):=
 (r.2.1.2.2.2.1,r.2.1.2.2.2.2,kd,t.1,t.2.1,t.2.2.1,t.2.2.2.1,t.2.2.2.2.2.2.1,t.2.2.2.2.2.2.2,(⟨#[]⟩:ByteArray),false,0,0,r.1,r.2.1.1,r.2.1.2.1,r.2.1.2.2.1,r.2.2,t.2.2.2.2.1,t.2.2.2.2.2.1)
def zTx:tTxn.D:=((0:Int),((0:Int),((0:Int),((0:Int),(([]:List vb6),(([]:List vbt),(false,(⟨#[]⟩:ByteArray))))))))
theorem wpc {e:tEngine.D}(h:tEngine.wt e≤1048576){c:Int}(hc:¬vc8 e c<0)(hx:tBase.wt (vaq e.1 (vc2 e c))≤1048576):∃kd t,∀k,vr4 e c k=k (outQ (vca e c) kd t):=by
 have ho:=v1p h
 have ht:=v4z h hc
 have hi:=(v3c hc).1
 have hb:tBase.wt e.1≤1048576:=by have:=vjo e;omega
 have hox:=vyv hx
 have hlo:(outB e c).length≤1048576:=Nat.le_trans (v2w e c) ho.2.2
 have hlt:=v3m ht
 unfold vca
 cases hj:vcy e c==0 with
 |false=>
  refine⟨0,zTx,fun k=>?_⟩
  rw [wcr]
  unfold v7y
  simp only [vs7 h hc,bne,hj,Bool.not_false,cond_true,cond_false,wci ho hc,outQ,zTx]
  rfl
 |true=>
  have hlen:(vaq e.1 (vc2 e c)).2.1.length=e.1.2.1.length+1:=by show (e.1.2.1++[vd1 e.1 (vc2 e c)]).length=_;rw [List.length_append,List.length_singleton]
  have hl1:=hox.2.1.2
  have hw:IntKind.wrap .i64 (((vaq e.1 (vc2 e c)).2.1.length:Int)-1)=((e.1.2.1.length:Nat):Int):=by rw [hlen,vff (by omega) (by omega)];omega
  have hg:(vaq e.1 (vc2 e c)).2.1.getD e.1.2.1.length (Ty.zero tTxn)=vd1 e.1 (vc2 e c):=by show (e.1.2.1++[vd1 e.1 (vc2 e c)]).getD _ _=_;simp [List.getD]
  refine⟨1,vd1 e.1 (vc2 e c),fun k=>?_⟩
  rw [wcr]
  unfold v7y
  simp only [vs7 h hc,bne,hj,Bool.not_true,cond_false,cond_true,vly e c ho.2.2,show atF (fun x:tTxn.D=>x.1==c) e.2 0=vc8 e c from rfl,if_pos hi,v9x ho,vcz,show rd (Ty.zero tTxn) e.2 (vc8 e c)=vc2 e c from rfl,
   wwp hb ht,hw,show (0:Int)≤((e.1.2.1.length:Nat):Int) by omega,show ((e.1.2.1.length:Nat):Int)<((vaq e.1 (vc2 e c)).2.1.length:Int) by rw [hlen];omega,and_self,if_true,Int.toNat_natCast,hg,
   vkr (t:=vd1 e.1 (vc2 e c)) hlt.1 hlt.2,v9d hox hlo,outQ]
  rfl
theorem wxp (b:tBase.D)(t:tTxn.D)(s:ByteArray):∃(a:Nat) (ha:a<(vdl b t s).length),veg (vds b t s) s=(a:Int)∧(vdl b t s).getD a (Ty.zero tTxn)=(vdl b t s)[a]:=by
 rcases v77 (fun x=>va3 x.2.2.2.2.2.2.2 s) (vdl b t s) 0 with⟨_,hn⟩|⟨a,ha,h,_⟩
 ·have hm:rdyT b t s∈vdl b t s:=by unfold vdl;simp
  have:=hn _ hm
  simp only [rdyT,vsr]at this
  cases this
 ·exact⟨a,ha,by rw [show veg (vds b t s) s=_ from h];omega,by simp [List.getD,List.getElem?_eq_getElem ha]⟩
theorem wj4 {e:tEngine.D}(h:tEngine.wt e≤1048576){c:Int}(hc:¬vc8 e c<0){s:ByteArray}(hs:vgg s=true)(hr:veg e.1 s<0)(hx:tBase.wt (vds e.1 (vc2 e c) s)≤1048576) :
  ∃kd t,∀k,vpd e c s k=k (outQ (vfu e c s) kd t):=by
 have ho:=v1p h
 have ht:=v4z h hc
 have hp:=wda h
 have hi:=(v3c hc).1
 have hb:tBase.wt e.1≤1048576:=by have:=vjo e;omega
 have hox:=vyv hx
 have hlo:(outB e c).length≤1048576:=Nat.le_trans (v2w e c) ho.2.2
 have hks:=vg1 hs
 have hR:∀k,vtj e.1 s k=k (veg e.1 s):=fun k=>wnu e.1 _ ho.1.2.2.2 k
 have hrn:decide (veg e.1 s≥0)=false:=decide_eq_false (by omega)
 obtain⟨a,ha,hra,hga⟩:=wxp e.1 (vc2 e c) s
 have hR2:∀k,vtj (e.1.1,(e.1.2.1,(vdl e.1 (vc2 e c) s,(e.1.2.2.2.1,vsu e.1 (vc2 e c))))) s k=k (a:Int):=fun k=>by
  rw [←hra];exact wnu (vds e.1 (vc2 e c) s) _ hox.2.2.2 k
 have hT:∀k,vtp (e.1.1,(e.1.2.1,(vdl e.1 (vc2 e c) s,(e.1.2.2.2.1,vsu e.1 (vc2 e c))))) (outB e c) k=k (e.1.2.2.2.1,vsu e.1 (vc2 e c),(vd9 (vds e.1 (vc2 e c) s) (outB e c)).1,(vd9 (vds e.1 (vc2 e c) s) (outB e c)).2.1,vdl e.1 (vc2 e c) s):=fun k=>v9d (b:=vds e.1 (vc2 e c) s) hox hlo k
 have hma:=hox.2.2.1 _ (List.getElem_mem (l:=vdl e.1 (vc2 e c) s) ha)
 have hia:(0:Int)≤(a:Int)∧(a:Int)<((vdl e.1 (vc2 e c) s).length:Int):=by omega
 unfold vfu vfo
 have fin:∀(q:Int) (hq:(q==0)=false),∃(kd:Int) (t:tTxn.D),∀k:_→Option Res,vc4 (c,s,0,vc8 e c,q,e.1.1,e.1.2.1,e.1.2.2.1,e.1.2.2.2.1,e.1.2.2.2.2,e.2,0,0,0,0,0,0,0,false,(⟨#[]⟩:ByteArray),(⟨#[]⟩:ByteArray),false,0,0,[],[],[],[],[],[]) k =
   k (c,s,q,vc8 e c,q,e.1.1,e.1.2.1,e.1.2.2.1,e.1.2.2.2.1,e.1.2.2.2.2,e.2,(outQ (q,vc0 e c) kd t).1,(outQ (q,vc0 e c) kd t).2.1,kd,t.1,t.2.1,t.2.2.1,t.2.2.2.1,t.2.2.2.2.2.2.1,t.2.2.2.2.2.2.2,(⟨#[]⟩:ByteArray),false,0,0,(vc0 e c).1.1,(vc0 e c).1.2.1,e.1.2.2.1,outB e c,t.2.2.2.2.1,t.2.2.2.2.2.1):=fun q hq=>by
  refine⟨0,zTx,fun k=>?_⟩
  simp only [vc4,bne,hq,Bool.not_false,cond_true,vcz,wci ho hc,outQ,zTx]
  rfl
 have suc:∃(kd:Int) (t:tTxn.D),∀k:_→Option Res,vc4 (c,s,0,vc8 e c,0,e.1.1,e.1.2.1,e.1.2.2.1,e.1.2.2.2.1,e.1.2.2.2.2,e.2,0,0,0,0,0,0,0,false,(⟨#[]⟩:ByteArray),(⟨#[]⟩:ByteArray),false,0,0,[],[],[],[],[],[]) k =
   k (c,s,0,vc8 e c,0,e.1.1,e.1.2.1,e.1.2.2.1,e.1.2.2.2.1,e.1.2.2.2.2,e.2,e.1.2.2.2.1,vsu e.1 (vc2 e c),kd,t.1,t.2.1,t.2.2.1,t.2.2.2.1,t.2.2.2.2.2.2.1,t.2.2.2.2.2.2.2,(⟨#[]⟩:ByteArray),false,0,0,(vd9 (vds e.1 (vc2 e c) s) (outB e c)).1,(vd9 (vds e.1 (vc2 e c) s) (outB e c)).2.1,vdl e.1 (vc2 e c) s,outB e c,t.2.2.2.2.1,t.2.2.2.2.2.1):=by
  refine⟨2,(vdl e.1 (vc2 e c) s)[a],fun k=>?_⟩
  simp only [vc4,bne_self_eq_false,cond_false,vcz,v9x ho,if_pos hi,show rd (Ty.zero tTxn) e.2 (vc8 e c)=vc2 e c from rfl,wv9 hb ht,hR2,if_pos hia,Int.toNat_natCast,hga,vkr hma.1 hma.2,hT]
 have q5:((5:Int)==0)=false:=rfl
 have q3:((3:Int)==0)=false:=rfl
 cases hj:vcy e c==0 with
 |false=>
  obtain⟨kd,t,hf⟩:=fin (vcy e c) hj
  refine⟨kd,t,fun k=>?_⟩
  rw [v0u]
  unfold vwq
  simp only [vly e c ho.2.2,show atF (fun x:tTxn.D=>x.1==c) e.2 0=vc8 e c from rfl,decide_eq_false hc,cond_false,vkf (show s.size≤1048576 by omega),hs,Bool.not_true,hR,hrn,vs7 h hc,if_pos hi,show rd (Ty.zero tTxn) e.2 (vc8 e c)=vc2 e c from rfl,hj,cond_true]
  simp only [cond_false,vb9,hj,hf,outQ]
  rfl
 |true=>
  have hj0:vcy e c=0:=eq_of_beq hj
  cases hd:vah (vc2 e c) (vrx e)with
  |true=>
   obtain⟨kd,t,hf⟩:=fin 5 q5
   refine⟨kd,t,fun k=>?_⟩
   rw [v0u]
   unfold vwq
   simp only [vly e c ho.2.2,show atF (fun x:tTxn.D=>x.1==c) e.2 0=vc8 e c from rfl,decide_eq_false hc,cond_false,vkf (show s.size≤1048576 by omega),hs,Bool.not_true,hR,hrn,vs7 h hc,if_pos hi,show rd (Ty.zero tTxn) e.2 (vc8 e c)=vc2 e c from rfl,hj,cond_true]
   rw [vuu ho,v9h ht hp,hd]
   simp only [cond_true,cond_false,q5,vb9,hf,outQ]
   rfl
  |false=>
   cases h3:decide ((e.1.2.2.1.length:Int)≥3)with
   |true=>
    obtain⟨kd,t,hf⟩:=fin 3 q3
    refine⟨kd,t,fun k=>?_⟩
    rw [v0u]
    unfold vwq
    simp only [vly e c ho.2.2,show atF (fun x:tTxn.D=>x.1==c) e.2 0=vc8 e c from rfl,decide_eq_false hc,cond_false,vkf (show s.size≤1048576 by omega),hs,Bool.not_true,hR,hrn,vs7 h hc,if_pos hi,show rd (Ty.zero tTxn) e.2 (vc8 e c)=vc2 e c from rfl,hj,cond_true]
    rw [vuu ho,v9h ht hp,hd]
    simp only [cond_true,cond_false,q3,vb9,hj0,beq_self_eq_true,h3,hf,outQ]
    rfl
   |false=>
    obtain⟨kd,t,hf⟩:=suc
    refine⟨kd,t,fun k=>?_⟩
    rw [v0u]
    unfold vwq
    simp only [vly e c ho.2.2,show atF (fun x:tTxn.D=>x.1==c) e.2 0=vc8 e c from rfl,decide_eq_false hc,cond_false,vkf (show s.size≤1048576 by omega),hs,Bool.not_true,hR,hrn,vs7 h hc,if_pos hi,show rd (Ty.zero tTxn) e.2 (vc8 e c)=vc2 e c from rfl,hj,cond_true]
    rw [vuu ho,v9h ht hp,hd]
    simp only [cond_true,cond_false,vb9,hj0,beq_self_eq_true,h3,hf,outQ]
    rfl
end
end Go.VE
/- Plain laws: two engines' ways,computed. -/
namespace Go.VE
noncomputable section
set_option linter.unusedVariables false
set_option linter.unusedSimpArgs false
set_option maxRecDepth 100000
def cEq (x y:ByteArray):Bool:=decide (x.data.toList=y.data.toList)
def w2f (x y:ByteArray):Bool:=Op.bytesLess x.data.toList y.data.toList
theorem vfm:va3=cEq:=by
 funext x y
 rw [vh1,ByteArray.toList_eq,ByteArray.toList_eq]
 unfold cEq
 by_cases h:x.data.toList=y.data.toList
 ·rw [decide_eq_true h,h,beq_self_eq_true]
 ·rw [decide_eq_false h,beq_eq_false_iff_ne.2 h]
theorem vdu:vaf=w2f:=by
 funext x y
 rw [vf2,ByteArray.toList_eq,ByteArray.toList_eq]
 rfl
def bA:ByteArray:=⟨#[97]⟩
def bB:ByteArray:=⟨#[98]⟩
def bV:ByteArray:=⟨#[118]⟩
def nT (i:Int)(r:List tRange.D)(w:List tWrite.D):tTxn.D:=(i,((1:Int),((0:Int),((0:Int),(r,(w,(false,(⟨#[]⟩:ByteArray))))))))
def eN (n:Int)(l:List tTxn.D):tEngine.D:=((([]:List tVersion.D),(([]:List tTxn.D),(([]:List tTxn.D),((0:Int),n)))),l)
theorem wji:vc7 (eN 1 [])=((2,1,0),[nT 1 [] []]):=by
 delta insV vbb trimF._f vbe vav vc0 va9 putB vb2 openAll dB vbr openAll._f vas vaq trimF vds vbk vat readyFrom._f vca vd1 vax vd9 pastFrom._f pastFrom vfo rdyT dC vb7 outT vb5 ven va8 va7 vcb vfu vf5 va1 vcy dA versFrom._f versFrom vaj Ty.eqB cntK vdl vaw dF vdh dE lastAtF._f vbn writesFrom leV vao lastAtF writesFrom._f Ty.eqB._f va0 vbh veg readyFrom vec vah vc7 dG vau mayB vbl
 repeat delta insV vbb trimF._f vbe vav vc0 va9 putB vb2 openAll dB vbr openAll._f vas vaq trimF vds vbk vat readyFrom._f vca vd1 vax vd9 pastFrom._f pastFrom vfo rdyT dC vb7 outT vb5 ven va8 va7 vcb vfu vf5 va1 vcy dA versFrom._f versFrom vaj Ty.eqB cntK vdl vaw dF vdh dE lastAtF._f vbn writesFrom leV vao lastAtF writesFrom._f Ty.eqB._f va0 vbh veg readyFrom vec vah vc7 dG vau mayB vbl
 rw [vfm,vdu]
 kernel_rfl
theorem wmh:vc7 (eN 2 [nT 1 [] []])=((3,2,0),[nT 1 [] [],nT 2 [] []]):=by
 delta insV vbb trimF._f vbe vav vc0 va9 putB vb2 openAll dB vbr openAll._f vas vaq trimF vds vbk vat readyFrom._f vca vd1 vax vd9 pastFrom._f pastFrom vfo rdyT dC vb7 outT vb5 ven va8 va7 vcb vfu vf5 va1 vcy dA versFrom._f versFrom vaj Ty.eqB cntK vdl vaw dF vdh dE lastAtF._f vbn writesFrom leV vao lastAtF writesFrom._f Ty.eqB._f va0 vbh veg readyFrom vec vah vc7 dG vau mayB vbl
 repeat delta insV vbb trimF._f vbe vav vc0 va9 putB vb2 openAll dB vbr openAll._f vas vaq trimF vds vbk vat readyFrom._f vca vd1 vax vd9 pastFrom._f pastFrom vfo rdyT dC vb7 outT vb5 ven va8 va7 vcb vfu vf5 va1 vcy dA versFrom._f versFrom vaj Ty.eqB cntK vdl vaw dF vdh dE lastAtF._f vbn writesFrom leV vao lastAtF writesFrom._f Ty.eqB._f va0 vbh veg readyFrom vec vah vc7 dG vau mayB vbl
 rw [vfm,vdu]
 kernel_rfl
def w1:tWrite.D:=(bA,(bV,false))
def w2:tWrite.D:=(bB,(bV,false))
def r1:tRange.D:=(bB,bB)
def r2:tRange.D:=(bA,bA)
theorem www:(vbk (eN 3 [nT 1 [] [],nT 2 [] []]) 1 bB).2=[nT 1 [r1] [],nT 2 [] []]:=by
 delta insV vbb trimF._f vbe vav vc0 va9 putB vb2 openAll dB vbr openAll._f vas vaq trimF vds vbk vat readyFrom._f vca vd1 vax vd9 pastFrom._f pastFrom vfo rdyT dC vb7 outT vb5 ven va8 va7 vcb vfu vf5 va1 vcy dA versFrom._f versFrom vaj Ty.eqB cntK vdl vaw dF vdh dE lastAtF._f vbn writesFrom leV vao lastAtF writesFrom._f Ty.eqB._f va0 vbh veg readyFrom vec vah vc7 dG vau mayB vbl
 repeat delta insV vbb trimF._f vbe vav vc0 va9 putB vb2 openAll dB vbr openAll._f vas vaq trimF vds vbk vat readyFrom._f vca vd1 vax vd9 pastFrom._f pastFrom vfo rdyT dC vb7 outT vb5 ven va8 va7 vcb vfu vf5 va1 vcy dA versFrom._f versFrom vaj Ty.eqB cntK vdl vaw dF vdh dE lastAtF._f vbn writesFrom leV vao lastAtF writesFrom._f Ty.eqB._f va0 vbh veg readyFrom vec vah vc7 dG vau mayB vbl
 rw [vfm,vdu]
 kernel_rfl
theorem wyv:vb2 (eN 3 [nT 1 [r1] [],nT 2 [] []]) 1 w1=(0,[nT 1 [r1] [w1],nT 2 [] []]):=by
 delta insV vbb trimF._f vbe vav vc0 va9 putB vb2 openAll dB vbr openAll._f vas vaq trimF vds vbk vat readyFrom._f vca vd1 vax vd9 pastFrom._f pastFrom vfo rdyT dC vb7 outT vb5 ven va8 va7 vcb vfu vf5 va1 vcy dA versFrom._f versFrom vaj Ty.eqB cntK vdl vaw dF vdh dE lastAtF._f vbn writesFrom leV vao lastAtF writesFrom._f Ty.eqB._f va0 vbh veg readyFrom vec vah vc7 dG vau mayB vbl
 repeat delta insV vbb trimF._f vbe vav vc0 va9 putB vb2 openAll dB vbr openAll._f vas vaq trimF vds vbk vat readyFrom._f vca vd1 vax vd9 pastFrom._f pastFrom vfo rdyT dC vb7 outT vb5 ven va8 va7 vcb vfu vf5 va1 vcy dA versFrom._f versFrom vaj Ty.eqB cntK vdl vaw dF vdh dE lastAtF._f vbn writesFrom leV vao lastAtF writesFrom._f Ty.eqB._f va0 vbh veg readyFrom vec vah vc7 dG vau mayB vbl
 rw [vfm,vdu]
 kernel_rfl
theorem wv6:(vbk (eN 3 [nT 1 [r1] [w1],nT 2 [] []]) 2 bA).2=[nT 1 [r1] [w1],nT 2 [r2] []]:=by
 delta insV vbb trimF._f vbe vav vc0 va9 putB vb2 openAll dB vbr openAll._f vas vaq trimF vds vbk vat readyFrom._f vca vd1 vax vd9 pastFrom._f pastFrom vfo rdyT dC vb7 outT vb5 ven va8 va7 vcb vfu vf5 va1 vcy dA versFrom._f versFrom vaj Ty.eqB cntK vdl vaw dF vdh dE lastAtF._f vbn writesFrom leV vao lastAtF writesFrom._f Ty.eqB._f va0 vbh veg readyFrom vec vah vc7 dG vau mayB vbl
 repeat delta insV vbb trimF._f vbe vav vc0 va9 putB vb2 openAll dB vbr openAll._f vas vaq trimF vds vbk vat readyFrom._f vca vd1 vax vd9 pastFrom._f pastFrom vfo rdyT dC vb7 outT vb5 ven va8 va7 vcb vfu vf5 va1 vcy dA versFrom._f versFrom vaj Ty.eqB cntK vdl vaw dF vdh dE lastAtF._f vbn writesFrom leV vao lastAtF writesFrom._f Ty.eqB._f va0 vbh veg readyFrom vec vah vc7 dG vau mayB vbl
 rw [vfm,vdu]
 kernel_rfl
theorem wwc:vb2 (eN 3 [nT 1 [r1] [w1],nT 2 [r2] []]) 2 w2=(0,[nT 1 [r1] [w1],nT 2 [r2] [w2]]):=by
 delta insV vbb trimF._f vbe vav vc0 va9 putB vb2 openAll dB vbr openAll._f vas vaq trimF vds vbk vat readyFrom._f vca vd1 vax vd9 pastFrom._f pastFrom vfo rdyT dC vb7 outT vb5 ven va8 va7 vcb vfu vf5 va1 vcy dA versFrom._f versFrom vaj Ty.eqB cntK vdl vaw dF vdh dE lastAtF._f vbn writesFrom leV vao lastAtF writesFrom._f Ty.eqB._f va0 vbh veg readyFrom vec vah vc7 dG vau mayB vbl
 repeat delta insV vbb trimF._f vbe vav vc0 va9 putB vb2 openAll dB vbr openAll._f vas vaq trimF vds vbk vat readyFrom._f vca vd1 vax vd9 pastFrom._f pastFrom vfo rdyT dC vb7 outT vb5 ven va8 va7 vcb vfu vf5 va1 vcy dA versFrom._f versFrom vaj Ty.eqB cntK vdl vaw dF vdh dE lastAtF._f vbn writesFrom leV vao lastAtF writesFrom._f Ty.eqB._f va0 vbh veg readyFrom vec vah vc7 dG vau mayB vbl
 rw [vfm,vdu]
 kernel_rfl
def e6:tEngine.D:=eN 3 [nT 1 [r1] [w1],nT 2 [r2] [w2]]
def bP:ByteArray:=⟨#[112]⟩
def bQ:ByteArray:=⟨#[113]⟩
def goB (e:tEngine.D)(p:Bool)(c:Int)(s:ByteArray):Int×tEngine.D:=bif p then vfu e c s else vca e c
def tOf (f:Bool):tTxn.D:=bif f then nT 2 [r2] [w2]else nT 1 [r1] [w1]
def wOf (f:Bool):tVersion.D:=((bif f then bB else bA),(bV,(false,(1:Int))))
def rOf (f:Bool):tTxn.D:=((bif f then 2 else 1),((2:Int),((0:Int),((0:Int),((bif f then [r2]else [r1]),((bif f then [w2]else [w1]),(false,bP)))))))
def dOf (f:Bool):tTxn.D:=((bif f then 2 else 1),((3:Int),((0:Int),((1:Int),((bif f then [r2]else [r1]),((bif f then [w2]else [w1]),(false,(⟨#[]⟩:ByteArray))))))))
def gE (p f:Bool):tEngine.D:=bif p then((([]:List tVersion.D),(([]:List tTxn.D),([rOf f],((0:Int),(3:Int))))),[tOf (!f)])else(([wOf f],([dOf f],(([]:List tTxn.D),((1:Int),(3:Int))))),[tOf (!f)])
def hE (p f:Bool):tEngine.D:=bif p then((([]:List tVersion.D),(([]:List tTxn.D),([rOf f],((0:Int),(3:Int))))),([]:List tTxn.D))else(([wOf f],(([]:List tTxn.D),(([]:List tTxn.D),((1:Int),(3:Int))))),([]:List tTxn.D))
theorem w2h (p f:Bool):goB e6 p (bif f then 2 else 1) bP=(0,gE p f):=by
 cases p<;>cases f
 all_goals (delta goB insV vbb trimF._f vbe vav vc0 va9 putB vb2 openAll dB vbr openAll._f vas vaq trimF vds vbk vat readyFrom._f vca vd1 vax vd9 pastFrom._f pastFrom vfo rdyT dC vb7 outT vb5 ven va8 va7 vcb vfu vf5 va1 vcy dA versFrom._f versFrom vaj Ty.eqB cntK vdl vaw dF vdh dE lastAtF._f vbn writesFrom leV vao lastAtF writesFrom._f Ty.eqB._f va0 vbh veg readyFrom vec vah vc7 dG vau mayB vbl;(repeat delta insV vbb trimF._f vbe vav vc0 va9 putB vb2 openAll dB vbr openAll._f vas vaq trimF vds vbk vat readyFrom._f vca vd1 vax vd9 pastFrom._f pastFrom vfo rdyT dC vb7 outT vb5 ven va8 va7 vcb vfu vf5 va1 vcy dA versFrom._f versFrom vaj Ty.eqB cntK vdl vaw dF vdh dE lastAtF._f vbn writesFrom leV vao lastAtF writesFrom._f Ty.eqB._f va0 vbh veg readyFrom vec vah vc7 dG vau mayB vbl);rw [vfm,vdu];kernel_rfl)
theorem wzs (p q f:Bool):goB (gE p f) q (bif f then 1 else 2) bQ=(5,hE p f):=by
 cases p<;>cases q<;>cases f
 all_goals (delta goB insV vbb trimF._f vbe vav vc0 va9 putB vb2 openAll dB vbr openAll._f vas vaq trimF vds vbk vat readyFrom._f vca vd1 vax vd9 pastFrom._f pastFrom vfo rdyT dC vb7 outT vb5 ven va8 va7 vcb vfu vf5 va1 vcy dA versFrom._f versFrom vaj Ty.eqB cntK vdl vaw dF vdh dE lastAtF._f vbn writesFrom leV vao lastAtF writesFrom._f Ty.eqB._f va0 vbh veg readyFrom vec vah vc7 dG vau mayB vbl;(repeat delta insV vbb trimF._f vbe vav vc0 va9 putB vb2 openAll dB vbr openAll._f vas vaq trimF vds vbk vat readyFrom._f vca vd1 vax vd9 pastFrom._f pastFrom vfo rdyT dC vb7 outT vb5 ven va8 va7 vcb vfu vf5 va1 vcy dA versFrom._f versFrom vaj Ty.eqB cntK vdl vaw dF vdh dE lastAtF._f vbn writesFrom leV vao lastAtF writesFrom._f Ty.eqB._f va0 vbh veg readyFrom vec vah vc7 dG vau mayB vbl);rw [vfm,vdu];kernel_rfl)
theorem w2l (p f:Bool):vav (hE p f)=true:=by
 cases p<;>cases f
 all_goals (delta goB insV vbb trimF._f vbe vav vc0 va9 putB vb2 openAll dB vbr openAll._f vas vaq trimF vds vbk vat readyFrom._f vca vd1 vax vd9 pastFrom._f pastFrom vfo rdyT dC vb7 outT vb5 ven va8 va7 vcb vfu vf5 va1 vcy dA versFrom._f versFrom vaj Ty.eqB cntK vdl vaw dF vdh dE lastAtF._f vbn writesFrom leV vao lastAtF writesFrom._f Ty.eqB._f va0 vbh veg readyFrom vec vah vc7 dG vau mayB vbl;(repeat delta insV vbb trimF._f vbe vav vc0 va9 putB vb2 openAll dB vbr openAll._f vas vaq trimF vds vbk vat readyFrom._f vca vd1 vax vd9 pastFrom._f pastFrom vfo rdyT dC vb7 outT vb5 ven va8 va7 vcb vfu vf5 va1 vcy dA versFrom._f versFrom vaj Ty.eqB cntK vdl vaw dF vdh dE lastAtF._f vbn writesFrom leV vao lastAtF writesFrom._f Ty.eqB._f va0 vbh veg readyFrom vec vah vc7 dG vau mayB vbl);rw [vfm,vdu];kernel_rfl)
theorem wuy (b:Bool):vgg (bif b then bQ else bP)=true:=by cases b<;>kernel_rfl
theorem wy3:veg e6.1 bP<0:=by
 have h:veg e6.1 bP = -1:=by
  delta insV vbb trimF._f vbe vav vc0 va9 putB vb2 openAll dB vbr openAll._f vas vaq trimF vds vbk vat readyFrom._f vca vd1 vax vd9 pastFrom._f pastFrom vfo rdyT dC vb7 outT vb5 ven va8 va7 vcb vfu vf5 va1 vcy dA versFrom._f versFrom vaj Ty.eqB cntK vdl vaw dF vdh dE lastAtF._f vbn writesFrom leV vao lastAtF writesFrom._f Ty.eqB._f va0 vbh veg readyFrom vec vah vc7 dG vau mayB vbl
  rw [vfm]
  kernel_rfl
 rw [h];decide
theorem wwq (p f:Bool):veg (gE p f).1 bQ<0:=by
 have h:veg (gE p f).1 bQ = -1:=by
  cases p<;>cases f
  all_goals (delta insV vbb trimF._f vbe vav vc0 va9 putB vb2 openAll dB vbr openAll._f vas vaq trimF vds vbk vat readyFrom._f vca vd1 vax vd9 pastFrom._f pastFrom vfo rdyT dC vb7 outT vb5 ven va8 va7 vcb vfu vf5 va1 vcy dA versFrom._f versFrom vaj Ty.eqB cntK vdl vaw dF vdh dE lastAtF._f vbn writesFrom leV vao lastAtF writesFrom._f Ty.eqB._f va0 vbh veg readyFrom vec vah vc7 dG vau mayB vbl;rw [vfm];kernel_rfl)
 rw [h];decide
theorem wcv (f:Bool):¬vc8 e6 (bif f then 2 else 1)<0:=by
 have h:vc8 e6 (bif f then 2 else 1)=bif f then 1 else 0:=by cases f<;>kernel_rfl
 rw [h];cases f<;>decide
theorem wbu (p f:Bool):¬vc8 (gE p f) (bif f then 1 else 2)<0:=by
 have h:vc8 (gE p f) (bif f then 1 else 2)=0:=by cases p<;>cases f<;>kernel_rfl
 rw [h];decide
theorem wt6:tEngine.wt e6≤1048576:=by
 have h:decide (tEngine.wt e6≤1048576)=true:=by kernel_rfl
 exact of_decide_eq_true h
theorem wtg (p f:Bool):tEngine.wt (gE p f)≤1048576:=by
 have h:decide (tEngine.wt (gE p f)≤1048576)=true:=by cases p<;>cases f<;>kernel_rfl
 exact of_decide_eq_true h
theorem wth (p f:Bool):tEngine.wt (hE p f)≤1048576:=by
 have h:decide (tEngine.wt (hE p f)≤1048576)=true:=by cases p<;>cases f<;>kernel_rfl
 exact of_decide_eq_true h
theorem wte (n:Int):tEngine.wt (eN n [])≤1048576∧tEngine.wt (eN n [nT 1 [] []])≤1048576∧tEngine.wt (eN n [nT 1 [] [],nT 2 [] []])≤1048576∧tEngine.wt (eN n [nT 1 [r1] [],nT 2 [] []])≤1048576∧tEngine.wt (eN n [nT 1 [r1] [w1],nT 2 [] []])≤1048576∧tEngine.wt (eN n [nT 1 [r1] [w1],nT 2 [r2] []])≤1048576:=by
 refine⟨?_,?_,?_,?_,?_,?_⟩
 ·have h:decide (tEngine.wt (eN n [])≤1048576)=true:=by kernel_rfl
  exact of_decide_eq_true h
 ·have h:decide (tEngine.wt (eN n [nT 1 [] []])≤1048576)=true:=by kernel_rfl
  exact of_decide_eq_true h
 ·have h:decide (tEngine.wt (eN n [nT 1 [] [],nT 2 [] []])≤1048576)=true:=by kernel_rfl
  exact of_decide_eq_true h
 ·have h:decide (tEngine.wt (eN n [nT 1 [r1] [],nT 2 [] []])≤1048576)=true:=by kernel_rfl
  exact of_decide_eq_true h
 ·have h:decide (tEngine.wt (eN n [nT 1 [r1] [w1],nT 2 [] []])≤1048576)=true:=by kernel_rfl
  exact of_decide_eq_true h
 ·have h:decide (tEngine.wt (eN n [nT 1 [r1] [w1],nT 2 [r2] []])≤1048576)=true:=by kernel_rfl
  exact of_decide_eq_true h
theorem wx1 (f:Bool):tBase.wt (vaq e6.1 (vc2 e6 (bif f then 2 else 1)))≤1048576:=by
 have h:decide (tBase.wt (vaq e6.1 (vc2 e6 (bif f then 2 else 1)))≤1048576)=true:=by
  cases f
  all_goals (delta insV vbb trimF._f vbe vav vc0 va9 putB vb2 openAll dB vbr openAll._f vas vaq trimF vds vbk vat readyFrom._f vca vd1 vax vd9 pastFrom._f pastFrom vfo rdyT dC vb7 outT vb5 ven va8 va7 vcb vfu vf5 va1 vcy dA versFrom._f versFrom vaj Ty.eqB cntK vdl vaw dF vdh dE lastAtF._f vbn writesFrom leV vao lastAtF writesFrom._f Ty.eqB._f va0 vbh veg readyFrom vec vah vc7 dG vau mayB vbl;(repeat delta insV vbb trimF._f vbe vav vc0 va9 putB vb2 openAll dB vbr openAll._f vas vaq trimF vds vbk vat readyFrom._f vca vd1 vax vd9 pastFrom._f pastFrom vfo rdyT dC vb7 outT vb5 ven va8 va7 vcb vfu vf5 va1 vcy dA versFrom._f versFrom vaj Ty.eqB cntK vdl vaw dF vdh dE lastAtF._f vbn writesFrom leV vao lastAtF writesFrom._f Ty.eqB._f va0 vbh veg readyFrom vec vah vc7 dG vau mayB vbl);(try rw [vfm]);(try rw [vdu]);kernel_rfl)
 exact of_decide_eq_true h
theorem wqt (f:Bool):tBase.wt (vds e6.1 (vc2 e6 (bif f then 2 else 1)) bP)≤1048576:=by
 have h:decide (tBase.wt (vds e6.1 (vc2 e6 (bif f then 2 else 1)) bP)≤1048576)=true:=by
  cases f
  all_goals (delta insV vbb trimF._f vbe vav vc0 va9 putB vb2 openAll dB vbr openAll._f vas vaq trimF vds vbk vat readyFrom._f vca vd1 vax vd9 pastFrom._f pastFrom vfo rdyT dC vb7 outT vb5 ven va8 va7 vcb vfu vf5 va1 vcy dA versFrom._f versFrom vaj Ty.eqB cntK vdl vaw dF vdh dE lastAtF._f vbn writesFrom leV vao lastAtF writesFrom._f Ty.eqB._f va0 vbh veg readyFrom vec vah vc7 dG vau mayB vbl;(repeat delta insV vbb trimF._f vbe vav vc0 va9 putB vb2 openAll dB vbr openAll._f vas vaq trimF vds vbk vat readyFrom._f vca vd1 vax vd9 pastFrom._f pastFrom vfo rdyT dC vb7 outT vb5 ven va8 va7 vcb vfu vf5 va1 vcy dA versFrom._f versFrom vaj Ty.eqB cntK vdl vaw dF vdh dE lastAtF._f vbn writesFrom leV vao lastAtF writesFrom._f Ty.eqB._f va0 vbh veg readyFrom vec vah vc7 dG vau mayB vbl);(try rw [vfm]);(try rw [vdu]);kernel_rfl)
 exact of_decide_eq_true h
theorem wxv (p f:Bool):tBase.wt (vaq (gE p f).1 (vc2 (gE p f) (bif f then 1 else 2)))≤1048576:=by
 have h:decide (tBase.wt (vaq (gE p f).1 (vc2 (gE p f) (bif f then 1 else 2)))≤1048576)=true:=by
  cases p<;>cases f
  all_goals (delta insV vbb trimF._f vbe vav vc0 va9 putB vb2 openAll dB vbr openAll._f vas vaq trimF vds vbk vat readyFrom._f vca vd1 vax vd9 pastFrom._f pastFrom vfo rdyT dC vb7 outT vb5 ven va8 va7 vcb vfu vf5 va1 vcy dA versFrom._f versFrom vaj Ty.eqB cntK vdl vaw dF vdh dE lastAtF._f vbn writesFrom leV vao lastAtF writesFrom._f Ty.eqB._f va0 vbh veg readyFrom vec vah vc7 dG vau mayB vbl;(repeat delta insV vbb trimF._f vbe vav vc0 va9 putB vb2 openAll dB vbr openAll._f vas vaq trimF vds vbk vat readyFrom._f vca vd1 vax vd9 pastFrom._f pastFrom vfo rdyT dC vb7 outT vb5 ven va8 va7 vcb vfu vf5 va1 vcy dA versFrom._f versFrom vaj Ty.eqB cntK vdl vaw dF vdh dE lastAtF._f vbn writesFrom leV vao lastAtF writesFrom._f Ty.eqB._f va0 vbh veg readyFrom vec vah vc7 dG vau mayB vbl);(try rw [vfm]);(try rw [vdu]);kernel_rfl)
 exact of_decide_eq_true h
theorem wrf (p f:Bool):tBase.wt (vds (gE p f).1 (vc2 (gE p f) (bif f then 1 else 2)) bQ)≤1048576:=by
 have h:decide (tBase.wt (vds (gE p f).1 (vc2 (gE p f) (bif f then 1 else 2)) bQ)≤1048576)=true:=by
  cases p<;>cases f
  all_goals (delta insV vbb trimF._f vbe vav vc0 va9 putB vb2 openAll dB vbr openAll._f vas vaq trimF vds vbk vat readyFrom._f vca vd1 vax vd9 pastFrom._f pastFrom vfo rdyT dC vb7 outT vb5 ven va8 va7 vcb vfu vf5 va1 vcy dA versFrom._f versFrom vaj Ty.eqB cntK vdl vaw dF vdh dE lastAtF._f vbn writesFrom leV vao lastAtF writesFrom._f Ty.eqB._f va0 vbh veg readyFrom vec vah vc7 dG vau mayB vbl;(repeat delta insV vbb trimF._f vbe vav vc0 va9 putB vb2 openAll dB vbr openAll._f vas vaq trimF vds vbk vat readyFrom._f vca vd1 vax vd9 pastFrom._f pastFrom vfo rdyT dC vb7 outT vb5 ven va8 va7 vcb vfu vf5 va1 vcy dA versFrom._f versFrom vaj Ty.eqB cntK vdl vaw dF vdh dE lastAtF._f vbn writesFrom leV vao lastAtF writesFrom._f Ty.eqB._f va0 vbh veg readyFrom vec vah vc7 dG vau mayB vbl);(try rw [vfm]);(try rw [vdu]);kernel_rfl)
 exact of_decide_eq_true h
end
end Go.VE
/- Plain laws: both ways of FnBoth. -/
namespace Go.VE
noncomputable section
set_option linter.unusedVariables false
set_option linter.unusedSimpArgs false
set_option maxRecDepth 100000
theorem wjj (p f:Bool):∃kd t,∀k,(bif p then vpd e6 (bif f then 2 else 1) bP k else vr4 e6 (bif f then 2 else 1) k)=k (outQ (0,gE p f) kd t):=by
 have hg:=w2h p f
 cases p with
 |true=>
  obtain⟨kd,t,h⟩:=wj4 wt6 (wcv f) (wuy false) wy3 (wqt f)
  refine⟨kd,t,fun k=>?_⟩
  rw [←hg]
  exact h k
 |false=>
  obtain⟨kd,t,h⟩:=wpc wt6 (wcv f) (wx1 f)
  refine⟨kd,t,fun k=>?_⟩
  rw [←hg]
  exact h k
theorem wdh (p q f:Bool):∃kd t,∀k,(bif q then vpd (gE p f) (bif f then 1 else 2) bQ k else vr4 (gE p f) (bif f then 1 else 2) k)=k (outQ (5,hE p f) kd t):=by
 have hg:=wzs p q f
 cases q with
 |true=>
  obtain⟨kd,t,h⟩:=wj4 (wtg p f) (wbu p f) (wuy true) (wwq p f) (wrf p f)
  refine⟨kd,t,fun k=>?_⟩
  rw [←hg]
  exact h k
 |false=>
  obtain⟨kd,t,h⟩:=wpc (wtg p f) (wbu p f) (wxv p f)
  refine⟨kd,t,fun k=>?_⟩
  rw [←hg]
  exact h k
theorem wdb (p f:Bool){ps:List Int}(hp:ps.length=12)(k:Bool→Option Res) :
  vd0 (1,2,(bif f then(1:Int)else 0),0,ps,(gE p f).1.2.2.2.1,(gE p f).1.2.2.2.2,[1,2],(gE p f).1.1,(gE p f).1.2.1,(gE p f).1.2.2.1,(gE p f).2) (fun z=>k z.1)=k true:=by
 have h0:IntKind.wrap .i64 ((1:Int)-(bif f then(1:Int)else 0))=(bif f then(0:Int)else 1):=by cases f<;>kernel_rfl
 have h1:([1,2]:List Int).getD (bif f then(0:Int)else 1).toNat (Ty.zero (.int .i64))=(bif f then(1:Int)else 2):=by cases f<;>rfl
 have h2:0≤(bif f then(0:Int)else 1)∧(bif f then(0:Int)else 1)<(([1,2]:List Int).length:Int):=by cases f<;>decide
 have h3:0≤(2:Int)∧(2:Int)<(ps.length:Int):=by omega
 have hok:∀k,vuc (hE p f) k=k true:=fun k=>by rw [wiv (wth p f),w2l]
 simp only [vd0,h0,if_pos h2,h1,if_pos h3,vcz]
 cases hq:(ps.getD (2:Int).toNat (Ty.zero (.int .i64))).tmod (2:Int)==(0:Int)with
 |true=>
  obtain⟨kd,t,h⟩:=wdh p true f
  simp only [cond_true]at h
  have h':∀k,vpd (gE p f) (bif f then 1 else 2) (⟨#[113]⟩:ByteArray) k=k (outQ (5,hE p f) kd t):=h
  simp only [cond_true,h',outQ,vd5,beq_self_eq_true,vcz,hok]
 |false=>
  obtain⟨kd,t,h⟩:=wdh p false f
  simp only [cond_false]at h
  simp only [cond_false,h,outQ,vd5,beq_self_eq_true,cond_true,vcz,hok]
theorem wkn (ps:List Int) (K) :
  vad vnh Fuel ((1:Int),(2:Int),(0:Int),ps,(0:Int),(3:Int),[(1:Int),(2:Int)],[(⟨#[97]⟩:ByteArray),(⟨#[98]⟩:ByteArray)],([]:List vak),([]:List dTxn),([]:List dTxn),[nT 1 [] [],nT 2 [] []]) K =
   K ((1:Int),(2:Int),(2:Int),ps,(0:Int),(3:Int),[(1:Int),(2:Int)],[(⟨#[97]⟩:ByteArray),(⟨#[98]⟩:ByteArray)],([]:List vak),([]:List dTxn),([]:List dTxn),[nT 1 [r1] [w1],nT 2 [r2] [w2]]):=by
 obtain⟨q,hq⟩:=wrs
 have s1:∀k,vnh ((1:Int),(2:Int),(0:Int),ps,(0:Int),(3:Int),[(1:Int),(2:Int)],[(⟨#[97]⟩:ByteArray),(⟨#[98]⟩:ByteArray)],([]:List vak),([]:List dTxn),([]:List dTxn),[nT 1 [] [],nT 2 [] []]) k =
   vqn (eN 3 [nT 1 [] [],nT 2 [] []]) 1 bB (fun y=>vqo ((y.2.2.2.2.2.1,(y.2.2.2.2.2.2.1,(y.2.2.2.2.2.2.2.1,(y.1,y.2.1)))),y.2.2.2.2.2.2.2.2) 1 w1 (fun z=>k (.inl ((1:Int),(2:Int),(1:Int),ps,z.1,z.2.1,[(1:Int),(2:Int)],[(⟨#[97]⟩:ByteArray),(⟨#[98]⟩:ByteArray)],z.2.2.2.1,z.2.2.2.2.1,z.2.2.2.2.2.1,z.2.2.2.2.2.2)))):=fun k=>by kernel_rfl
 have s2:∀k,vnh ((1:Int),(2:Int),(1:Int),ps,(0:Int),(3:Int),[(1:Int),(2:Int)],[(⟨#[97]⟩:ByteArray),(⟨#[98]⟩:ByteArray)],([]:List vak),([]:List dTxn),([]:List dTxn),[nT 1 [r1] [w1],nT 2 [] []]) k =
   vqn (eN 3 [nT 1 [r1] [w1],nT 2 [] []]) 2 bA (fun y=>vqo ((y.2.2.2.2.2.1,(y.2.2.2.2.2.2.1,(y.2.2.2.2.2.2.2.1,(y.1,y.2.1)))),y.2.2.2.2.2.2.2.2) 2 w2 (fun z=>k (.inl ((1:Int),(2:Int),(2:Int),ps,z.1,z.2.1,[(1:Int),(2:Int)],[(⟨#[97]⟩:ByteArray),(⟨#[98]⟩:ByteArray)],z.2.2.2.1,z.2.2.2.2.1,z.2.2.2.2.2.1,z.2.2.2.2.2.2)))):=fun k=>by kernel_rfl
 have s3:∀k,vnh ((1:Int),(2:Int),(2:Int),ps,(0:Int),(3:Int),[(1:Int),(2:Int)],[(⟨#[97]⟩:ByteArray),(⟨#[98]⟩:ByteArray)],([]:List vak),([]:List dTxn),([]:List dTxn),[nT 1 [r1] [w1],nT 2 [r2] [w2]]) k =
   k (.inr ((1:Int),(2:Int),(2:Int),ps,(0:Int),(3:Int),[(1:Int),(2:Int)],[(⟨#[97]⟩:ByteArray),(⟨#[98]⟩:ByteArray)],([]:List vak),([]:List dTxn),([]:List dTxn),[nT 1 [r1] [w1],nT 2 [r2] [w2]])):=fun k=>by kernel_rfl
 have hA:bA.size≤1048576:=by decide
 have hB:bB.size≤1048576:=by decide
 have hw1:tWrite.wt w1≤1048576:=by rw [v48];decide
 have hw2:tWrite.wt w2≤1048576:=by rw [v48];decide
 have g1:∀k,vqn (eN 3 [nT 1 [] [],nT 2 [] []]) 1 bB (fun y=>vqo ((y.2.2.2.2.2.1,(y.2.2.2.2.2.2.1,(y.2.2.2.2.2.2.2.1,(y.1,y.2.1)))),y.2.2.2.2.2.2.2.2) 1 w1 k)=k ((0:Int),(3:Int),(0:Int),([]:List vak),([]:List dTxn),([]:List dTxn),[nT 1 [r1] [w1],nT 2 [] []]):=fun k=>by
  rw [wiu (wte 3).2.2.1 1 hB,www]
  have:=wiz (wte 3).2.2.2.1 1 hw1 k
  rw [wyv]at this
  exact this
 have g2:∀k,vqn (eN 3 [nT 1 [r1] [w1],nT 2 [] []]) 2 bA (fun y=>vqo ((y.2.2.2.2.2.1,(y.2.2.2.2.2.2.1,(y.2.2.2.2.2.2.2.1,(y.1,y.2.1)))),y.2.2.2.2.2.2.2.2) 2 w2 k)=k ((0:Int),(3:Int),(0:Int),([]:List vak),([]:List dTxn),([]:List dTxn),[nT 1 [r1] [w1],nT 2 [r2] [w2]]):=fun k=>by
  rw [wiu (wte 3).2.2.2.2.1 2 hA,wv6]
  have:=wiz (wte 3).2.2.2.2.2 2 hw2 k
  rw [wwc]at this
  exact this
 rw [hq]
 simp only [vad]
 rw [s1,g1]
 simp only [Sum.elim_inl]
 rw [s2,g2]
 simp only [Sum.elim_inl]
 rw [s3]
 simp only [Sum.elim_inr]
theorem mod2 {n:Int}(h:0≤n):∃f:Bool,n.tmod 2=(bif f then(1:Int)else 0):=by
 have h1:n.tmod 2=n % 2:=Int.tmod_eq_emod_of_nonneg h
 rw [h1]
 rcases(by omega:n % 2=0∨n % 2=1)with h|h
 ·exact⟨false,h⟩
 ·exact⟨true,h⟩
end
end Go.VE
/- The plain laws. -/
namespace Go.VE
set_option linter.unusedVariables false
set_option linter.unusedSimpArgs false
set_option maxRecDepth 100000
theorem wij (x:(Ty.slice (.int .u8)).D)(hx:(Ty.slice (.int .u8)).wf x)(k:Bool→Option Res):wfb x k=k true:=by
 rw [wje]
 unfold wfh
 rw [wwd]
 by_cases hl:(x.length:Int)>1048576
 ·simp only [hl,decide_true,cond_true]
 simp only [hl,decide_false,cond_false]
 obtain⟨ps,⟨hp1,hp2⟩,e2⟩:=ww5 (a0:=x) (by omega)
 have hp0:(0:Int)≤ps.getD (0:Int).toNat (Ty.zero (.int .i64)):=by
  cases ps with
  |nil=>simp at hp1
  |cons a p=>exact(hp2 a (List.mem_cons_self ..)).1
 obtain⟨f,hf⟩:=mod2 hp0
 have hb1:∀k,vub ((([]:List vak),(([]:List dTxn),(([]:List dTxn),((0:Int),(1:Int))))),([]:List dTxn)) k=k ((0:Int),(2:Int),(1:Int),(0:Int),([]:List vak),([]:List dTxn),([]:List dTxn),[nT 1 [] []]):=fun k=>by
  have:=wmc (wte 1).1 k
  rw [wji]at this
  exact this
 have hb2:∀k,vub ((([]:List vak),(([]:List dTxn),(([]:List dTxn),((0:Int),(2:Int))))),[nT 1 [] []]) k=k ((0:Int),(3:Int),(2:Int),(0:Int),([]:List vak),([]:List dTxn),([]:List dTxn),[nT 1 [] [],nT 2 [] []]):=fun k=>by
  have:=wmc (wte 2).2.1 k
  rw [wmh]at this
  exact this
 have h0:0≤(0:Int)∧(0:Int)<(ps.length:Int):=by omega
 have h1:0≤(1:Int)∧(1:Int)<(ps.length:Int):=by omega
 have h2:0≤(bif f then(1:Int)else 0)∧(bif f then(1:Int)else 0)<(([1,2]:List Int).length:Int):=by cases f<;>decide
 have h3:([1,2]:List Int).getD (bif f then(1:Int)else 0).toNat (Ty.zero (.int .i64))=(bif f then(2:Int)else 1):=by cases f<;>rfl
 simp only [e2,wyh,hb1,hb2]
 refine(wkn ps _).trans ?_
 simp only [if_pos h0,if_pos h1,hf,if_pos h2,h3]
 cases hq:(ps.getD (1:Int).toNat (Ty.zero (.int .i64))).tmod (2:Int)==(0:Int)with
 |true=>
  obtain⟨kd,t,h⟩:=wjj true f
  have h':∀k,vpd ((([]:List vak),(([]:List dTxn),(([]:List dTxn),((0:Int),(3:Int))))),[nT 1 [r1] [w1],nT 2 [r2] [w2]]) (bif f then 2 else 1) (⟨#[112]⟩:ByteArray) k=k (outQ (0,gE true f) kd t):=h
  simp only [cond_true,h',outQ,wdb true f hp1]
 |false=>
  obtain⟨kd,t,h⟩:=wjj false f
  have h':∀k,vr4 ((([]:List vak),(([]:List dTxn),(([]:List dTxn),((0:Int),(3:Int))))),[nT 1 [r1] [w1],nT 2 [r2] [w2]]) (bif f then 2 else 1) k=k (outQ (0,gE false f) kd t):=h
  simp only [cond_false,h',outQ,wdb false f hp1]
end Go.VE
