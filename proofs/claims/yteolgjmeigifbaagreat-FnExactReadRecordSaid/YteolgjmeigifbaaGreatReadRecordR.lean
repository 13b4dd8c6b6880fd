/- The plain laws behind FnExactReadRecord. -/
import Derived.Test.YteolgjmeigifbaaGreatReadRecordL
import Derived.Test.YteolgjmeigifbaaGreatP3
/- Plain laws: keys,ranges,writes,transactions,who is ahead of whom. -/
namespace Go.VE
noncomputable section
set_option linter.unusedVariables false
set_option linter.unusedSimpArgs false
set_option maxRecDepth 100000
def var (n lo hi:Int):Bool:=decide (n≥lo)&&decide (n≤hi)
theorem vpd (a b c) (k):vdl a b c k=k (var a b c):=by
 rw [wob];unfold wi6 var;cases decide (a≥b)<;>rfl
theorem vm6 (a b c) (k):vci a b c k=k (var a b c):=by
 rw [web];unfold v7a var;cases decide (a≥b)<;>rfl
def vdb (s:ByteArray):Bool:=!((vah s).any fun y=>decide (y<97)||decide (y>122))&&var s.size 1 3
theorem v39 {u0} {u1}:∀l i,∃j:Int,∀k,vo4 u0 u1 l i k=k (bif l.any (fun y=>decide (y<97)||decide (y>122))then .inl (false,j)else .inr j)
 |[],i=>⟨_,fun k=>rfl⟩
 |y::l,i=>by
  obtain⟨j,hj⟩:=v39 (u0:=u0) (u1:=u1) l (i+1)
  simp only [vo4,hj,List.any_cons]
  cases hp:(decide (y<97)||decide (y>122))
  ·exact⟨j,fun k=>by(try simp only [Bool.false_or])<;>(try (revert hp;cases decide (y<97)<;>cases decide (y>122)<;>simp))⟩
  ·exact⟨(i:Int),fun k=>by(try simp only [Bool.true_or,cond_true])<;>(try (revert hp;cases decide (y<97)<;>cases decide (y>122)<;>simp))⟩
theorem vuk {s:ByteArray}(hs:s.size≤1048576) (k):vjs s k=k (vdb s):=by
 rw [w2g (by omega)]
 unfold wn5 vdb
 obtain⟨j,hj⟩:=v39 (u0:=s) (u1:=false) (vah s) 0
 rw [hj]
 cases ((vah s).any fun y=>decide (y<97)||decide (y>122))
 ·simp [vpd]
 ·rfl
theorem v47 {u0} {u1}:∀l i,∃j:Int,∀k,vpm u0 u1 l i k=k (bif l.any (fun y=>decide (y<97)||decide (y>122))then .inl (false,j)else .inr j)
 |[],i=>⟨_,fun k=>rfl⟩
 |y::l,i=>by
  obtain⟨j,hj⟩:=v47 (u0:=u0) (u1:=u1) l (i+1)
  simp only [vpm,hj,List.any_cons]
  cases hp:(decide (y<97)||decide (y>122))
  ·exact⟨j,fun k=>by(try simp only [Bool.false_or])<;>(try (revert hp;cases decide (y<97)<;>cases decide (y>122)<;>simp))⟩
  ·exact⟨(i:Int),fun k=>by(try simp only [Bool.true_or,cond_true])<;>(try (revert hp;cases decide (y<97)<;>cases decide (y>122)<;>simp))⟩
theorem vux {s:ByteArray}(hs:s.size≤1048576) (k):vjb s k=k (vdb s):=by
 rw [w1q (by omega)]
 unfold wns vdb
 obtain⟨j,hj⟩:=v47 (u0:=s) (u1:=false) (vah s) 0
 rw [hj]
 cases ((vah s).any fun y=>decide (y<97)||decide (y>122))
 ·simp [vm6]
 ·rfl
def vdt (r:tRange.D):Bool:=vdb r.1&&vdb r.2&&(va3 r.1 r.2||vap r.1 r.2)
def vfw (w:tWrite.D):Bool:=vdb w.1&&decide ((w.2.1.size:Int)≤12)&&(!w.2.2||vap w.2.1 ⟨#[]⟩)
def vdp:Option tWrite.D→List tWrite.D→Bool
 |_,[]=>true
 |p,y::l=>vfw y&&(match p with|none=>true|some x=>va3 x.1 y.1)&&vdp (some y) l
def vg4 (l:List tWrite.D):Bool:=vdp none l&&decide ((l.length:Int)≤8)
theorem wzx {r:tRange.D}(hr:tRange.wt r≤1048576) (k):v28 r k=k (vdt r):=by
 rw [v6n]at hr
 rw [wlo]
 unfold wf5 vdt
 simp only [vuk (show r.1.size≤1048576 by omega),vuk (show r.2.size≤1048576 by omega)]
 cases vdb r.1<;>cases vdb r.2<;>simp
theorem wzh {r:tWrite.D}(hr:tWrite.wt r≤1048576) (k):v3m r k=k (vfw r):=by
 rw [wdx]at hr
 rw [wm0]
 unfold wi7 vfw
 simp only [vuk (show r.1.size≤1048576 by omega)]
 cases vdb r.1<;>cases decide ((r.2.1.size:Int)≤12)<;>cases r.2.2<;>simp
theorem v5f {u0:List tWrite.D}(hu:∀y∈u0,tWrite.wt y≤1048576)(hl:u0.length≤1048576) {u1 u2}:∀(l:List tWrite.D)(i:Nat),u0.drop i=l→∃j:Int,∀k,
  vng u0 u1 u2 l i k=k (bif vdp (if i=0 then none else some (u0.getD (i-1) (Ty.zero tWrite))) l then .inr j else .inl (false,j))
 |[],i,_=>⟨_,fun k=>rfl⟩
 |y::l,i,h=>by
  obtain⟨j,hj⟩:=v5f hu hl (u1:=u1) (u2:=u2) l (i+1) (vb5 h)
  have hlt:=vde h
  have hy:=(va1 h).2 (Ty.zero tWrite)
  rw [if_neg (by omega),show i+1-1=i by omega,hy]at hj
  simp only [vng,wzh (hu y (vc7 h)),hj,vdp]
  by_cases hi:i=0
  ·subst hi
   simp only [if_pos,show ¬((0:Nat):Int)>0 by omega,decide_false,cond_false,Bool.and_true]
   cases vfw y
   ·exact⟨((0:Nat):Int),fun k=>by simp⟩
   ·exact⟨j,fun k=>by simp⟩
  ·have hw:IntKind.wrap .i64 ((i:Int)-1)=((i-1:Nat):Int):=by rw [vau (by omega) (by omega)];omega
   have hrd:rd (Ty.zero (.pair .str (.pair .str .bool))) u0 ((i-1:Nat):Int)=u0.getD (i-1) (Ty.zero tWrite):=rfl
   simp only [if_neg hi,show (i:Int)>0 by omega,decide_true,cond_true,hw,hrd,if_pos (show 0≤((i-1:Nat):Int)∧((i-1:Nat):Int)<(u0.length:Int) by omega)]
   cases vfw y
   ·exact⟨(i:Int),fun k=>by simp⟩
   ·cases va3 (u0.getD (i-1) (Ty.zero tWrite)).1 y.1
    ·exact⟨(i:Int),fun k=>by simp⟩
    ·exact⟨j,fun k=>by simp⟩
theorem wzd {x:List tWrite.D}(hx:(Ty.slice tWrite).wt x≤1048576) (k):vye x k=k (vg4 x):=by
 have hl:=vct hx
 rw [w3v (by omega)]
 unfold wol vg4
 obtain⟨j,hj⟩:=v5f (u0:=x) (fun y hy=>vcu hy hx) hl (u1:=false) (u2:=x) x 0 rfl
 rw [hj]
 simp only [if_true]
 cases vdp none x<;>rfl
theorem w0l {r:tRange.D}(hr:tRange.wt r≤1048576) (k):v20 r k=k (vdt r):=by
 rw [v6n]at hr
 rw [wpk]
 unfold wgi vdt
 simp only [vux (show r.1.size≤1048576 by omega),vux (show r.2.size≤1048576 by omega)]
 cases vdb r.1<;>cases vdb r.2<;>simp
theorem wuo {r:tWrite.D}(hr:tWrite.wt r≤1048576) (k):vup r k=k (vfw r):=by
 rw [wdx]at hr
 rw [wc7]
 unfold v65 vfw
 simp only [vux (show r.1.size≤1048576 by omega)]
 cases vdb r.1<;>cases decide ((r.2.1.size:Int)≤12)<;>cases r.2.2<;>simp
theorem vzz {u0:List tWrite.D}(hu:∀y∈u0,tWrite.wt y≤1048576)(hl:u0.length≤1048576) {u1}:∀(l:List tWrite.D)(i:Nat),u0.drop i=l→∃j:Int,∀k,
  vhn u0 u1 l i k=k (bif vdp (if i=0 then none else some (u0.getD (i-1) (Ty.zero tWrite))) l then .inr j else .inl (false,j))
 |[],i,_=>⟨_,fun k=>rfl⟩
 |y::l,i,h=>by
  obtain⟨j,hj⟩:=vzz hu hl (u1:=u1) l (i+1) (vb5 h)
  have hlt:=vde h
  have hy:=(va1 h).2 (Ty.zero tWrite)
  rw [if_neg (by omega),show i+1-1=i by omega,hy]at hj
  simp only [vhn,wuo (hu y (vc7 h)),hj,vdp]
  by_cases hi:i=0
  ·subst hi
   simp only [if_pos,show ¬((0:Nat):Int)>0 by omega,decide_false,cond_false,Bool.and_true]
   cases vfw y
   ·exact⟨((0:Nat):Int),fun k=>by simp⟩
   ·exact⟨j,fun k=>by simp⟩
  ·have hw:IntKind.wrap .i64 ((i:Int)-1)=((i-1:Nat):Int):=by rw [vau (by omega) (by omega)];omega
   have hrd:rd (Ty.zero (.pair .str (.pair .str .bool))) u0 ((i-1:Nat):Int)=u0.getD (i-1) (Ty.zero tWrite):=rfl
   simp only [if_neg hi,show (i:Int)>0 by omega,decide_true,cond_true,hw,hrd,if_pos (show 0≤((i-1:Nat):Int)∧((i-1:Nat):Int)<(u0.length:Int) by omega)]
   cases vfw y
   ·exact⟨(i:Int),fun k=>by simp⟩
   ·cases va3 (u0.getD (i-1) (Ty.zero tWrite)).1 y.1
    ·exact⟨(i:Int),fun k=>by simp⟩
    ·exact⟨j,fun k=>by simp⟩
theorem wtf {x:List tWrite.D}(hx:(Ty.slice tWrite).wt x≤1048576) (k):vr9 x k=k (vg4 x):=by
 have hl:=vct hx
 rw [wyu (by omega)]
 unfold wdc vg4
 obtain⟨j,hj⟩:=vzz (u0:=x) (fun y hy=>vcu hy hx) hl (u1:=false) x 0 rfl
 rw [hj]
 simp only [if_true]
 cases vdp none x<;>rfl
def vbg (t:tTxn.D):Bool:=
 var t.1 1 9999&&var t.2.1 1 3&&var t.2.2.1 0 9999 && !decide ((t.2.2.2.2.1.length:Int)>8)&&vg4 t.2.2.2.2.2.1 && !(t.2.2.2.2.1.any fun r=>!vdt r) &&
 !((t.2.1==3) && !var t.2.2.2.1 (IntKind.wrap .i64 (t.2.2.1+1)) 9999) && !((t.2.1 != 3)&&(t.2.2.2.1 != 0)) &&
 !((t.2.1==2) && !vdb t.2.2.2.2.2.2.2) && !((t.2.1 != 2) && !vap t.2.2.2.2.2.2.2 ⟨#[]⟩)&&((t.2.1 != 1) || !t.2.2.2.2.2.2.1)
theorem v4g {u0} {u1} {u4} {u5} {u6} {u7} {u8} {u9} {u10} {u11}:∀(l:List tRange.D)(i:Nat),(∀y∈l,tRange.wt y≤1048576)→∃j:Int,∀k,vpt u0 u1 u4 u5 u6 u7 u8 u9 u10 u11 l i k=k (bif l.any (fun r=>!vdt r)then .inl (false,j)else .inr j)
 |[],i,_=>⟨_,fun k=>rfl⟩
 |y::l,i,h=>by
  obtain⟨j,hj⟩:=v4g (u0:=u0) (u1:=u1) (u4:=u4) (u5:=u5) (u6:=u6) (u7:=u7) (u8:=u8) (u9:=u9) (u10:=u10) (u11:=u11) l (i+1) (fun y hy=>h y (by simp [hy]))
  simp only [vpt,wzx (h y (by simp)),hj,List.any_cons]
  cases vdt y
  ·exact⟨(i:Int),fun k=>by simp⟩
  ·exact⟨j,fun k=>by simp⟩
theorem v0d {u0} {u2} {u3} {u4} {u5} {u6} {u7} {u8} {u9}:∀(l:List tRange.D)(i:Nat),(∀y∈l,tRange.wt y≤1048576)→∃j:Int,∀k,vjr u0 u2 u3 u4 u5 u6 u7 u8 u9 l i k=k (bif l.any (fun r=>!vdt r)then .inl (false,j)else .inr j)
 |[],i,_=>⟨_,fun k=>rfl⟩
 |y::l,i,h=>by
  obtain⟨j,hj⟩:=v0d (u0:=u0) (u2:=u2) (u3:=u3) (u4:=u4) (u5:=u5) (u6:=u6) (u7:=u7) (u8:=u8) (u9:=u9) l (i+1) (fun y hy=>h y (by simp [hy]))
  simp only [vjr,w0l (h y (by simp)),hj,List.any_cons]
  cases vdt y
  ·exact⟨(i:Int),fun k=>by simp⟩
  ·exact⟨j,fun k=>by simp⟩
theorem vtm {t:tTxn.D}(ht:tTxn.wt t≤1048576) (k):vf2 t k=k (vbg t):=by
 rw [vu6]at ht
 have h1:=vct (T:=tRange) (xs:=t.2.2.2.2.1) (n:=1048576) (by omega)
 have h2:=vct (T:=tWrite) (xs:=t.2.2.2.2.2.1) (n:=1048576) (by omega)
 rw [wz1 (by omega)]
 unfold wfc vbg
 simp only [vm6,wtf (show (Ty.slice tWrite).wt t.2.2.2.2.2.1≤1048576 by omega)]
 obtain⟨j,hj⟩:=v0d (u0:=false) (u2:=t.1) (u3:=t.2.1) (u4:=t.2.2.1) (u5:=t.2.2.2.1) (u6:=t.2.2.2.2.1) (u7:=t.2.2.2.2.2.1) (u8:=t.2.2.2.2.2.2.1) (u9:=t.2.2.2.2.2.2.2) t.2.2.2.2.1 0 (fun y hy=>vcu hy (by omega))
 simp only [vfb,vcv,vcp,hj,vm6,vux (show t.2.2.2.2.2.2.2.size≤1048576 by omega)]
 cases var t.1 1 9999<;>simp only [Bool.not_true,Bool.not_false,cond_true,cond_false,Bool.true_and,Bool.false_and]
 cases var t.2.1 1 3<;>simp only [Bool.not_true,Bool.not_false,cond_true,cond_false,Bool.true_and,Bool.false_and]
 cases var t.2.2.1 0 9999<;>simp only [Bool.not_true,Bool.not_false,cond_true,cond_false,Bool.true_and,Bool.false_and]
 cases decide ((t.2.2.2.2.1.length:Int)>8)<;>simp only [Bool.not_true,Bool.not_false,cond_true,cond_false,Bool.true_and,Bool.false_and]
 cases vg4 t.2.2.2.2.2.1<;>simp only [Bool.not_true,Bool.not_false,cond_true,cond_false,Bool.true_and,Bool.false_and]
 cases (t.2.2.2.2.1.any fun r=>!vdt r)<;>simp only [Bool.not_true,Bool.not_false,cond_true,cond_false,Bool.true_and,Bool.false_and,Sum.elim_inl,Sum.elim_inr]
 simp only [bne]
 cases t.2.1==3<;>cases t.2.1==2<;>cases t.2.1==1<;>cases var t.2.2.2.1 (IntKind.wrap .i64 (t.2.2.1+1)) 9999<;>cases t.2.2.2.1==0<;>cases vdb t.2.2.2.2.2.2.2<;>cases vap t.2.2.2.2.2.2.2 ⟨#[]⟩<;>cases t.2.2.2.2.2.2.1<;>rfl
theorem vuu {t:tTxn.D}(ht:tTxn.wt t≤1048576) (k):vhg t k=k (vbg t):=by
 rw [vu6]at ht
 have h1:=vct (T:=tRange) (xs:=t.2.2.2.2.1) (n:=1048576) (by omega)
 have h2:=vct (T:=tWrite) (xs:=t.2.2.2.2.2.1) (n:=1048576) (by omega)
 rw [w2j (by omega)]
 unfold wl4 vbg
 obtain⟨j,hj⟩:=v4g (u0:=false) (u1:=t.2.2.2.2.1) (u4:=t.1) (u5:=t.2.1) (u6:=t.2.2.1) (u7:=t.2.2.2.1) (u8:=t.2.2.2.2.1) (u9:=t.2.2.2.2.2.1) (u10:=t.2.2.2.2.2.2.1) (u11:=t.2.2.2.2.2.2.2) t.2.2.2.2.1 0 (fun y hy=>vcu hy (by omega))
 simp only [hj,vpd,wzd (show (Ty.slice tWrite).wt t.2.2.2.2.2.1≤1048576 by omega),vej,vc4,vuk (show t.2.2.2.2.2.2.2.size≤1048576 by omega)]
 cases (t.2.2.2.2.1.any fun r=>!vdt r)<;>simp only [Bool.not_true,Bool.not_false,cond_true,cond_false,Bool.true_and,Bool.and_true,Bool.and_false,Bool.false_and,Sum.elim_inl,Sum.elim_inr]
 cases var t.1 1 9999<;>simp only [Bool.not_true,Bool.not_false,cond_true,cond_false,Bool.true_and,Bool.false_and]
 cases var t.2.1 1 3<;>simp only [Bool.not_true,Bool.not_false,cond_true,cond_false,Bool.true_and,Bool.false_and]
 cases var t.2.2.1 0 9999<;>simp only [Bool.not_true,Bool.not_false,cond_true,cond_false,Bool.true_and,Bool.false_and]
 cases decide ((t.2.2.2.2.1.length:Int)>8)<;>simp only [Bool.not_true,Bool.not_false,cond_true,cond_false,Bool.true_and,Bool.false_and]
 cases vg4 t.2.2.2.2.2.1<;>simp only [Bool.not_true,Bool.not_false,cond_true,cond_false,Bool.true_and,Bool.false_and]
 simp only [bne]
 cases t.2.1==3<;>cases t.2.1==2<;>cases t.2.1==1<;>cases var t.2.2.2.1 (IntKind.wrap .i64 (t.2.2.1+1)) 9999<;>cases t.2.2.2.1==0<;>cases vdb t.2.2.2.2.2.2.2<;>cases vap t.2.2.2.2.2.2.2 ⟨#[]⟩<;>cases t.2.2.2.2.2.2.1<;>rfl
end
end Go.VE
/- Plain laws: one of a list that passes a test;what is seen;the oldest. -/
namespace Go.VE
noncomputable section
set_option linter.unusedVariables false
set_option linter.unusedSimpArgs false
set_option maxRecDepth 100000
theorem wms (x:tTxn.D) (k):vvg x k=k (x.2.1==2):=by rw [wrj];rfl
theorem wpr (x:tTxn.D) (k):vvi x k=k (x.2.1==3):=by rw [won];rfl
theorem vqb:∃n,Fuel=n+1:=⟨Fuel-1,by have:=vba;omega⟩
end
end Go.VE
/- Plain laws: where a name or an Id stands;a transaction's text. -/
namespace Go.VE
noncomputable section
set_option linter.unusedVariables false
set_option linter.unusedSimpArgs false
set_option maxRecDepth 100000
theorem v8q (f:Int→UInt8):∀(l:List Int)(s:ByteArray),(l.foldl (fun s n=>s.push (f n)) s).data.toList=s.data.toList++l.map f
 |[],s=>by simp
 |n::l,s=>by
  rw [List.foldl_cons,v8q f l]
  simp [ByteArray.push]
theorem ve6 (l:List Int):(van l).data.toList=l.map fun n=>UInt8.ofNat n.toNat:=by
 unfold van
 rw [v8q (fun n=>UInt8.ofNat n.toNat)]
 rfl
theorem vzn {a b:ByteArray}(h:a.data.toList=b.data.toList):a=b:=by
 cases a;cases b;congr 1;exact Array.toList_inj.mp h
theorem vqq {a b:ByteArray}(h:vap a b=true):a=b:=by
 rw [vmt,beq_iff_eq,ByteArray.toList_eq,ByteArray.toList_eq]at h
 exact vzn h
theorem va4 (a b:List Int):van (a++b)=van a++van b:=by
 apply vzn
 rw [ByteArray.data_append,Array.toList_append,ve6,ve6,ve6,List.map_append]
theorem vav (b:ByteArray):van (vah b)=b:=by
 apply vzn
 rw [ve6]
 unfold vah
 rw [List.map_map]
 conv=>rhs;rw [←List.map_id b.data.toList]
 apply List.map_congr_left
 intro x _
 show UInt8.ofNat ((x.toNat:Int)).toNat=x
 rw [Int.toNat_natCast]
 exact UInt8.ofNat_toNat
theorem vov (l:List Int):(van l).size=l.length:=by
 have:=congrArg List.length (ve6 l)
 rw [List.length_map,Array.length_toList]at this
 exact this
def varL (n:Int):List Int:=if n>127 then [IntKind.wrap .u8 (IntKind.wrap .i64 (n.tmod 128+128)),IntKind.wrap .u8 (IntKind.wrap .i64 (n.tdiv 128))]else [IntKind.wrap .u8 n]
def varB (n:Int):ByteArray:=van (varL n)
theorem vaz (n:Int):(varB n).size≤2:=by unfold varB;rw [vov];unfold varL;split<;>simp
def shB (s:ByteArray):ByteArray:=varB s.size++s
theorem vbr (s:ByteArray):(shB s).size≤2+s.size:=by unfold shB;rw [ByteArray.size_append];have:=vaz s.size;omega
def bitB (b:Bool):ByteArray:=bif b then⟨#[1]⟩else⟨#[0]⟩
theorem vd0 (b:Bool):(bitB b).size=1:=by cases b<;>rfl
theorem vqs:∃n,Fuel=n+3:=⟨Fuel-3,by have:=vba;omega⟩
theorem v2y {n:Int}(h0:127<n)(h1:n≤16383):IntKind.wrap .i64 (n.tdiv 128)=n.tdiv 128∧¬(n.tdiv 128>127):=by
 have e:n.tdiv 128=n / 128:=Int.tdiv_eq_ediv_of_nonneg (by omega)
 rw [e]
 have a1:n / 128≤127:=by omega
 have a2:0≤n / 128:=by omega
 exact⟨vau (by omega) (by omega),by omega⟩
theorem vew {n:Int}(h1:n≤16383) (k):vb2 n k=k (varB n):=by
 obtain⟨f,hf⟩:=vqs
 rw [v8b]
 unfold vzf varB varL
 rw [hf]
 by_cases c:n>127
 ·obtain⟨e1,e2⟩:=v2y c h1
  simp only [vae,vgp,c,decide_true,cond_true,List.length_nil,List.length_cons,VE.maxLen,Nat.reduceAdd,Nat.reduceLeDiff,if_true,Sum.elim_inl,Sum.elim_inr,e1,e2,decide_false,cond_false,List.nil_append,List.cons_append]
 ·simp only [vae,vgp,c,decide_false,cond_false,List.length_nil,List.length_cons,VE.maxLen,Nat.reduceAdd,Nat.reduceLeDiff,if_true,if_false,Sum.elim_inr,List.nil_append]
theorem wcr {n:Int}(h0:0≤n)(h1:n≤16383) (k):vpi n k=k (varB n,true):=by
 obtain⟨f,hf⟩:=vqs
 rw [wfy]
 unfold v82 varB varL
 have w:var n 0 1000000000=true:=by
  unfold var
  rw [decide_eq_true (show n≥0 by omega),decide_eq_true (show n≤1000000000 by omega)];rfl
 rw [hf]
 simp only [vpd,w,Bool.not_true,cond_false]
 by_cases c:n>127
 ·obtain⟨e1,e2⟩:=v2y c h1
  simp only [vae,vkr,c,decide_true,cond_true,List.length_nil,List.length_cons,VE.maxLen,Nat.reduceAdd,Nat.reduceLeDiff,if_true,Sum.elim_inl,Sum.elim_inr,e1,e2,decide_false,cond_false,List.nil_append,List.cons_append]
 ·simp only [vae,vkr,c,decide_false,cond_false,List.length_nil,List.length_cons,VE.maxLen,Nat.reduceAdd,Nat.reduceLeDiff,if_true,if_false,Sum.elim_inr,List.nil_append]
theorem vi7 {s:ByteArray}(h:s.size≤12) (k):vdi s k=k (shB s):=by
 rw [wcy]
 unfold v7q shB
 rw [vew (by omega)]
 have:=vaz s.size
 rw [if_pos (by omega)]
theorem wcm {s:ByteArray}(h:s.size≤12) (k):v4p s k=k (shB s,true):=by
 rw [woq]
 unfold whg shB
 have:=vaz s.size
 rw [decide_eq_false (by omega),cond_false,wcr (by omega) (by omega)]
 simp only []
 rw [if_pos (by omega)]
theorem vwn (b:Bool) (k):vio b k=k (bitB b):=by rw [wc9];cases b<;>rfl
theorem v53 (b:Bool){s:List Int}(h:s.length≤100000) (k):vgd b s k=k (s++vah (bitB b)):=by
 rw [wq5]
 unfold wgq vd6
 have e:∀x:Int,s.length+[x].length≤VE.maxLen:=fun x=>by simp only [List.length_cons,List.length_nil,VE.maxLen];omega
 cases b<;>simp only [cond_true,cond_false,e,if_true]<;>rfl
theorem v5q {a b:ByteArray}(ha:a.size≤12)(hb:b.size≤12){s:List Int}(h:s.length≤100000) (k):vhc [a,b] s k=k (.inr ((s++vah (shB a))++vah (shB b))):=by
 obtain⟨f,hf⟩:=vqs
 have sa:=vbr a
 have sb:=vbr b
 rw [wh4]
 unfold v84
 rw [hf]
 have c1:s.length+(vah (shB a)).length≤VE.maxLen:=by rw [vak];simp only [VE.maxLen];omega
 have c2:(s++vah (shB a)).length+(vah (shB b)).length≤VE.maxLen:=by rw [List.length_append,vak,vak];simp only [VE.maxLen];omega
 have w0:IntKind.wrap .i64 ((0:Int)+1)=1:=by decide
 have w1:IntKind.wrap .i64 ((1:Int)+1)=2:=by decide
 have r0:∀z:ByteArray,rd z [a,b] 0=a:=fun z=>rfl
 have r1:∀z:ByteArray,rd z [a,b] 1=b:=fun z=>rfl
 simp only [vae,voe,Sum.elim_inl,Sum.elim_inr,List.length_cons,List.length_nil,show ((0+1+1:Nat):Int)=2 from rfl,show decide ((0:Int)<2)=true from rfl,show decide ((1:Int)<2)=true from rfl,show decide ((2:Int)<2)=false from rfl,decide_true,cond_true,cond_false,show (0:Int)≤0∧(0:Int)<2 from by decide,show (0:Int)≤1∧(1:Int)<2 from by decide,and_self,if_true,w0,w1,r0,r1,wcm ha,wcm hb,c1,c2]
theorem wgx {a:ByteArray}(ha:a.size≤12){s:List Int}(h:s.length≤100000) (k):vhc [a] s k=k (.inr (s++vah (shB a))):=by
 obtain⟨f,hf⟩:=vqs
 have sa:=vbr a
 rw [wh4]
 unfold v84
 rw [hf]
 have c1:s.length+(vah (shB a)).length≤VE.maxLen:=by rw [vak];simp only [VE.maxLen];omega
 have w0:IntKind.wrap .i64 ((0:Int)+1)=1:=by decide
 have r0:∀z:ByteArray,rd z [a] 0=a:=fun z=>rfl
 simp only [vae,voe,Sum.elim_inl,Sum.elim_inr,List.length_cons,List.length_nil,show ((0+1:Nat):Int)=1 from rfl,show decide ((0:Int)<1)=true from rfl,show decide ((1:Int)<1)=false from rfl,decide_true,cond_true,cond_false,show (0:Int)≤0∧(0:Int)<1 from by decide,and_self,if_true,w0,r0,wcm ha,c1]
theorem v5g {n:Int}(h0:0≤n)(h1:n≤16383){s:List Int}(h:s.length≤100000) (k):vn5 [n] s k=k (.inr (s++vah (varB n))):=by
 obtain⟨f,hf⟩:=vqs
 have sa:=vaz n
 rw [wps]
 unfold whl
 rw [hf]
 have c1:s.length+(vah (varB n)).length≤VE.maxLen:=by rw [vak];simp only [VE.maxLen];omega
 have w0:IntKind.wrap .i64 ((0:Int)+1)=1:=by decide
 have r0:∀z:Int,rd z [n] 0=n:=fun z=>rfl
 simp only [vae,vsn,Sum.elim_inl,Sum.elim_inr,List.length_cons,List.length_nil,show ((0+1:Nat):Int)=1 from rfl,show decide ((0:Int)<1)=true from rfl,show decide ((1:Int)<1)=false from rfl,decide_true,cond_true,cond_false,show (0:Int)≤0∧(0:Int)<1 from by decide,and_self,if_true,w0,r0,wcr h0 h1,c1]
def vki:List Int→List Int→List Int
 |[],s=>s
 |n::l,s=>vki l (s++vah (varB n))
theorem vzw:∀(l s:List Int),(vki l s).length≤s.length+2*l.length
 |[],s=>by simp [vki]
 |n::l,s=>by
  have:=vzw l (s++vah (varB n))
  have v:=vaz n
  rw [List.length_append,vak]at this
  simp only [vki,List.length_cons];omega
theorem v4h {u0}:∀(l s:List Int)(i:Nat),(∀n∈l,0≤n∧n≤16383)→s.length+2*l.length≤100000→∃j:Int,∀k,vn8 u0 l s i k=k (j,vki l s)
 |[],s,i,_,_=>⟨_,fun k=>rfl⟩
 |n::l,s,i,h,hs=>by
  simp only [List.length_cons]at hs
  have v:=vaz n
  have e:(s++vah (varB n)).length≤s.length+2:=by rw [List.length_append,vak];omega
  obtain⟨j,hj⟩:=v4h (u0:=u0) l (s++vah (varB n)) (i+1) (fun y hy=>h y (by simp [hy])) (by omega)
  refine⟨j,fun k=>?_⟩
  simp only [vn8,wcr (h n (by simp)).1 (h n (by simp)).2,vki]
  rw [if_pos (by rw [vak];simp only [VE.maxLen];omega),hj]
theorem wrm {l:List Int}(h:∀n∈l,0≤n∧n≤16383)(hl:l.length≤100) (k):vs7 l k=k (vki l []):=by
 rw [w16 (by omega)]
 unfold wou
 obtain⟨j,hj⟩:=v4h (u0:=l) l [] 0 h (by simp;omega)
 rw [hj]
def vfa:List tRange.D→List Int→List Int
 |[],s=>s
 |y::l,s=>vfa l ((s++vah (shB y.1))++vah (shB y.2))
def vef:List tRange.D→ByteArray→ByteArray
 |[],s=>s
 |y::l,s=>vef l ((s++shB y.1)++shB y.2)
theorem v9b:∀l s,van (vfa l s)=vef l (van s)
 |[],s=>rfl
 |y::l,s=>by rw [vfa,vef,v9b,va4,va4,vav,vav]
def vic:List tWrite.D→List Int→List Int
 |[],s=>s
 |y::l,s=>vic l (((s++vah (shB y.1))++vah (shB y.2.1))++vah (bitB y.2.2))
def vgf:List tWrite.D→ByteArray→ByteArray
 |[],s=>s
 |y::l,s=>vgf l (((s++shB y.1)++shB y.2.1)++bitB y.2.2)
theorem v89:∀l s,van (vic l s)=vgf l (van s)
 |[],s=>rfl
 |y::l,s=>by rw [vic,vgf,v89,va4,va4,va4,vav,vav,vav]
theorem v4o {u0 u3 u4 u5 u6 u7 u8 u9 u10}:∀(l:List tRange.D)(s:List Int)(i:Nat),(∀y∈l,y.1.size≤12∧y.2.size≤12)→s.length+40*l.length≤10000→
  ∃j:Int,(∀k,vm0 u0 u3 u4 u5 u6 u7 u8 u9 u10 l s i k=k (j,vfa l s))∧(vfa l s).length≤s.length+40*l.length
 |[],s,i,_,_=>⟨_,fun k=>rfl,by simp [vfa]⟩
 |y::l,s,i,h,hs=>by
  simp only [List.length_cons]at hs
  have hy:=h y (by simp)
  have s1:=vbr y.1
  have s2:=vbr y.2
  have e:((s++vah (shB y.1))++vah (shB y.2)).length≤s.length+28:=by rw [List.length_append,List.length_append,vak,vak];omega
  obtain⟨j,hj,hl⟩:=v4o (u0:=u0) (u3:=u3) (u4:=u4) (u5:=u5) (u6:=u6) (u7:=u7) (u8:=u8) (u9:=u9) (u10:=u10) l ((s++vah (shB y.1))++vah (shB y.2)) (i+1) (fun y hy=>h y (by simp [hy])) (by omega)
  refine⟨j,fun k=>?_,by simp only [vfa,List.length_cons];omega⟩
  simp only [vm0,v5q hy.1 hy.2 (show s.length≤100000 by omega),Sum.elim_inr,hj,vfa]
theorem v5b {u0 u3 u4 u5 u6 u7 u8 u9 u10}:∀(l:List tWrite.D)(s:List Int)(i:Nat),(∀y∈l,y.1.size≤12∧y.2.1.size≤12)→s.length+40*l.length≤10000→
  ∃j:Int,(∀k,vkq u0 u3 u4 u5 u6 u7 u8 u9 u10 l s i k=k (j,vic l s))∧(vic l s).length≤s.length+40*l.length
 |[],s,i,_,_=>⟨_,fun k=>rfl,by simp [vic]⟩
 |y::l,s,i,h,hs=>by
  simp only [List.length_cons]at hs
  have hy:=h y (by simp)
  have s1:=vbr y.1
  have s2:=vbr y.2.1
  have s3:=vd0 y.2.2
  have e0:((s++vah (shB y.1))++vah (shB y.2.1)).length≤s.length+28:=by rw [List.length_append,List.length_append,vak,vak];omega
  have e:(((s++vah (shB y.1))++vah (shB y.2.1))++vah (bitB y.2.2)).length≤s.length+29:=by rw [List.length_append,vak];omega
  obtain⟨j,hj,hl⟩:=v5b (u0:=u0) (u3:=u3) (u4:=u4) (u5:=u5) (u6:=u6) (u7:=u7) (u8:=u8) (u9:=u9) (u10:=u10) l (((s++vah (shB y.1))++vah (shB y.2.1))++vah (bitB y.2.2)) (i+1) (fun y hy=>h y (by simp [hy])) (by omega)
  refine⟨j,fun k=>?_,by simp only [vic,List.length_cons];omega⟩
  simp only [vkq,v5q hy.1 hy.2 (show s.length≤100000 by omega),Sum.elim_inr,v53 y.2.2 (show ((s++vah (shB y.1))++vah (shB y.2.1)).length≤100000 by omega),hj,vic]
theorem vz8 {u2 u3 u4 u5 u6 u7 u8 u9}:∀(l:List tRange.D)(s:ByteArray)(i:Nat),(∀y∈l,y.1.size≤12∧y.2.size≤12)→s.size+40*l.length≤10000→
  ∃j:Int,(∀k,vji u2 u3 u4 u5 u6 u7 u8 u9 l s i k=k (vef l s,j))∧(vef l s).size≤s.size+40*l.length
 |[],s,i,_,_=>⟨_,fun k=>rfl,by simp [vef]⟩
 |y::l,s,i,h,hs=>by
  simp only [List.length_cons]at hs
  have hy:=h y (by simp)
  have s1:=vbr y.1
  have s2:=vbr y.2
  have e1:(s++shB y.1).size≤s.size+14:=by rw [ByteArray.size_append];omega
  have e:((s++shB y.1)++shB y.2).size≤s.size+28:=by rw [ByteArray.size_append];omega
  obtain⟨j,hj,hl⟩:=vz8 (u2:=u2) (u3:=u3) (u4:=u4) (u5:=u5) (u6:=u6) (u7:=u7) (u8:=u8) (u9:=u9) l ((s++shB y.1)++shB y.2) (i+1) (fun y hy=>h y (by simp [hy])) (by omega)
  refine⟨j,fun k=>?_,by simp only [vef,List.length_cons];omega⟩
  simp only [vji,vi7 hy.1,vi7 hy.2,vef]
  rw [if_pos (by omega),if_pos (by omega),hj]
theorem vy6 {u2 u3 u4 u5 u6 u7 u8 u9}:∀(l:List tWrite.D)(s:ByteArray)(i:Nat),(∀y∈l,y.1.size≤12∧y.2.1.size≤12)→s.size+40*l.length≤10000→
  ∃j:Int,(∀k,vje u2 u3 u4 u5 u6 u7 u8 u9 l s i k=k (vgf l s,j))∧(vgf l s).size≤s.size+40*l.length
 |[],s,i,_,_=>⟨_,fun k=>rfl,by simp [vgf]⟩
 |y::l,s,i,h,hs=>by
  simp only [List.length_cons]at hs
  have hy:=h y (by simp)
  have s1:=vbr y.1
  have s2:=vbr y.2.1
  have s3:=vd0 y.2.2
  have e1:(s++shB y.1).size≤s.size+14:=by rw [ByteArray.size_append];omega
  have e2:((s++shB y.1)++shB y.2.1).size≤s.size+28:=by rw [ByteArray.size_append];omega
  have e:(((s++shB y.1)++shB y.2.1)++bitB y.2.2).size≤s.size+29:=by rw [ByteArray.size_append];omega
  obtain⟨j,hj,hl⟩:=vy6 (u2:=u2) (u3:=u3) (u4:=u4) (u5:=u5) (u6:=u6) (u7:=u7) (u8:=u8) (u9:=u9) l (((s++shB y.1)++shB y.2.1)++bitB y.2.2) (i+1) (fun y hy=>h y (by simp [hy])) (by omega)
  refine⟨j,fun k=>?_,by simp only [vgf,List.length_cons];omega⟩
  simp only [vje,vi7 hy.1,vi7 hy.2,vwn,vgf]
  rw [if_pos (by omega),if_pos (by omega),if_pos (by omega),hj]
theorem vhw {s:ByteArray}(h:vdb s=true):s.size≤3:=by
 unfold vdb var at h
 simp only [Bool.and_eq_true,decide_eq_true_eq]at h
 omega
theorem vrp:∀{l:List tWrite.D} {p},vdp p l=true→∀y∈l,vfw y=true
 |[],_,_,y,hy=>by cases hy
 |z::l,p,h,y,hy=>by
  simp only [vdp,Bool.and_eq_true]at h
  cases hy with
  |head=>exact h.1.1
  |tail _ hm=>exact vrp h.2 y hm
def vvp (n:Int):Prop:=0≤n∧n≤16383
theorem vit {t:tTxn.D}(h:vbg t=true):vvp t.1∧vvp t.2.1∧vvp t.2.2.1∧vvp t.2.2.2.1∧
  t.2.2.2.2.1.length≤8∧(∀y∈t.2.2.2.2.1,y.1.size≤12∧y.2.size≤12)∧t.2.2.2.2.2.1.length≤8∧(∀y∈t.2.2.2.2.2.1,y.1.size≤12∧y.2.1.size≤12)∧t.2.2.2.2.2.2.2.size≤12:=by
 unfold vbg var vg4 at h
 simp only [Bool.and_eq_true,Bool.not_eq_true',decide_eq_true_eq,decide_eq_false_iff_not,List.any_eq_false,Bool.not_eq_true,Bool.and_eq_false_iff,beq_eq_false_iff_ne,bne_eq_false_iff_eq,Bool.not_eq_false',Bool.or_eq_true,ne_eq]at h
 obtain⟨⟨⟨⟨⟨⟨⟨⟨⟨⟨a1,a2⟩,a3⟩,a4⟩,⟨a5,a6⟩⟩,a7⟩,a8⟩,a9⟩,a10⟩,a11⟩,a12⟩:=h
 unfold vvp
 refine⟨by omega,by omega,by omega,?_,by omega,fun y hy=>?_,by omega,fun y hy=>?_,?_⟩
 ·by_cases c:t.2.1=3
  ·have:=a8.resolve_left (fun hc=>hc c)
   have w:IntKind.wrap .i64 (t.2.2.1+1)=t.2.2.1+1:=vau (by omega) (by omega)
   rw [w]at this
   omega
  ·have:@Eq Int t.2.2.2.1 0:=a9.resolve_left (fun hc=>c hc)
   omega
 ·have:vdt y=true:=by have:=a7 y hy;revert this;cases vdt y<;>simp
  unfold vdt at this
  simp only [Bool.and_eq_true]at this
  have b1:=vhw this.1.1
  have b2:=vhw this.1.2
  omega
 ·have:=vrp a5 y hy
  unfold vfw at this
  simp only [Bool.and_eq_true,decide_eq_true_eq]at this
  have b1:=vhw this.1.1
  omega
 ·by_cases c:t.2.1=2
  ·have:=vhw (a10.resolve_left (fun hc=>hc c))
   omega
  ·have:=vqq (a11.resolve_left (fun hc=>c hc))
   rw [this];decide
def vcj (t:tTxn.D):ByteArray:=
 (vgf t.2.2.2.2.2.1 (vef t.2.2.2.2.1 (varB t.1++varB t.2.1++varB t.2.2.1++varB t.2.2.2.1++varB t.2.2.2.2.1.length)++varB t.2.2.2.2.2.1.length)++bitB t.2.2.2.2.2.2.1)++shB t.2.2.2.2.2.2.2
theorem wfk {t:tTxn.D}(ht:tTxn.wt t≤1048576) (k):vnt t k=k (bif vbg t then(vcj t,true)else(⟨#[]⟩,false)):=by
 rw [w0c (by have:=vu6 t;have:=vct (show (Ty.slice tWrite).wt t.2.2.2.2.2.1≤1048576 by omega);omega) (by have:=vu6 t;have:=vct (show (Ty.slice tRange).wt t.2.2.2.2.1≤1048576 by omega);omega)]
 unfold wfb vcj
 simp only [vtm ht]
 cases h:vbg t
 ·rfl
 ·obtain⟨⟨_,b1⟩,⟨_,b2⟩,⟨_,b3⟩,⟨_,b4⟩,b5,b6,b7,b8,b9⟩:=vit h
  have v1:=vaz t.1
  have v2:=vaz t.2.1
  have v3:=vaz t.2.2.1
  have v4:=vaz t.2.2.2.1
  have v5:=vaz (t.2.2.2.2.1.length:Int)
  have v6:=vaz (t.2.2.2.2.2.1.length:Int)
  have v7:=vd0 t.2.2.2.2.2.2.1
  have v8:=vbr t.2.2.2.2.2.2.2
  have s2:=ByteArray.size_append (a:=(varB t.1)) (b:=(varB t.2.1))
  have s3:=ByteArray.size_append (a:=(varB t.1++varB t.2.1)) (b:=(varB t.2.2.1))
  have s4:=ByteArray.size_append (a:=(varB t.1++varB t.2.1++varB t.2.2.1)) (b:=(varB t.2.2.2.1))
  have s5:=ByteArray.size_append (a:=(varB t.1++varB t.2.1++varB t.2.2.1++varB t.2.2.2.1)) (b:=(varB t.2.2.2.2.1.length))
  obtain⟨j1,h1,z1⟩:=vz8 (u2:=t.1) (u3:=t.2.1) (u4:=t.2.2.1) (u5:=t.2.2.2.1) (u6:=t.2.2.2.2.1) (u7:=t.2.2.2.2.2.1) (u8:=t.2.2.2.2.2.2.1) (u9:=t.2.2.2.2.2.2.2) t.2.2.2.2.1 (varB t.1++varB t.2.1++varB t.2.2.1++varB t.2.2.2.1++varB t.2.2.2.2.1.length) 0 b6 (by omega)
  have s6:=ByteArray.size_append (a:=(vef t.2.2.2.2.1 (varB t.1++varB t.2.1++varB t.2.2.1++varB t.2.2.2.1++varB t.2.2.2.2.1.length))) (b:=(varB t.2.2.2.2.2.1.length))
  obtain⟨j2,h2,z2⟩:=vy6 (u2:=t.1) (u3:=t.2.1) (u4:=t.2.2.1) (u5:=t.2.2.2.1) (u6:=t.2.2.2.2.1) (u7:=t.2.2.2.2.2.1) (u8:=t.2.2.2.2.2.2.1) (u9:=t.2.2.2.2.2.2.2) t.2.2.2.2.2.1 (vef t.2.2.2.2.1 (varB t.1++varB t.2.1++varB t.2.2.1++varB t.2.2.2.1++varB t.2.2.2.2.1.length)++varB t.2.2.2.2.2.1.length) 0 b8 (by omega)
  have s7:=ByteArray.size_append (a:=(vgf t.2.2.2.2.2.1 (vef t.2.2.2.2.1 (varB t.1++varB t.2.1++varB t.2.2.1++varB t.2.2.2.1++varB t.2.2.2.2.1.length)++varB t.2.2.2.2.2.1.length))) (b:=(bitB t.2.2.2.2.2.2.1))
  simp only [Bool.not_true,cond_false,cond_true,vew b1,vew b2,vew b3,vew b4,vew (show (t.2.2.2.2.1.length:Int)≤16383 by omega),vew (show (t.2.2.2.2.2.1.length:Int)≤16383 by omega),vwn,vi7 b9]
  rw [if_pos (by omega),if_pos (by omega),if_pos (by omega),if_pos (by omega),h1]
  simp only []
  rw [if_pos (by omega),h2]
  simp only []
  rw [if_pos (by omega),if_pos (by omega)]
theorem wnq {t:tTxn.D}(ht:tTxn.wt t≤1048576) (k):vw0 t k=k (bif vbg t then(vcj t,true)else(⟨#[]⟩,false)):=by
 rw [w36 (by have:=vu6 t;have:=vct (show (Ty.slice tWrite).wt t.2.2.2.2.2.1≤1048576 by omega);omega) (by have:=vu6 t;have:=vct (show (Ty.slice tRange).wt t.2.2.2.2.1≤1048576 by omega);omega)]
 unfold wpg vcj
 simp only [vuu ht]
 cases h:vbg t
 ·rfl
 ·obtain⟨b1,b2,b3,b4,b5,b6,b7,b8,b9⟩:=vit h
  have hn:∀n∈([t.1,t.2.1,t.2.2.1,t.2.2.2.1,(t.2.2.2.2.1.length:Int)]:List Int),0≤n∧n≤16383:=by
   intro n hn
   simp only [List.mem_cons,List.not_mem_nil,or_false]at hn
   rcases hn with rfl|rfl|rfl|rfl|rfl
   ·exact b1
   ·exact b2
   ·exact b3
   ·exact b4
   ·exact⟨Int.natCast_nonneg _,by omega⟩
  have n1:=vzw [t.1,t.2.1,t.2.2.1,t.2.2.2.1,(t.2.2.2.2.1.length:Int)] []
  simp only [List.length_cons,List.length_nil]at n1
  obtain⟨j1,h1,z1⟩:=v4o (u0:=t.2.2.2.2.1) (u3:=t.1) (u4:=t.2.1) (u5:=t.2.2.1) (u6:=t.2.2.2.1) (u7:=t.2.2.2.2.1) (u8:=t.2.2.2.2.2.1) (u9:=t.2.2.2.2.2.2.1) (u10:=t.2.2.2.2.2.2.2) t.2.2.2.2.1 (vki [t.1,t.2.1,t.2.2.1,t.2.2.2.1,(t.2.2.2.2.1.length:Int)] []) 0 b6 (by omega)
  have v6:=vaz (t.2.2.2.2.2.1.length:Int)
  have e1:(vfa t.2.2.2.2.1 (vki [t.1,t.2.1,t.2.2.1,t.2.2.2.1,(t.2.2.2.2.1.length:Int)] [])++vah (varB (t.2.2.2.2.2.1.length:Int))).length≤500:=by rw [List.length_append,vak];omega
  obtain⟨j2,h2,z2⟩:=v5b (u0:=t.2.2.2.2.2.1) (u3:=t.1) (u4:=t.2.1) (u5:=t.2.2.1) (u6:=t.2.2.2.1) (u7:=t.2.2.2.2.1) (u8:=t.2.2.2.2.2.1) (u9:=t.2.2.2.2.2.2.1) (u10:=t.2.2.2.2.2.2.2) t.2.2.2.2.2.1 (vfa t.2.2.2.2.1 (vki [t.1,t.2.1,t.2.2.1,t.2.2.2.1,(t.2.2.2.2.1.length:Int)] [])++vah (varB (t.2.2.2.2.2.1.length:Int))) 0 b8 (by omega)
  have v7:=vd0 t.2.2.2.2.2.2.1
  have e2:(vic t.2.2.2.2.2.1 (vfa t.2.2.2.2.1 (vki [t.1,t.2.1,t.2.2.1,t.2.2.2.1,(t.2.2.2.2.1.length:Int)] [])++vah (varB (t.2.2.2.2.2.1.length:Int)))++vah (bitB t.2.2.2.2.2.2.1)).length≤1000:=by rw [List.length_append,vak];omega
  simp only [Bool.not_true,cond_false,cond_true,wrm hn (show _≤100 by simp),h1,v5g (s:=vfa t.2.2.2.2.1 (vki [t.1,t.2.1,t.2.2.1,t.2.2.2.1,(t.2.2.2.2.1.length:Int)] [])) (show (0:Int)≤(t.2.2.2.2.2.1.length:Int) by omega) (show (t.2.2.2.2.2.1.length:Int)≤16383 by omega) (by omega),Sum.elim_inr,h2,v53 t.2.2.2.2.2.2.1 (s:=vic t.2.2.2.2.2.1 (vfa t.2.2.2.2.1 (vki [t.1,t.2.1,t.2.2.1,t.2.2.2.1,(t.2.2.2.2.1.length:Int)] [])++vah (varB (t.2.2.2.2.2.1.length:Int)))) (by omega),wgx b9 (s:=(vic t.2.2.2.2.2.1 (vfa t.2.2.2.2.1 (vki [t.1,t.2.1,t.2.2.1,t.2.2.2.1,(t.2.2.2.2.1.length:Int)] [])++vah (varB (t.2.2.2.2.2.1.length:Int)))++vah (bitB t.2.2.2.2.2.2.1))) (by omega)]
  congr 2
  simp only [va4,vav,v89,v9b,vki,show van []=(⟨#[]⟩:ByteArray)from rfl,List.nil_append]
end
end Go.VE
/- Plain laws of the draws: each gives,whatever the bytes. -/
namespace Go.VE
noncomputable section
set_option linter.unusedVariables false
set_option linter.unusedSimpArgs false
set_option maxRecDepth 100000
def Gives {α:Type}(F:(α→Option Res)→Option Res)(Q:α→Prop):Prop:=∃v,Q v∧∀k,F k=k v
theorem vpc {α:Type}{v:α}{Q:α→Prop}(h:Q v):Gives (fun k=>k v) Q:=⟨v,h,fun _=>rfl⟩
theorem Gives.bind {α β:Type}{F:(β→Option Res)→Option Res}{R:β→Prop}(hF:Gives F R){H:β→(α→Option Res)→Option Res}{Q:α→Prop}(hH:∀v,R v→Gives (H v) Q):Gives (fun k=>F fun v=>H v k) Q:=by
 obtain⟨v,h1,h2⟩:=hF
 obtain⟨y,h3,h4⟩:=hH v h1
 exact⟨y,h3,fun k=>(h2 _).trans (h4 k)⟩
theorem vyf {α:Type}{c:Bool}{F G:(α→Option Res)→Option Res}{Q:α→Prop}(hF:c=true→Gives F Q)(hG:c=false→Gives G Q):Gives (fun k=>bif c then F k else G k) Q:=by
 cases c
 ·exact hG rfl
 ·exact hF rfl
theorem war {α:Type}{c:Prop} [Decidable c]{F:(α→Option Res)→Option Res}{Q:α→Prop}(hc:c)(hF:Gives F Q):Gives (fun k=>if c then F k else none) Q:=by
 simp only [hc,if_true];exact hF
theorem Gives.mono {α:Type}{F:(α→Option Res)→Option Res}{Q R:α→Prop}(h:Gives F Q)(hq:∀v,Q v→R v):Gives F R:=by
 obtain⟨v,h1,h2⟩:=h
 exact⟨v,hq v h1,h2⟩
theorem v3p {β γ:Type}{b:β→(β⊕γ→Option Res)→Option Res}{x:β}{n:Nat}{Q:γ→Prop}(h:Gives (b x) (fun r=>(∀y,r = .inl y→Gives (vae b n y) Q)∧∀z,r = .inr z→Q z)):Gives (vae b (n+1) x) Q:=by
 obtain⟨v,h1,h2⟩:=h
 cases v with
 |inl y=>
  obtain⟨w,h3,h4⟩:=h1.1 y rfl
  exact⟨w,h3,fun k=>by rw [vae,h2];exact h4 k⟩
 |inr z=>exact⟨z,h1.2 z rfl,fun k=>by rw [vae,h2];rfl⟩
theorem w2r {β γ:Type}{Q:γ→Prop}{G:β→Prop}{y:β}(h:G y):(∀x,(Sum.inl y:β⊕γ) = .inl x→G x)∧∀z,(Sum.inl y:β⊕γ) = .inr z→Q z:=⟨fun _ e=>by cases e;exact h,fun _ e=>(nomatch e)⟩
theorem wxg {β γ:Type}{Q:γ→Prop}{G:β→Prop}{z:γ}(h:Q z):(∀x,(Sum.inr z:β⊕γ) = .inl x→G x)∧∀w,(Sum.inr z:β⊕γ) = .inr w→Q w:=⟨fun _ e=>(nomatch e),fun _ e=>by cases e;exact h⟩
end
end Go.VE
/- Plain laws of the marks: what is marked in place is held. -/
namespace Go.VE
noncomputable section
set_option linter.unusedVariables false
set_option linter.unusedSimpArgs false
set_option maxRecDepth 100000
theorem vr3 (n:Int):(van [n]).size=1:=rfl
theorem v68:∀(m:Nat)(n:Int)(s:ByteArray)(q:Nat),n≤m→m<q→s.size+m≤100000000→Gives (vae vsa q (n,s)) (fun z=>z.2.size≤s.size+m):=by
 intro m
 induction m with
 |zero=>
  intro n s q hn hq hs
  obtain⟨q,rfl⟩:∃r,q=r+1:=⟨q-1,by omega⟩
  apply v3p
  unfold vsa
  exact vyf (fun c=>by have c:=of_decide_eq_true c;dsimp only at c;omega) (fun _=>vpc (wxg (by dsimp only;omega)))
 |succ m ih=>
  intro n s q hn hq hs
  obtain⟨q,rfl⟩:∃r,q=r+1:=⟨q-1,by omega⟩
  apply v3p
  unfold vsa
  refine vyf (fun c=>war ?_ (vpc (w2r ?_))) (fun _=>vpc (wxg (by dsimp only;omega)))
  ·rw [vr3];dsimp only;omega
  ·have c:=of_decide_eq_true c
   dsimp only at c
   have e:n.tdiv 10=n / 10:=Int.tdiv_eq_ediv_of_nonneg (by omega)
   dsimp only
   rw [e,vau (by omega) (by omega)]
   refine(ih (n / 10) _ q (by omega) (by omega) (by rw [ByteArray.size_append,vr3];omega)).mono (fun z hz=>?_)
   rw [ByteArray.size_append,vr3]at hz
   omega
theorem wkr {n:Int}(h:n≤10000000):Gives (vc8 n) (fun _=>True):=by
 rw [wrd]
 unfold wix
 refine vyf (fun _=>vpc trivial) (fun _=>(v68 10000000 n _ Fuel (by omega) (by have:=vba;omega) (by decide)).bind (fun z hz=>war ?_ (vpc trivial)))
 have:(⟨#[109]⟩:ByteArray).size=1:=rfl
 have:(⟨#[]⟩:ByteArray).size=0:=rfl
 omega
open Classical in
def vpv (n:Int):ByteArray:=if h:∃v,∀k,vc8 n k=k v then Classical.choose h else⟨#[]⟩
theorem vbx {n:Int}(h:n≤10000000) (k):vc8 n k=k (vpv n):=by
 obtain⟨v,_,hv⟩:=wkr h
 have h1:∃v,∀k,vc8 n k=k v:=⟨v,hv⟩
 unfold vpv
 rw [dif_pos h1]
 exact Classical.choose_spec h1 k
theorem v54 {α:Type}(pre:List α)(y v:α)(l:List α):(pre++y::l).set pre.length v=pre++v::l:=by simp
theorem vws {α:Type}(pre:List α)(y d:α)(l:List α):(pre++y::l).getD pre.length d=y:=by simp [List.getD]
def vlt:Int→List tRange.D→List tRange.D
 |_,[]=>[]
 |c,y::l=>(vpv c,vpv (c+1))::vlt (c+2) l
theorem vik:∀(l pre:List tRange.D)(c:Int)(q:Nat),0≤c→c+2*l.length≤9000000→pre.length+l.length≤1048576→l.length<q→
  ∃j:Int,∀k,vae vr1 q (c,(pre.length:Int),pre++l) k=k (c+2*l.length,j,pre++vlt c l)
 |[],pre,c,q,h0,hc,hl,hq=>by
  obtain⟨q,rfl⟩:∃r,q=r+1:=⟨q-1,by omega⟩
  refine⟨pre.length,fun k=>?_⟩
  simp only [vae,vr1,List.append_nil,Int.lt_irrefl,decide_false,cond_false,Sum.elim_inr,List.length_nil,vlt]
  simp
 |y::l,pre,c,q,h0,hc,hl,hq=>by
  obtain⟨q,rfl⟩:∃r,q=r+1:=⟨q-1,by omega⟩
  simp only [List.length_cons]at hc hl hq
  obtain⟨j,hj⟩:=vik l (pre++[(vpv c,vpv (c+1))]) (c+2) q (by omega) (by omega) (by rw [List.length_append,List.length_singleton];omega) (by omega)
  refine⟨j,fun k=>?_⟩
  have hlt:(pre.length:Int)<((pre++y::l).length:Int):=by rw [List.length_append,List.length_cons];omega
  have hlt2:∀v:tRange.D,(pre.length:Int)<((pre++v::l).length:Int):=fun v=>by rw [List.length_append,List.length_cons];omega
  have w1:IntKind.wrap .i64 (c+1)=c+1:=vau (by omega) (by omega)
  have w2:IntKind.wrap .i64 (c+1+1)=c+2:=by rw [vau (by omega) (by omega)];omega
  have w3:IntKind.wrap .i64 ((pre.length:Int)+1)=((pre.length+1:Nat):Int):=va8 (by omega)
  have hp:(0:Int)≤(pre.length:Int):=Int.natCast_nonneg _
  have hj':=hj k
  rw [List.length_append,List.length_singleton,List.append_assoc,List.singleton_append,List.append_assoc,List.singleton_append]at hj'
  simp only [vae,vr1,hlt,decide_true,cond_true,vbx (show c≤10000000 by omega),w1,vbx (show c+1≤10000000 by omega),Int.toNat_natCast,v54,vws,hlt2,hp,and_self,if_true,w2,w3,Sum.elim_inl]
  rw [hj']
  simp only [vlt,List.length_cons]
  congr 2
  push_cast
  omega
theorem w0d {l:List tRange.D}(hl:l.length≤1048576){c:Int}(h0:0≤c)(hc:c≤5000000) (k):vzj c l k=k (c+2*l.length,vlt c l):=by
 rw [wf7]
 unfold v8y
 obtain⟨j,hj⟩:=vik l [] c Fuel h0 (by omega) (by simpa using hl) (by have:=vba;omega)
 simp only [List.length_nil,List.nil_append]at hj
 rw [show ((0:Int))=((0:Nat):Int)from rfl,hj]
def vk7:Int→List tWrite.D→List tWrite.D
 |_,[]=>[]
 |c,y::l=>(vpv c,(vpv (c+1),((c+2).tmod 3==0)))::vk7 (c+3) l
theorem vi3:∀(l pre:List tWrite.D)(c:Int)(q:Nat),0≤c→c+3*l.length≤9000000→pre.length+l.length≤1048576→l.length<q→
  ∃j:Int,∀k,vae vsg q (c,(pre.length:Int),pre++l) k=k (c+3*l.length,j,pre++vk7 c l)
 |[],pre,c,q,h0,hc,hl,hq=>by
  obtain⟨q,rfl⟩:∃r,q=r+1:=⟨q-1,by omega⟩
  refine⟨pre.length,fun k=>?_⟩
  simp only [vae,vsg,List.append_nil,Int.lt_irrefl,decide_false,cond_false,Sum.elim_inr,List.length_nil,vk7]
  simp
 |y::l,pre,c,q,h0,hc,hl,hq=>by
  obtain⟨q,rfl⟩:∃r,q=r+1:=⟨q-1,by omega⟩
  simp only [List.length_cons]at hc hl hq
  obtain⟨j,hj⟩:=vi3 l (pre++[(vpv c,(vpv (c+1),((c+2).tmod 3==0)))]) (c+3) q (by omega) (by omega) (by rw [List.length_append,List.length_singleton];omega) (by omega)
  refine⟨j,fun k=>?_⟩
  have hlt:(pre.length:Int)<((pre++y::l).length:Int):=by rw [List.length_append,List.length_cons];omega
  have hlt2:∀v:tWrite.D,(pre.length:Int)<((pre++v::l).length:Int):=fun v=>by rw [List.length_append,List.length_cons];omega
  have w1:IntKind.wrap .i64 (c+1)=c+1:=vau (by omega) (by omega)
  have w2:IntKind.wrap .i64 (c+1+1)=c+2:=by rw [vau (by omega) (by omega)];omega
  have w4:IntKind.wrap .i64 (c+2+1)=c+3:=by rw [vau (by omega) (by omega)];omega
  have w3:IntKind.wrap .i64 ((pre.length:Int)+1)=((pre.length+1:Nat):Int):=va8 (by omega)
  have hp:(0:Int)≤(pre.length:Int):=Int.natCast_nonneg _
  have hj':=hj k
  rw [List.length_append,List.length_singleton,List.append_assoc,List.singleton_append,List.append_assoc,List.singleton_append]at hj'
  simp only [vae,vsg,hlt,decide_true,cond_true,vbx (show c≤10000000 by omega),w1,vbx (show c+1≤10000000 by omega),Int.toNat_natCast,v54,vws,hlt2,hp,and_self,if_true,w2,w3,w4,Sum.elim_inl]
  rw [hj']
  simp only [vk7,List.length_cons]
  congr 2
  push_cast
  omega
theorem w0y {l:List tWrite.D}(hl:l.length≤1048576){c:Int}(h0:0≤c)(hc:c≤5000000) (k):vyb c l k=k (c+3*l.length,vk7 c l):=by
 rw [wig]
 unfold v9d
 obtain⟨j,hj⟩:=vi3 l [] c Fuel h0 (by omega) (by simpa using hl) (by have:=vba;omega)
 simp only [List.length_nil,List.nil_append]at hj
 rw [show ((0:Int))=((0:Nat):Int)from rfl,hj]
theorem vi1 {u0 u2}:∀(l:List tRange.D)(c:Int)(i:Nat),0≤c→c+2*l.length≤9000000→∃j:Int,∀k,vm2 u0 u2 (vlt c l) c i k=k (.inr (c+2*l.length,j))
 |[],c,i,_,_=>⟨_,fun k=>by simp only [vlt,vm2,List.length_nil];simp;rfl⟩
 |y::l,c,i,h0,hc=>by
  simp only [List.length_cons]at hc
  obtain⟨j,hj⟩:=vi1 (u0:=u0) (u2:=u2) l (c+2) (i+1) (by omega) (by omega)
  have w1:IntKind.wrap .i64 (c+1)=c+1:=vau (by omega) (by omega)
  have w2:IntKind.wrap .i64 (c+1+1)=c+2:=by rw [vau (by omega) (by omega)];omega
  refine⟨j,fun k=>?_⟩
  simp only [vlt,vm2,vbx (show c≤10000000 by omega),w1,vbx (show c+1≤10000000 by omega),vc9,Bool.not_true,cond_false,w2,hj,List.length_cons]
  congr 3
  push_cast
  omega
theorem vih {u0 u2}:∀(l:List tWrite.D)(c:Int)(i:Nat),0≤c→c+3*l.length≤9000000→∃j:Int,∀k,vmz u0 u2 (vk7 c l) c i k=k (.inr (c+3*l.length,j))
 |[],c,i,_,_=>⟨_,fun k=>by simp only [vk7,vmz,List.length_nil];simp;rfl⟩
 |y::l,c,i,h0,hc=>by
  simp only [List.length_cons]at hc
  obtain⟨j,hj⟩:=vih (u0:=u0) (u2:=u2) l (c+3) (i+1) (by omega) (by omega)
  have w1:IntKind.wrap .i64 (c+1)=c+1:=vau (by omega) (by omega)
  have w2:IntKind.wrap .i64 (c+1+1)=c+2:=by rw [vau (by omega) (by omega)];omega
  have w4:IntKind.wrap .i64 (c+2+1)=c+3:=by rw [vau (by omega) (by omega)];omega
  refine⟨j,fun k=>?_⟩
  simp only [vk7,vmz,vbx (show c≤10000000 by omega),w1,vbx (show c+1≤10000000 by omega),vc9,Bool.not_true,cond_false,w2,w4,hj,List.length_cons,beq_self_eq_true]
  congr 3
  push_cast
  omega
end
end Go.VE
/- Plain laws: a transaction's marks. -/
namespace Go.VE
noncomputable section
set_option linter.unusedVariables false
set_option linter.unusedSimpArgs false
set_option maxRecDepth 100000
theorem vo0:∀(c:Int)(l:List tRange.D),(vlt c l).length=l.length
 |_,[]=>rfl
 |c,y::l=>by simp [vlt,vo0 (c+2) l]
theorem vp4:∀(c:Int)(l:List tWrite.D),(vk7 c l).length=l.length
 |_,[]=>rfl
 |c,y::l=>by simp [vk7,vp4 (c+3) l]
theorem wys {a0 a1 a2 a3 a4 a5}{r:List tRange.D}{w:List tWrite.D}(hr:r.length≤1048577)(hw:w.length≤1048576)(hr2:r.length≤1048576) (k) :
  wa2 a0 a1 a2 a3 a4 a5 1 r w k=k (1+2*(r.length:Int)+3*(w.length:Int),vlt 1 r,vk7 (1+2*(r.length:Int)) w):=by
 rw [wq6]
 unfold wfp
 simp only [w0d hr2 (show (0:Int)≤1 by decide) (show (1:Int)≤5000000 by decide),w0y hw (show (0:Int)≤1+2*(r.length:Int) by omega) (show 1+2*(r.length:Int)≤5000000 by omega)]
theorem wei {a b c d:Int}{f:Bool}{n:ByteArray}{r:List tRange.D}{w:List tWrite.D}(hr:r.length≤1048576)(hw:w.length≤1048576) (k) :
  wat (a,(b,(c,(d,(vlt 1 r,(vk7 (1+2*(r.length:Int)) w,(f,n))))))) 1 k=k (1+2*(r.length:Int)+3*(w.length:Int)):=by
 have h1:∀k,vt4 (vlt 1 r) 1 k=k (1+2*(r.length:Int)):=fun k=>by
  rw [wwx (by rw [vo0];omega)]
  unfold wfd
  obtain⟨j,hj⟩:=vi1 (u0:=vlt 1 r) (u2:=0) r 1 0 (by decide) (by omega)
  rw [hj];rfl
 have h2:∀k,vtj (vk7 (1+2*(r.length:Int)) w) (1+2*(r.length:Int)) k=k (1+2*(r.length:Int)+3*(w.length:Int)):=fun k=>by
  rw [wwg (by rw [vp4];omega)]
  unfold wg7
  obtain⟨j,hj⟩:=vih (u0:=vk7 (1+2*(r.length:Int)) w) (u2:=0) w (1+2*(r.length:Int)) 0 (by omega) (by omega)
  rw [hj];rfl
 rw [wru]
 unfold whu
 simp only [h1,h2,decide_eq_false (show ¬(1+2*(r.length:Int))<0 by omega),decide_eq_false (show ¬(1+2*(r.length:Int)+3*(w.length:Int))<0 by omega),cond_false]
end
end Go.VE
/- Plain laws: versions,bases. -/
namespace Go.VE
noncomputable section
set_option linter.unusedVariables false
set_option linter.unusedSimpArgs false
set_option maxRecDepth 100000
def vl3 (v:tVersion.D):Bool:=vdb v.1&&decide ((v.2.1.size:Int)≤12)&&(!v.2.2.1||vap v.2.1 ⟨#[]⟩)&&var v.2.2.2 1 9999
def vt1 (x y:tVersion.D):Bool:=va3 x.1 y.1||(vap x.1 y.1&&decide (x.2.2.2<y.2.2.2))
def vgn:Option tVersion.D→List tVersion.D→Bool
 |_,[]=>true
 |p,y::l=>vl3 y&&(match p with|none=>true|some x=>vt1 x y)&&vgn (some y) l
def vdj (l:List tVersion.D):Bool:=vgn none l&&decide ((l.length:Int)≤120)
def cmpS (x y:ByteArray):Int:=bif va3 x y then -1 else bif !(va3 x y||vap x y)then 1 else 0
def cmpI (x y:Int):Int:=bif decide (x<y)then -1 else bif decide (x>y)then 1 else 0
def cmpV (x y:tVersion.D):Int:=bif cmpS x.1 y.1 != 0 then cmpS x.1 y.1 else cmpI x.2.2.2 y.2.2.2
theorem wzu (x y) (k):v9i x y k=k (cmpS x y):=by
 rw [wn3]
 unfold wiw cmpS
 rw [wpx]
 unfold whv
 simp only [vc9,Bool.not_true,cond_false]
 cases va3 x y<;>cases vap x y<;>rfl
theorem wyp (x y) (k):wbd x y k=k (cmpI x y):=by
 rw [wp4]
 unfold wfu cmpI
 rw [wnx]
 unfold whf
 simp only [bne_self_eq_false,cond_false]
 cases decide (x<y)<;>cases decide (x>y)<;>rfl
theorem wzw (x y:tVersion.D) (k):vv1 x y k=k (cmpV x y):=by
 rw [wrl]
 unfold whx cmpV
 simp only [wzu,wyp]
 cases cmpS x.1 y.1 != 0<;>rfl
theorem wvt (x y:tVersion.D):decide (cmpV x y≥0) = !vt1 x y:=by
 unfold cmpV vt1 cmpS cmpI
 cases h1:va3 x.1 y.1
 ·cases h2:vap x.1 y.1
  ·simp
  ·simp only [cond_false,Bool.or_true,Bool.not_true,bne_self_eq_false,Bool.false_or,Bool.true_and]
   by_cases h3:x.2.2.2<y.2.2.2
   ·simp [h3]
   ·by_cases h4:x.2.2.2>y.2.2.2
    ·simp [h3,h4]
    ·simp [h3,h4]
 ·simp
theorem v27 {u0:List tVersion.D}(hu:∀y∈u0,tVersion.wt y≤1048576)(hl:u0.length≤1048576) {u1 u2}:∀(l:List tVersion.D)(i:Nat),u0.drop i=l→∃j:Int,∀k,
  vin u0 u1 u2 l i k=k (bif vgn (if i=0 then none else some (u0.getD (i-1) (Ty.zero tVersion))) l then .inr j else .inl (false,j))
 |[],i,_=>⟨_,fun k=>rfl⟩
 |y::l,i,h=>by
  obtain⟨j,hj⟩:=v27 hu hl (u1:=u1) (u2:=u2) l (i+1) (vb5 h)
  have hlt:=vde h
  have hy:=(va1 h).2 (Ty.zero tVersion)
  have hyw:=hu y (vc7 h)
  rw [vsz]at hyw
  rw [if_neg (by omega),show i+1-1=i by omega,hy]at hj
  simp only [vin,vuk (show y.1.size≤1048576 by omega),vpd,wzw,wvt,hj,vgn,vl3]
  have hsz:decide ((y.2.1.size:Int)>12) = !decide ((y.2.1.size:Int)≤12):=by
   by_cases h:(y.2.1.size:Int)≤12
   ·simp [h]
   ·simp [h];omega
  rw [hsz]
  by_cases hi:i=0
  ·subst hi
   simp only [if_pos,show ¬((0:Nat):Int)>0 by omega,decide_false,cond_false,Bool.and_true]
   cases vdb y.1<;>cases decide ((y.2.1.size:Int)≤12)<;>cases y.2.2.1<;>cases vap y.2.1 ⟨#[]⟩<;>cases var y.2.2.2 1 9999<;>first|(refine⟨((0:Nat):Int),fun k=>?_⟩;simp;done)|(refine⟨j,fun k=>?_⟩;simp;done)
  ·have hw:IntKind.wrap .i64 ((i:Int)-1)=((i-1:Nat):Int):=by rw [vau (by omega) (by omega)];omega
   have hrd:rd (Ty.zero tVersion) u0 ((i-1:Nat):Int)=u0.getD (i-1) (Ty.zero tVersion):=rfl
   simp only [if_neg hi,show (i:Int)>0 by omega,decide_true,cond_true,hw,hrd,if_pos (show 0≤((i-1:Nat):Int)∧((i-1:Nat):Int)<(u0.length:Int) by omega)]
   cases vdb y.1<;>cases decide ((y.2.1.size:Int)≤12)<;>cases y.2.2.1<;>cases vap y.2.1 ⟨#[]⟩<;>cases var y.2.2.2 1 9999<;>cases vt1 (u0.getD (i-1) (Ty.zero tVersion)) y<;>first|(refine⟨(i:Int),fun k=>?_⟩;simp;done)|(refine⟨j,fun k=>?_⟩;simp;done)
theorem wz2 {x:List tVersion.D}(hx:(Ty.slice tVersion).wt x≤1048576) (k):vzv x k=k (vdj x):=by
 have hl:=vct hx
 rw [w07 (by omega)]
 unfold wpn vdj
 obtain⟨j,hj⟩:=v27 (u0:=x) (fun y hy=>vcu hy hx) hl (u1:=false) (u2:=x) x 0 rfl
 rw [hj]
 simp only [if_true]
 cases vgn none x<;>rfl
theorem vz1 {u0:List tVersion.D}(hu:∀y∈u0,tVersion.wt y≤1048576)(hl:u0.length≤1048576):∀(l:List tVersion.D)(i:Nat),u0.drop i=l→∃j:Int,∀k,
  vhp u0 false l i k=k (bif vgn (if i=0 then none else some (u0.getD (i-1) (Ty.zero tVersion))) l then .inr j else .inl (false,j))
 |[],i,_=>⟨_,fun k=>rfl⟩
 |y::l,i,h=>by
  obtain⟨j,hj⟩:=vz1 hu hl l (i+1) (vb5 h)
  have hlt:=vde h
  have hy:=(va1 h).2 (Ty.zero tVersion)
  have hyw:=hu y (vc7 h)
  rw [vsz]at hyw
  rw [if_neg (by omega),show i+1-1=i by omega,hy]at hj
  simp only [vhp,vdy,vux (show y.1.size≤1048576 by omega),vm6,hj,vgn,vl3]
  have hsz:decide ((y.2.1.size:Int)>12) = !decide ((y.2.1.size:Int)≤12):=by
   by_cases h:(y.2.1.size:Int)≤12
   ·simp [h]
   ·simp [h];omega
  rw [hsz]
  by_cases hi:i=0
  ·subst hi
   simp only [if_pos,show ¬((0:Nat):Int)>0 by omega,decide_false,cond_false,Bool.and_true]
   cases vdb y.1<;>cases decide ((y.2.1.size:Int)≤12)<;>cases y.2.2.1<;>cases vap y.2.1 ⟨#[]⟩<;>cases var y.2.2.2 1 9999<;>first|(refine⟨((0:Nat):Int),fun k=>?_⟩;simp;done)|(refine⟨j,fun k=>?_⟩;simp;done)
  ·have hw:IntKind.wrap .i64 ((i:Int)-1)=((i-1:Nat):Int):=by rw [vau (by omega) (by omega)];omega
   have hrd:rd (Ty.zero tVersion) u0 ((i-1:Nat):Int)=u0.getD (i-1) (Ty.zero tVersion):=rfl
   simp only [if_neg hi,show (i:Int)>0 by omega,decide_true,cond_true,hw,hrd,if_pos (show 0≤((i-1:Nat):Int)∧((i-1:Nat):Int)<(u0.length:Int) by omega)]
   generalize u0.getD (i-1) (Ty.zero tVersion)=x
   have hge:decide (x.2.2.2≥y.2.2.2) = !decide (x.2.2.2<y.2.2.2):=by rw [Bool.eq_iff_iff];simp
   unfold vt1
   rw [hge]
   cases h1:va3 x.1 y.1
   ·cases vdb y.1<;>cases decide ((y.2.1.size:Int)≤12)<;>cases y.2.2.1<;>cases vap y.2.1 ⟨#[]⟩<;>cases var y.2.2.2 1 9999<;>cases vap x.1 y.1<;>cases decide (x.2.2.2<y.2.2.2)<;>first|(refine⟨(i:Int),fun k=>?_⟩;simp;done)|(refine⟨j,fun k=>?_⟩;simp;done)
   ·rw [wlg h1]
    cases vdb y.1<;>cases decide ((y.2.1.size:Int)≤12)<;>cases y.2.2.1<;>cases vap y.2.1 ⟨#[]⟩<;>cases var y.2.2.2 1 9999<;>first|(refine⟨(i:Int),fun k=>?_⟩;simp;done)|(refine⟨j,fun k=>?_⟩;simp;done)
theorem wt8 {x:List tVersion.D}(hx:(Ty.slice tVersion).wt x≤1048576) (k):vr4 x k=k (vdj x):=by
 have hl:=vct hx
 rw [wzj (by omega)]
 unfold wec vdj
 obtain⟨j,hj⟩:=vz1 (u0:=x) (fun y hy=>vcu hy hx) hl x 0 rfl
 rw [hj]
 simp only [if_true]
 cases vgn none x<;>rfl
def vf8 (cs:Int):Option tTxn.D→List tTxn.D→Bool
 |_,[]=>true
 |p,y::l=>vbg y&&(y.2.1==3)&&decide (y.2.2.2.1≤cs)&&(match p with|none=>true|some x=>decide (x.2.2.2.1<y.2.2.2.1))&&vf8 cs (some y) l
def vd4 (cs:Int):Option tTxn.D→List tTxn.D→Bool
 |_,[]=>true
 |p,y::l=>vbg y&&(y.2.1==2)&&decide (y.2.2.1≤cs)&&(match p with|none=>true|some x=>va3 x.2.2.2.2.2.2.2 y.2.2.2.2.2.2.2)&&vd4 cs (some y) l
def vmv (nx:Int):List Int→List Int→Bool
 |_,[]=>true
 |pre,y::l=>decide (y<nx) && !(pre.any fun z=>z==y)&&vmv nx (pre++[y]) l
theorem v4r {u5:List tTxn.D}(hu:∀y∈u5,tTxn.wt y≤1048576)(hl:u5.length≤1048576) {u0 u1 u4 u6 u7 u8}:∀(l:List tTxn.D)(i:Nat),u5.drop i=l→∃j:Int,∀k,
  vnf u0 u1 u4 u5 u6 u7 u8 l i k=k (bif vf8 u7 (if i=0 then none else some (u5.getD (i-1) (Ty.zero tTxn))) l then .inr j else .inl (false,j))
 |[],i,_=>⟨_,fun k=>rfl⟩
 |y::l,i,h=>by
  obtain⟨j,hj⟩:=v4r hu hl (u0:=u0) (u1:=u1) (u4:=u4) (u6:=u6) (u7:=u7) (u8:=u8) l (i+1) (vb5 h)
  have hlt:=vde h
  have hy:=(va1 h).2 (Ty.zero tTxn)
  rw [if_neg (by omega),show i+1-1=i by omega,hy]at hj
  have hcs:decide (y.2.2.2.1>u7) = !decide (y.2.2.2.1≤u7):=by rw [Bool.eq_iff_iff];simp
  simp only [vnf,vuu (hu y (vc7 h)),wpr,hj,vf8,hcs]
  by_cases hi:i=0
  ·subst hi
   simp only [if_pos,show ¬((0:Nat):Int)>0 by omega,decide_false,cond_false,Bool.and_true]
   cases vbg y<;>cases (y.2.1==3)<;>cases decide (y.2.2.2.1≤u7)<;>first|(refine⟨((0:Nat):Int),fun k=>?_⟩;simp;done)|(refine⟨j,fun k=>?_⟩;simp;done)
  ·have hw:IntKind.wrap .i64 ((i:Int)-1)=((i-1:Nat):Int):=by rw [vau (by omega) (by omega)];omega
   have hrd:rd (Ty.zero tTxn) u5 ((i-1:Nat):Int)=u5.getD (i-1) (Ty.zero tTxn):=rfl
   simp only [if_neg hi,show (i:Int)>0 by omega,decide_true,cond_true,hw,hrd,if_pos (show 0≤((i-1:Nat):Int)∧((i-1:Nat):Int)<(u5.length:Int) by omega)]
   generalize u5.getD (i-1) (Ty.zero tTxn)=x
   have hge:decide (x.2.2.2.1≥y.2.2.2.1) = !decide (x.2.2.2.1<y.2.2.2.1):=by rw [Bool.eq_iff_iff];simp
   rw [hge]
   cases vbg y<;>cases (y.2.1==3)<;>cases decide (y.2.2.2.1≤u7)<;>cases decide (x.2.2.2.1<y.2.2.2.1)<;>first|(refine⟨(i:Int),fun k=>?_⟩;simp;done)|(refine⟨j,fun k=>?_⟩;simp;done)
theorem v2m {u6:List tTxn.D}(hu:∀y∈u6,tTxn.wt y≤1048576)(hl:u6.length≤1048576) {u0 u1 u4 u5 u7 u8}:∀(l:List tTxn.D)(i:Nat),u6.drop i=l→∃j:Int,∀k,
  vnb u0 u1 u4 u5 u6 u7 u8 l i k=k (bif vd4 u7 (if i=0 then none else some (u6.getD (i-1) (Ty.zero tTxn))) l then .inr j else .inl (false,j))
 |[],i,_=>⟨_,fun k=>rfl⟩
 |y::l,i,h=>by
  obtain⟨j,hj⟩:=v2m hu hl (u0:=u0) (u1:=u1) (u4:=u4) (u5:=u5) (u7:=u7) (u8:=u8) l (i+1) (vb5 h)
  have hlt:=vde h
  have hy:=(va1 h).2 (Ty.zero tTxn)
  rw [if_neg (by omega),show i+1-1=i by omega,hy]at hj
  have hcs:decide (y.2.2.1>u7) = !decide (y.2.2.1≤u7):=by rw [Bool.eq_iff_iff];simp
  simp only [vnb,vuu (hu y (vc7 h)),wms,hj,vd4,hcs]
  by_cases hi:i=0
  ·subst hi
   simp only [if_pos,show ¬((0:Nat):Int)>0 by omega,decide_false,cond_false,Bool.and_true]
   cases vbg y<;>cases (y.2.1==2)<;>cases decide (y.2.2.1≤u7)<;>first|(refine⟨((0:Nat):Int),fun k=>?_⟩;simp;done)|(refine⟨j,fun k=>?_⟩;simp;done)
  ·have hw:IntKind.wrap .i64 ((i:Int)-1)=((i-1:Nat):Int):=by rw [vau (by omega) (by omega)];omega
   have hrd:rd (Ty.zero tTxn) u6 ((i-1:Nat):Int)=u6.getD (i-1) (Ty.zero tTxn):=rfl
   simp only [if_neg hi,show (i:Int)>0 by omega,decide_true,cond_true,hw,hrd,if_pos (show 0≤((i-1:Nat):Int)∧((i-1:Nat):Int)<(u6.length:Int) by omega)]
   generalize u6.getD (i-1) (Ty.zero tTxn)=x
   cases vbg y<;>cases (y.2.1==2)<;>cases decide (y.2.2.1≤u7)<;>cases va3 x.2.2.2.2.2.2.2 y.2.2.2.2.2.2.2<;>first|(refine⟨(i:Int),fun k=>?_⟩;simp;done)|(refine⟨j,fun k=>?_⟩;simp;done)
theorem v2j {u0 u1 u4 u5 u6 u7 u8}:∀(l:List tVersion.D)(i:Nat),∃j:Int,∀k,
  vp6 u0 u1 u4 u5 u6 u7 u8 l i k=k (bif l.all (fun y=>decide (y.2.2.2≤u7))then .inr j else .inl (false,j))
 |[],i=>⟨_,fun k=>rfl⟩
 |y::l,i=>by
  obtain⟨j,hj⟩:=v2j (u0:=u0) (u1:=u1) (u4:=u4) (u5:=u5) (u6:=u6) (u7:=u7) (u8:=u8) l (i+1)
  have hcs:decide (y.2.2.2>u7) = !decide (y.2.2.2≤u7):=by rw [Bool.eq_iff_iff];simp
  simp only [vp6,hj,List.all_cons,hcs]
  cases decide (y.2.2.2≤u7)
  ·exact⟨(i:Int),fun k=>rfl⟩
  ·exact⟨j,fun k=>rfl⟩
theorem v8z {u0 u2}{α:Type}:∀(l:List (List tTxn.D))(s:Int)(i:Nat),0≤s→s+((l.map List.length).sum:Int)≤100000000→∃j:Int,∀k,vmn u0 u2 l s i k=k (s+((l.map List.length).sum:Int),j)
 |[],s,i,_,_=>⟨_,fun k=>by simp [vmn];rfl⟩
 |y::l,s,i,h0,h=>by
  simp only [List.map_cons,List.sum_cons]at h
  have hw:IntKind.wrap .i64 (s+(y.length:Int))=s+(y.length:Int):=vau (by omega) (by omega)
  obtain⟨j,hj⟩:=v8z (u0:=u0) (u2:=u2) (α:=α) l (s+(y.length:Int)) (i+1) (by omega) (by push_cast at h;omega)
  refine⟨j,fun k=>?_⟩
  simp only [vmn,hw,show decide (s+(y.length:Int)<0)=false by simp;omega,cond_false,hj]
  congr 2
  simp only [List.map_cons,List.sum_cons]
  push_cast
  omega
theorem vyo {u:List (List tTxn.D)}(hu:u.length≤1000):∀(l:List (List tTxn.D))(i:Nat)(s:List tTxn.D)(q:Nat),u.drop i=l→s.length+(l.map List.length).sum≤100000000→l.length<q→
  ∃j:Int,∀K,vae vez q (.inl (u,(u.length:Int),(i:Int),s)) K=K (.inl (u,(u.length:Int),j,s++l.flatten))
 |[],i,s,q,h,hs,hq=>by
  obtain⟨q,rfl⟩:∃r,q=r+1:=⟨q-1,by omega⟩
  have hi:u.length≤i:=by have:=congrArg List.length h;simp at this;omega
  refine⟨(i:Int),fun K=>?_⟩
  simp only [vae,vez,Sum.elim_inl,show ¬((i:Int)<(u.length:Int)) by omega,decide_false,cond_false,Sum.elim_inr,List.flatten_nil,List.append_nil]
 |y::l,i,s,q,h,hs,hq=>by
  obtain⟨q,rfl⟩:∃r,q=r+1:=⟨q-1,by omega⟩
  simp only [List.map_cons,List.sum_cons,List.length_cons]at hs hq
  have hlt:=vde h
  have hy:=(va1 h).1 (Ty.zero (.slice tTxn))
  have hm:s.length+y.length≤VE.maxLen:=by show _≤4294967296;omega
  have hw:IntKind.wrap .i64 ((i:Int)+1)=((i+1:Nat):Int):=va8 (by omega)
  obtain⟨j,hj⟩:=vyo hu l (i+1) (s++y) q (vb5 h) (by rw [List.length_append];omega) (by omega)
  refine⟨j,fun K=>?_⟩
  simp only [vae,vez,Sum.elim_inl,show ((i:Int)<(u.length:Int)) by omega,show (0:Int)≤(i:Int) by omega,decide_true,cond_true,and_self,if_true,hy,hm,hw]
  rw [hj,List.flatten_cons,List.append_assoc]
theorem wle {u:List (List tTxn.D)}(hu:u.length≤1000)(hs:(u.map List.length).sum≤100000000){q:Nat}(hq:u.length<q) :
  ∃z:(_⊕_),(∃j:Int,z = .inl (u,(u.length:Int),j,u.flatten)∨z = .inr (u,(u.length:Int),j,u.flatten))∧∀K,vae vez q (.inr (u,(u.length:Int),(0:Int),([]:List tTxn.D))) K=K z:=by
 obtain⟨q,rfl⟩:∃r,q=r+1:=⟨q-1,by omega⟩
 cases h:u with
 |nil=>
  refine⟨_,⟨0,.inr rfl⟩,fun K=>?_⟩
  simp only [vae,vez,Sum.elim_inr,List.length_nil]
  rfl
 |cons y l=>
  rw [←h]
  have hd:u.drop 0=y::l:=by rw [List.drop_zero,h]
  have hlt:=vde hd
  have hy:=(va1 hd).1 (Ty.zero (.slice tTxn))
  have hs':y.length+(l.map List.length).sum≤100000000:=by rw [h]at hs;simpa using hs
  have hm:([]:List tTxn.D).length+y.length≤VE.maxLen:=by show _≤4294967296;simp;omega
  have hl:u.length=l.length+1:=by rw [h];rfl
  obtain⟨j,hj⟩:=vyo hu l 1 ([]++y) q (by rw [h];rfl) (by simpa using hs') (by omega)
  refine⟨_,⟨j,.inl rfl⟩,fun K=>?_⟩
  simp only [vae,vez,Sum.elim_inl,Sum.elim_inr,show ((0:Int)<(u.length:Int)) by omega,Int.le_refl,decide_true,cond_true,and_self,if_true]
  rw [show rd (Ty.zero (.slice tTxn)) u (0:Int)=y from hy,if_pos hm,show IntKind.wrap .i64 ((0:Int)+1)=((1:Nat):Int) by rfl]
  rw [hj]
  congr 2
  rw [h,List.flatten_cons,List.nil_append]
theorem vq2 (n:Int)(h0:0≤n)(h1:n≤100000000):∃y,(y = .inl ([]:List tTxn.D)∨y = .inr ([]:List tTxn.D))∧∀k,v4u n k=k y:=by
 simp only [wmk]
 unfold wh3
 have e0:IntKind.wrap .i64 ((0:Int)-0)=0:=vau (by omega) (by omega)
 have e1:IntKind.wrap .i64 (n-0)=n:=by rw [vau (by omega) (by omega)];omega
 simp only [e0,e1,show decide (n<0)=false by simp;omega,cond_false]
 by_cases hn:n>0
 ·have e3:0≤n∧n≤(VE.maxLen:Int):=⟨h0,by show n≤4294967296;omega⟩
  simp only [hn,decide_true,cond_true]
  refine⟨_,.inl rfl,fun k=>?_⟩
  rw [if_pos (by omega),if_pos e3,if_pos ⟨by omega,by omega⟩]
  simp
 ·simp only [hn,decide_false,cond_false]
  exact⟨_,.inr rfl,fun k=>rfl⟩
theorem wvn {u:List (List tTxn.D)}(hu:u.length≤1000)(hs:(u.map List.length).sum≤100000000)(f:List tTxn.D→Option Res):vvv u (Sum.elim f f)=f u.flatten:=by
 rw [w1e (by omega)]
 unfold wng
 obtain⟨j,hj⟩:=v8z (u0:=u) (u2:=u) (α:=Unit) u 0 0 (by omega) (by omega)
 rw [hj]
 obtain⟨y,hy,hg⟩:=vq2 (0+((u.map List.length).sum:Int)) (by omega) (by omega)
 rw [hg]
 rcases hy with rfl|rfl
 ·simp only [Sum.elim_inl]
  obtain⟨j2,hj2⟩:=vyo hu u 0 [] Fuel (List.drop_zero) (by simpa using hs) (Nat.lt_of_lt_of_le (by omega) vba)
  rw [show (0:Int)=((0:Nat):Int)from rfl,hj2]
  simp
 ·simp only [Sum.elim_inr]
  obtain⟨z,⟨j2,hz⟩,hj2⟩:=wle hu hs (q:=Fuel) (Nat.lt_of_lt_of_le (by omega) vba)
  rw [hj2]
  rcases hz with rfl|rfl<;>simp
theorem wy2 {a b:List tTxn.D}(ha:a.length≤1048577)(hb:b.length≤1048577) (f):vvv [a,b] (Sum.elim f f)=f (a++b):=by
 rw [wvn (by simp) (by simp;omega)]
 simp
theorem wz0 (x t:tTxn.D) (k):v31 x t.1 t.2.1 t.2.2.1 t.2.2.2.1 t.2.2.2.2.1 t.2.2.2.2.2.1 t.2.2.2.2.2.2.1 t.2.2.2.2.2.2.2 k=k ((x.1==t.1),t.1,t.2.1,t.2.2.1,t.2.2.2.1,t.2.2.2.2.1,t.2.2.2.2.2.1,t.2.2.2.2.2.2.1,t.2.2.2.2.2.2.2):=by
 rw [wpi];rfl
theorem v45 {u0 u1}{t:tTxn.D}:∀(l:List tTxn.D)(i:Nat),∃a:Nat,∃b:Int,∀k,
  von u0 u1 l t.1 t.2.1 t.2.2.1 t.2.2.2.1 t.2.2.2.2.1 t.2.2.2.2.2.1 t.2.2.2.2.2.2.1 t.2.2.2.2.2.2.2 i k=k (bif l.any (fun x=>x.1==t.1)then .inl ((a:Int),b,t.1,t.2.1,t.2.2.1,t.2.2.2.1,t.2.2.2.2.1,t.2.2.2.2.2.1,t.2.2.2.2.2.2.1,t.2.2.2.2.2.2.2)else .inr (b,t.1,t.2.1,t.2.2.1,t.2.2.2.1,t.2.2.2.2.1,t.2.2.2.2.2.1,t.2.2.2.2.2.2.1,t.2.2.2.2.2.2.2))
 |[],i=>⟨0,_,fun k=>rfl⟩
 |y::l,i=>by
  obtain⟨a,b,hab⟩:=v45 (u0:=u0) (u1:=u1) (t:=t) l (i+1)
  simp only [von,wz0,hab,List.any_cons]
  cases y.1==t.1
  ·exact⟨a,b,fun k=>rfl⟩
  ·exact⟨i,(i:Int),fun k=>rfl⟩
theorem wzo {t:tTxn.D}{l:List tTxn.D}(hlen:l.length≤3000000) (k):v5c l t.1 t.2.1 t.2.2.1 t.2.2.2.1 t.2.2.2.2.1 t.2.2.2.2.2.1 t.2.2.2.2.2.2.1 t.2.2.2.2.2.2.2 k=k (l.any (fun x=>x.1==t.1),t.1,t.2.1,t.2.2.1,t.2.2.2.1,t.2.2.2.2.1,t.2.2.2.2.2.1,t.2.2.2.2.2.2.1,t.2.2.2.2.2.2.2):=by
 obtain⟨a,b,hab⟩:=v45 (u0:=l) (u1:=0) (t:=t) l 0
 rw [wp3]
 unfold wh6
 rw [wrn]
 unfold wgf
 rw [w1m (by omega)]
 unfold wom
 rw [hab]
 cases (l.any fun x=>x.1==t.1)
 ·rfl
 ·have:decide ((a:Int)≥0)=true:=by simp
  simp only [cond_true,Sum.elim_inl,this]
theorem v2v {u0:List tTxn.D}(hl:u0.length≤3000000) {u1 u2 u3}:∀(l:List tTxn.D)(i:Nat),u0.drop i=l→∃j:Int,∀k,
  vpz u0 u1 u2 u3 l i k=k (bif vmv u1 ((u0.take i).map (·.1)) (l.map (·.1))then .inr j else .inl (false,j))
 |[],i,_=>⟨_,fun k=>rfl⟩
 |y::l,i,h=>by
  obtain⟨j,hj⟩:=v2v hl (u1:=u1) (u2:=u2) (u3:=u3) l (i+1) (vb5 h)
  have hlt:=vde h
  have hge:decide (y.1≥u1) = !decide (y.1<u1):=by rw [Bool.eq_iff_iff];simp
  have hy:u0[i]=y:=by have:=vwr h;rw [List.getElem?_eq_getElem hlt]at this;exact Option.some.inj this
  have htk:(u0.take (i+1)).map (·.1)=(u0.take i).map (·.1)++[y.1]:=by rw [List.take_succ_eq_append_getElem hlt,List.map_append,hy];rfl
  have han:((u0.take i).map (·.1)).any (fun z=>z==y.1)=(u0.take i).any (fun x=>x.1==y.1):=by rw [List.any_map];rfl
  rw [htk]at hj
  have hsl:((u0.take (i:Int).toNat).drop (0:Int).toNat)=u0.take i:=by simp
  simp only [vpz,if_pos (show 0≤(0:Int)∧(0:Int)≤(i:Int)∧(i:Int)≤(u0.length:Int) by omega),hsl,wzo (t:=y) (show (u0.take i).length≤3000000 by simp;omega),hj,hge,List.map_cons,vmv,han]
  cases decide (y.1<u1)<;>cases (u0.take i).any (fun x=>x.1==y.1)<;>first|(refine⟨(i:Int),fun k=>?_⟩;simp;done)|(refine⟨j,fun k=>?_⟩;simp;done)
theorem w02 {l:List tTxn.D}(hl:l.length≤3000000)(n:Int) (k):vt8 l n k=k (vmv n [] (l.map (·.1))):=by
 rw [w1a (by omega)]
 unfold wo9
 obtain⟨j,hj⟩:=v2v (u0:=l) hl (u1:=n) (u2:=false) (u3:=l) l 0 rfl
 rw [hj]
 simp only [List.take_zero,List.map_nil]
 cases vmv n [] (l.map (·.1))<;>rfl
def vcs (b:tBase.D):Bool:=
 vdj b.1&&decide ((b.2.1.length:Int)≤12)&&decide ((b.2.2.1.length:Int)≤3)&&var b.2.2.2.1 0 9999&&var b.2.2.2.2 1 9999 &&
  (b.1.all fun y=>decide (y.2.2.2≤b.2.2.2.1))&&vf8 b.2.2.2.1 none b.2.1&&vd4 b.2.2.2.1 none b.2.2.1&&vmv b.2.2.2.2 [] (b.2.1.map (·.1)++b.2.2.1.map (·.1))
theorem vn4 {b:tBase.D}(hb:tBase.wt b≤1048576):(Ty.slice tVersion).wt b.1≤1048576∧(Ty.slice tTxn).wt b.2.1≤1048576∧(Ty.slice tTxn).wt b.2.2.1≤1048576:=by
 rw [vvh]at hb;omega
theorem wbr {b:tBase.D}(hb:tBase.wt b≤1048576) (k):vrk b k=k (vcs b):=by
 obtain⟨h1,h2,h3⟩:=vn4 hb
 have l1:=vct h1
 have l2:=vct h2
 have l3:=vct h3
 rw [w1f (by omega) (by omega) (by omega)]
 unfold wl2 vcs
 have hs1:decide ((b.2.1.length:Int)>12) = !decide ((b.2.1.length:Int)≤12):=by rw [Bool.eq_iff_iff];simp
 have hs2:decide ((b.2.2.1.length:Int)>3) = !decide ((b.2.2.1.length:Int)≤3):=by rw [Bool.eq_iff_iff];simp
 simp only [wz2 h1,vpd,hs1,hs2]
 cases vdj b.1
 ·rfl
 cases decide ((b.2.1.length:Int)≤12)
 ·rfl
 cases decide ((b.2.2.1.length:Int)≤3)
 ·rfl
 cases var b.2.2.2.1 0 9999
 ·rfl
 cases var b.2.2.2.2 1 9999
 ·rfl
 simp only [Bool.not_true,cond_false,Bool.true_and,Bool.and_self,vgr]
 obtain⟨j0,hj0⟩:=v2j (u0:=false) (u1:=b.1) (u4:=b.1) (u5:=b.2.1) (u6:=b.2.2.1) (u7:=b.2.2.2.1) (u8:=b.2.2.2.2) b.1 0
 rw [hj0]
 cases (b.1.all fun y=>decide (y.2.2.2≤b.2.2.2.1))
 ·rfl
 obtain⟨j2,hj2⟩:=v4r (u5:=b.2.1) (fun y hy=>vcu hy h2) l2 (u0:=false) (u1:=b.2.1) (u4:=b.1) (u6:=b.2.2.1) (u7:=b.2.2.2.1) (u8:=b.2.2.2.2) b.2.1 0 rfl
 simp only [cond_true,Sum.elim_inr,hj2,if_true]
 cases vf8 b.2.2.2.1 none b.2.1
 ·rfl
 obtain⟨j4,hj4⟩:=v2m (u6:=b.2.2.1) (fun y hy=>vcu hy h3) l3 (u0:=false) (u1:=b.2.2.1) (u4:=b.1) (u5:=b.2.1) (u7:=b.2.2.2.1) (u8:=b.2.2.2.2) b.2.2.1 0 rfl
 simp only [cond_true,Sum.elim_inr,hj4,if_true]
 cases vd4 b.2.2.2.1 none b.2.2.1
 ·rfl
 simp only [cond_true,Sum.elim_inr,wy2 (show b.2.1.length≤1048577 by omega) (show b.2.2.1.length≤1048577 by omega),w02 (show (b.2.1++b.2.2.1).length≤3000000 by simp;omega),List.map_append,Bool.true_and]
theorem v4v {u0 u2 u3 u4 u5 u6}:∀(l:List tVersion.D)(i:Nat),∃j:Int,∀k,
  vog u0 u2 u3 u4 u5 u6 l i k=k (bif l.all (fun y=>decide (y.2.2.2≤u5))then .inr j else .inl (false,j))
 |[],i=>⟨_,fun k=>rfl⟩
 |y::l,i=>by
  obtain⟨j,hj⟩:=v4v (u0:=u0) (u2:=u2) (u3:=u3) (u4:=u4) (u5:=u5) (u6:=u6) l (i+1)
  have hcs:decide (y.2.2.2>u5) = !decide (y.2.2.2≤u5):=by rw [Bool.eq_iff_iff];simp
  simp only [vog,hj,List.all_cons,hcs]
  cases decide (y.2.2.2≤u5)
  ·exact⟨(i:Int),fun k=>rfl⟩
  ·exact⟨j,fun k=>rfl⟩
theorem v38 {u3:List tTxn.D}(hu:∀y∈u3,tTxn.wt y≤1048576)(hl:u3.length≤1048576) {u0 u2 u4 u5 u6}:∀(l:List tTxn.D)(s:List Int)(i:Nat),u3.drop i=l→s.length+l.length≤3000000→∃j:Int,∃s':List Int,∀k,
  vk6 u0 u2 u3 u4 u5 u6 l s i k=k (bif vf8 u5 (if i=0 then none else some (u3.getD (i-1) (Ty.zero tTxn))) l then .inr (j,s++l.map (·.1))else .inl (false,j,s'))
 |[],s,i,_,_=>⟨_,s,fun k=>by simp [vk6,vf8];rfl⟩
 |y::l,s,i,h,hs=>by
  obtain⟨j,s',hj⟩:=v38 hu hl (u0:=u0) (u2:=u2) (u4:=u4) (u5:=u5) (u6:=u6) l (s++[y.1]) (i+1) (vb5 h) (by simp at hs ⊢;omega)
  have hlt:=vde h
  have hy:=(va1 h).2 (Ty.zero tTxn)
  rw [if_neg (by omega),show i+1-1=i by omega,hy]at hj
  have hcs:decide (y.2.2.2.1>u5) = !decide (y.2.2.2.1≤u5):=by rw [Bool.eq_iff_iff];simp
  have hm:s.length+[y.1].length≤VE.maxLen:=by show _≤4294967296;simp at hs ⊢;omega
  have hb:(y.2.1 != 3) = !(y.2.1==3):=rfl
  simp only [vk6,vtm (hu y (vc7 h)),if_pos hm,hj,vf8,hcs,hb]
  by_cases hi:i=0
  ·subst hi
   simp only [if_pos,show ¬((0:Nat):Int)>0 by omega,decide_false,cond_false,Bool.and_true]
   cases vbg y<;>cases (y.2.1==3)<;>cases decide (y.2.2.2.1≤u5)<;>first|(refine⟨((0:Nat):Int),s,fun k=>?_⟩;simp;done)|(refine⟨j,s',fun k=>?_⟩;simp;done)
  ·have hw:IntKind.wrap .i64 ((i:Int)-1)=((i-1:Nat):Int):=by rw [vau (by omega) (by omega)];omega
   have hrd:rd (Ty.zero tTxn) u3 ((i-1:Nat):Int)=u3.getD (i-1) (Ty.zero tTxn):=rfl
   simp only [if_neg hi,show (i:Int)>0 by omega,decide_true,cond_true,hw,hrd,if_pos (show 0≤((i-1:Nat):Int)∧((i-1:Nat):Int)<(u3.length:Int) by omega)]
   generalize u3.getD (i-1) (Ty.zero tTxn)=x
   have hge:decide (x.2.2.2.1≥y.2.2.2.1) = !decide (x.2.2.2.1<y.2.2.2.1):=by rw [Bool.eq_iff_iff];simp
   rw [hge]
   cases vbg y<;>cases (y.2.1==3)<;>cases decide (y.2.2.2.1≤u5)<;>cases decide (x.2.2.2.1<y.2.2.2.1)<;>first|(refine⟨(i:Int),s,fun k=>?_⟩;simp;done)|(refine⟨j,s',fun k=>?_⟩;simp;done)
theorem v4t {u4:List tTxn.D}(hu:∀y∈u4,tTxn.wt y≤1048576)(hl:u4.length≤1048576) {u0 u2 u3 u5 u6}:∀(l:List tTxn.D)(s:List Int)(i:Nat),u4.drop i=l→s.length+l.length≤3000000→∃j:Int,∃s':List Int,∀k,
  vlu u0 u2 u3 u4 u5 u6 l s i k=k (bif vd4 u5 (if i=0 then none else some (u4.getD (i-1) (Ty.zero tTxn))) l then .inr (j,s++l.map (·.1))else .inl (false,j,s'))
 |[],s,i,_,_=>⟨_,s,fun k=>by simp [vlu,vd4];rfl⟩
 |y::l,s,i,h,hs=>by
  obtain⟨j,s',hj⟩:=v4t hu hl (u0:=u0) (u2:=u2) (u3:=u3) (u5:=u5) (u6:=u6) l (s++[y.1]) (i+1) (vb5 h) (by simp at hs ⊢;omega)
  have hlt:=vde h
  have hy:=(va1 h).2 (Ty.zero tTxn)
  rw [if_neg (by omega),show i+1-1=i by omega,hy]at hj
  have hcs:decide (y.2.2.1>u5) = !decide (y.2.2.1≤u5):=by rw [Bool.eq_iff_iff];simp
  have hm:s.length+[y.1].length≤VE.maxLen:=by show _≤4294967296;simp at hs ⊢;omega
  have hb:(y.2.1 != 2) = !(y.2.1==2):=rfl
  simp only [vlu,vtm (hu y (vc7 h)),if_pos hm,hj,vd4,hcs,hb]
  by_cases hi:i=0
  ·subst hi
   simp only [if_pos,show ¬((0:Nat):Int)>0 by omega,decide_false,cond_false,Bool.and_true]
   cases vbg y<;>cases (y.2.1==2)<;>cases decide (y.2.2.1≤u5)<;>first|(refine⟨((0:Nat):Int),s,fun k=>?_⟩;simp;done)|(refine⟨j,s',fun k=>?_⟩;simp;done)
  ·have hw:IntKind.wrap .i64 ((i:Int)-1)=((i-1:Nat):Int):=by rw [vau (by omega) (by omega)];omega
   have hrd:rd (Ty.zero tTxn) u4 ((i-1:Nat):Int)=u4.getD (i-1) (Ty.zero tTxn):=rfl
   simp only [if_neg hi,show (i:Int)>0 by omega,decide_true,cond_true,hw,hrd,if_pos (show 0≤((i-1:Nat):Int)∧((i-1:Nat):Int)<(u4.length:Int) by omega)]
   generalize u4.getD (i-1) (Ty.zero tTxn)=x
   cases vbg y<;>cases (y.2.1==2)<;>cases decide (y.2.2.1≤u5)<;>cases va3 x.2.2.2.2.2.2.2 y.2.2.2.2.2.2.2<;>first|(refine⟨(i:Int),s,fun k=>?_⟩;simp;done)|(refine⟨j,s',fun k=>?_⟩;simp;done)
theorem v33 {U:List Int}(hU:U.length≤3000000){x1:Bool} {v p r cs nx}{n:Nat}(hn:n<U.length):∀(d m q:Nat),n-m=d→m≤n→d<q→∃m':Int,∀K,
  vae vrr q (x1,(n:Int),(m:Int),v,p,r,cs,nx,U) K=K (bif ((U.take n).drop m).any (fun z=>z==U.getD n 0)then .inl (false,(n:Int),m',v,p,r,cs,nx,U)else .inr (x1,(n:Int),m',v,p,r,cs,nx,U))
 |d,m,0,_,_,h=>by omega
 |d,m,q+1,hd,hm,hq=>by
  by_cases hlt:m<n
  ·obtain⟨m',hm'⟩:=v33 hU hn (x1:=x1) (v:=v) (p:=p) (r:=r) (cs:=cs) (nx:=nx) (d-1) (m+1) q (by omega) (by omega) (by omega)
   have hdr:(U.take n).drop m=U.getD m 0::(U.take n).drop (m+1):=by
    rw [List.drop_eq_getElem_cons (by simp;omega),List.getElem_take]
    congr 1
    exact(vjm 0 (by omega)).symm
   have hw:IntKind.wrap .i64 ((m:Int)+1)=((m+1:Nat):Int):=va8 (by omega)
   have z0:Ty.zero (.int .i64)=(0:Int):=rfl
   simp only [vae,vrr,show (m:Int)<(n:Int) by omega,decide_true,cond_true,if_pos (show 0≤(m:Int)∧(m:Int)<(U.length:Int) by omega),if_pos (show 0≤(n:Int)∧(n:Int)<(U.length:Int) by omega),Int.toNat_natCast,hdr,List.any_cons,z0]
   cases hc:U.getD m 0==U.getD n 0
   ·refine⟨m',fun K=>?_⟩
    simp only [cond_false,Sum.elim_inl,hw,Bool.false_or]
    exact hm' K
   ·exact⟨(m:Int),fun K=>by simp⟩
  ·have hmn:m=n:=by omega
   subst hmn
   refine⟨(m:Int),fun K=>?_⟩
   simp only [vae,vrr,show ¬(m:Int)<(m:Int) by omega,decide_false,cond_false,Sum.elim_inr]
   have:(U.take m).drop m=[]:=List.drop_eq_nil_of_le (by simp;omega)
   rw [this];rfl
theorem v22 {U:List Int}(hU:U.length≤3000000){x1:Bool} {v p r cs nx}:∀(l:List Int)(n q:Nat),U.drop n=l→l.length<q→∃b:Bool,∃n':Int,∀K,
  vae vn3 q (x1,(n:Int),v,p,r,cs,nx,U) K=K (bif vmv nx (U.take n) l then .inl (b,n',v,p,r,cs,nx,U)else .inr (false,n',v,p,r,cs,nx,U))
 |l,n,0,_,h=>by omega
 |[],n,q+1,h,_=>by
  have hge:=vbh h
  refine⟨x1,(n:Int),fun K=>?_⟩
  simp only [vae,vn3,hge,decide_false,cond_false,Sum.elim_inr]
  rfl
 |y::l,n,q+1,h,hq=>by
  have hlt:=vde h
  have hy:U.getD n 0=y:=(va1 h).2 0
  have hy2:U[n]=y:=by have:=vwr h;rw [List.getElem?_eq_getElem hlt]at this;exact Option.some.inj this
  obtain⟨m',hm'⟩:=v33 hU (x1:=x1) (v:=v) (p:=p) (r:=r) (cs:=cs) (nx:=nx) hlt n 0 Fuel (by omega) (Nat.zero_le _) (Nat.lt_of_lt_of_le (by omega) vba)
  obtain⟨b,n',hn'⟩:=v22 hU (x1:=x1) (v:=v) (p:=p) (r:=r) (cs:=cs) (nx:=nx) l (n+1) q (vb5 h) (by simpa using hq)
  have htk:U.take (n+1)=U.take n++[y]:=by rw [List.take_succ_eq_append_getElem hlt,hy2]
  rw [htk]at hn'
  have hw:IntKind.wrap .i64 ((n:Int)+1)=((n+1:Nat):Int):=va8 (by omega)
  have z0:Ty.zero (.int .i64)=(0:Int):=rfl
  have hge:decide (y≥nx) = !decide (y<nx):=by rw [Bool.eq_iff_iff];simp
  have hz:((0:Nat):Int)=0:=rfl
  rw [hz]at hm'
  simp only [vae,vn3,show (n:Int)<(U.length:Int) by omega,decide_true,cond_true,hm',List.drop_zero,vmv,hy]
  cases (U.take n).any (fun z=>z==y)
  ·cases hc:decide (y<nx)
   ·refine⟨b,(n:Int),fun K=>?_⟩
    simp only [cond_false,Sum.elim_inr,if_pos (show 0≤(n:Int)∧(n:Int)<(U.length:Int) by omega),Int.toNat_natCast,z0,hy,hge,hc,Bool.not_false,cond_true,Bool.false_and]
   ·refine⟨b,n',fun K=>?_⟩
    simp only [cond_false,Sum.elim_inr,Sum.elim_inl,if_pos (show 0≤(n:Int)∧(n:Int)<(U.length:Int) by omega),Int.toNat_natCast,z0,hy,hge,hc,Bool.not_true,Bool.not_false,Bool.true_and,hw]
    exact hn' K
  ·refine⟨b,(n:Int),fun K=>?_⟩
   simp only [cond_true,Sum.elim_inl,Sum.elim_inr,Bool.not_true,Bool.and_false,Bool.false_and,cond_false]
theorem wdl {b:tBase.D}(hb:tBase.wt b≤1048576) (k):vrl b k=k (vcs b):=by
 obtain⟨h1,h2,h3⟩:=vn4 hb
 have l1:=vct h1
 have l2:=vct h2
 have l3:=vct h3
 rw [w1y (by omega) (by omega) (by omega)]
 unfold wnw vcs
 have hs1:decide ((b.2.1.length:Int)>12) = !decide ((b.2.1.length:Int)≤12):=by rw [Bool.eq_iff_iff];simp
 have hs2:decide ((b.2.2.1.length:Int)>3) = !decide ((b.2.2.1.length:Int)≤3):=by rw [Bool.eq_iff_iff];simp
 simp only [wt8 h1,vm6,hs1,hs2]
 cases vdj b.1
 ·rfl
 cases decide ((b.2.1.length:Int)≤12)
 ·rfl
 cases decide ((b.2.2.1.length:Int)≤3)
 ·rfl
 cases var b.2.2.2.1 0 9999
 ·rfl
 cases var b.2.2.2.2 1 9999
 ·rfl
 simp only [Bool.not_true,cond_false,Bool.true_and,Bool.and_self,vgo]
 obtain⟨j0,hj0⟩:=v4v (u0:=false) (u2:=b.1) (u3:=b.2.1) (u4:=b.2.2.1) (u5:=b.2.2.2.1) (u6:=b.2.2.2.2) b.1 0
 rw [hj0]
 cases (b.1.all fun y=>decide (y.2.2.2≤b.2.2.2.1))
 ·rfl
 obtain⟨j2,s2,hj2⟩:=v38 (u3:=b.2.1) (fun y hy=>vcu hy h2) l2 (u0:=false) (u2:=b.1) (u4:=b.2.2.1) (u5:=b.2.2.2.1) (u6:=b.2.2.2.2) b.2.1 [] 0 rfl (by simp;omega)
 simp only [cond_true,Sum.elim_inr,hj2,if_true]
 cases vf8 b.2.2.2.1 none b.2.1
 ·rfl
 obtain⟨j4,s4,hj4⟩:=v4t (u4:=b.2.2.1) (fun y hy=>vcu hy h3) l3 (u0:=false) (u2:=b.1) (u3:=b.2.1) (u5:=b.2.2.2.1) (u6:=b.2.2.2.2) b.2.2.1 (b.2.1.map (·.1)) 0 rfl (by simp;omega)
 simp only [cond_true,Sum.elim_inr,List.nil_append,hj4,if_true]
 cases vd4 b.2.2.2.1 none b.2.2.1
 ·rfl
 obtain⟨bb,n',hn'⟩:=v22 (U:=b.2.1.map (·.1)++b.2.2.1.map (·.1)) (by simp;omega) (x1:=false) (v:=b.1) (p:=b.2.1) (r:=b.2.2.1) (cs:=b.2.2.2.1) (nx:=b.2.2.2.2) _ 0 Fuel rfl (Nat.lt_of_lt_of_le (by simp;omega) vba)
 have hz:((0:Nat):Int)=0:=rfl
 rw [hz]at hn'
 simp only [cond_true,Sum.elim_inr,hn',List.take_zero,List.drop_zero,Bool.true_and]
 cases vmv b.2.2.2.2 [] (b.2.1.map (·.1)++b.2.2.1.map (·.1))<;>rfl
end
end Go.VE
/- Plain laws: numbers and texts that are read. -/
namespace Go.VE
noncomputable section
set_option linter.unusedVariables false
set_option linter.unusedSimpArgs false
set_option maxRecDepth 100000
def encN (n:Nat):List Int:=if n>127 then((n % 128+128:Nat):Int)::encN (n / 128)else [(n:Int)]
 termination_by n
 decreasing_by omega
theorem ve5 {n:Nat}(h:n≤127):encN n=[(n:Int)]:=by rw [encN,if_neg (by omega)]
theorem vwm {n:Nat}(h:n>127):encN n=((n % 128+128:Nat):Int)::encN (n / 128):=by rw [encN,if_pos h]
theorem v85:∀(m n:Nat),n≤m→∀y∈encN n,0≤y∧y≤255
 |m,n,h,y,hy=>by
  by_cases hn:n>127
  ·rw [vwm hn,List.mem_cons]at hy
   rcases hy with rfl|hy
   ·omega
   ·match m,h with
    |0,h=>omega
    |m+1,h=>exact v85 m (n / 128) (by omega) y hy
  ·rw [ve5 (by omega),List.mem_singleton]at hy
   omega
theorem wjv {x:Int}(h0:0≤x)(h1:x≤255):IntKind.wrap .u8 x=x:=by
 unfold IntKind.wrap
 simp only [IntKind.bits,IntKind.signed]
 have e:(2:Int)^8=256:=by decide
 simp [e]
 omega
theorem vwq (n:Nat):((n:Int).tmod 128)=((n % 128:Nat):Int):=by rw [Int.tmod_eq_emod_of_nonneg (by omega)];omega
theorem wgj (n:Nat):((n:Int).tdiv 128)=((n / 128:Nat):Int):=by rw [Int.tdiv_eq_ediv_of_nonneg (by omega)];omega
theorem v9t:∀(m n:Nat)(acc:List Int)(q:Nat),n<128^m→m<q→acc.length+m≤1000→n<100000000000→∃n':Nat,∃acc':List Int,acc'++[(n':Int)]=acc++encN n∧n'≤127∧acc'.length≤1000∧∀K:Int×List Int→Option Res,
  vae vkr q ((n:Int),acc) K=K ((n':Int),acc')
 |0,n,acc,q,h,hq,ha,hb=>by
  have h0:n=0:=by simpa using h
  subst h0
  obtain⟨q,rfl⟩:∃q',q=q'+1:=⟨q-1,by omega⟩
  refine⟨0,acc,by rw [ve5 (by omega)];try rfl,by omega,by omega,fun K=>?_⟩
  simp [vae,vkr]
 |m+1,n,acc,q,h,hq,ha,hb=>by
  obtain⟨q,rfl⟩:∃q',q=q'+1:=⟨q-1,by omega⟩
  by_cases hn:n>127
  ·have h1:n / 128<128^m:=by rw [Nat.div_lt_iff_lt_mul (by omega)];rw [Nat.pow_succ]at h;omega
   have hw1:IntKind.wrap .i64 (((n % 128:Nat):Int)+128)=((n % 128+128:Nat):Int):=by rw [vau (by omega) (by omega)];push_cast;rfl
   have hw2:IntKind.wrap .u8 ((n % 128+128:Nat):Int)=((n % 128+128:Nat):Int):=wjv (by omega) (by omega)
   have hw3:IntKind.wrap .i64 ((n / 128:Nat):Int)=((n / 128:Nat):Int):=vau (by omega) (by omega)
   obtain⟨n',acc',e1,e2,e3,e4⟩:=v9t m (n / 128) (acc++[((n % 128+128:Nat):Int)]) q h1 (by omega) (by simp;omega) (by omega)
   refine⟨n',acc',by rw [e1,vwm hn,List.append_assoc];rfl,e2,e3,fun K=>?_⟩
   have hm:acc.length+[((n % 128+128:Nat):Int)].length≤VE.maxLen:=by show _≤4294967296;simp;omega
   simp only [vae,vkr,show (n:Int)>127 by omega,decide_true,cond_true,vwq,wgj,hw1,hw2,hw3,if_pos hm,Sum.elim_inl]
   exact e4 K
  ·refine⟨n,acc,by rw [ve5 (by omega)],by omega,by omega,fun K=>?_⟩
   simp only [vae,vkr,show ¬(n:Int)>127 by omega,decide_false,cond_false,Sum.elim_inr]
theorem v4q:∀(m n:Nat)(acc:List Int)(q:Nat),n<128^m→m<q→acc.length+m≤1000→n<100000000000→∃n':Nat,∃acc':List Int,acc'++[(n':Int)]=acc++encN n∧n'≤127∧acc'.length≤1000∧∀K:Int×List Int→Option Res,
  vae vgp q ((n:Int),acc) K=K ((n':Int),acc')
 |0,n,acc,q,h,hq,ha,hb=>by
  have h0:n=0:=by simpa using h
  subst h0
  obtain⟨q,rfl⟩:∃q',q=q'+1:=⟨q-1,by omega⟩
  refine⟨0,acc,by rw [ve5 (by omega)];try rfl,by omega,by omega,fun K=>?_⟩
  simp [vae,vgp]
 |m+1,n,acc,q,h,hq,ha,hb=>by
  obtain⟨q,rfl⟩:∃q',q=q'+1:=⟨q-1,by omega⟩
  by_cases hn:n>127
  ·have h1:n / 128<128^m:=by rw [Nat.div_lt_iff_lt_mul (by omega)];rw [Nat.pow_succ]at h;omega
   have hw1:IntKind.wrap .i64 (((n % 128:Nat):Int)+128)=((n % 128+128:Nat):Int):=by rw [vau (by omega) (by omega)];push_cast;rfl
   have hw2:IntKind.wrap .u8 ((n % 128+128:Nat):Int)=((n % 128+128:Nat):Int):=wjv (by omega) (by omega)
   have hw3:IntKind.wrap .i64 ((n / 128:Nat):Int)=((n / 128:Nat):Int):=vau (by omega) (by omega)
   obtain⟨n',acc',e1,e2,e3,e4⟩:=v4q m (n / 128) (acc++[((n % 128+128:Nat):Int)]) q h1 (by omega) (by simp;omega) (by omega)
   refine⟨n',acc',by rw [e1,vwm hn,List.append_assoc];rfl,e2,e3,fun K=>?_⟩
   have hm:acc.length+[((n % 128+128:Nat):Int)].length≤VE.maxLen:=by show _≤4294967296;simp;omega
   simp only [vae,vgp,show (n:Int)>127 by omega,decide_true,cond_true,vwq,wgj,hw1,hw2,hw3,if_pos hm,Sum.elim_inl]
   exact e4 K
  ·refine⟨n,acc,by rw [ve5 (by omega)],by omega,by omega,fun K=>?_⟩
   simp only [vae,vgp,show ¬(n:Int)>127 by omega,decide_false,cond_false,Sum.elim_inr]
theorem wse {n:Nat}(hn:n<100000000000) (k):vpi (n:Int) k=k (bif decide (n≤1000000000)then(van (encN n),true)else(⟨#[]⟩,false)):=by
 rw [wfy]
 unfold v82
 simp only [vpd]
 by_cases hb:n≤1000000000
 ·have hw:var (n:Int) 0 1000000000=true:=by unfold var;simp;omega
  simp only [hw,hb,decide_true,cond_true,Bool.not_true,cond_false]
  obtain⟨n',acc',e1,e2,e3,e4⟩:=v9t 10 n [] Fuel (Nat.lt_of_lt_of_le hn (by decide)) (Nat.lt_of_lt_of_le (by omega) vba) (by simp) hn
  rw [e4]
  have hm:acc'.length+[(n':Int)].length≤VE.maxLen:=by show _≤4294967296;simp;omega
  have hw2:IntKind.wrap .u8 (n':Int)=(n':Int):=wjv (by omega) (by omega)
  simp only [hw2,if_pos hm,e1,List.nil_append]
 ·have hw:var (n:Int) 0 1000000000=false:=by unfold var;simp;omega
  simp only [hw,hb,decide_false,cond_false,Bool.not_false,cond_true]
theorem wmm {n:Nat}(hn:n<100000000000) (k):vb2 (n:Int) k=k (van (encN n)):=by
 rw [v8b]
 unfold vzf
 obtain⟨n',acc',e1,e2,e3,e4⟩:=v4q 10 n [] Fuel (Nat.lt_of_lt_of_le hn (by decide)) (Nat.lt_of_lt_of_le (by omega) vba) (by simp) hn
 rw [e4]
 have hm:acc'.length+[(n':Int)].length≤VE.maxLen:=by show _≤4294967296;simp;omega
 have hw2:IntKind.wrap .u8 (n':Int)=(n':Int):=wjv (by omega) (by omega)
 simp only [hw2,if_pos hm,e1,List.nil_append]
def valN:List Int→Nat
 |[]=>0
 |c::l=>(c.toNat % 128)+128*valN l
def goOn:List Int→Prop
 |[]=>False
 |[c]=>0≤c∧c<128
 |c::l=>128≤c∧c≤255∧goOn l
theorem wqp:∀(P:List Int),goOn P→((encN (valN P)).length=P.length↔encN (valN P)=P)
 |[],h=>h.elim
 |[c],h=>by
  simp only [goOn]at h
  have hv:valN [c]=c.toNat:=by simp only [valN];omega
  rw [hv,ve5 (by omega)]
  simp
  omega
 |c::d::l,h=>by
  simp only [goOn]at h
  have ih:=wqp (d::l) h.2.2
  have hv:valN (c::d::l)=(c.toNat % 128)+128*valN (d::l):=rfl
  constructor
  ·intro hlen
   by_cases h0:valN (d::l)=0
   ·rw [hv,h0,ve5 (by omega)]at hlen
    simp at hlen
   ·rw [hv,vwm (by omega)]at hlen ⊢
    have e1:(c.toNat % 128+128*valN (d::l)) / 128=valN (d::l):=by omega
    have e2:(c.toNat % 128+128*valN (d::l)) % 128=c.toNat % 128:=by omega
    rw [e1]at hlen ⊢
    rw [e2]
    rw [ih.1 (by simpa using hlen)]
    congr 1
    omega
  ·intro h;rw [h]
def rvF (i n:Nat):List Int→Option (Nat×Nat)
 |[]=>none
 |c::l=>if 5≤i then none else
   if c<128 then(if n+(c.toNat % 128)*128^i≤1000000000∧(encN (n+(c.toNat % 128)*128^i)).length=i+1 then some (n+(c.toNat % 128)*128^i,i+1)else none)
   else rvF (i+1) (n+(c.toNat % 128)*128^i) l
def rvR (a:Nat):Option (Nat×Nat)→Int×Int×Bool
 |none=>(0,0,false)
 |some (n,c)=>((n:Int),((a+c:Nat):Int),true)
def vbb (s:ByteArray)(a:Int):Int×Int×Bool:=
 bif var a 0 (s.size:Int)then rvR a.toNat (rvF 0 0 ((vah s).drop a.toNat))else(0,0,false)
theorem wds {s:ByteArray}{a:Nat}{c:Int}{l:List Int}(h:(vah s).drop a=c::l):bt s (a:Int)=c∧0≤c∧c≤255∧a<s.size:=by
 have h1:=wdz h
 have h2:=vde h
 rw [vak]at h2
 refine⟨h1,?_,?_,h2⟩
 ·rw [←h1];unfold bt;omega
 ·rw [←h1];unfold bt
  have:=UInt8.toNat_lt (s.data.getD (a:Int).toNat 0)
  omega
theorem wrv {s:ByteArray}(hs:s.size≤1048576){a:Nat}(ha:a≤s.size):∀(d i n q:Nat)(k:Int×Int×Bool→Option Res),5-i=d→i≤5→n<128^i→d<q→
  vae vpq q (s,(a:Int),(0:Int),(0:Int),false,(n:Int),(i:Int)) (Sum.elim (fun _=>k ((0:Int),(0:Int),false)) (fun z=>k (z.2.2.1,z.2.2.2.1,z.2.2.2.2.1)))=k (rvR a (rvF i n ((vah s).drop (a+i)))):=by
 intro d
 induction d with
 |zero=>
  intro i n q k hd hi hn hq
  obtain⟨q,rfl⟩:∃q',q=q'+1:=⟨q-1,by omega⟩
  have h5:i=5:=by omega
  subst h5
  simp only [vae,vpq,show ¬((5:Nat):Int)<5 by omega,decide_false,cond_false,Sum.elim_inr,Sum.elim_inl]
  cases (vah s).drop (a+5)with
  |nil=>rfl
  |cons c l=>simp [rvF,rvR]
 |succ d ih=>
  intro i n q k hd hi hn hq
  obtain⟨q,rfl⟩:∃q',q=q'+1:=⟨q-1,by omega⟩
  have hi5:(i:Int)<5:=by omega
  cases hL:(vah s).drop (a+i)with
  |nil=>
   have hge:¬((a+i:Nat):Int)<(s.size:Int):=v5w hL
   have hw:IntKind.wrap .i64 ((a:Int)+(i:Int))=((a+i:Nat):Int):=by rw [vau (by omega) (by omega)];push_cast;rfl
   simp only [vae,vpq,hi5,hw,hge,decide_true,decide_false,cond_true,cond_false,Sum.elim_inr,Sum.elim_inl]
   rfl
  |cons c l=>
   obtain⟨hc,c0,c1,hlt⟩:=wds hL
   have hw:IntKind.wrap .i64 ((a:Int)+(i:Int))=((a+i:Nat):Int):=by rw [vau (by omega) (by omega)];push_cast;rfl
   have hwc:IntKind.wrap .i64 c=c:=vau (by omega) (by omega)
   have hP:128^i≤268435456:=by
    have:128^i≤128^4:=Nat.pow_le_pow_right (by omega) (by omega)
    exact Nat.le_trans this (by decide)
   obtain⟨cn,rfl⟩:=Int.eq_ofNat_of_zero_le c0
   have h7:IntKind.wrap .i64 ((7:Int)*(i:Int))=((7*i:Nat):Int):=by rw [vau (by omega) (by omega)];push_cast;rfl
   have hmin:min (7*i) (IntKind.bits .i64)=7*i:=by
    show min (7*i) 64=7*i
    omega
   have hpow:(2:Int)^(7*i)=((128^i:Nat):Int):=by rw [Int.pow_mul];push_cast;rfl
   have hQ:(cn % 128)*128^i≤127*128^i:=Nat.mul_le_mul_right _ (by omega)
   have hmul:IntKind.wrap .i64 (((cn % 128:Nat):Int)*((128^i:Nat):Int))=(((cn % 128)*128^i:Nat):Int):=by
    rw [←Int.natCast_mul];exact vau (by omega) (by omega)
   have hadd:IntKind.wrap .i64 ((n:Int)+(((cn % 128)*128^i:Nat):Int))=((n+(cn % 128)*128^i:Nat):Int):=by rw [vau (by omega) (by omega)];push_cast;rfl
   have hi1:IntKind.wrap .i64 ((i:Int)+1)=((i+1:Nat):Int):=va8 (by omega)
   have ha1:IntKind.wrap .i64 (((a+i:Nat):Int)+1)=((a+i+1:Nat):Int):=va8 (by omega)
   have hn':n+(cn % 128)*128^i<128^(i+1):=by rw [Nat.pow_succ];omega
   have hbound:128^(i+1)≤34359738368:=by rw [Nat.pow_succ];omega
   simp only [vae,vpq,vfo,hi5,hw,hc,hwc,show ((a+i:Nat):Int)<(s.size:Int) by omega,decide_true,cond_true,show (0:Int)≤((a+i:Nat):Int) by omega,and_self,if_true,
    h7,show ¬((7*i:Nat):Int)<0 by omega,if_false,vwq,hmin,hpow,hmul,hadd,hi1,ha1,rvF,show ¬5≤i by omega,Int.toNat_natCast]
   by_cases h128:(cn:Int)<128
   ·simp only [h128,decide_true,cond_true,if_true,wse (show n+(cn % 128)*128^i<100000000000 by omega)]
    by_cases hmx:n+(cn % 128)*128^i≤1000000000
    ·simp only [hmx,decide_true,cond_true,Bool.not_true,cond_false,vov,true_and]
     by_cases hlen:(encN (n+(cn % 128)*128^i)).length=i+1
     ·have hne:(((encN (n+(cn % 128)*128^i)).length:Int) != ((i+1:Nat):Int))=false:=by rw [hlen];simp
      rw [if_pos hlen]
      simp only [hne,cond_false,Sum.elim_inl,Sum.elim_inr,rvR]
      rfl
     ·have hne:(((encN (n+(cn % 128)*128^i)).length:Int) != ((i+1:Nat):Int))=true:=by simp;omega
      rw [if_neg hlen]
      simp only [hne,cond_true,Sum.elim_inl,Sum.elim_inr,rvR]
    ·have hno:¬(n+(cn % 128)*128^i≤1000000000∧(encN (n+(cn % 128)*128^i)).length=i+1):=fun h=>hmx h.1
     simp only [hmx,decide_false,cond_false,Bool.not_false,cond_true,Sum.elim_inl,Sum.elim_inr,false_and,if_false,rvR]
   ·simp only [h128,decide_false,cond_false,if_false,Sum.elim_inl,Sum.elim_inr]
    have:=ih (i+1) (n+(cn % 128)*128^i) q k (by omega) (by omega) hn' (by omega)
    rw [show a+(i+1)=a+i+1 by omega,show (vah s).drop (a+i+1)=l from vb5 hL]at this
    exact this
theorem vj9 {l:List Int}(h:∀y∈l,0≤y∧y≤255):vah (van l)=l:=by
 unfold vah
 rw [ve6,List.map_map]
 conv=>rhs;rw [←List.map_id l]
 apply List.map_congr_left
 intro y hy
 have:=h y hy
 simp [Function.comp]
 omega
theorem vj2 (s:ByteArray)(a b:Nat):vah (s.extract a b)=((vah s).drop a).take (b-a):=by
 unfold vah
 simp [ByteArray.data_extract,List.map_take,List.map_drop]
theorem vqd (a b:ByteArray):vap a b=decide (vah a=vah b):=by
 cases h:vap a b
 ·symm;apply decide_eq_false
  intro e
  have e2:a=b:=by rw [←vav a,e,vav b]
  rw [e2,vmt,beq_self_eq_true]at h
  cases h
 ·symm;apply decide_eq_true;rw [vqq h]
theorem wn9 {s:ByteArray}(hs:s.size≤1048576){a:Nat}(ha:a≤s.size):∀(d i n q:Nat)(k:Int×Int×Bool→Option Res),5-i=d→i≤5→n<128^i→d<q→
  (∀l,valN (((vah s).drop a).take i++l)=n+128^i*valN l)→(∀l,goOn l→goOn (((vah s).drop a).take i++l))→
  vae vn1 q (s,(a:Int),(0:Int),(0:Int),false,(n:Int),((128^i:Nat):Int),((a+i:Nat):Int)) (Sum.elim (fun _=>k ((0:Int),(0:Int),false)) (fun z=>k (z.2.2.1,z.2.2.2.1,z.2.2.2.2.1)))=k (rvR a (rvF i n ((vah s).drop (a+i)))):=by
 intro d
 induction d with
 |zero=>
  intro i n q k hd hi hn hq hV hG
  obtain⟨q,rfl⟩:∃q',q=q'+1:=⟨q-1,by omega⟩
  have h5:i=5:=by omega
  subst h5
  have hw:IntKind.wrap .i64 ((a:Int)+5)=((a+5:Nat):Int):=by rw [vau (by omega) (by omega)];push_cast;rfl
  simp only [vae,vn1,hw,show ¬((a+5:Nat):Int)<((a+5:Nat):Int) by omega,decide_false,cond_false]
  cases decide (((a+5:Nat):Int)<(s.size:Int))<;>(simp only [cond_true,cond_false,Sum.elim_inr,Sum.elim_inl];cases (vah s).drop (a+5)<;>simp [rvF,rvR])
 |succ d ih=>
  intro i n q k hd hi hn hq hV hG
  obtain⟨q,rfl⟩:∃q',q=q'+1:=⟨q-1,by omega⟩
  have hw5:IntKind.wrap .i64 ((a:Int)+5)=((a+5:Nat):Int):=by rw [vau (by omega) (by omega)];push_cast;rfl
  have hi5:((a+i:Nat):Int)<((a+5:Nat):Int):=by omega
  cases hL:(vah s).drop (a+i)with
  |nil=>
   have hge:¬((a+i:Nat):Int)<(s.size:Int):=v5w hL
   simp only [vae,vn1,hge,decide_false,cond_false,Sum.elim_inr,Sum.elim_inl]
   rfl
  |cons c l=>
   obtain⟨hc,c0,c1,hlt⟩:=wds hL
   have hwc:IntKind.wrap .i64 c=c:=vau (by omega) (by omega)
   have hP:128^i≤268435456:=by
    have:128^i≤128^4:=Nat.pow_le_pow_right (by omega) (by omega)
    exact Nat.le_trans this (by decide)
   have htk:((vah s).drop a).take (i+1)=((vah s).drop a).take i++[c]:=by
    rw [List.take_add,List.drop_drop,hL];rfl
   obtain⟨cn,rfl⟩:=Int.eq_ofNat_of_zero_le c0
   have hQ:(cn % 128)*128^i≤127*128^i:=Nat.mul_le_mul_right _ (by omega)
   have hmul:IntKind.wrap .i64 (((cn % 128:Nat):Int)*((128^i:Nat):Int))=(((cn % 128)*128^i:Nat):Int):=by
    rw [←Int.natCast_mul];exact vau (by omega) (by omega)
   have hadd:IntKind.wrap .i64 ((n:Int)+(((cn % 128)*128^i:Nat):Int))=((n+(cn % 128)*128^i:Nat):Int):=by rw [vau (by omega) (by omega)];push_cast;rfl
   have hn':n+(cn % 128)*128^i<128^(i+1):=by rw [Nat.pow_succ];omega
   have hbound:128^(i+1)≤34359738368:=by rw [Nat.pow_succ];omega
   have hbase:IntKind.wrap .i64 (((128^i:Nat):Int)*128)=((128^(i+1):Nat):Int):=by
    rw [show ((128^i:Nat):Int)*128=((128^(i+1):Nat):Int) by rw [Nat.pow_succ];push_cast;rfl]
    exact vau (by omega) (by omega)
   have ha1:IntKind.wrap .i64 (((a+i:Nat):Int)+1)=((a+i+1:Nat):Int):=va8 (by omega)
   simp only [vae,vn1,vfm,hi5,hw5,hc,hwc,show ((a+i:Nat):Int)<(s.size:Int) by omega,decide_true,cond_true,show (0:Int)≤((a+i:Nat):Int) by omega,and_self,if_true,
    vwq,hmul,hadd,hbase,ha1,rvF,show ¬5≤i by omega,if_false,Int.toNat_natCast]
   by_cases h128:(cn:Int)<128
   ·simp only [h128,decide_true,cond_true,if_true]
    by_cases hmx:n+(cn % 128)*128^i≤1000000000
    ·have hng:¬(((n+(cn % 128)*128^i:Nat):Int)>1000000000):=by omega
     have hgo:goOn (((vah s).drop a).take (i+1)):=by rw [htk];exact hG [(cn:Int)] ⟨by omega,h128⟩
     have hval:valN (((vah s).drop a).take (i+1))=n+(cn % 128)*128^i:=by
      rw [htk,hV];simp only [valN,Int.toNat_natCast];rw [Nat.mul_zero,Nat.add_zero,Nat.mul_comm]
     have hlen:(((vah s).drop a).take (i+1)).length=i+1:=by
      have:=vak s
      simp only [List.length_take,List.length_drop]
      omega
     have hE:=wqp _ hgo
     rw [hval,hlen]at hE
     have hseq:vap (van (encN (n+(cn % 128)*128^i))) (s.extract a (a+i+1))=decide ((encN (n+(cn % 128)*128^i)).length=i+1):=by
      rw [vqd,vj9 (v85 _ _ (Nat.le_refl _)),vj2,show a+i+1-a=i+1 by omega]
      exact decide_eq_decide.2 hE.symm
     simp only [hng,decide_false,cond_false,wmm (show n+(cn % 128)*128^i<100000000000 by omega),hseq,hmx,true_and,show (0:Int)≤(a:Int) by omega,show (a:Int)≤((a+i+1:Nat):Int) by omega,show ((a+i+1:Nat):Int)≤(s.size:Int) by omega,and_self,if_true]
     by_cases hl:(encN (n+(cn % 128)*128^i)).length=i+1
     ·simp only [hl,decide_true,Bool.not_true,cond_false,if_true,Sum.elim_inl,Sum.elim_inr,rvR]
      rfl
     ·simp only [hl,decide_false,Bool.not_false,cond_true,if_false,Sum.elim_inl,Sum.elim_inr,rvR]
    ·have hng:(((n+(cn % 128)*128^i:Nat):Int)>1000000000):=by omega
     simp only [hng,hmx,decide_true,cond_true,false_and,if_false,Sum.elim_inl,Sum.elim_inr,rvR]
   ·simp only [h128,decide_false,cond_false,if_false,Sum.elim_inl,Sum.elim_inr]
    have:=ih (i+1) (n+(cn % 128)*128^i) q k (by omega) (by omega) hn' (by omega)
     (fun l'=>by rw [htk,List.append_assoc,hV];simp only [List.cons_append,List.nil_append,valN,Int.toNat_natCast];rw [Nat.mul_add,Nat.pow_succ,Nat.mul_comm (128^i) (cn % 128),Nat.mul_assoc,Nat.add_assoc])
     (fun l' hl'=>by
      rw [htk,List.append_assoc]
      apply hG
      cases l' with
      |nil=>exact hl'.elim
      |cons x y=>exact⟨by omega,by omega,hl'⟩)
    rw [show a+(i+1)=a+i+1 by omega,show (vah s).drop (a+i+1)=l from vb5 hL]at this
    exact this
theorem wqh {s:ByteArray}(hs:s.size≤1048576)(a:Int) (k):v2q s a k=k (vbb s a):=by
 rw [wpl]
 unfold wiy vbb
 simp only [vpd]
 cases h:var a 0 (s.size:Int)
 ·rfl
 ·have h':=h
  unfold var at h'
  simp only [Bool.and_eq_true,decide_eq_true_eq]at h'
  obtain⟨n,rfl⟩:=Int.eq_ofNat_of_zero_le h'.1
  simp only [Bool.not_true,cond_false,cond_true,Int.toNat_natCast]
  exact wrv hs (by omega) 5 0 0 Fuel k rfl (by omega) (by decide) (Nat.lt_of_lt_of_le (by omega) vba)
theorem wo0 {s:ByteArray}(hs:s.size≤1048576)(a:Int) (k):v3f s a k=k (vbb s a):=by
 rw [wnd]
 unfold wfz vbb
 simp only [vm6]
 cases h:var a 0 (s.size:Int)
 ·rfl
 ·have h':=h
  unfold var at h'
  simp only [Bool.and_eq_true,decide_eq_true_eq]at h'
  obtain⟨n,rfl⟩:=Int.eq_ofNat_of_zero_le h'.1
  simp only [Bool.not_true,cond_false,cond_true,Int.toNat_natCast]
  exact wn9 hs (by omega) 5 0 0 Fuel k rfl (by omega) (by decide) (Nat.lt_of_lt_of_le (by omega) vba) (fun l=>by simp) (fun l h=>by simpa using h)
theorem ww7:∀(l:List Int)(i n:Nat){v c:Nat},rvF i n l=some (v,c)→i<c∧c≤i+l.length∧v≤1000000000
 |[],i,n,v,c,h=>by simp [rvF]at h
 |x::l,i,n,v,c,h=>by
  simp only [rvF]at h
  split at h
  ·cases h
  ·split at h
   ·split at h
    ·rename_i h2
     simp only [Option.some.injEq,Prod.mk.injEq]at h
     simp only [List.length_cons]
     omega
    ·cases h
   ·have:=ww7 l (i+1) _ h
    simp only [List.length_cons]
    omega
theorem vme {s:ByteArray}{a:Int}(h:(vbb s a).2.2=true):∃v c:Nat,vbb s a=((v:Int),(c:Int),true)∧v≤1000000000∧0≤a∧a<(c:Int)∧c≤s.size:=by
 unfold vbb at h ⊢
 cases hw:var a 0 (s.size:Int)
 ·rw [hw]at h;cases h
 ·rw [hw]at h
  simp only [cond_true]at h ⊢
  unfold var at hw
  simp only [Bool.and_eq_true,decide_eq_true_eq]at hw
  cases hr:rvF 0 0 ((vah s).drop a.toNat)with
  |none=>rw [hr]at h;cases h
  |some p=>
   obtain⟨v,c⟩:=p
   have:=ww7 _ _ _ hr
   rw [List.length_drop,vak]at this
   refine⟨v,a.toNat+c,rfl,this.2.2,hw.1,by omega,by omega⟩
def vg2 (s:ByteArray)(a:Int):ByteArray×Int×Bool:=
 bif !(vbb s a).2.2 then((⟨#[]⟩:ByteArray),(0:Int),false)else
 bif decide ((vbb s a).1>(20000:Int))then((⟨#[]⟩:ByteArray),(0:Int),false)else
 bif decide ((vbb s a).1>(s.size:Int)-(vbb s a).2.1)then((⟨#[]⟩:ByteArray),(0:Int),false)else
  (s.extract (vbb s a).2.1.toNat ((vbb s a).2.1+(vbb s a).1).toNat,(vbb s a).2.1+(vbb s a).1,true)
theorem wyv {s:ByteArray}(hs:s.size≤1048576)(a:Int) (k):v9x s a k=k (vg2 s a):=by
 rw [wn1]
 unfold wip vg2
 simp only [wqh hs]
 cases h:(vbb s a).2.2
 ·rfl
 ·obtain⟨v,c,e,h1,h2,h3,h4⟩:=vme h
  rw [e]
  have w1:IntKind.wrap .i64 ((s.size:Int)-(c:Int))=(s.size:Int)-(c:Int):=vau (by omega) (by omega)
  have w2:IntKind.wrap .i64 ((c:Int)+(v:Int))=(c:Int)+(v:Int):=vau (by omega) (by omega)
  simp only [w1,w2,Bool.not_true,cond_false]
  by_cases g1:(v:Int)>20000
  ·simp only [g1,decide_true,cond_true]
  ·by_cases g2:(v:Int)>(s.size:Int)-(c:Int)
   ·simp only [g1,g2,decide_true,decide_false,cond_true,cond_false]
   ·simp only [g1,g2,decide_false,cond_false]
    rw [if_pos (by omega)]
theorem w0u {s:ByteArray}(hs:s.size≤1048576)(a:Int) (k):waz s a k=k (vg2 s a):=by
 rw [wop]
 unfold wha vg2
 simp only [wo0 hs]
 cases h:(vbb s a).2.2
 ·rfl
 ·obtain⟨v,c,e,h1,h2,h3,h4⟩:=vme h
  rw [e]
  have w1:IntKind.wrap .i64 ((s.size:Int)-(c:Int))=(s.size:Int)-(c:Int):=vau (by omega) (by omega)
  have w2:IntKind.wrap .i64 ((c:Int)+(v:Int))=(c:Int)+(v:Int):=vau (by omega) (by omega)
  simp only [w1,w2,Bool.not_true,cond_false]
  by_cases g1:(v:Int)>20000
  ·simp only [g1,decide_true,cond_true]
  ·by_cases g2:(v:Int)>(s.size:Int)-(c:Int)
   ·simp only [g1,g2,decide_true,decide_false,cond_true,cond_false]
   ·simp only [g1,g2,decide_false,cond_false]
    rw [if_pos (by omega)]
theorem wud {s:ByteArray}{a:Int}(h:(vg2 s a).2.2=true):0≤a∧a+1+((vg2 s a).1.size:Int)≤(vg2 s a).2.1∧(vg2 s a).2.1≤(s.size:Int):=by
 unfold vg2 at h ⊢
 cases hr:(vbb s a).2.2
 ·rw [hr]at h;cases h
 ·obtain⟨v,c,e,h1,h2,h3,h4⟩:=vme hr
  rw [e]at h ⊢
  simp only [Bool.not_true,cond_false]at h ⊢
  cases g1:decide ((v:Int)>20000)
  ·cases g2:decide ((v:Int)>(s.size:Int)-(c:Int))
   ·simp only [cond_false]
    have g2':=of_decide_eq_false g2
    have hz:(s.extract c ((c:Int)+(v:Int)).toNat).size=min ((c:Int)+(v:Int)).toNat s.size-c:=ByteArray.size_extract
    simp only [Int.toNat_natCast,hz]
    omega
   ·rw [g1,g2]at h;cases h
  ·rw [g1]at h;cases h
def vao (s:ByteArray)(a:Int)(b:Bool):ByteArray×Int×Bool:=
 bif b then((⟨#[]⟩:ByteArray),a,true)else bif !(vg2 s a).2.2 then((⟨#[]⟩:ByteArray),a,true)else((vg2 s a).1,(vg2 s a).2.1,b)
def numB (s:ByteArray)(a:Int)(b:Bool):Int×Int×Bool:=
 bif b then((0:Int),a,true)else bif !(vbb s a).2.2 then((0:Int),a,true)else((vbb s a).1,(vbb s a).2.1,b)
def va6 (s:ByteArray)(a:Int)(b:Bool):Bool×Int×Bool:=
 bif b then(false,a,true)else bif !var a 0 ((s.size:Int)-1)then(false,a,true)else bif decide (bt s a>1)then(false,a,true)else((bt s a==1),a+1,b)
theorem vvc {s:ByteArray}(hs:s.size≤1048576)(a:Int)(b:Bool) (k):vgc s a b k=k ((vao s a b).1,s,(vao s a b).2.1,(vao s a b).2.2):=by
 rw [wmo];unfold wfe vao
 simp only [wyv hs]
 cases b<;>cases (vg2 s a).2.2<;>rfl
theorem vt7 {s:ByteArray}(hs:s.size≤1048576)(a:Int)(b:Bool) (k):vg7 s a b k=k ((vao s a b).1,s,(vao s a b).2.1,(vao s a b).2.2):=by
 rw [wd9];unfold v73 vao
 simp only [w0u hs]
 cases b<;>cases (vg2 s a).2.2<;>rfl
theorem vne {s:ByteArray}(hs:s.size≤1048576)(a:Int)(b:Bool) (k):vgz s a b k=k ((numB s a b).1,s,(numB s a b).2.1,(numB s a b).2.2):=by
 rw [wot];unfold wi5 numB
 simp only [wqh hs]
 cases b<;>cases (vbb s a).2.2<;>rfl
theorem vtk {s:ByteArray}(hs:s.size≤1048576)(a:Int)(b:Bool) (k):ve0 s a b k=k ((numB s a b).1,s,(numB s a b).2.1,(numB s a b).2.2):=by
 rw [weo];unfold v74 numB
 simp only [wo0 hs]
 cases b<;>cases (vbb s a).2.2<;>rfl
theorem vxq {s:ByteArray}(hs:s.size≤1048576)(a:Int)(b:Bool) (k):vrf s a b k=k ((va6 s a b).1,s,(va6 s a b).2.1,(va6 s a b).2.2):=by
 rw [wm6];unfold wi4 va6
 have w1:IntKind.wrap .i64 ((s.size:Int)-1)=(s.size:Int)-1:=vau (by omega) (by omega)
 simp only [vpd,w1]
 cases b
 ·cases hw:var a 0 ((s.size:Int)-1)
  ·rfl
  ·unfold var at hw
   simp only [Bool.and_eq_true,decide_eq_true_eq]at hw
   have w2:IntKind.wrap .i64 (a+1)=a+1:=vau (by omega) (by omega)
   have w3:IntKind.wrap .i64 (a+1-1)=a:=by rw [vau (by omega) (by omega)];omega
   simp only [cond_false,Bool.not_true,show (0:Int)≤a by omega,show a<(s.size:Int) by omega,and_self,if_true,vff,w2,w3]
   cases decide (bt s a>1)<;>rfl
 ·rfl
theorem vwh {s:ByteArray}(hs:s.size≤1048576){a:Int}{b:Bool}(ha:b=false→0≤a∧a≤(s.size:Int)) (k):vop s a b k=k ((va6 s a b).1,s,(va6 s a b).2.1,(va6 s a b).2.2):=by
 rw [wcw];unfold v70 va6
 cases b
 ·have:=ha rfl
  by_cases hge:a≥(s.size:Int)
  ·have hw:var a 0 ((s.size:Int)-1)=false:=by unfold var;simp;omega
   simp only [hge,hw,decide_true,cond_true,cond_false,Bool.not_false]
  ·have hw:var a 0 ((s.size:Int)-1)=true:=by unfold var;simp;omega
   have w2:IntKind.wrap .i64 (a+1)=a+1:=vau (by omega) (by omega)
   have w3:IntKind.wrap .i64 (a+1-1)=a:=by rw [vau (by omega) (by omega)];omega
   simp only [hge,hw,decide_false,cond_false,Bool.not_true,show (0:Int)≤a by omega,show a<(s.size:Int) by omega,and_self,if_true,vet,w2,w3]
   cases decide (bt s a>1)<;>rfl
 ·rfl
theorem vgm {s:ByteArray}{a:Int}{b:Bool}(h:(vao s a b).2.2=false):b=false∧0≤a∧a+1+((vao s a b).1.size:Int)≤(vao s a b).2.1∧(vao s a b).2.1≤(s.size:Int):=by
 unfold vao at h ⊢
 cases b
 ·cases hq:(vg2 s a).2.2
  ·rw [hq]at h;cases h
  ·simp only [cond_false,Bool.not_true]
   have:=wud hq
   exact⟨by trivial,this⟩
 ·cases h
theorem vfc {s:ByteArray}{a:Int}{b:Bool}(h:(numB s a b).2.2=false):b=false∧0≤a∧a+1≤(numB s a b).2.1∧(numB s a b).2.1≤(s.size:Int):=by
 unfold numB at h ⊢
 cases b
 ·cases hq:(vbb s a).2.2
  ·rw [hq]at h;cases h
  ·obtain⟨v,c,e,h1,h2,h3,h4⟩:=vme hq
   simp only [cond_false,Bool.not_true,e]
   exact⟨by trivial,h2,by omega,by omega⟩
 ·cases h
theorem vm9 (s:ByteArray)(a:Int)(b:Bool):∃v:Nat,(numB s a b).1=(v:Int)∧v≤1000000000:=by
 unfold numB
 cases b
 ·cases hq:(vbb s a).2.2
  ·exact⟨0,rfl,by omega⟩
  ·obtain⟨v,c,e,h1,h2,h3,h4⟩:=vme hq
   simp only [cond_false,Bool.not_true,e]
   exact⟨v,rfl,h1⟩
 ·exact⟨0,rfl,by omega⟩
theorem vtn {s:ByteArray}{a:Int}{b:Bool}(h:(va6 s a b).2.2=false):b=false∧0≤a∧a+1≤(va6 s a b).2.1∧(va6 s a b).2.1≤(s.size:Int):=by
 unfold va6 at h ⊢
 cases b
 ·cases hq:var a 0 ((s.size:Int)-1)
  ·rw [hq]at h;cases h
  ·unfold var at hq
   simp only [Bool.and_eq_true,decide_eq_true_eq]at hq
   cases hd:decide (bt s a>1)
   ·simp only [cond_false,Bool.not_true]
    exact⟨by trivial,hq.1,by omega,by omega⟩
   ·simp only [var,hd]at h
    cases decide (a≥0)<;>cases decide (a≤(s.size:Int)-1)<;>simp at h
 ·cases h
def vbd {α:Type}(R:Int→Bool→α×Int×Bool):Nat→Int→Bool→List α→Int×Bool×List α
 |0,a,b,l=>(a,b,l)
 |m+1,a,b,l=>bif b then(a,b,l)else vbd R m (R a b).2.1 (R a b).2.2 (l++[(R a b).1])
theorem vg0 {α:Type}(R:Int→Bool→α×Int×Bool)(m:Nat)(a:Int)(l:List α):vbd R m a true l=(a,true,l):=by cases m<;>rfl
def StpR {α:Type}(R:Int→Bool→α×Int×Bool)(wt:α→Nat)(N:Int):Prop:=
 ∀a b,(R a b).2.2=false→b=false∧0≤a∧a+1+(wt (R a b).1:Int)≤(R a b).2.1∧(R a b).2.1≤N
theorem vh2 {α β:Type}{R:Int→Bool→α×Int×Bool}{wt:α→Nat}{N:Int}(hR:StpR R wt N){n:Nat}{body:β→(β⊕β→Option Res)→Option Res}{σ:Int→Int→Bool→List α→β}
  (hgo:∀(i:Nat) (a:Int) (l:List α) (K),i<n→0≤a→a≤N→l.length≤3000000→body (σ (i:Int) a false l) K=K (.inl (σ ((i+1:Nat):Int) (R a false).2.1 (R a false).2.2 (l++[(R a false).1]))))
  (hstop:∀(i:Nat) (a:Int) (b:Bool) (l:List α) (K),(i=n∨b=true)→body (σ (i:Int) a b l) K=K (.inr (σ (i:Int) a b l))) :
  ∀(d m i:Nat) (a:Int) (b:Bool) (l:List α) (q:Nat),i+m=n→(b=false→0≤a∧a≤N∧N-a<(d:Int))→d<q→l.length+d≤3000000→
   ∃j:Int,∀K,vae body q (σ (i:Int) a b l) K=K (σ j (vbd R m a b l).1 (vbd R m a b l).2.1 (vbd R m a b l).2.2):=by
 intro d
 induction d with
 |zero=>
  intro m i a b l q hi hb hq hl
  obtain⟨q,rfl⟩:∃q',q=q'+1:=⟨q-1,by omega⟩
  cases b
  ·have:=hb rfl;omega
  ·refine⟨(i:Int),fun K=>?_⟩
   simp only [vae,hstop i a true l _ (.inr rfl),vg0,Sum.elim_inr]
 |succ d ih=>
  intro m i a b l q hi hb hq hl
  obtain⟨q,rfl⟩:∃q',q=q'+1:=⟨q-1,by omega⟩
  cases b
  ·have hb':=hb rfl
   cases m with
   |zero=>
    refine⟨(i:Int),fun K=>?_⟩
    simp only [vae,hstop i a false l _ (.inl (by omega)),vbd,Sum.elim_inr]
   |succ m=>
    obtain⟨j,hj⟩:=ih m (i+1) (R a false).2.1 (R a false).2.2 (l++[(R a false).1]) q (by omega) (fun h=>by
     have:=hR a false h
     omega) (by omega) (by rw [List.length_append,List.length_singleton];omega)
    refine⟨j,fun K=>?_⟩
    simp only [vae,hgo i a l _ (by omega) hb'.1 hb'.2.1 (by omega),vbd,cond_false,Sum.elim_inl]
    exact hj K
  ·refine⟨(i:Int),fun K=>?_⟩
   simp only [vae,hstop i a true l _ (.inr rfl),vg0,Sum.elim_inr]
theorem ven {α:Type}{R:Int→Bool→α×Int×Bool}{wt:α→Nat}{N:Int}(hR:StpR R wt N):∀(m:Nat)(a:Int)(b:Bool)(l:List α),(b=false→0≤a∧a≤N)→(vbd R m a b l).2.1=false→
  b=false∧a≤(vbd R m a b l).1∧(vbd R m a b l).1≤N∧(vbd R m a b l).2.2.length=l.length+m∧
   (((vbd R m a b l).2.2.length+((vbd R m a b l).2.2.map wt).sum:Nat):Int)+a≤((l.length+(l.map wt).sum:Nat):Int)+(vbd R m a b l).1
 |0,a,b,l,hb,h=>by
  simp only [vbd]at h ⊢
  have:=hb h
  exact⟨h,by omega,by omega,rfl,by omega⟩
 |m+1,a,b,l,hb,h=>by
  cases b
  ·simp only [vbd,cond_false]at h ⊢
   have hb':=hb rfl
   have ih:=ven hR m (R a false).2.1 (R a false).2.2 (l++[(R a false).1]) (fun h=>by have:=hR a false h;omega) h
   have hs:=hR a false ih.1
   rw [List.length_append,List.length_singleton,List.map_append,List.sum_append]at ih
   simp only [List.map_cons,List.map_nil,List.sum_cons,List.sum_nil]at ih
   refine⟨by trivial,by omega,ih.2.2.1,by omega,by omega⟩
  ·simp only [vbd,cond_true]at h
   cases h
def rgB (s:ByteArray)(a:Int)(b:Bool):tRange.D×Int×Bool:=
 (((vao s a b).1,(vao s (vao s a b).2.1 (vao s a b).2.2).1),(vao s (vao s a b).2.1 (vao s a b).2.2).2.1,(vao s (vao s a b).2.1 (vao s a b).2.2).2.2)
def wrB1 (s:ByteArray)(p:tRange.D×Int×Bool):tWrite.D×Int×Bool:=
 ((p.1.1,(p.1.2,(va6 s p.2.1 p.2.2).1)),(va6 s p.2.1 p.2.2).2.1,(va6 s p.2.1 p.2.2).2.2)
def wrB (s:ByteArray)(a:Int)(b:Bool):tWrite.D×Int×Bool:=wrB1 s (rgB s a b)
theorem vz9 (s:ByteArray):StpR (rgB s) tRange.wt (s.size:Int):=by
 intro a b h
 unfold rgB at h ⊢
 have h2:=vgm h
 have h1:=vgm h2.1
 refine⟨h1.1,h1.2.1,?_,h2.2.2.2⟩
 show a+1+(((vao s a b).1.size+(vao s (vao s a b).2.1 (vao s a b).2.2).1.size:Nat):Int)≤_
 simp only
 omega
theorem vyp (s:ByteArray):StpR (wrB s) tWrite.wt (s.size:Int):=by
 intro a b h
 unfold wrB wrB1 at h ⊢
 have h2:=vtn h
 have h1:=vz9 s a b h2.1
 refine⟨h1.1,h1.2.1,?_,h2.2.2.2⟩
 have e:tWrite.wt ((rgB s a b).1.1,((rgB s a b).1.2,(va6 s (rgB s a b).2.1 (rgB s a b).2.2).1))=tRange.wt (rgB s a b).1:=rfl
 simp only [e]
 omega
theorem vga {s:ByteArray}{a:Int}{b:Bool}(h:(numB s a b).2.2=false):0≤(numB s a b).2.1∧(numB s a b).2.1≤(s.size:Int):=by
 have:=vfc h
 omega
theorem wzl {α:Type}{R:Int→Bool→α×Int×Bool}{wt:α→Nat}{N:Int}(hR:StpR R wt N){m:Nat}{a:Int}{b:Bool}{l:List α}(hb:b=false→0≤a∧a≤N)(h:(vbd R m a b l).2.1=false):0≤(vbd R m a b l).1∧(vbd R m a b l).1≤N:=by
 have h1:=ven hR m a b l hb h
 have h2:=hb h1.1
 omega
theorem vdx {n:Nat}(h:n≤3000000):n+1≤VE.maxLen:=by show n+1≤4294967296;omega
theorem vt5 {s:ByteArray}(hs:s.size≤1048576)(a:Int)(b:Bool)(u3 u4 u5 u6:Int)(u7:Bool)(u8:ByteArray) (k) :
  wag s a b u3 u4 u5 u6 u7 u8 k=k (s,(vbd (rgB s) (numB s a b).1.toNat (numB s a b).2.1 (numB s a b).2.2 []).1,(vbd (rgB s) (numB s a b).1.toNat (numB s a b).2.1 (numB s a b).2.2 []).2.1,u3,u4,u5,u6,u7,u8,(vbd (rgB s) (numB s a b).1.toNat (numB s a b).2.1 (numB s a b).2.2 []).2.2):=by
 rw [wnl]
 unfold wi2
 simp only [vne hs]
 obtain⟨n,hn,hn2⟩:=vm9 s a b
 have hat:=fun h=>vga (s:=s) (a:=a) (b:=b) h
 rw [hn]
 generalize (numB s a b).2.1=a' at *
 generalize (numB s a b).2.2=b' at *
 obtain⟨j,hj⟩:=vh2 (vz9 s) (n:=n) (body:=vsy) (σ:=fun i a b l=>((n:Int),i,s,a,b,u3,u4,u5,u6,u7,u8,l))
  (fun i a l K hi h0 h1 hl=>by
   have hw:IntKind.wrap .i64 ((i:Int)+1)=((i+1:Nat):Int):=va8 (by omega)
   simp only [vsy,vf7,show (i:Int)<(n:Int) by omega,decide_true,cond_true,Bool.not_false,wm8,wi3,vvc hs,List.length_singleton,vdx hl,if_true,hw]
   rfl)
  (fun i a b l K h=>by
   simp only [vsy]
   rcases h with rfl|rfl
   ·simp only [show ¬((i:Int)<(i:Int)) by omega,decide_false,cond_false]
   ·cases decide ((i:Int)<(n:Int))<;>rfl)
  1048580 n 0 a' b' [] Fuel (by omega) (fun h=>by have:=hat h;omega) (Nat.lt_of_lt_of_le (by omega) vba) (by simp)
 simp only [Int.toNat_natCast]
 exact hj _
theorem vs8 {s:ByteArray}(hs:s.size≤1048576)(a:Int)(b:Bool)(u3 u4 u5 u6:Int)(u7:Bool)(u8:ByteArray)(u9:List vai) (k) :
  wah s a b u3 u4 u5 u6 u7 u8 u9 k=k (s,(vbd (wrB s) (numB s a b).1.toNat (numB s a b).2.1 (numB s a b).2.2 []).1,(vbd (wrB s) (numB s a b).1.toNat (numB s a b).2.1 (numB s a b).2.2 []).2.1,u3,u4,u5,u6,u7,u8,u9,(vbd (wrB s) (numB s a b).1.toNat (numB s a b).2.1 (numB s a b).2.2 []).2.2):=by
 rw [wq3]
 unfold wh9
 simp only [vne hs]
 obtain⟨n,hn,hn2⟩:=vm9 s a b
 have hat:=fun h=>vga (s:=s) (a:=a) (b:=b) h
 rw [hn]
 generalize (numB s a b).2.1=a' at *
 generalize (numB s a b).2.2=b' at *
 obtain⟨j,hj⟩:=vh2 (vyp s) (n:=n) (body:=vsx) (σ:=fun i a b l=>((n:Int),i,s,a,b,u3,u4,u5,u6,u7,u8,u9,l))
  (fun i a l K hi h0 h1 hl=>by
   have hw:IntKind.wrap .i64 ((i:Int)+1)=((i+1:Nat):Int):=va8 (by omega)
   simp only [vsx,ve9,show (i:Int)<(n:Int) by omega,decide_true,cond_true,Bool.not_false,wq8,wg3,vvc hs,vxq hs,List.length_singleton,vdx hl,if_true,hw]
   rfl)
  (fun i a b l K h=>by
   simp only [vsx]
   rcases h with rfl|rfl
   ·simp only [show ¬((i:Int)<(i:Int)) by omega,decide_false,cond_false]
   ·cases decide ((i:Int)<(n:Int))<;>rfl)
  1048580 n 0 a' b' [] Fuel (by omega) (fun h=>by have:=hat h;omega) (Nat.lt_of_lt_of_le (by omega) vba) (by simp)
 simp only [Int.toNat_natCast]
 exact hj _
theorem v71 {s:ByteArray}(hs:s.size≤1048576){n:Nat}(hn:n≤1000000000){a:Int}{b:Bool}(hb:b=false→0≤a∧a≤(s.size:Int)){v1 v2 v3 v4:Int}{v5:Bool}{v6:ByteArray}{u3 u4 u5 u6:Int}{u7:Bool}{u8:ByteArray}:∃j:Int,∀K,
  vae vo3 Fuel ((n:Int),(0:Int),v1,v2,v3,v4,v5,v6,s,a,b,u3,u4,u5,u6,u7,u8,([]:List vai)) K=K ((n:Int),j,v1,v2,v3,v4,v5,v6,s,(vbd (rgB s) (min n 10) a b []).1,(vbd (rgB s) (min n 10) a b []).2.1,u3,u4,u5,u6,u7,u8,(vbd (rgB s) (min n 10) a b []).2.2):=
 vh2 (vz9 s) (n:=min n 10) (body:=vo3) (σ:=fun i a b l=>((n:Int),i,v1,v2,v3,v4,v5,v6,s,a,b,u3,u4,u5,u6,u7,u8,l))
  (fun i a l K hi h0 h1 hl=>by
   have hw:IntKind.wrap .i64 ((i:Int)+1)=((i+1:Nat):Int):=va8 (by omega)
   simp only [vo3,vfh,show (i:Int)<(n:Int) by omega,show (i:Int)<10 by omega,decide_true,cond_true,Bool.not_false,vt7 hs,List.length_singleton,vdx hl,if_true,hw]
   rfl)
  (fun i a b l K h=>by
   simp only [vo3]
   rcases h with rfl|rfl
   ·by_cases h10:n≤10
    ·simp only [show ¬(((min n 10:Nat):Int)<(n:Int)) by omega,decide_false,cond_false]
    ·simp only [show (((min n 10:Nat):Int)<(n:Int)) by omega,show ¬(((min n 10:Nat):Int)<10) by omega,decide_true,decide_false,cond_true,cond_false]
   ·cases decide ((i:Int)<(n:Int))<;>cases decide ((i:Int)<10)<;>rfl)
  1048580 (min n 10) 0 a b [] Fuel (by omega) (fun h=>by have:=hb h;omega) (Nat.lt_of_lt_of_le (by omega) vba) (by simp)
theorem v7r {s:ByteArray}(hs:s.size≤1048576){n:Nat}(hn:n≤1000000000){a:Int}{b:Bool}(hb:b=false→0≤a∧a≤(s.size:Int)){v1 v2 v3 v4:Int}{v5:Bool}{v6:ByteArray}{u3 u4 u5 u6:Int}{u7:Bool}{u8:ByteArray}{u9:List vai}:∃j:Int,∀K,
  vae vpo Fuel ((n:Int),(0:Int),v1,v2,v3,v4,v5,v6,s,a,b,u3,u4,u5,u6,u7,u8,u9,([]:List vag)) K=K ((n:Int),j,v1,v2,v3,v4,v5,v6,s,(vbd (wrB s) (min n 10) a b []).1,(vbd (wrB s) (min n 10) a b []).2.1,u3,u4,u5,u6,u7,u8,u9,(vbd (wrB s) (min n 10) a b []).2.2):=
 vh2 (vyp s) (n:=min n 10) (body:=vpo) (σ:=fun i a b l=>((n:Int),i,v1,v2,v3,v4,v5,v6,s,a,b,u3,u4,u5,u6,u7,u8,u9,l))
  (fun i a l K hi h0 h1 hl=>by
   have hw:IntKind.wrap .i64 ((i:Int)+1)=((i+1:Nat):Int):=va8 (by omega)
   have hat:(vao s (vao s a false).2.1 (vao s a false).2.2).2.2=false→0≤(vao s (vao s a false).2.1 (vao s a false).2.2).2.1∧(vao s (vao s a false).2.1 (vao s a false).2.2).2.1≤(s.size:Int):=fun h=>by
    have:=vgm h;omega
   simp only [vpo,vfe,show (i:Int)<(n:Int) by omega,show (i:Int)<10 by omega,decide_true,cond_true,Bool.not_false,vt7 hs,vwh hs hat,List.length_singleton,vdx hl,if_true,hw]
   rfl)
  (fun i a b l K h=>by
   simp only [vpo]
   rcases h with rfl|rfl
   ·by_cases h10:n≤10
    ·simp only [show ¬(((min n 10:Nat):Int)<(n:Int)) by omega,decide_false,cond_false]
    ·simp only [show (((min n 10:Nat):Int)<(n:Int)) by omega,show ¬(((min n 10:Nat):Int)<10) by omega,decide_true,decide_false,cond_true,cond_false]
   ·cases decide ((i:Int)<(n:Int))<;>cases decide ((i:Int)<10)<;>rfl)
  1048580 (min n 10) 0 a b [] Fuel (by omega) (fun h=>by have:=hb h;omega) (Nat.lt_of_lt_of_le (by omega) vba) (by simp)
abbrev dRT:=Int×Int×Int×Int×Bool×ByteArray×Int×Bool×(List vai)×(List vag)
def zRT:dRT:=((0:Int),(0:Int),(0:Int),(0:Int),false,(⟨#[]⟩:ByteArray),(0:Int),false,([]:List vai),([]:List vag))
def tx3 (i1 i2 i3 i4:Int)(rs:List vai)(ws:List vag)(g:Bool)(x:ByteArray×Int×Bool):dRT:=
 bif x.2.2 then zRT else bif !vbg (i1,(i2,(i3,(i4,(rs,(ws,(g,x.1)))))))then zRT else(i1,i2,i3,i4,g,x.1,x.2.1,true,rs,ws)
def tx2 (s:ByteArray)(i1 i2 i3 i4:Int)(rs:List vai)(e:Int×Bool×List vag):dRT:=
 tx3 i1 i2 i3 i4 rs e.2.2 (va6 s e.1 e.2.1).1 (vao s (va6 s e.1 e.2.1).2.1 (va6 s e.1 e.2.1).2.2)
def wsE (f:Nat→Nat)(s:ByteArray)(e:Int×Bool×List vai):Int×Bool×List vag:=
 vbd (wrB s) (f (numB s e.1 e.2.1).1.toNat) (numB s e.1 e.2.1).2.1 (numB s e.1 e.2.1).2.2 []
def rsE (f:Nat→Nat)(s:ByteArray)(p:Int×Int×Bool):Int×Bool×List vai:=
 vbd (rgB s) (f (numB s p.2.1 p.2.2).1.toNat) (numB s p.2.1 p.2.2).2.1 (numB s p.2.1 p.2.2).2.2 []
def tx0 (f:Nat→Nat)(s:ByteArray)(p1 p2 p3 p4:Int×Int×Bool):dRT:=
 tx2 s p1.1 p2.1 p3.1 p4.1 (rsE f s p4).2.2 (wsE f s (rsE f s p4))
def nx (s:ByteArray)(p:Int×Int×Bool):Int×Int×Bool:=numB s p.2.1 p.2.2
def vam (f:Nat→Nat)(s:ByteArray)(a:Int):dRT:=
 tx0 f s (numB s a false) (nx s (numB s a false)) (nx s (nx s (numB s a false))) (nx s (nx s (nx s (numB s a false))))
theorem wte {s:ByteArray}(hs:s.size≤1048576)(f:Nat→Nat){p:Int×Int×Bool}{i1 i2 i3 i4:Int} {e2}(he:e2=wsE f s (rsE f s p))(hx:(vao s (va6 s e2.1 e2.2.1).2.1 (va6 s e2.1 e2.2.1).2.2).2.2=false) :
  tTxn.wt (i1,(i2,(i3,(i4,((rsE f s p).2.2,(e2.2.2,((va6 s e2.1 e2.2.1).1,(vao s (va6 s e2.1 e2.2.1).2.1 (va6 s e2.1 e2.2.1).2.2).1)))))))≤1048576:=by
 rw [vu6]
 have h1:=vgm hx
 have h2:=vtn h1.1
 have h3:=h2.1
 rw [he]at h3
 have h4:=ven (vyp s) _ _ _ _ (fun h=>vga h) h3
 have h5:=vfc h4.1
 have h6:=ven (vz9 s) _ _ _ _ (fun h=>vga h) h5.1
 have h7:=vfc h6.1
 rw [show vbd (wrB s) (f (numB s (rsE f s p).1 (rsE f s p).2.1).1.toNat) (numB s (rsE f s p).1 (rsE f s p).2.1).2.1 (numB s (rsE f s p).1 (rsE f s p).2.1).2.2 []=e2 from he.symm]at h4
 have h4':=h4.2.2.2.2
 have h6':=h6.2.2.2.2
 have e3:(Ty.slice tRange).wt (rsE f s p).2.2=(rsE f s p).2.2.length+((rsE f s p).2.2.map tRange.wt).sum:=rfl
 have e4:(Ty.slice tWrite).wt e2.2.2=e2.2.2.length+(e2.2.2.map tWrite.wt).sum:=rfl
 have e5:(rsE f s p)=vbd (rgB s) (f (numB s p.2.1 p.2.2).1.toNat) (numB s p.2.1 p.2.2).2.1 (numB s p.2.1 p.2.2).2.2 []:=rfl
 rw [←e5]at h6 h6'
 simp only [List.length_nil,List.map_nil,List.sum_nil]at h4' h6'
 simp only
 rw [e3,e4]
 omega
theorem w4e {s:ByteArray}(f:Nat→Nat){e:Int×Bool×List vai}(h:(wsE f s e).2.1=false):0≤(wsE f s e).1∧(wsE f s e).1≤(s.size:Int):=wzl (vyp s) (fun h=>vga h) h
theorem weh {s:ByteArray}(hs:s.size≤1048576)(a:Int) (k):v3t s a k=k (vam (fun n=>min n 10) s a):=by
 rw [wmj]
 unfold whm
 simp only [vtk hs]
 unfold vam tx0
 generalize hp1:numB s a false=p1
 rw [show numB s p1.2.1 p1.2.2=nx s p1 from rfl]
 generalize hp2:nx s p1=p2
 rw [show numB s p2.2.1 p2.2.2=nx s p2 from rfl]
 generalize hp3:nx s p2=p3
 rw [show numB s p3.2.1 p3.2.2=nx s p3 from rfl]
 generalize hp4:nx s p3=p4
 obtain⟨n,hn,hn2⟩:=vm9 s p4.2.1 p4.2.2
 have hr:vbd (rgB s) (min n 10) (numB s p4.2.1 p4.2.2).2.1 (numB s p4.2.1 p4.2.2).2.2 []=rsE (fun n=>min n 10) s p4:=by
  unfold rsE;rw [hn,Int.toNat_natCast]
 obtain⟨j,hj⟩:=v71 hs hn2 (a:=(numB s p4.2.1 p4.2.2).2.1) (b:=(numB s p4.2.1 p4.2.2).2.2) (fun h=>vga h) (v1:=0) (v2:=0) (v3:=0) (v4:=0) (v5:=false) (v6:=⟨#[]⟩) (u3:=p1.1) (u4:=p2.1) (u5:=p3.1) (u6:=p4.1) (u7:=false) (u8:=⟨#[]⟩)
 rw [hn,hj,hr,vtk hs]
 simp only
 obtain⟨m,hm,hm2⟩:=vm9 s (rsE (fun n=>min n 10) s p4).1 (rsE (fun n=>min n 10) s p4).2.1
 have hw:vbd (wrB s) (min m 10) (numB s (rsE (fun n=>min n 10) s p4).1 (rsE (fun n=>min n 10) s p4).2.1).2.1 (numB s (rsE (fun n=>min n 10) s p4).1 (rsE (fun n=>min n 10) s p4).2.1).2.2 []=wsE (fun n=>min n 10) s (rsE (fun n=>min n 10) s p4):=by
  unfold wsE;rw [hm,Int.toNat_natCast]
 obtain⟨j2,hj2⟩:=v7r hs hm2 (a:=(numB s (rsE (fun n=>min n 10) s p4).1 (rsE (fun n=>min n 10) s p4).2.1).2.1) (b:=(numB s (rsE (fun n=>min n 10) s p4).1 (rsE (fun n=>min n 10) s p4).2.1).2.2) (fun h=>vga h) (v1:=0) (v2:=0) (v3:=0) (v4:=0) (v5:=false) (v6:=⟨#[]⟩) (u3:=p1.1) (u4:=p2.1) (u5:=p3.1) (u6:=p4.1) (u7:=false) (u8:=⟨#[]⟩) (u9:=(rsE (fun n=>min n 10) s p4).2.2)
 rw [hm,hj2,hw]
 simp only
 rw [vwh hs (fun h=>w4e _ h)]
 simp only [vt7 hs]
 unfold tx2 tx3
 cases hx:(vao s (va6 s (wsE (fun n=>min n 10) s (rsE (fun n=>min n 10) s p4)).1 (wsE (fun n=>min n 10) s (rsE (fun n=>min n 10) s p4)).2.1).2.1 (va6 s (wsE (fun n=>min n 10) s (rsE (fun n=>min n 10) s p4)).1 (wsE (fun n=>min n 10) s (rsE (fun n=>min n 10) s p4)).2.1).2.2).2.2
 ·simp only [cond_false,vtm (wte hs (fun n=>min n 10) (i1:=p1.1) (i2:=p2.1) (i3:=p3.1) (i4:=p4.1) rfl hx)]
  cases vbg (p1.1,(p2.1,(p3.1,(p4.1,((rsE (fun n=>min n 10) s p4).2.2,((wsE (fun n=>min n 10) s (rsE (fun n=>min n 10) s p4)).2.2,((va6 s (wsE (fun n=>min n 10) s (rsE (fun n=>min n 10) s p4)).1 (wsE (fun n=>min n 10) s (rsE (fun n=>min n 10) s p4)).2.1).1,(vao s (va6 s (wsE (fun n=>min n 10) s (rsE (fun n=>min n 10) s p4)).1 (wsE (fun n=>min n 10) s (rsE (fun n=>min n 10) s p4)).2.1).2.1 (va6 s (wsE (fun n=>min n 10) s (rsE (fun n=>min n 10) s p4)).1 (wsE (fun n=>min n 10) s (rsE (fun n=>min n 10) s p4)).2.1).2.2).1)))))))<;>rfl
 ·rfl
theorem wu2 {i1 i2 i3 i4:Int}{rs:List vai}{ws:List vag}{g:Bool}{x:ByteArray×Int×Bool}(h:rs.length>8∨ws.length>8∨x.2.2=true):tx3 i1 i2 i3 i4 rs ws g x=zRT:=by
 unfold tx3
 cases hx:x.2.2
 ·have:vbg (i1,(i2,(i3,(i4,(rs,(ws,(g,x.1)))))))=false:=by
   cases ho:vbg (i1,(i2,(i3,(i4,(rs,(ws,(g,x.1)))))))
   ·rfl
   ·have h1:=(vit ho).2.2.2.2.1
    have h2:=(vit ho).2.2.2.2.2.2.1
    simp only at h1 h2
    rcases h with h|h|h
    ·omega
    ·omega
    ·rw [hx]at h;cases h
  simp [this]
 ·rfl
theorem vwj {s:ByteArray}{i1 i2 i3 i4:Int}{rs:List vai}{e:Int×Bool×List vag}(h:rs.length>8∨e.2.2.length>8∨e.2.1=true):tx2 s i1 i2 i3 i4 rs e=zRT:=by
 unfold tx2
 apply wu2
 rcases h with h|h|h
 ·exact .inl h
 ·exact .inr (.inl h)
 ·refine .inr (.inr ?_)
  rw [h]
  rfl
theorem wzg {f:Nat→Nat}{s:ByteArray}{p:Int×Int×Bool}(h:f (numB s p.2.1 p.2.2).1.toNat>8):(rsE f s p).2.2.length>8∨(rsE f s p).2.1=true:=by
 cases hb:(rsE f s p).2.1
 ·left
  have:=ven (vz9 s) _ _ _ _ (fun h=>vga h) hb
  have h2:=this.2.2.2.1
  unfold rsE
  rw [h2]
  simp only [List.length_nil]
  omega
 ·exact .inr rfl
theorem wc5 {f:Nat→Nat}{s:ByteArray}{e:Int×Bool×List vai}(h:f (numB s e.1 e.2.1).1.toNat>8∨e.2.1=true):(wsE f s e).2.2.length>8∨(wsE f s e).2.1=true:=by
 cases hb:(wsE f s e).2.1
 ·left
  have:=ven (vyp s) _ _ _ _ (fun h=>vga h) hb
  have h2:=this.2.2.2.1
  have h3:=(vfc this.1).1
  unfold wsE
  rw [h2]
  simp only [List.length_nil]
  rcases h with h|h
  ·omega
  ·rw [h]at h3;cases h3
 ·exact .inr rfl
theorem w1h (s:ByteArray)(p1 p2 p3 p4:Int×Int×Bool):tx0 (fun n=>min n 10) s p1 p2 p3 p4=tx0 id s p1 p2 p3 p4:=by
 unfold tx0
 by_cases h1:(numB s p4.2.1 p4.2.2).1.toNat≤8
 ·have e1:rsE (fun n=>min n 10) s p4=rsE id s p4:=by
   unfold rsE;rw [show (fun n=>min n 10) (numB s p4.2.1 p4.2.2).1.toNat=id (numB s p4.2.1 p4.2.2).1.toNat by simp;omega]
  rw [e1]
  by_cases h2:(numB s (rsE id s p4).1 (rsE id s p4).2.1).1.toNat≤8
  ·have e2:wsE (fun n=>min n 10) s (rsE id s p4)=wsE id s (rsE id s p4):=by
    unfold wsE;rw [show (fun n=>min n 10) (numB s (rsE id s p4).1 (rsE id s p4).2.1).1.toNat=id (numB s (rsE id s p4).1 (rsE id s p4).2.1).1.toNat by simp;omega]
   rw [e2]
  ·rw [vwj (.inr (wc5 (f:=fun n=>min n 10) (.inl (by simp;omega)))),vwj (.inr (wc5 (f:=id) (.inl (by simp;omega))))]
 ·have g:∀f:Nat→Nat,f (numB s p4.2.1 p4.2.2).1.toNat>8→tx2 s p1.1 p2.1 p3.1 p4.1 (rsE f s p4).2.2 (wsE f s (rsE f s p4))=zRT:=fun f hf=>by
   rcases wzg (f:=f) hf with h|h
   ·exact vwj (.inl h)
   ·exact vwj (.inr (wc5 (.inr h)))
  rw [g _ (by simp;omega),g _ (by simp;omega)]
theorem vru (s:ByteArray)(a:Int):vam (fun n=>min n 10) s a=vam id s a:=w1h _ _ _ _ _
theorem wdv {s:ByteArray}(hs:s.size≤1048576)(a:Int) :
  tTxn.wt ((vam id s a).1,((vam id s a).2.1,((vam id s a).2.2.1,((vam id s a).2.2.2.1,((vam id s a).2.2.2.2.2.2.2.2.1,((vam id s a).2.2.2.2.2.2.2.2.2,((vam id s a).2.2.2.2.1,(vam id s a).2.2.2.2.2.1)))))))≤1048576:=by
 have hz:tTxn.wt (zRT.1,(zRT.2.1,(zRT.2.2.1,(zRT.2.2.2.1,(zRT.2.2.2.2.2.2.2.2.1,(zRT.2.2.2.2.2.2.2.2.2,(zRT.2.2.2.2.1,zRT.2.2.2.2.2.1)))))))≤1048576:=by decide
 unfold vam
 generalize numB s a false=p1
 generalize nx s p1=p2
 generalize nx s p2=p3
 generalize nx s p3=p4
 unfold tx0 tx2 tx3
 cases hx:(vao s (va6 s (wsE id s (rsE id s p4)).1 (wsE id s (rsE id s p4)).2.1).2.1 (va6 s (wsE id s (rsE id s p4)).1 (wsE id s (rsE id s p4)).2.1).2.2).2.2
 ·simp only [cond_false]
  cases vbg (p1.1,(p2.1,(p3.1,(p4.1,((rsE id s p4).2.2,((wsE id s (rsE id s p4)).2.2,((va6 s (wsE id s (rsE id s p4)).1 (wsE id s (rsE id s p4)).2.1).1,(vao s (va6 s (wsE id s (rsE id s p4)).1 (wsE id s (rsE id s p4)).2.1).2.1 (va6 s (wsE id s (rsE id s p4)).1 (wsE id s (rsE id s p4)).2.1).2.2).1)))))))
  ·exact hz
  ·exact wte hs id rfl hx
 ·exact hz
end
end Go.VE
/- Plain laws: an engine and a record are right. -/
namespace Go.VE
noncomputable section
set_option linter.unusedVariables false
set_option linter.unusedSimpArgs false
set_option maxRecDepth 100000
def vox (t:tTxn.D):Bool:=(t.1==0)&&(t.2.1==0)&&(t.2.2.1==0)&&(t.2.2.2.1==0)&&((t.2.2.2.2.1.length:Int)==0)&&((t.2.2.2.2.2.1.length:Int)==0) && !t.2.2.2.2.2.2.1&&vap t.2.2.2.2.2.2.2 ⟨#[]⟩
def vge (b:tBase.D):Bool:=(b.2.2.2.1==0)&&(b.2.2.2.2==0)&&((b.1.length:Int)==0)&&((b.2.1.length:Int)==0)&&((b.2.2.1.length:Int)==0)
theorem wz6 (t:tTxn.D) (k):v3y t k=k (vox t):=by
 rw [wpt];unfold wgr vox
 cases (t.1==0)<;>cases (t.2.1==0)<;>cases (t.2.2.1==0)<;>cases (t.2.2.2.1==0)<;>cases ((t.2.2.2.2.1.length:Int)==0)<;>cases ((t.2.2.2.2.2.1.length:Int)==0)<;>cases t.2.2.2.2.2.2.1<;>rfl
theorem wvi (t:tTxn.D) (k):vns t k=k (vox t):=by
 rw [wb8];unfold v6u vox
 cases (t.1==0)<;>cases (t.2.1==0)<;>cases (t.2.2.1==0)<;>cases (t.2.2.2.1==0)<;>cases ((t.2.2.2.2.1.length:Int)==0)<;>cases ((t.2.2.2.2.2.1.length:Int)==0)<;>cases t.2.2.2.2.2.2.1<;>rfl
theorem w0t (b:tBase.D) (k):v3u b k=k (vge b):=by
 rw [wl1];unfold wfl vge
 cases (b.2.2.2.1==0)<;>cases (b.2.2.2.2==0)<;>cases ((b.1.length:Int)==0)<;>cases ((b.2.1.length:Int)==0)<;>cases ((b.2.2.1.length:Int)==0)<;>rfl
theorem wtv (b:tBase.D) (k):vug b k=k (vge b):=by
 rw [wbj];unfold v50 vge
 cases (b.2.2.2.1==0)<;>cases (b.2.2.2.2==0)<;>cases ((b.1.length:Int)==0)<;>cases ((b.2.1.length:Int)==0)<;>cases ((b.2.2.1.length:Int)==0)<;>rfl
def vdm (r:tRecord.D):Bool:=
 bif r.1==1 then vbg r.2.1&&(r.2.1.2.1==3)&&vap r.2.2.1 ⟨#[]⟩&&vge r.2.2.2.2 && !r.2.2.2.1 else
 bif r.1==2 then vbg r.2.1&&(r.2.1.2.1==2)&&vap r.2.2.1 ⟨#[]⟩&&vge r.2.2.2.2 && !r.2.2.2.1 else
 bif r.1==3 then vox r.2.1&&vdb r.2.2.1&&vge r.2.2.2.2 else
 bif r.1==4 then vox r.2.1&&vap r.2.2.1 ⟨#[]⟩&&vcs r.2.2.2.2 && !r.2.2.2.1 else false
theorem w0w {r:tRecord.D}(hr:tRecord.wt r≤1048576) (k):v21 r k=k (vdm r):=by
 rw [vht]at hr
 have h1:tTxn.wt r.2.1≤1048576:=by omega
 have h2:r.2.2.1.size≤1048576:=by omega
 have h3:tBase.wt r.2.2.2.2≤1048576:=by omega
 rw [w2o]
 unfold wox vdm
 simp only [wz6,w0t,vuu h1,wpr,wms,vuk h2,wbr h3,vca]
 by_cases k1:r.1=1
 ·rw [k1]
  cases vbg r.2.1<;>cases (r.2.1.2.1==3)<;>cases vap r.2.2.1 ⟨#[]⟩<;>cases vge r.2.2.2.2<;>cases r.2.2.2.1<;>rfl
 by_cases k2:r.1=2
 ·rw [k2]
  cases vbg r.2.1<;>cases (r.2.1.2.1==2)<;>cases vap r.2.2.1 ⟨#[]⟩<;>cases vge r.2.2.2.2<;>cases r.2.2.2.1<;>rfl
 by_cases k3:r.1=3
 ·rw [k3]
  cases vox r.2.1<;>cases vdb r.2.2.1<;>cases vge r.2.2.2.2<;>cases r.2.2.2.1<;>rfl
 by_cases k4:r.1=4
 ·rw [k4]
  cases vox r.2.1<;>cases vap r.2.2.1 ⟨#[]⟩<;>cases vcs r.2.2.2.2<;>cases r.2.2.2.1<;>rfl
 simp only [beq_eq_false_iff_ne.2 k1,beq_eq_false_iff_ne.2 k2,beq_eq_false_iff_ne.2 k3,beq_eq_false_iff_ne.2 k4,cond_false]
theorem wj1 {n:Int}(k1:n≠1)(k2:n≠2)(k3:n≠3)(k4:n≠4):var n 1 4=false:=by
 unfold var
 by_cases q1:n≥1
 ·rw [decide_eq_false (show ¬n≤4 by omega),Bool.and_false]
 ·rw [decide_eq_false q1];rfl
theorem wzn {r:tRecord.D}(hr:tRecord.wt r≤1048576) (k):v25 r k=k (vdm r):=by
 rw [vht]at hr
 have h1:tTxn.wt r.2.1≤1048576:=by omega
 have h2:r.2.2.1.size≤1048576:=by omega
 have h3:tBase.wt r.2.2.2.2≤1048576:=by omega
 rw [w3n]
 unfold wnn vdm
 simp only [vm6,vem,vax,vc5,v7m,wvi,wtv,vtm h1,vux h2,wdl h3]
 have hs:(r.2.1.2.1 != 3) = !(r.2.1.2.1==3):=rfl
 have hs2:(r.2.1.2.1 != 2) = !(r.2.1.2.1==2):=rfl
 rw [hs,hs2]
 by_cases k1:r.1=1
 ·rw [k1]
  cases vbg r.2.1<;>cases (r.2.1.2.1==3)<;>cases vap r.2.2.1 ⟨#[]⟩<;>cases vge r.2.2.2.2<;>cases r.2.2.2.1<;>rfl
 by_cases k2:r.1=2
 ·rw [k2]
  cases vbg r.2.1<;>cases (r.2.1.2.1==2)<;>cases vap r.2.2.1 ⟨#[]⟩<;>cases vge r.2.2.2.2<;>cases r.2.2.2.1<;>rfl
 by_cases k3:r.1=3
 ·rw [k3]
  cases vox r.2.1<;>cases vdb r.2.2.1<;>cases vge r.2.2.2.2<;>cases r.2.2.2.1<;>rfl
 by_cases k4:r.1=4
 ·rw [k4]
  cases vox r.2.1<;>cases vap r.2.2.1 ⟨#[]⟩<;>cases vcs r.2.2.2.2<;>cases r.2.2.2.1<;>rfl
 have hw:var r.1 1 4=false:=wj1 k1 k2 k3 k4
 simp only [hw,Bool.not_false,cond_true,beq_eq_false_iff_ne.2 k1,beq_eq_false_iff_ne.2 k2,beq_eq_false_iff_ne.2 k3,beq_eq_false_iff_ne.2 k4,cond_false]
end
end Go.VE
/- Plain laws: a base's text. -/
namespace Go.VE
noncomputable section
set_option linter.unusedVariables false
set_option linter.unusedSimpArgs false
set_option maxRecDepth 100000
theorem vvw:∀(l:List tRange.D)(s:ByteArray),(∀y∈l,y.1.size≤12∧y.2.size≤12)→(vef l s).size≤s.size+40*l.length
 |[],s,_=>by simp [vef]
 |y::l,s,h=>by
  have hy:=h y (by simp)
  have s1:=vbr y.1
  have s2:=vbr y.2
  have ih:=vvw l ((s++shB y.1)++shB y.2) (fun y hy=>h y (by simp [hy]))
  rw [ByteArray.size_append,ByteArray.size_append]at ih
  simp only [vef,List.length_cons]
  omega
theorem vv8:∀(l:List tWrite.D)(s:ByteArray),(∀y∈l,y.1.size≤12∧y.2.1.size≤12)→(vgf l s).size≤s.size+40*l.length
 |[],s,_=>by simp [vgf]
 |y::l,s,h=>by
  have hy:=h y (by simp)
  have s1:=vbr y.1
  have s2:=vbr y.2.1
  have s3:=vd0 y.2.2
  have ih:=vv8 l (((s++shB y.1)++shB y.2.1)++bitB y.2.2) (fun y hy=>h y (by simp [hy]))
  rw [ByteArray.size_append,ByteArray.size_append,ByteArray.size_append]at ih
  simp only [vgf,List.length_cons]
  omega
theorem vg3 {t:tTxn.D}(h:vbg t=true):(vcj t).size≤1000:=by
 obtain⟨_,_,_,_,b5,b6,b7,b8,b9⟩:=vit h
 have v1:=vaz t.1
 have v2:=vaz t.2.1
 have v3:=vaz t.2.2.1
 have v4:=vaz t.2.2.2.1
 have v5:=vaz (t.2.2.2.2.1.length:Int)
 have v6:=vaz (t.2.2.2.2.2.1.length:Int)
 have v7:=vd0 t.2.2.2.2.2.2.1
 have v8:=vbr t.2.2.2.2.2.2.2
 have r:=vvw t.2.2.2.2.1 (varB t.1++varB t.2.1++varB t.2.2.1++varB t.2.2.2.1++varB t.2.2.2.2.1.length) b6
 have w:=vv8 t.2.2.2.2.2.1 (vef t.2.2.2.2.1 (varB t.1++varB t.2.1++varB t.2.2.1++varB t.2.2.2.1++varB t.2.2.2.2.1.length)++varB t.2.2.2.2.2.1.length) b8
 unfold vcj
 simp only [ByteArray.size_append]at r w ⊢
 omega
def vwg:List tVersion.D→List Int→List Int
 |[],s=>s
 |y::l,s=>vwg l ((((s++vah (shB y.1))++vah (shB y.2.1))++vah (bitB y.2.2.1))++vah (varB y.2.2.2))
def vu2:List tVersion.D→ByteArray→ByteArray
 |[],s=>s
 |y::l,s=>vu2 l ((((s++shB y.1)++shB y.2.1)++bitB y.2.2.1)++varB y.2.2.2)
theorem wmh:∀l s,van (vwg l s)=vu2 l (van s)
 |[],s=>rfl
 |y::l,s=>by rw [vwg,vu2,wmh,va4,va4,va4,va4,vav,vav,vav,vav]
def viu:List tTxn.D→List Int→List Int
 |[],s=>s
 |y::l,s=>viu l (s++vah (vcj y))
def ve3:List tTxn.D→ByteArray→ByteArray
 |[],s=>s
 |y::l,s=>ve3 l (s++vcj y)
theorem whb:∀l s,van (viu l s)=ve3 l (van s)
 |[],s=>rfl
 |y::l,s=>by rw [viu,ve3,whb,va4,vav]
theorem v3o:∀(l:List tTxn.D)(a b:ByteArray),ve3 l (a++b)=a++ve3 l b
 |[],a,b=>rfl
 |y::l,a,b=>by rw [ve3,ve3,ByteArray.append_assoc,v3o l a]
def v87 (y:tVersion.D):Prop:=y.1.size≤12∧y.2.1.size≤12∧0≤y.2.2.2∧y.2.2.2≤16383
theorem vv0:∀{l:List tVersion.D} {p},vgn p l=true→∀y∈l,vl3 y=true
 |[],_,_,y,hy=>by cases hy
 |z::l,p,h,y,hy=>by
  simp only [vgn,Bool.and_eq_true]at h
  cases hy with
  |head=>exact h.1.1
  |tail _ hm=>exact vv0 h.2 y hm
theorem vwd {l:List tVersion.D}(h:vdj l=true):l.length≤120∧∀y∈l,v87 y:=by
 unfold vdj at h
 simp only [Bool.and_eq_true,decide_eq_true_eq]at h
 refine⟨by omega,fun y hy=>?_⟩
 have:=vv0 h.1 y hy
 unfold vl3 var at this
 simp only [Bool.and_eq_true,decide_eq_true_eq]at this
 have b1:=vhw this.1.1.1
 have b2:=this.1.1.2
 have b3:=this.2
 exact⟨by omega,by omega,Int.le_trans (by decide) b3.1,Int.le_trans b3.2 (by decide)⟩
theorem vvz {cs:Int}:∀{l:List tTxn.D} {p},vf8 cs p l=true→∀y∈l,vbg y=true
 |[],_,_,y,hy=>by cases hy
 |z::l,p,h,y,hy=>by
  simp only [vf8,Bool.and_eq_true]at h
  cases hy with
  |head=>exact h.1.1.1.1
  |tail _ hm=>exact vvz h.2 y hm
theorem vts {cs:Int}:∀{l:List tTxn.D} {p},vd4 cs p l=true→∀y∈l,vbg y=true
 |[],_,_,y,hy=>by cases hy
 |z::l,p,h,y,hy=>by
  simp only [vd4,Bool.and_eq_true]at h
  cases hy with
  |head=>exact h.1.1.1.1
  |tail _ hm=>exact vts h.2 y hm
theorem v3a {u0 u3 u4 u5 u6 u7}:∀(l:List tVersion.D)(s:List Int)(i:Nat),(∀y∈l,v87 y)→s.length+40*l.length≤90000→
  ∃j:Int,(∀k,vij u0 u3 u4 u5 u6 u7 l s i k=k (j,vwg l s))∧(vwg l s).length≤s.length+40*l.length
 |[],s,i,_,_=>⟨_,fun k=>rfl,by simp [vwg]⟩
 |y::l,s,i,h,hs=>by
  simp only [List.length_cons]at hs
  have hy:=h y (by simp)
  have s1:=vbr y.1
  have s2:=vbr y.2.1
  have s3:=vd0 y.2.2.1
  have s4:=vaz y.2.2.2
  obtain⟨h1,h2,h3,h4⟩:=hy
  have e0:((s++vah (shB y.1))++vah (shB y.2.1)).length≤s.length+28:=by rw [List.length_append,List.length_append,vak,vak];omega
  have e1:(((s++vah (shB y.1))++vah (shB y.2.1))++vah (bitB y.2.2.1)).length≤s.length+29:=by rw [List.length_append,vak];omega
  have e2:((((s++vah (shB y.1))++vah (shB y.2.1))++vah (bitB y.2.2.1))++vah (varB y.2.2.2)).length≤s.length+31:=by rw [List.length_append,vak];omega
  obtain⟨j,hj,hl⟩:=v3a (u0:=u0) (u3:=u3) (u4:=u4) (u5:=u5) (u6:=u6) (u7:=u7) l ((((s++vah (shB y.1))++vah (shB y.2.1))++vah (bitB y.2.2.1))++vah (varB y.2.2.2)) (i+1) (fun y hy=>h y (by simp [hy])) (by omega)
  refine⟨j,fun k=>?_,by simp only [vwg,List.length_cons];omega⟩
  simp only [vij,v5q h1 h2 (show s.length≤100000 by omega),Sum.elim_inr,v53 y.2.2.1 (show ((s++vah (shB y.1))++vah (shB y.2.1)).length≤100000 by omega),v5g h3 h4 (show (((s++vah (shB y.1))++vah (shB y.2.1))++vah (bitB y.2.2.1)).length≤100000 by omega),hj,vwg]
theorem v4w {u2 u3 u4 u5 u6}:∀(l:List tVersion.D)(s:ByteArray)(i:Nat),(∀y∈l,v87 y)→s.size+40*l.length≤90000→
  ∃j:Int,(∀k,vow u2 u3 u4 u5 u6 l s i k=k (vu2 l s,j))∧(vu2 l s).size≤s.size+40*l.length
 |[],s,i,_,_=>⟨_,fun k=>rfl,by simp [vu2]⟩
 |y::l,s,i,h,hs=>by
  simp only [List.length_cons]at hs
  have hy:=h y (by simp)
  have s1:=vbr y.1
  have s2:=vbr y.2.1
  have s3:=vd0 y.2.2.1
  have s4:=vaz y.2.2.2
  obtain⟨h1,h2,h3,h4⟩:=hy
  have e1:(s++shB y.1).size≤s.size+14:=by rw [ByteArray.size_append];omega
  have e2:((s++shB y.1)++shB y.2.1).size≤s.size+28:=by rw [ByteArray.size_append];omega
  have e3:(((s++shB y.1)++shB y.2.1)++bitB y.2.2.1).size≤s.size+29:=by rw [ByteArray.size_append];omega
  have e4:((((s++shB y.1)++shB y.2.1)++bitB y.2.2.1)++varB y.2.2.2).size≤s.size+31:=by rw [ByteArray.size_append];omega
  obtain⟨j,hj,hl⟩:=v4w (u2:=u2) (u3:=u3) (u4:=u4) (u5:=u5) (u6:=u6) l ((((s++shB y.1)++shB y.2.1)++bitB y.2.2.1)++varB y.2.2.2) (i+1) (fun y hy=>h y (by simp [hy])) (by omega)
  refine⟨j,fun k=>?_,by simp only [vu2,List.length_cons];omega⟩
  simp only [vow,vi7 h1,vi7 h2,vwn,vew h4,vu2]
  rw [if_pos (by omega),if_pos (by omega),if_pos (by omega),if_pos (by omega),hj]
theorem vsm {u0}:∀(l:List tTxn.D)(s:ByteArray)(i:Nat),(∀y∈l,tTxn.wt y≤1048576∧vbg y=true)→s.size+1000*l.length≤90000→
  ∃j:Int,(∀k,vjg u0 l s i k=k (ve3 l s,j))∧(ve3 l s).size≤s.size+1000*l.length
 |[],s,i,_,_=>⟨_,fun k=>rfl,by simp [ve3]⟩
 |y::l,s,i,h,hs=>by
  simp only [List.length_cons]at hs
  have hy:=h y (by simp)
  have s1:=vg3 hy.2
  have e1:(s++vcj y).size≤s.size+1000:=by rw [ByteArray.size_append];omega
  obtain⟨j,hj,hl⟩:=vsm (u0:=u0) l (s++vcj y) (i+1) (fun y hy=>h y (by simp [hy])) (by omega)
  refine⟨j,fun k=>?_,by simp only [ve3,List.length_cons];omega⟩
  simp only [vjg,wfk hy.1,hy.2,cond_true,ve3]
  rw [if_pos (by omega),hj]
theorem wgc {l:List tTxn.D}(h:∀y∈l,tTxn.wt y≤1048576∧vbg y=true)(hl:l.length≤12) (k):vnj l k=k (ve3 l (varB l.length)):=by
 rw [wy6 (by omega)]
 unfold wdr
 have v:=vaz (l.length:Int)
 obtain⟨j,hj,_⟩:=vsm (u0:=l) l (varB l.length) 0 h (by omega)
 simp only [vew (show (l.length:Int)≤16383 by omega),hj]
theorem v37 {l:List tTxn.D}(h:∀y∈l,tTxn.wt y≤1048576∧vbg y=true)(hl:l.length≤12):(ve3 l (varB l.length)).size≤13000:=by
 have v:=vaz (l.length:Int)
 obtain⟨j,_,hs⟩:=vsm (u0:=l) l (varB l.length) 0 h (by omega)
 omega
def veu (b:tBase.D):ByteArray:=
 (vu2 b.1 ((varB b.2.2.2.1++varB b.2.2.2.2)++varB b.1.length)++ve3 b.2.1 (varB b.2.1.length))++ve3 b.2.2.1 (varB b.2.2.1.length)
theorem vjt {b:tBase.D}(hw:tBase.wt b≤1048576)(h:vcs b=true):vvp b.2.2.2.1∧vvp b.2.2.2.2∧b.1.length≤120∧(∀y∈b.1,v87 y)∧b.2.1.length≤12∧(∀y∈b.2.1,tTxn.wt y≤1048576∧vbg y=true)∧b.2.2.1.length≤3∧(∀y∈b.2.2.1,tTxn.wt y≤1048576∧vbg y=true):=by
 obtain⟨p1,p2,p3⟩:=vn4 hw
 unfold vcs var at h
 simp only [Bool.and_eq_true,decide_eq_true_eq]at h
 obtain⟨⟨⟨⟨⟨⟨⟨⟨h1,h2⟩,h3⟩,h4⟩,h5⟩,h6⟩,h7⟩,h8⟩,h9⟩:=h
 have v:=vwd h1
 unfold vvp
 refine⟨by omega,by omega,v.1,v.2,by omega,fun y hy=>⟨vcu hy p2,vvz h7 y hy⟩,by omega,fun y hy=>⟨vcu hy p3,vts h8 y hy⟩⟩
theorem wy9 {b:tBase.D}(hw:tBase.wt b≤1048576) (k):v46 b k=k (bif vcs b then(veu b,true)else(⟨#[]⟩,false)):=by
 rw [w2s (by have:=vct (vn4 hw).1;omega)]
 unfold wma
 simp only [wdl hw]
 cases h:vcs b
 ·rfl
 ·obtain⟨⟨_,n1⟩,⟨_,n2⟩,l1,v,l2,p,l3,r⟩:=vjt hw h
  have v1:=vaz b.2.2.2.1
  have v2:=vaz b.2.2.2.2
  have v3:=vaz (b.1.length:Int)
  have t1:=v37 p l2
  have t2:=v37 r (by omega)
  have s2:=ByteArray.size_append (a:=varB b.2.2.2.1) (b:=varB b.2.2.2.2)
  have s3:=ByteArray.size_append (a:=varB b.2.2.2.1++varB b.2.2.2.2) (b:=varB b.1.length)
  obtain⟨j1,h1,z1⟩:=v4w (u2:=b.1) (u3:=b.2.1) (u4:=b.2.2.1) (u5:=b.2.2.2.1) (u6:=b.2.2.2.2) b.1 ((varB b.2.2.2.1++varB b.2.2.2.2)++varB b.1.length) 0 v (by omega)
  have s4:=ByteArray.size_append (a:=vu2 b.1 ((varB b.2.2.2.1++varB b.2.2.2.2)++varB b.1.length)) (b:=ve3 b.2.1 (varB b.2.1.length))
  simp only [Bool.not_true,cond_false,cond_true,vew n1,vew n2,vew (show (b.1.length:Int)≤16383 by omega),wgc p l2,wgc r (show b.2.2.1.length≤12 by omega)]
  rw [if_pos (by omega),if_pos (by omega),h1]
  simp only []
  rw [if_pos (by omega),if_pos (by omega)]
  rfl
theorem v49 {L:List tTxn.D}(h:∀y∈L,tTxn.wt y≤1048576∧vbg y=true)(hL:L.length≤12){x1 x2:Int} {ls}:∀(l:List tTxn.D)(i:Nat)(s:List Int)(q:Nat),L.drop i=l→l.length<q→s.length+1000*l.length≤90000→
  ∃j:Int,(∀K,vae vol q (x1,x2,L,(L.length:Int),(i:Int),ls,s) K=K (x1,x2,L,(L.length:Int),j,ls,viu l s))∧(viu l s).length≤s.length+1000*l.length
 |l,i,s,0,_,h,_=>by omega
 |[],i,s,q+1,hd,_,_=>by
  have hge:=vbh hd
  refine⟨(i:Int),fun K=>?_,by simp [viu]⟩
  simp only [vae,vol,hge,decide_false,cond_false,Sum.elim_inr]
  rfl
 |y::l,i,s,q+1,hd,hq,hs=>by
  simp only [List.length_cons]at hs
  have hlt:=vde hd
  have hy:=(va1 hd).1
  have hm:=h y (vc7 hd)
  have s1:=vg3 hm.2
  have e1:(s++vah (vcj y)).length≤s.length+1000:=by rw [List.length_append,vak];omega
  obtain⟨j,hj,hl⟩:=v49 h hL (x1:=x1) (x2:=x2) (ls:=ls) l (i+1) (s++vah (vcj y)) q (vb5 hd) (by simpa using hq) (by omega)
  refine⟨j,fun K=>?_,by simp only [viu,List.length_cons];omega⟩
  have hw:IntKind.wrap .i64 ((i:Int)+1)=((i+1:Nat):Int):=va8 (by omega)
  have hml:s.length+(vah (vcj y)).length≤VE.maxLen:=by rw [vak];show _≤4294967296;omega
  simp only [vae,vol,show (i:Int)<(L.length:Int) by omega,decide_true,cond_true,if_pos (show 0≤(i:Int)∧(i:Int)<(L.length:Int) by omega),hy,wnq hm.1,hm.2,if_pos hml,Sum.elim_inl,hw,viu]
  exact hj K
theorem vvt {ls:List (List tTxn.D)}{i:Nat}{L:List tTxn.D}(hLs:ls.getD i (Ty.zero (.slice tTxn))=L)(hi:i<ls.length)(hn:ls.length≤10)(h:∀y∈L,tTxn.wt y≤1048576∧vbg y=true)(hL:L.length≤12){s:List Int}(hs:s.length≤60000)(q:Nat) :
  (∀K,vae vke (q+1) ((ls.length:Int),(i:Int),ls,s) K=vae vke q ((ls.length:Int),((i+1:Nat):Int),ls,viu L (s++vah (varB L.length))) K)∧(viu L (s++vah (varB L.length))).length≤s.length+13000:=by
 have v:=vaz (L.length:Int)
 have e1:(s++vah (varB L.length)).length≤s.length+2:=by rw [List.length_append,vak];omega
 obtain⟨j,hj,hl⟩:=v49 h hL (x1:=(ls.length:Int)) (x2:=(i:Int)) (ls:=ls) L 0 (s++vah (varB L.length)) Fuel rfl (Nat.lt_of_lt_of_le (by omega) vba) (by omega)
 refine⟨fun K=>?_,by omega⟩
 have hw:IntKind.wrap .i64 ((i:Int)+1)=((i+1:Nat):Int):=va8 (by omega)
 have hz:((0:Nat):Int)=0:=rfl
 rw [hz]at hj
 simp only [vae,vke,show (i:Int)<(ls.length:Int) by omega,show (0:Int)≤(i:Int) by omega,and_self,if_true,decide_true,cond_true,Int.toNat_natCast,hLs,v5g (show (0:Int)≤(L.length:Int) by omega) (show (L.length:Int)≤16383 by omega) (show s.length≤100000 by omega),Sum.elim_inr,hj,Sum.elim_inl,hw]
theorem wz5 {b:tBase.D}(hw:tBase.wt b≤1048576) (k):v4m b k=k (bif vcs b then(veu b,true)else(⟨#[]⟩,false)):=by
 rw [w3o (by have:=vct (vn4 hw).1;omega)]
 unfold wrs
 simp only [wbr hw]
 cases h:vcs b
 ·rfl
 ·obtain⟨n1,n2,l1,v,l2,p,l3,r⟩:=vjt hw h
  have hn:∀n∈([b.2.2.2.1,b.2.2.2.2,(b.1.length:Int)]:List Int),0≤n∧n≤16383:=by
   intro n hn
   simp only [List.mem_cons,List.not_mem_nil,or_false]at hn
   rcases hn with rfl|rfl|rfl
   ·exact n1
   ·exact n2
   ·exact⟨Int.natCast_nonneg _,by omega⟩
  have m1:=vzw [b.2.2.2.1,b.2.2.2.2,(b.1.length:Int)] []
  simp only [List.length_cons,List.length_nil]at m1
  obtain⟨j1,h1,z1⟩:=v3a (u0:=b.1) (u3:=b.1) (u4:=b.2.1) (u5:=b.2.2.1) (u6:=b.2.2.2.1) (u7:=b.2.2.2.2) b.1 (vki [b.2.2.2.1,b.2.2.2.2,(b.1.length:Int)] []) 0 v (by omega)
  obtain⟨f,hf⟩:=vqs
  obtain⟨a1,a2⟩:=vvt (ls:=[b.2.1,b.2.2.1]) (i:=0) (L:=b.2.1) rfl (by simp) (by simp) p l2 (s:=vwg b.1 (vki [b.2.2.2.1,b.2.2.2.2,(b.1.length:Int)] [])) (by omega) (f+2)
  obtain⟨b1,b2⟩:=vvt (ls:=[b.2.1,b.2.2.1]) (i:=1) (L:=b.2.2.1) rfl (by simp) (by simp) r (by omega) (s:=viu b.2.1 (vwg b.1 (vki [b.2.2.2.1,b.2.2.2.2,(b.1.length:Int)] [])++vah (varB b.2.1.length))) (by omega) (f+1)
  have hz:((0:Nat):Int)=0:=rfl
  rw [hz]at a1
  simp only [Bool.not_true,cond_false,cond_true,wrm hn (show _≤100 by simp),h1,hf]
  rw [a1,b1]
  have e2:vae vke (f+1) (([b.2.1,b.2.2.1].length:Int),((1+1:Nat):Int),[b.2.1,b.2.2.1],viu b.2.2.1 (viu b.2.1 (vwg b.1 (vki [b.2.2.2.1,b.2.2.2.2,(b.1.length:Int)] [])++vah (varB b.2.1.length))++vah (varB b.2.2.1.length))) =
    fun K=>K (([b.2.1,b.2.2.1].length:Int),((1+1:Nat):Int),[b.2.1,b.2.2.1],viu b.2.2.1 (viu b.2.1 (vwg b.1 (vki [b.2.2.2.1,b.2.2.2.2,(b.1.length:Int)] [])++vah (varB b.2.1.length))++vah (varB b.2.2.1.length))):=by
   funext K
   simp only [vae,vke,show ¬(((1+1:Nat):Int)<([b.2.1,b.2.2.1].length:Int)) by simp,decide_false,cond_false,Sum.elim_inr]
  rw [e2]
  simp only
  congr 2
  unfold veu
  simp only [whb,va4,vav,wmh,vki,show van []=(⟨#[]⟩:ByteArray)from rfl,List.nil_append,v3o,ByteArray.append_assoc]
end
end Go.VE
/- Plain laws: sums;a record's text. -/
namespace Go.VE
noncomputable section
set_option linter.unusedVariables false
set_option linter.unusedSimpArgs false
set_option maxRecDepth 100000
theorem w1p:∀(d:Nat)(c:Nat)(x:Int)(s:ByteArray)(i:Int)(q:Nat),8-c=d→c≤8→d<q→∃v:Int,∀K,vae vmr q (x,s,i,(c:Int)) K=K (v,s,i,8):=by
 intro d
 induction d with
 |zero=>
  intro c x s i q hd hc hq
  obtain⟨q,rfl⟩:∃q',q=q'+1:=⟨q-1,by omega⟩
  have:c=8:=by omega
  subst this
  refine⟨x,fun K=>?_⟩
  simp only [vae,vmr,show ¬((8:Nat):Int)<8 by omega,decide_false,cond_false,Sum.elim_inr]
  rfl
 |succ d ih=>
  intro c x s i q hd hc hq
  obtain⟨q,rfl⟩:∃q',q=q'+1:=⟨q-1,by omega⟩
  have hw:IntKind.wrap .i64 ((c:Int)+1)=((c+1:Nat):Int):=va8 (by omega)
  cases ht:(x.tmod 2==1)
  ·obtain⟨v,hv⟩:=ih (c+1) (IntKind.wrap .u32 (x.tdiv (2:Int))) s i q (by omega) (by omega) (by omega)
   refine⟨v,fun K=>?_⟩
   simp only [vae,vmr,show (c:Int)<8 by omega,decide_true,cond_true,ht,cond_false,Sum.elim_inl,hw]
   exact hv K
  ·obtain⟨v,hv⟩:=ih (c+1) (IntKind.wrap .u32 (BitVec.ofInt (IntKind.bits .u32) (IntKind.wrap .u32 (x.tdiv (2:Int))) ^^^ BitVec.ofInt (IntKind.bits .u32) (3558460437:Int)).toNat) s i q (by omega) (by omega) (by omega)
   refine⟨v,fun K=>?_⟩
   simp only [vae,vmr,show (c:Int)<8 by omega,decide_true,cond_true,ht,Sum.elim_inl,hw]
   exact hv K
theorem w04 {s:ByteArray}(hs:s.size≤1000000000):∀(d i:Nat)(x:Int)(q:Nat),s.size-i=d→i≤s.size→d<q→∃v j:Int,∀K,vae vms q (x,s,(i:Int)) K=K (v,s,j):=by
 intro d
 induction d with
 |zero=>
  intro i x q hd hi hq
  obtain⟨q,rfl⟩:∃q',q=q'+1:=⟨q-1,by omega⟩
  refine⟨x,(i:Int),fun K=>?_⟩
  simp only [vae,vms,show ¬(i:Int)<(s.size:Int) by omega,decide_false,cond_false,Sum.elim_inr]
 |succ d ih=>
  intro i x q hd hi hq
  obtain⟨q,rfl⟩:∃q',q=q'+1:=⟨q-1,by omega⟩
  have hw:IntKind.wrap .i64 ((i:Int)+1)=((i+1:Nat):Int):=va8 (by omega)
  obtain⟨v,hv⟩:=w1p 8 0 (IntKind.wrap .u32 (BitVec.ofInt (IntKind.bits .u32) x ^^^ BitVec.ofInt (IntKind.bits .u32) (IntKind.wrap .u32 (bt s (i:Int)))).toNat) s (i:Int) Fuel rfl (by omega) (Nat.lt_of_lt_of_le (by omega) vba)
  obtain⟨v2,j,hj⟩:=ih (i+1) v q (by omega) (by omega) (by omega)
  refine⟨v2,j,fun K=>?_⟩
  have hz:((0:Nat):Int)=0:=rfl
  rw [hz]at hv
  simp only [vae,vms,show (i:Int)<(s.size:Int) by omega,show (0:Int)≤(i:Int) by omega,and_self,if_true,decide_true,cond_true,hv,Sum.elim_inl,hw]
  exact hj K
theorem wef (x:Int)(s:ByteArray):∃v:Int,s.size≤1000000000→∀k,v3d x s k=k v:=by
 by_cases hs:s.size≤1000000000
 ·obtain⟨v,j,hj⟩:=w04 hs (s.size-0) 0 x Fuel rfl (by omega) (Nat.lt_of_lt_of_le (by omega) vba)
  refine⟨v,fun _ k=>?_⟩
  rw [whp]
  unfold v8t
  have hz:((0:Nat):Int)=0:=rfl
  rw [hz]at hj
  rw [hj]
 ·exact⟨0,fun h=>absurd h hs⟩
def sumB (s:ByteArray):Int:=Classical.choose (wef 4294967295 s)
theorem wgm {s:ByteArray}(hs:s.size≤1000000000) (k):vuy s k=k (sumB s):=by
 rw [wbx];unfold v51
 exact Classical.choose_spec (wef 4294967295 s) hs k
theorem wsm (x:Int)(s:ByteArray):wa9 x s=v3d x s:=by
 rw [wqi,whp]
 have h2:vy0=vmr:=rfl
 have h0:vuv=vms:=by
  funext x k
  unfold vuv vms
  rw [h2]
 funext k
 unfold wie v8t
 rw [h0]
theorem wzq {s:ByteArray}(hs:s.size≤1000000000) (k):v86 s k=k (sumB s):=by
 rw [wo1];unfold wfh
 rw [wsm]
 exact Classical.choose_spec (wef 4294967295 s) hs k
def vr7 (n:Int):ByteArray:=van [(IntKind.wrap .u8 (n.fdiv (2^(min (24:Int).toNat (IntKind.bits .u32))))),(IntKind.wrap .u8 (n.fdiv (2^(min (16:Int).toNat (IntKind.bits .u32))))),(IntKind.wrap .u8 (n.fdiv (2^(min (8:Int).toNat (IntKind.bits .u32))))),(IntKind.wrap .u8 n)]
def vrv (s:ByteArray):ByteArray×Bool:=bif decide ((s.size:Int)>20000)then(⟨#[]⟩,false)else(s++vr7 (sumB s),true)
theorem vqp (n:Int):(vr7 n).size=4:=by unfold vr7;rw [vov];rfl
theorem wbw {s:ByteArray}(hs:s.size≤1000000000) (k):vw6 s k=k (vrv s):=by
 rw [wm1];unfold wgg vrv
 cases decide ((s.size:Int)>20000)
 ·have:∀n k,vrz n k=k (vr7 n):=fun n k=>by rw [v69];rfl
  simp only [cond_false,wgm hs,this,vqp]
  rw [if_pos (by omega)]
 ·rfl
theorem v6l {s:ByteArray}(hs:s.size≤1000000000) (k):vyv s k=k (vrv s):=by
 rw [wmv];unfold wiz vrv
 cases decide ((s.size:Int)>20000)
 ·simp only [cond_false,wzq hs]
  rw [if_pos (by have:=vqp (sumB s);unfold vr7 at this;omega)]
  rfl
 ·rfl
theorem v3c:∀(l:List tVersion.D)(s:ByteArray),(∀y∈l,v87 y)→(vu2 l s).size≤s.size+40*l.length
 |[],s,_=>by simp [vu2]
 |y::l,s,h=>by
  obtain⟨h1,h2,_,_⟩:=h y (by simp)
  have s1:=vbr y.1
  have s2:=vbr y.2.1
  have s3:=vd0 y.2.2.1
  have s4:=vaz y.2.2.2
  have ih:=v3c l ((((s++shB y.1)++shB y.2.1)++bitB y.2.2.1)++varB y.2.2.2) (fun y hy=>h y (by simp [hy]))
  rw [ByteArray.size_append,ByteArray.size_append,ByteArray.size_append,ByteArray.size_append]at ih
  simp only [vu2,List.length_cons]
  omega
theorem vsc:∀(l:List tTxn.D)(s:ByteArray),(∀y∈l,vbg y=true)→(ve3 l s).size≤s.size+1000*l.length
 |[],s,_=>by simp [ve3]
 |y::l,s,h=>by
  have s1:=vg3 (h y (by simp))
  have ih:=vsc l (s++vcj y) (fun y hy=>h y (by simp [hy]))
  rw [ByteArray.size_append]at ih
  simp only [ve3,List.length_cons]
  omega
theorem vt2 {b:tBase.D}(hw:tBase.wt b≤1048576)(h:vcs b=true):(veu b).size≤90000:=by
 obtain⟨n1,n2,l1,v,l2,p,l3,r⟩:=vjt hw h
 have v1:=vaz b.2.2.2.1
 have v2:=vaz b.2.2.2.2
 have v3:=vaz (b.1.length:Int)
 have v4:=vaz (b.2.1.length:Int)
 have v5:=vaz (b.2.2.1.length:Int)
 have z1:=v3c b.1 ((varB b.2.2.2.1++varB b.2.2.2.2)++varB b.1.length) v
 have z2:=vsc b.2.1 (varB b.2.1.length) (fun y hy=>(p y hy).2)
 have z3:=vsc b.2.2.1 (varB b.2.2.1.length) (fun y hy=>(r y hy).2)
 unfold veu
 simp only [ByteArray.size_append]at z1 z2 z3 ⊢
 omega
def vbt (r:tRecord.D):ByteArray×Bool:=
 bif !vdm r then(⟨#[]⟩,false)else
 vrv (bif r.1==3 then(van [IntKind.wrap .u8 r.1]++shB r.2.2.1)++bitB r.2.2.2.1 else bif r.1==4 then van [IntKind.wrap .u8 r.1]++veu r.2.2.2.2 else van [IntKind.wrap .u8 r.1]++vcj r.2.1)
theorem vnw {r:tRecord.D}(h:vdm r=true):(r.1=3∧r.2.2.1.size≤3)∨(r.1=4∧vcs r.2.2.2.2=true)∨((r.1==3)=false∧(r.1==4)=false∧vbg r.2.1=true):=by
 unfold vdm at h
 by_cases k1:r.1=1
 ·rw [k1]at h ⊢
  right;right
  refine⟨rfl,rfl,?_⟩
  simp only [show ((1:Int)==1)=true from rfl,cond_true,Bool.and_eq_true]at h
  exact h.1.1.1.1
 by_cases k2:r.1=2
 ·rw [k2]at h ⊢
  right;right
  refine⟨rfl,rfl,?_⟩
  simp only [show ((2:Int)==1)=false from rfl,show ((2:Int)==2)=true from rfl,cond_false,cond_true,Bool.and_eq_true]at h
  exact h.1.1.1.1
 by_cases k3:r.1=3
 ·rw [k3]at h
  left
  simp only [show ((3:Int)==1)=false from rfl,show ((3:Int)==2)=false from rfl,show ((3:Int)==3)=true from rfl,cond_false,cond_true,Bool.and_eq_true]at h
  exact⟨k3,vhw h.1.2⟩
 by_cases k4:r.1=4
 ·rw [k4]at h
  right;left
  simp only [show ((4:Int)==1)=false from rfl,show ((4:Int)==2)=false from rfl,show ((4:Int)==3)=false from rfl,show ((4:Int)==4)=true from rfl,cond_false,cond_true,Bool.and_eq_true]at h
  exact⟨k4,h.1.2⟩
 simp only [beq_eq_false_iff_ne.2 k1,beq_eq_false_iff_ne.2 k2,beq_eq_false_iff_ne.2 k3,beq_eq_false_iff_ne.2 k4,cond_false]at h
 cases h
theorem wdo {r:tRecord.D}(hr:tRecord.wt r≤1048576) (k):vx4 r k=k (vbt r):=by
 have hr':=hr
 rw [vht]at hr'
 have h1:tTxn.wt r.2.1≤1048576:=by omega
 have h3:tBase.wt r.2.2.2.2≤1048576:=by omega
 rw [wlm]
 unfold wg5 vbt
 simp only [wzn hr]
 cases h:vdm r
 ·rfl
 ·have b1:(van [IntKind.wrap .u8 r.1]).size=1:=rfl
  rcases vnw h with⟨e,hk⟩|⟨e,hb⟩|⟨e1,e2,ht⟩
  ·have s1:=vbr r.2.2.1
   have s2:=vd0 r.2.2.2.1
   have s3:=ByteArray.size_append (a:=van [IntKind.wrap .u8 r.1]) (b:=shB r.2.2.1)
   have s4:=ByteArray.size_append (a:=van [IntKind.wrap .u8 r.1]++shB r.2.2.1) (b:=bitB r.2.2.2.1)
   have e':(r.1==3)=true:=by rw [e];rfl
   simp only [Bool.not_true,cond_false,cond_true,e',vi7 (show r.2.2.1.size≤12 by omega),vwn]
   rw [if_pos (by omega),if_pos (by omega),wbw (by omega)]
  ·have s1:=vt2 h3 hb
   have s4:=ByteArray.size_append (a:=van [IntKind.wrap .u8 r.1]) (b:=veu r.2.2.2.2)
   have e':(r.1==3)=false:=by rw [e];rfl
   have e2:(r.1==4)=true:=by rw [e];rfl
   simp only [Bool.not_true,cond_false,cond_true,e',e2,wy9 h3,hb]
   rw [if_pos (by omega),wbw (by omega)]
  ·have s1:=vg3 ht
   have s4:=ByteArray.size_append (a:=van [IntKind.wrap .u8 r.1]) (b:=vcj r.2.1)
   simp only [Bool.not_true,cond_false,cond_true,e1,e2,wfk h1,ht]
   rw [if_pos (by omega),wbw (by omega)]
theorem vy5 {r:tRecord.D}(hr:tRecord.wt r≤1048576) (k):waa r k=k (vbt r):=by
 have hr':=hr
 rw [vht]at hr'
 have h1:tTxn.wt r.2.1≤1048576:=by omega
 have h3:tBase.wt r.2.2.2.2≤1048576:=by omega
 rw [wrp]
 unfold wil vbt
 simp only [w0w hr,vc1]
 cases h:vdm r
 ·rfl
 ·have b1:(van [IntKind.wrap .u8 r.1]).size=1:=rfl
  rcases vnw h with⟨e,hk⟩|⟨e,hb⟩|⟨e1,e2,ht⟩
  ·have s1:=vbr r.2.2.1
   have s2:=vd0 r.2.2.2.1
   have s3:=ByteArray.size_append (a:=van [IntKind.wrap .u8 r.1]) (b:=shB r.2.2.1)
   have s4:=ByteArray.size_append (a:=van [IntKind.wrap .u8 r.1]++shB r.2.2.1) (b:=bitB r.2.2.2.1)
   have e':(r.1==3)=true:=by rw [e];rfl
   have hl:([IntKind.wrap .u8 r.1]++vah (shB r.2.2.1)).length≤100000:=by rw [List.length_append,vak];simp;omega
   simp only [Bool.not_true,cond_false,cond_true,e',wgx (show r.2.2.1.size≤12 by omega) (s:=[IntKind.wrap .u8 r.1]) (by simp),Sum.elim_inr,v53 _ hl,va4,vav,v6l (show (van [IntKind.wrap .u8 r.1]++shB r.2.2.1++bitB r.2.2.2.1).size≤1000000000 by omega)]
  ·have s1:=vt2 h3 hb
   have s4:=ByteArray.size_append (a:=van [IntKind.wrap .u8 r.1]) (b:=veu r.2.2.2.2)
   have e':(r.1==3)=false:=by rw [e];rfl
   have e2:(r.1==4)=true:=by rw [e];rfl
   have hm : [IntKind.wrap .u8 r.1].length+(vah (veu r.2.2.2.2)).length≤VE.maxLen:=by rw [vak];show _≤4294967296;simp;omega
   simp only [Bool.not_true,cond_false,cond_true,e',e2,wz5 h3,hb,if_pos hm,va4,vav,v6l (show (van [IntKind.wrap .u8 r.1]++veu r.2.2.2.2).size≤1000000000 by omega)]
  ·have s1:=vg3 ht
   have s4:=ByteArray.size_append (a:=van [IntKind.wrap .u8 r.1]) (b:=vcj r.2.1)
   have hm : [IntKind.wrap .u8 r.1].length+(vah (vcj r.2.1)).length≤VE.maxLen:=by rw [vak];show _≤4294967296;simp;omega
   simp only [Bool.not_true,cond_false,cond_true,e1,e2,wnq h1,ht,if_pos hm,va4,vav,v6l (show (van [IntKind.wrap .u8 r.1]++vcj r.2.1).size≤1000000000 by omega)]
end
end Go.VE
/- Plain laws: marks of lists of transactions,of bases and engines that own all their slices. -/
namespace Go.VE
noncomputable section
set_option linter.unusedVariables false
set_option linter.unusedSimpArgs false
set_option maxRecDepth 100000
theorem vwf {l:List tRange.D}(hl:l.length≤1048576){c:Int}(h0:0≤c)(hc:c+2*l.length≤9000000) (k):vzj c l k=k (c+2*l.length,vlt c l):=by
 rw [wf7]
 unfold v8y
 obtain⟨j,hj⟩:=vik l [] c Fuel h0 hc (by simpa using hl) (by have:=vba;omega)
 simp only [List.length_nil,List.nil_append]at hj
 rw [show ((0:Int))=((0:Nat):Int)from rfl,hj]
theorem vwc {l:List tWrite.D}(hl:l.length≤1048576){c:Int}(h0:0≤c)(hc:c+3*l.length≤9000000) (k):vyb c l k=k (c+3*l.length,vk7 c l):=by
 rw [wig]
 unfold v9d
 obtain⟨j,hj⟩:=vi3 l [] c Fuel h0 hc (by simpa using hl) (by have:=vba;omega)
 simp only [List.length_nil,List.nil_append]at hj
 rw [show ((0:Int))=((0:Nat):Int)from rfl,hj]
def vum (t:tTxn.D):Int:=6+2*(t.2.2.2.2.1.length:Int)+3*(t.2.2.2.2.2.1.length:Int)
def cntT:List tTxn.D→Int
 |[]=>0
 |y::l=>vum y+cntT l
def wh1 (c:Int)(t:tTxn.D):tTxn.D:=
 (c,(c+1,(c+2,(c+3,(vlt (c+4) t.2.2.2.2.1,(vk7 (c+4+2*(t.2.2.2.2.1.length:Int)) t.2.2.2.2.2.1,
  ((c+4+2*(t.2.2.2.2.1.length:Int)+3*(t.2.2.2.2.2.1.length:Int)).tmod 3==0,vpv (c+4+2*(t.2.2.2.2.1.length:Int)+3*(t.2.2.2.2.2.1.length:Int)+1))))))))
def vtf:Int→List tTxn.D→List tTxn.D
 |_,[]=>[]
 |c,y::l=>wh1 c y::vtf (c+vum y) l
theorem wa6 (t:tTxn.D):6≤vum t:=by unfold vum;omega
theorem vhs:∀l:List tTxn.D,0≤cntT l
 |[]=>Int.le_refl _
 |y::l=>by have:=wa6 y;have:=vhs l;simp only [cntT];omega
theorem vv7:∀(c:Int)(l:List tTxn.D),(vtf c l).length=l.length
 |_,[]=>rfl
 |c,y::l=>by simp [vtf,vv7 (c+vum y) l]
theorem wnz:∀(l:List tTxn.D),cntT l≤6*(l.length+wtL tTxn l:Nat)
 |[]=>by simp [cntT,wtL]
 |y::l=>by
  have h:=wnz l
  have hw:=vu6 y
  have h1:(Ty.slice tRange).wt y.2.2.2.2.1=y.2.2.2.2.1.length+wtL tRange y.2.2.2.2.1:=Ty.wt_slice _ _
  have h2:(Ty.slice tWrite).wt y.2.2.2.2.2.1=y.2.2.2.2.2.1.length+wtL tWrite y.2.2.2.2.2.1:=Ty.wt_slice _ _
  simp only [cntT,vum,List.length_cons,wtL]
  push_cast at h ⊢
  omega
theorem vtc:∀(l pre:List tTxn.D)(c:Int)(q:Nat),(∀y∈l,y.2.2.2.2.1.length≤1048576∧y.2.2.2.2.2.1.length≤1048576)→0≤c→c+cntT l≤9000000→pre.length+l.length≤1048576→l.length<q→
  ∃j:Int,∀k,vae voz q (c,(pre.length:Int),pre++l) k=k (c+cntT l,j,pre++vtf c l)
 |[],pre,c,q,hw,h0,hc,hl,hq=>by
  obtain⟨q,rfl⟩:∃r,q=r+1:=⟨q-1,by omega⟩
  refine⟨pre.length,fun k=>?_⟩
  simp only [vae,voz,List.append_nil,Int.lt_irrefl,decide_false,cond_false,Sum.elim_inr,vtf,cntT]
  simp
 |y::l,pre,c,q,hw,h0,hc,hl,hq=>by
  obtain⟨q,rfl⟩:∃r,q=r+1:=⟨q-1,by omega⟩
  simp only [List.length_cons]at hl hq
  obtain⟨hy1,hy2⟩:=hw y (by simp)
  have hp1:=vhs l
  simp only [cntT]at hc
  obtain⟨j,hj⟩:=vtc l (pre++[wh1 c y]) (c+vum y) q (fun z hz=>hw z (by simp [hz])) (by have:=wa6 y;omega) (by omega) (by rw [List.length_append,List.length_singleton];omega) (by omega)
  refine⟨j,fun k=>?_⟩
  have hlt:∀v:tTxn.D,(pre.length:Int)<((pre++v::l).length:Int):=fun v=>by rw [List.length_append,List.length_cons];omega
  have hcy:vum y=6+2*(y.2.2.2.2.1.length:Int)+3*(y.2.2.2.2.2.1.length:Int):=rfl
  have w1:IntKind.wrap .i64 (c+1)=c+1:=vau (by omega) (by omega)
  have w2:IntKind.wrap .i64 (c+1+1)=c+2:=by rw [vau (by omega) (by omega)];omega
  have w3:IntKind.wrap .i64 (c+2+1)=c+3:=by rw [vau (by omega) (by omega)];omega
  have w4:IntKind.wrap .i64 (c+3+1)=c+4:=by rw [vau (by omega) (by omega)];omega
  have w5:IntKind.wrap .i64 (c+4+2*(y.2.2.2.2.1.length:Int)+3*(y.2.2.2.2.2.1.length:Int)+1)=c+4+2*(y.2.2.2.2.1.length:Int)+3*(y.2.2.2.2.2.1.length:Int)+1:=vau (by omega) (by omega)
  have w6:IntKind.wrap .i64 (c+4+2*(y.2.2.2.2.1.length:Int)+3*(y.2.2.2.2.2.1.length:Int)+1+1)=c+vum y:=by rw [vau (by omega) (by omega)];omega
  have w7:IntKind.wrap .i64 ((pre.length:Int)+1)=((pre.length+1:Nat):Int):=va8 (by omega)
  have hp:(0:Int)≤(pre.length:Int):=Int.natCast_nonneg _
  have hj':=hj k
  rw [List.length_append,List.length_singleton,List.append_assoc,List.singleton_append,List.append_assoc,List.singleton_append]at hj'
  simp only [vae,voz,hlt,decide_true,cond_true,hp,and_self,if_true,Int.toNat_natCast,v54,vws,vf4,vf3,vfv,vfz,
   vfg,vft,vfl,w1,w2,w3,w4,w7,
   vwf hy1 (show 0≤c+4 by omega) (show c+4+2*(y.2.2.2.2.1.length:Int)≤9000000 by omega),
   vwc hy2 (show 0≤c+4+2*(y.2.2.2.2.1.length:Int) by omega) (show c+4+2*(y.2.2.2.2.1.length:Int)+3*(y.2.2.2.2.2.1.length:Int)≤9000000 by omega),w5,
   vbx (show c+4+2*(y.2.2.2.2.1.length:Int)+3*(y.2.2.2.2.2.1.length:Int)+1≤10000000 by omega),w6,Sum.elim_inl]
  refine Eq.trans (b:=vae voz q (c+vum y,((pre.length+1:Nat):Int),pre++wh1 c y::l) k) rfl ?_
  rw [hj']
  simp only [vtf,cntT]
  congr 2
  omega
theorem vrq {l:List tTxn.D}(hw:∀y∈l,y.2.2.2.2.1.length≤1048576∧y.2.2.2.2.2.1.length≤1048576)(hl:l.length≤1048576){c:Int}(h0:0≤c)(hc:c+cntT l≤9000000) (k) :
  v42 c l k=k (c+cntT l,vtf c l):=by
 rw [wnj]
 unfold wfo
 obtain⟨j,hj⟩:=vtc l [] c Fuel hw h0 hc (by simpa using hl) (by have:=vba;omega)
 simp only [List.length_nil,List.nil_append]at hj
 rw [show ((0:Int))=((0:Nat):Int)from rfl,hj]
end
end Go.VE
/- Plain laws: what is marked in versions,transactions,bases and engines is held. -/
namespace Go.VE
noncomputable section
set_option linter.unusedVariables false
set_option linter.unusedSimpArgs false
set_option maxRecDepth 100000
def vu8:Int→List tVersion.D→List tVersion.D
 |_,[]=>[]
 |c,y::l=>(vpv c,(vpv (c+1),((c+2).tmod 3==0,c+3)))::vu8 (c+4) l
theorem vvq:∀(c:Int)(l:List tVersion.D),(vu8 c l).length=l.length
 |_,[]=>rfl
 |c,y::l=>by simp [vu8,vvq (c+4) l]
theorem vhf:∀(l pre:List tVersion.D)(c:Int)(q:Nat),0≤c→c+4*l.length≤9000000→pre.length+l.length≤1048576→l.length<q→
  ∃j:Int,∀k,vae vnv q (c,(pre.length:Int),pre++l) k=k (c+4*l.length,j,pre++vu8 c l)
 |[],pre,c,q,h0,hc,hl,hq=>by
  obtain⟨q,rfl⟩:∃r,q=r+1:=⟨q-1,by omega⟩
  refine⟨pre.length,fun k=>?_⟩
  simp only [vae,vnv,List.append_nil,Int.lt_irrefl,decide_false,cond_false,Sum.elim_inr,List.length_nil,vu8]
  simp
 |y::l,pre,c,q,h0,hc,hl,hq=>by
  obtain⟨q,rfl⟩:∃r,q=r+1:=⟨q-1,by omega⟩
  simp only [List.length_cons]at hc hl hq
  obtain⟨j,hj⟩:=vhf l (pre++[(vpv c,(vpv (c+1),((c+2).tmod 3==0,c+3)))]) (c+4) q (by omega) (by omega) (by rw [List.length_append,List.length_singleton];omega) (by omega)
  refine⟨j,fun k=>?_⟩
  have hlt:∀v:tVersion.D,(pre.length:Int)<((pre++v::l).length:Int):=fun v=>by rw [List.length_append,List.length_cons];omega
  have w1:IntKind.wrap .i64 (c+1)=c+1:=vau (by omega) (by omega)
  have w2:IntKind.wrap .i64 (c+1+1)=c+2:=by rw [vau (by omega) (by omega)];omega
  have w3:IntKind.wrap .i64 (c+2+1)=c+3:=by rw [vau (by omega) (by omega)];omega
  have w4:IntKind.wrap .i64 (c+3+1)=c+4:=by rw [vau (by omega) (by omega)];omega
  have w5:IntKind.wrap .i64 ((pre.length:Int)+1)=((pre.length+1:Nat):Int):=va8 (by omega)
  have hp:(0:Int)≤(pre.length:Int):=Int.natCast_nonneg _
  have hj':=hj k
  rw [List.length_append,List.length_singleton,List.append_assoc,List.singleton_append,List.append_assoc,List.singleton_append]at hj'
  simp only [vae,vnv,hlt,decide_true,cond_true,vbx (show c≤10000000 by omega),w1,vbx (show c+1≤10000000 by omega),Int.toNat_natCast,v54,vws,hp,and_self,if_true,w2,w3,w4,w5,Sum.elim_inl]
  refine Eq.trans (b:=vae vnv q (c+4,((pre.length+1:Nat):Int),pre++(vpv c,(vpv (c+1),((c+2).tmod 3==0,c+3)))::l) k) rfl ?_
  rw [hj']
  simp only [vu8,List.length_cons]
  congr 2
  push_cast
  omega
theorem vte {l:List tVersion.D}(hl:l.length≤1048576){c:Int}(h0:0≤c)(hc:c+4*l.length≤9000000) (k):v8p c l k=k (c+4*l.length,vu8 c l):=by
 rw [wof]
 unfold wh7
 obtain⟨j,hj⟩:=vhf l [] c Fuel h0 hc (by simpa using hl) (by have:=vba;omega)
 simp only [List.length_nil,List.nil_append]at hj
 rw [show ((0:Int))=((0:Nat):Int)from rfl,hj]
theorem vl9 {u0 u2}:∀(l:List tVersion.D)(c:Int)(i:Nat),0≤c→c+4*l.length≤9000000→∃j:Int,∀k,vmu u0 u2 (vu8 c l) c i k=k (.inr (c+4*l.length,j))
 |[],c,i,_,_=>⟨_,fun k=>by simp only [vu8,vmu,List.length_nil];simp;rfl⟩
 |y::l,c,i,h0,hc=>by
  simp only [List.length_cons]at hc
  obtain⟨j,hj⟩:=vl9 (u0:=u0) (u2:=u2) l (c+4) (i+1) (by omega) (by omega)
  have w1:IntKind.wrap .i64 (c+1)=c+1:=vau (by omega) (by omega)
  have w2:IntKind.wrap .i64 (c+1+1)=c+2:=by rw [vau (by omega) (by omega)];omega
  have w3:IntKind.wrap .i64 (c+2+1)=c+3:=by rw [vau (by omega) (by omega)];omega
  have w4:IntKind.wrap .i64 (c+3+1)=c+4:=by rw [vau (by omega) (by omega)];omega
  refine⟨j,fun k=>?_⟩
  simp only [vu8,vmu,vbx (show c≤10000000 by omega),w1,vbx (show c+1≤10000000 by omega),vc9,Bool.not_true,cond_false,w2,w3,w4,beq_self_eq_true,bne_self_eq_false,hj,List.length_cons]
  congr 3
  push_cast
  omega
theorem v0p {l:List tVersion.D}(hl:l.length≤1048576){c:Int}(h0:0≤c)(hc:c+4*l.length≤9000000) (k):v5d (vu8 c l) c k=k (c+4*(l.length:Int)):=by
 rw [w2z (by rw [vvq];omega)]
 unfold wph
 obtain⟨j,hj⟩:=vl9 (u0:=vu8 c l) (u2:=0) l c 0 h0 hc
 rw [hj];rfl
theorem v76 {l:List tRange.D}(hl:l.length≤1048576){c:Int}(h0:0≤c)(hc:c+2*l.length≤9000000) (k):vt4 (vlt c l) c k=k (c+2*(l.length:Int)):=by
 rw [wwx (by rw [vo0];omega)]
 unfold wfd
 obtain⟨j,hj⟩:=vi1 (u0:=vlt c l) (u2:=0) l c 0 h0 hc
 rw [hj];rfl
theorem v7w {l:List tWrite.D}(hl:l.length≤1048576){c:Int}(h0:0≤c)(hc:c+3*l.length≤9000000) (k):vtj (vk7 c l) c k=k (c+3*(l.length:Int)):=by
 rw [wwg (by rw [vp4];omega)]
 unfold wg7
 obtain⟨j,hj⟩:=vih (u0:=vk7 c l) (u2:=0) l c 0 h0 hc
 rw [hj];rfl
theorem vtp {u0 u2}:∀(l:List tTxn.D)(c:Int)(i:Nat),(∀y∈l,y.2.2.2.2.1.length≤1048576∧y.2.2.2.2.2.1.length≤1048576)→0≤c→c+cntT l≤9000000→∃j:Int,∀k,vnd u0 u2 (vtf c l) c i k=k (.inr (c+cntT l,j))
 |[],c,i,_,_,_=>⟨_,fun k=>by simp only [vtf,vnd,cntT];simp;rfl⟩
 |y::l,c,i,hw,h0,hc=>by
  obtain⟨hy1,hy2⟩:=hw y (by simp)
  have hp1:=vhs l
  simp only [cntT]at hc
  have hcy:vum y=6+2*(y.2.2.2.2.1.length:Int)+3*(y.2.2.2.2.2.1.length:Int):=rfl
  obtain⟨j,hj⟩:=vtp (u0:=u0) (u2:=u2) l (c+vum y) (i+1) (fun z hz=>hw z (by simp [hz])) (by omega) (by omega)
  have w1:IntKind.wrap .i64 (c+1)=c+1:=vau (by omega) (by omega)
  have w2:IntKind.wrap .i64 (c+1+1)=c+2:=by rw [vau (by omega) (by omega)];omega
  have w3:IntKind.wrap .i64 (c+2+1)=c+3:=by rw [vau (by omega) (by omega)];omega
  have w4:IntKind.wrap .i64 (c+3+1)=c+4:=by rw [vau (by omega) (by omega)];omega
  have w5:IntKind.wrap .i64 (c+4+2*(y.2.2.2.2.1.length:Int)+3*(y.2.2.2.2.2.1.length:Int)+1)=c+4+2*(y.2.2.2.2.1.length:Int)+3*(y.2.2.2.2.2.1.length:Int)+1:=vau (by omega) (by omega)
  have w6:IntKind.wrap .i64 (c+4+2*(y.2.2.2.2.1.length:Int)+3*(y.2.2.2.2.2.1.length:Int)+1+1)=c+vum y:=by rw [vau (by omega) (by omega)];omega
  have n1:decide (c+4+2*(y.2.2.2.2.1.length:Int)<0)=false:=decide_eq_false (by omega)
  have n2:decide (c+4+2*(y.2.2.2.2.1.length:Int)+3*(y.2.2.2.2.2.1.length:Int)<0)=false:=decide_eq_false (by omega)
  refine⟨j,fun k=>?_⟩
  simp only [vtf,wh1,vnd,w1,w2,w3,w4,bne_self_eq_false,cond_false,v76 hy1 (show 0≤c+4 by omega) (show c+4+2*(y.2.2.2.2.1.length:Int)≤9000000 by omega),n1,
   v7w hy2 (show 0≤c+4+2*(y.2.2.2.2.1.length:Int) by omega) (show c+4+2*(y.2.2.2.2.1.length:Int)+3*(y.2.2.2.2.2.1.length:Int)≤9000000 by omega),n2,beq_self_eq_true,Bool.not_true,w5,
   vbx (show c+4+2*(y.2.2.2.2.1.length:Int)+3*(y.2.2.2.2.2.1.length:Int)+1≤10000000 by omega),vc9,w6,hj,cntT]
  congr 3
  omega
theorem vyh {l:List tTxn.D}(hw:∀y∈l,y.2.2.2.2.1.length≤1048576∧y.2.2.2.2.2.1.length≤1048576)(hl:l.length≤1048576){c:Int}(h0:0≤c)(hc:c+cntT l≤9000000) (k) :
  vzx (vtf c l) c k=k (c+cntT l):=by
 rw [w1s (by rw [vv7];omega)]
 unfold woe
 obtain⟨j,hj⟩:=vtp (u0:=vtf c l) (u2:=0) l c 0 hw h0 hc
 rw [hj];rfl
def OkTs (l:List tTxn.D):Prop:=(∀y∈l,y.2.2.2.2.1.length≤1048576∧y.2.2.2.2.2.1.length≤1048576)∧l.length≤1048576
theorem wmf {l:List tTxn.D}(h:(Ty.slice tTxn).wt l≤1048576):OkTs l:=
 ⟨fun y hy=>by
  have:=vcu hy h
  rw [vu6]at this
  exact⟨vct (T:=tRange) (by omega),vct (T:=tWrite) (by omega)⟩,vct h⟩
theorem wok {l:List tTxn.D}:cntT l≤6*((Ty.slice tTxn).wt l:Nat):=by
 have:=wnz l
 rw [Ty.wt_slice];exact this
def cntB (b:tBase.D):Int:=4*(b.1.length:Int)+cntT b.2.1+cntT b.2.2.1
def OkBs (b:tBase.D):Prop:=b.1.length≤1048576∧OkTs b.2.1∧OkTs b.2.2.1
def vgx (c:Int)(b:tBase.D):tBase.D:=(vu8 c b.1,(vtf (c+4*b.1.length) b.2.1,(vtf (c+4*b.1.length+cntT b.2.1) b.2.2.1,b.2.2.2)))
theorem wrw (b:tBase.D):0≤cntB b:=by unfold cntB;have:=vhs b.2.1;have:=vhs b.2.2.1;omega
theorem w0p {b:tBase.D}(h:tBase.wt b≤1048576):OkBs b:=by
 rw [vvh]at h
 exact⟨vct (T:=tVersion) (by omega),wmf (by omega),wmf (by omega)⟩
theorem wyr (b:tBase.D):cntB b≤6*(tBase.wt b:Nat):=by
 have h1:=wok (l:=b.2.1)
 have h2:=wok (l:=b.2.2.1)
 have h3:(Ty.slice tVersion).wt b.1=b.1.length+wtL tVersion b.1:=Ty.wt_slice _ _
 have h4:=vvh b
 unfold cntB
 omega
theorem wek {b:tBase.D}(hb:OkBs b){c:Int}(h0:0≤c)(hc:c+cntB b≤9000000)(a0 a1:Int) (k) :
  v8o a0 a1 c b.1 b.2.1 b.2.2.1 k=k (c+cntB b,(vgx c b).1,(vgx c b).2.1,(vgx c b).2.2.1):=by
 obtain⟨hb1,hb2,hb3⟩:=hb
 have p1:=vhs b.2.1
 have p2:=vhs b.2.2.1
 have hcb:cntB b=4*(b.1.length:Int)+cntT b.2.1+cntT b.2.2.1:=rfl
 rw [wpf]
 unfold wft
 simp only [vte hb1 h0 (by omega),vrq hb2.1 hb2.2 (show 0≤c+4*(b.1.length:Int) by omega) (by omega),vrq hb3.1 hb3.2 (show 0≤c+4*(b.1.length:Int)+cntT b.2.1 by omega) (by omega),vgx]
 congr 2
 omega
theorem wb0 {b:tBase.D}(hb:OkBs b){c:Int}(h0:0≤c)(hc:c+cntB b≤9000000)(z:Int×Int) (k) :
  v8x ((vgx c b).1,((vgx c b).2.1,((vgx c b).2.2.1,z))) c k=k (c+cntB b):=by
 obtain⟨hb1,hb2,hb3⟩:=hb
 have p1:=vhs b.2.1
 have p2:=vhs b.2.2.1
 have hcb:cntB b=4*(b.1.length:Int)+cntT b.2.1+cntT b.2.2.1:=rfl
 have n1:decide (c+4*(b.1.length:Int)<0)=false:=decide_eq_false (by omega)
 have n2:decide (c+4*(b.1.length:Int)+cntT b.2.1<0)=false:=decide_eq_false (by omega)
 have n3:decide (c+4*(b.1.length:Int)+cntT b.2.1+cntT b.2.2.1<0)=false:=decide_eq_false (by omega)
 rw [wmt]
 unfold wfv
 simp only [vgx,v0p hb1 h0 (by omega),n1,cond_false,vyh hb2.1 hb2.2 (show 0≤c+4*(b.1.length:Int) by omega) (by omega),n2,vyh hb3.1 hb3.2 (show 0≤c+4*(b.1.length:Int)+cntT b.2.1 by omega) (by omega),n3]
 congr 1
 omega
end
end Go.VE
/- Plain laws: bases that are read from text. -/
namespace Go.VE
noncomputable section
set_option linter.unusedVariables false
set_option linter.unusedSimpArgs false
set_option maxRecDepth 100000
theorem vry {α β γ:Type}{R:Int→Bool→α×Int×Bool}{wt:α→Nat}{N:Int}(hR:StpR R wt N){n:Nat}{body:β→(β⊕γ→Option Res)→Option Res}{σ:Int→Int→List α→β}{fin:Int→Int→List α→γ}{Bad:γ→Prop}{J:Int→List α→Prop}
  (hJ:∀(a:Int) (l:List α),J a l→(R a false).2.2=false→J (R a false).2.1 (l++[(R a false).1]))
  (hgo:∀(i:Nat) (a:Int) (l:List α),i<n→0≤a→a≤N→l.length≤3000000→(R a false).2.2=false→∀K,body (σ (i:Int) a l) K=K (.inl (σ ((i+1:Nat):Int) (R a false).2.1 (l++[(R a false).1]))))
  (hbad:∀(i:Nat) (a:Int) (l:List α),i<n→0≤a→a≤N→l.length≤3000000→J a l→(R a false).2.2=true→∀q,∃z,Bad z∧∀K,vae body (q+2) (σ (i:Int) a l) K=K z)
  (hstop:∀(a:Int) (l:List α) (K),body (σ (n:Int) a l) K=K (.inr (fin (n:Int) a l))) :
  ∀(d m i:Nat) (a:Int) (l:List α) (q:Nat),i+m=n→0≤a→a≤N→N-a<(d:Int)→d+2<q→l.length+d≤3000000→J a l→
   ((vbd R m a false l).2.1=false∧∀K,vae body q (σ (i:Int) a l) K=K (fin (n:Int) (vbd R m a false l).1 (vbd R m a false l).2.2))∨((vbd R m a false l).2.1=true∧∃z,Bad z∧∀K,vae body q (σ (i:Int) a l) K=K z):=by
 intro d
 induction d with
 |zero=>intro m i a l q hi h0 h1 hb hq hl hj;omega
 |succ d ih=>
  intro m i a l q hi h0 h1 hb hq hl hj
  cases m with
  |zero=>
   obtain⟨q,rfl⟩:∃q',q=q'+1:=⟨q-1,by omega⟩
   obtain rfl:i=n:=by omega
   exact .inl ⟨rfl,fun K=>by simp only [vae,hstop,vbd,Sum.elim_inr]⟩
  |succ m=>
   cases hb2:(R a false).2.2 with
   |true=>
    obtain⟨q,rfl⟩:∃q',q=q'+2:=⟨q-2,by omega⟩
    refine .inr ⟨?_,hbad i a l (by omega) h0 h1 (by omega) hj hb2 q⟩
    simp only [vbd,cond_false,hb2,vg0]
   |false=>
    obtain⟨q,rfl⟩:∃q',q=q'+1:=⟨q-1,by omega⟩
    have hs:=hR a false hb2
    have hi':=ih m (i+1) (R a false).2.1 (l++[(R a false).1]) q (by omega) (by omega) (by omega) (by omega) (by omega) (by rw [List.length_append,List.length_singleton];omega) (hJ a l hj hb2)
    simp only [vbd,cond_false,hb2]
    rcases hi' with⟨e1,e2⟩|⟨e1,z,e2,e3⟩
    ·refine .inl ⟨e1,fun K=>?_⟩
     simp only [vae,hgo i a l (by omega) h0 h1 (by omega) hb2,Sum.elim_inl]
     exact e2 K
    ·refine .inr ⟨e1,z,e2,fun K=>?_⟩
     simp only [vae,hgo i a l (by omega) h0 h1 (by omega) hb2,Sum.elim_inl]
     exact e3 K
def MonR {α:Type}(R:Int→Bool→α×Int×Bool)(wt:α→Nat)(N:Int):Prop:=
 ∀a b,0≤a→a≤N→a≤(R a b).2.1∧(wt (R a b).1:Int)+a≤(R a b).2.1∧(R a b).2.1≤N
theorem vh6 {T:Ty}:∀(l:List T.D)(x:T.D),wtL T (l++[x])=wtL T l+T.wt x
 |[],x=>by simp [wtL]
 |y::l,x=>by simp only [List.cons_append,wtL,vh6 l x];omega
theorem wsl {s:ByteArray}{a:Int}{b:Bool}(h:(vao s a b).2.2=true):vao s a b=((⟨#[]⟩:ByteArray),a,true):=by
 unfold vao at h ⊢
 cases b with
 |true=>rfl
 |false=>
  cases hx:(vg2 s a).2.2 with
  |false=>rfl
  |true=>
   rw [hx]at h
   have h':false=true:=h
   cases h'
theorem wzf {s:ByteArray}{a:Int}{b:Bool}(h:(numB s a b).2.2=true):numB s a b=((0:Int),a,true):=by
 unfold numB at h ⊢
 cases b with
 |true=>rfl
 |false=>
  cases hx:(vbb s a).2.2 with
  |false=>rfl
  |true=>
   rw [hx]at h
   have h':false=true:=h
   cases h'
theorem wtu {s:ByteArray}{a:Int}{b:Bool}(h:(va6 s a b).2.2=true):va6 s a b=(false,a,true):=by
 unfold va6 at h ⊢
 cases b with
 |true=>rfl
 |false=>
  cases hx:var a 0 ((s.size:Int)-1)with
  |false=>rfl
  |true=>
   rw [hx]at h
   by_cases hy:bt s a>1
   ·simp only [hy,decide_true,cond_true,Bool.not_true,cond_false]
   ·simp only [hy,decide_false,cond_true,Bool.not_true,cond_false]at h
    exact absurd h (by decide)
theorem vqi (s:ByteArray):MonR (vao s) (fun x=>x.size) (s.size:Int):=by
 intro a b h0 h1
 show a≤(vao s a b).2.1∧((vao s a b).1.size:Int)+a≤(vao s a b).2.1∧(vao s a b).2.1≤(s.size:Int)
 cases hb:(vao s a b).2.2
 ·have:=vgm hb
  omega
 ·rw [wsl hb]
  exact⟨Int.le_refl _,by show ((0:Nat):Int)+a≤a;omega,h1⟩
theorem vg9 (s:ByteArray):MonR (numB s) (fun _=>0) (s.size:Int):=by
 intro a b h0 h1
 show a≤(numB s a b).2.1∧((0:Nat):Int)+a≤(numB s a b).2.1∧(numB s a b).2.1≤(s.size:Int)
 cases hb:(numB s a b).2.2
 ·have:=vfc hb
  omega
 ·rw [wzf hb]
  exact⟨Int.le_refl _,by show ((0:Nat):Int)+a≤a;omega,h1⟩
theorem v7x (s:ByteArray):MonR (va6 s) (fun _=>0) (s.size:Int):=by
 intro a b h0 h1
 show a≤(va6 s a b).2.1∧((0:Nat):Int)+a≤(va6 s a b).2.1∧(va6 s a b).2.1≤(s.size:Int)
 cases hb:(va6 s a b).2.2
 ·have:=vtn hb
  omega
 ·rw [wtu hb]
  exact⟨Int.le_refl _,by show ((0:Nat):Int)+a≤a;omega,h1⟩
theorem wxj (s:ByteArray):MonR (rgB s) tRange.wt (s.size:Int):=by
 intro a b h0 h1
 have m1:a≤(vao s a b).2.1∧((vao s a b).1.size:Int)+a≤(vao s a b).2.1∧(vao s a b).2.1≤(s.size:Int):=vqi s a b h0 h1
 have m2:=vqi s (vao s a b).2.1 (vao s a b).2.2 (by omega) m1.2.2
 unfold rgB
 rw [v6n]
 simp only at m1 m2 ⊢
 refine⟨by omega,?_,m2.2.2⟩
 push_cast
 omega
theorem w1r (s:ByteArray):MonR (wrB s) tWrite.wt (s.size:Int):=by
 intro a b h0 h1
 have m1:=wxj s a b h0 h1
 have m2:=v7x s (rgB s a b).2.1 (rgB s a b).2.2 (by omega) m1.2.2
 rw [v6n]at m1
 unfold wrB wrB1
 rw [wdx]
 simp only at m1 m2 ⊢
 refine⟨by omega,?_,m2.2.2⟩
 push_cast at m1 ⊢
 omega
theorem vt9 {α:Type}{R:Int→Bool→α×Int×Bool}{wt:α→Nat}{N:Int}(hM:MonR R wt N)(hR:StpR R wt N):∀(m:Nat)(a:Int)(b:Bool)(l:List α),0≤a→a≤N→
  a≤(vbd R m a b l).1∧(vbd R m a b l).1≤N∧(((vbd R m a b l).2.2.length+((vbd R m a b l).2.2.map wt).sum:Nat):Int)+a≤((l.length+(l.map wt).sum:Nat):Int)+(vbd R m a b l).1+1
 |0,a,b,l,h0,h1=>by simp only [vbd];omega
 |m+1,a,true,l,h0,h1=>by simp only [vbd,cond_true];omega
 |m+1,a,false,l,h0,h1=>by
  simp only [vbd,cond_false]
  have hm:=hM a false h0 h1
  have e1:((l++[(R a false).1]).length+((l++[(R a false).1]).map wt).sum)=l.length+(l.map wt).sum+1+wt (R a false).1:=by
   rw [List.length_append,List.length_singleton,List.map_append,List.sum_append]
   simp only [List.map_cons,List.map_nil,List.sum_cons,List.sum_nil]
   omega
  cases hb:(R a false).2.2
  ·have hs:=hR a false hb
   have ih:=vt9 hM hR m (R a false).2.1 false (l++[(R a false).1]) (by omega) (by omega)
   rw [e1]at ih
   push_cast at ih ⊢
   omega
  ·rw [vg0]
   simp only
   rw [e1]
   push_cast
   omega
def vrB1 (s:ByteArray)(y:ByteArray×ByteArray)(z:Bool×Int×Bool):tVersion.D×Int×Bool:=
 ((y.1,(y.2,(z.1,(numB s z.2.1 z.2.2).1))),(numB s z.2.1 z.2.2).2.1,(numB s z.2.1 z.2.2).2.2)
def vrB (s:ByteArray)(a:Int)(b:Bool):tVersion.D×Int×Bool:=
 vrB1 s ((vao s a b).1,(vao s (vao s a b).2.1 (vao s a b).2.2).1) (va6 s (vao s (vao s a b).2.1 (vao s a b).2.2).2.1 (vao s (vao s a b).2.1 (vao s a b).2.2).2.2)
theorem wim (s:ByteArray):StpR (vrB s) tVersion.wt (s.size:Int):=by
 intro a b h
 unfold vrB vrB1 at h ⊢
 have h4:=vfc h
 have h3:=vtn h4.1
 have h2:=vgm h3.1
 have h1:=vgm h2.1
 refine⟨h1.1,h1.2.1,?_,h4.2.2.2⟩
 rw [vsz]
 simp only
 push_cast
 omega
theorem v5i {s:ByteArray}(hs:s.size≤1048576)(a:Int)(b:Bool)(u3 u4:Int) (k) :
  v9g s a b u3 u4 k=k (s,(vbd (vrB s) (numB s a b).1.toNat (numB s a b).2.1 (numB s a b).2.2 []).1,(vbd (vrB s) (numB s a b).1.toNat (numB s a b).2.1 (numB s a b).2.2 []).2.1,u3,u4,(vbd (vrB s) (numB s a b).1.toNat (numB s a b).2.1 (numB s a b).2.2 []).2.2):=by
 rw [wmr]
 unfold wio
 simp only [vne hs]
 obtain⟨n,hn,hn2⟩:=vm9 s a b
 have hat:=fun h=>vga (s:=s) (a:=a) (b:=b) h
 rw [hn]
 generalize (numB s a b).2.1=a' at *
 generalize (numB s a b).2.2=b' at *
 obtain⟨j,hj⟩:=vh2 (wim s) (n:=n) (body:=vrs) (σ:=fun i a b l=>((n:Int),i,s,a,b,u3,u4,l))
  (fun i a l K hi h0 h1 hl=>by
   have hw:IntKind.wrap .i64 ((i:Int)+1)=((i+1:Nat):Int):=va8 (by omega)
   simp only [vrs,vfs,show (i:Int)<(n:Int) by omega,decide_true,cond_true,Bool.not_false,wqt,wg9,vvc hs,vxq hs,vne hs,List.length_singleton,vdx hl,if_true,hw]
   rfl)
  (fun i a b l K h=>by
   simp only [vrs]
   rcases h with rfl|rfl
   ·simp only [show ¬((i:Int)<(i:Int)) by omega,decide_false,cond_false]
   ·cases decide ((i:Int)<(n:Int))<;>rfl)
  1048580 n 0 a' b' [] Fuel (by omega) (fun h=>by have:=hat h;omega) (Nat.lt_of_lt_of_le (by omega) vba) (by simp)
 simp only [Int.toNat_natCast]
 exact hj _
theorem v6h {s:ByteArray}(hs:s.size≤1048576){n:Nat}(hn:n≤1000000000){a:Int}{b:Bool}(hb:b=false→0≤a∧a≤(s.size:Int)){v1 v2 u3 u4:Int}:∃j:Int,∀K,
  vae vpg Fuel ((n:Int),(0:Int),v1,v2,s,a,b,u3,u4,([]:List vaa)) K=K ((n:Int),j,v1,v2,s,(vbd (vrB s) (min n 130) a b []).1,(vbd (vrB s) (min n 130) a b []).2.1,u3,u4,(vbd (vrB s) (min n 130) a b []).2.2):=
 vh2 (wim s) (n:=min n 130) (body:=vpg) (σ:=fun i a b l=>((n:Int),i,v1,v2,s,a,b,u3,u4,l))
  (fun i a l K hi h0 h1 hl=>by
   have hw:IntKind.wrap .i64 ((i:Int)+1)=((i+1:Nat):Int):=va8 (by omega)
   have hat:(vao s (vao s a false).2.1 (vao s a false).2.2).2.2=false→0≤(vao s (vao s a false).2.1 (vao s a false).2.2).2.1∧(vao s (vao s a false).2.1 (vao s a false).2.2).2.1≤(s.size:Int):=fun h=>by
    have:=vgm h;omega
   simp only [vpg,vfx,show (i:Int)<(n:Int) by omega,show (i:Int)<130 by omega,decide_true,cond_true,Bool.not_false,vt7 hs,vwh hs hat,vtk hs,List.length_singleton,vdx hl,if_true,hw]
   rfl)
  (fun i a b l K h=>by
   simp only [vpg]
   rcases h with rfl|rfl
   ·by_cases h10:n≤130
    ·simp only [show ¬(((min n 130:Nat):Int)<(n:Int)) by omega,decide_false,cond_false]
    ·simp only [show (((min n 130:Nat):Int)<(n:Int)) by omega,show ¬(((min n 130:Nat):Int)<130) by omega,decide_true,decide_false,cond_true,cond_false]
   ·cases decide ((i:Int)<(n:Int))<;>cases decide ((i:Int)<130)<;>rfl)
  1048580 (min n 130) 0 a b [] Fuel (by omega) (fun h=>by have:=hb h;omega) (Nat.lt_of_lt_of_le (by omega) vba) (by simp)
def txOf (r:dRT):tTxn.D:=(r.1,(r.2.1,(r.2.2.1,(r.2.2.2.1,(r.2.2.2.2.2.2.2.2.1,(r.2.2.2.2.2.2.2.2.2,(r.2.2.2.2.1,r.2.2.2.2.2.1)))))))
def txAt (r:dRT):Int:=r.2.2.2.2.2.2.1
def txOk (r:dRT):Bool:=r.2.2.2.2.2.2.2.1
def txR (s:ByteArray)(a:Int)(b:Bool):tTxn.D×Int×Bool:=(txOf (vam id s a),txAt (vam id s a),b || !txOk (vam id s a))
theorem w1l (s:ByteArray)(a:Int)(h:txOk (vam id s a)=true):0≤a∧a+1+(tTxn.wt (txOf (vam id s a)):Int)≤txAt (vam id s a)∧txAt (vam id s a)≤(s.size:Int):=by
 unfold vam at h ⊢
 generalize hp1:numB s a false=p1 at *
 generalize hp2:nx s p1=p2 at *
 generalize hp3:nx s p2=p3 at *
 generalize hp4:nx s p3=p4 at *
 unfold tx0 at h ⊢
 generalize he1:rsE id s p4=e1 at *
 generalize he2:wsE id s e1=e2 at *
 unfold tx2 tx3 at h ⊢
 cases hx:(vao s (va6 s e2.1 e2.2.1).2.1 (va6 s e2.1 e2.2.1).2.2).2.2
 ·rw [hx]at h
  simp only [cond_false]at h ⊢
  cases ho:vbg (p1.1,(p2.1,(p3.1,(p4.1,(e1.2.2,(e2.2.2,((va6 s e2.1 e2.2.1).1,(vao s (va6 s e2.1 e2.2.1).2.1 (va6 s e2.1 e2.2.1).2.2).1)))))))
  ·rw [ho]at h
   simp only [Bool.not_false,cond_true]at h
   exact absurd h (by decide)
  ·simp only [Bool.not_true,cond_false]
   show 0≤a∧a+1+((tTxn.wt (p1.1,(p2.1,(p3.1,(p4.1,(e1.2.2,(e2.2.2,((va6 s e2.1 e2.2.1).1,(vao s (va6 s e2.1 e2.2.1).2.1 (va6 s e2.1 e2.2.1).2.2).1))))))):Nat):Int)≤(vao s (va6 s e2.1 e2.2.1).2.1 (va6 s e2.1 e2.2.1).2.2).2.1∧(vao s (va6 s e2.1 e2.2.1).2.1 (va6 s e2.1 e2.2.1).2.2).2.1≤(s.size:Int)
   rw [vu6]
   have h1:=vgm hx
   have h2:=vtn h1.1
   have h3:=h2.1
   rw [←he2]at h3
   unfold wsE at h3
   have h4:=ven (vyp s) _ _ _ _ (fun h=>vga h) h3
   have h5:=vfc h4.1
   have h5':=h5.1
   rw [←he1]at h5'
   unfold rsE at h5'
   have h6:=ven (vz9 s) _ _ _ _ (fun h=>vga h) h5'
   have h7:=vfc h6.1
   have g4:=h7.1
   rw [←hp4]at g4
   have g4s:=vfc (s:=s) (a:=p3.2.1) (b:=p3.2.2) g4
   have g3:=g4s.1
   rw [←hp3]at g3
   have g3s:=vfc (s:=s) (a:=p2.2.1) (b:=p2.2.2) g3
   have g2:=g3s.1
   rw [←hp2]at g2
   have g2s:=vfc (s:=s) (a:=p1.2.1) (b:=p1.2.2) g2
   have g1:=g2s.1
   rw [←hp1]at g1
   have g1s:=vfc g1
   have a4:(numB s p3.2.1 p3.2.2).2.1=p4.2.1:=by rw [←hp4];rfl
   have a3:(numB s p2.2.1 p2.2.2).2.1=p3.2.1:=by rw [←hp3];rfl
   have a2:(numB s p1.2.1 p1.2.2).2.1=p2.2.1:=by rw [←hp2];rfl
   have a1:(numB s a false).2.1=p1.2.1:=by rw [←hp1]
   rw [show vbd (wrB s) (id (numB s e1.1 e1.2.1).1.toNat) (numB s e1.1 e1.2.1).2.1 (numB s e1.1 e1.2.1).2.2 []=e2 from he2]at h4
   rw [show vbd (rgB s) (id (numB s p4.2.1 p4.2.2).1.toNat) (numB s p4.2.1 p4.2.2).2.1 (numB s p4.2.1 p4.2.2).2.2 []=e1 from he1]at h6
   have h4':=h4.2.2.2.2
   have h6':=h6.2.2.2.2
   have e3:(Ty.slice tRange).wt e1.2.2=e1.2.2.length+(e1.2.2.map tRange.wt).sum:=rfl
   have e4:(Ty.slice tWrite).wt e2.2.2=e2.2.2.length+(e2.2.2.map tWrite.wt).sum:=rfl
   simp only [List.length_nil,List.map_nil,List.sum_nil]at h4' h6'
   simp only
   rw [e3,e4]
   omega
 ·rw [hx]at h
  simp only [cond_true]at h
  exact absurd h (by decide)
theorem vus (s:ByteArray):StpR (txR s) tTxn.wt (s.size:Int):=by
 intro a b h
 unfold txR at h ⊢
 simp only [Bool.or_eq_false_iff,Bool.not_eq_false']at h
 have:=w1l s a h.2
 exact⟨h.1,this.1,this.2.1,this.2.2⟩
theorem we4 {s:ByteArray}(hs:s.size≤1048576)(a:Int)(h:txOk (vam id s a)=true) (k) :
  vrm s a false k=k ((vam id s a).1,(vam id s a).2.1,(vam id s a).2.2.1,(vam id s a).2.2.2.1,(vam id s a).2.2.2.2.1,(vam id s a).2.2.2.2.2.1,s,txAt (vam id s a),false,(vam id s a).2.2.2.2.2.2.2.2.1,(vam id s a).2.2.2.2.2.2.2.2.2):=by
 rw [wib]
 unfold v8u
 simp only [vne hs,vt5 hs,vs8 hs,vxq hs,vvc hs]
 unfold vam tx0 at h ⊢
 generalize hp1:numB s a false=p1 at *
 rw [show numB s p1.2.1 p1.2.2=nx s p1 from rfl]
 generalize hp2:nx s p1=p2 at *
 rw [show numB s p2.2.1 p2.2.2=nx s p2 from rfl]
 generalize hp3:nx s p2=p3 at *
 rw [show numB s p3.2.1 p3.2.2=nx s p3 from rfl]
 generalize hp4:nx s p3=p4 at *
 rw [show vbd (rgB s) (numB s p4.2.1 p4.2.2).1.toNat (numB s p4.2.1 p4.2.2).2.1 (numB s p4.2.1 p4.2.2).2.2 []=rsE id s p4 from rfl]
 rw [show vbd (wrB s) (numB s (rsE id s p4).1 (rsE id s p4).2.1).1.toNat (numB s (rsE id s p4).1 (rsE id s p4).2.1).2.1 (numB s (rsE id s p4).1 (rsE id s p4).2.1).2.2 []=wsE id s (rsE id s p4)from rfl]
 unfold tx2 tx3 at h ⊢
 cases hx:(vao s (va6 s (wsE id s (rsE id s p4)).1 (wsE id s (rsE id s p4)).2.1).2.1 (va6 s (wsE id s (rsE id s p4)).1 (wsE id s (rsE id s p4)).2.1).2.2).2.2
 ·rw [hx]at h
  simp only [cond_false]at h ⊢
  rw [vuu (wte hs id (i1:=p1.1) (i2:=p2.1) (i3:=p3.1) (i4:=p4.1) rfl hx)]
  cases ho:vbg (p1.1,(p2.1,(p3.1,(p4.1,((rsE id s p4).2.2,((wsE id s (rsE id s p4)).2.2,((va6 s (wsE id s (rsE id s p4)).1 (wsE id s (rsE id s p4)).2.1).1,(vao s (va6 s (wsE id s (rsE id s p4)).1 (wsE id s (rsE id s p4)).2.1).2.1 (va6 s (wsE id s (rsE id s p4)).1 (wsE id s (rsE id s p4)).2.1).2.2).1)))))))
  ·rw [ho]at h
   exact absurd h (by simp only [Bool.not_false,cond_true];decide)
  ·rfl
 ·rw [hx]at h
  exact absurd h (by simp only [cond_true];decide)
theorem v7k {s:ByteArray}(hs:s.size≤1048576)(a:Int)(h0:0≤a)(h1:a≤(s.size:Int))(h:txOk (vam id s a)=false) :
  ∃x:tTxn.D,∃p:Int,(a≤p∧p≤(s.size:Int)∧(tTxn.wt x:Int)+a≤p+2)∧∀k,vrm s a false k=k (x.1,x.2.1,x.2.2.1,x.2.2.2.1,x.2.2.2.2.2.2.1,x.2.2.2.2.2.2.2,s,p,true,x.2.2.2.2.1,x.2.2.2.2.2.1):=by
 rw [wib]
 unfold v8u
 simp only [vne hs,vt5 hs,vs8 hs,vxq hs,vvc hs]
 unfold vam tx0 at h
 generalize hp1:numB s a false=p1 at *
 rw [show numB s p1.2.1 p1.2.2=nx s p1 from rfl]
 generalize hp2:nx s p1=p2 at *
 rw [show numB s p2.2.1 p2.2.2=nx s p2 from rfl]
 generalize hp3:nx s p2=p3 at *
 rw [show numB s p3.2.1 p3.2.2=nx s p3 from rfl]
 generalize hp4:nx s p3=p4 at *
 rw [show vbd (rgB s) (numB s p4.2.1 p4.2.2).1.toNat (numB s p4.2.1 p4.2.2).2.1 (numB s p4.2.1 p4.2.2).2.2 []=rsE id s p4 from rfl]
 rw [show vbd (wrB s) (numB s (rsE id s p4).1 (rsE id s p4).2.1).1.toNat (numB s (rsE id s p4).1 (rsE id s p4).2.1).2.1 (numB s (rsE id s p4).1 (rsE id s p4).2.1).2.2 []=wsE id s (rsE id s p4)from rfl]
 unfold tx2 tx3 at h
 refine⟨(p1.1,(p2.1,(p3.1,(p4.1,((rsE id s p4).2.2,((wsE id s (rsE id s p4)).2.2,((va6 s (wsE id s (rsE id s p4)).1 (wsE id s (rsE id s p4)).2.1).1,(vao s (va6 s (wsE id s (rsE id s p4)).1 (wsE id s (rsE id s p4)).2.1).2.1 (va6 s (wsE id s (rsE id s p4)).1 (wsE id s (rsE id s p4)).2.1).2.2).1))))))),(vao s (va6 s (wsE id s (rsE id s p4)).1 (wsE id s (rsE id s p4)).2.1).2.1 (va6 s (wsE id s (rsE id s p4)).1 (wsE id s (rsE id s p4)).2.1).2.2).2.1,?_,fun k=>?_⟩
 ·have n1:=vg9 s a false h0 h1
  rw [hp1]at n1
  have n2:=vg9 s p1.2.1 p1.2.2 (by omega) n1.2.2
  rw [show numB s p1.2.1 p1.2.2=p2 from hp2]at n2
  have n3:=vg9 s p2.2.1 p2.2.2 (by omega) n2.2.2
  rw [show numB s p2.2.1 p2.2.2=p3 from hp3]at n3
  have n4:=vg9 s p3.2.1 p3.2.2 (by omega) n3.2.2
  rw [show numB s p3.2.1 p3.2.2=p4 from hp4]at n4
  have n5:=vg9 s p4.2.1 p4.2.2 (by omega) n4.2.2
  have n6:=vt9 (wxj s) (vz9 s) (id (numB s p4.2.1 p4.2.2).1.toNat) _ (numB s p4.2.1 p4.2.2).2.2 [] (by omega) n5.2.2
  rw [show vbd (rgB s) (id (numB s p4.2.1 p4.2.2).1.toNat) (numB s p4.2.1 p4.2.2).2.1 (numB s p4.2.1 p4.2.2).2.2 []=rsE id s p4 from rfl]at n6
  have n7:=vg9 s (rsE id s p4).1 (rsE id s p4).2.1 (by omega) n6.2.1
  have n8:=vt9 (w1r s) (vyp s) (id (numB s (rsE id s p4).1 (rsE id s p4).2.1).1.toNat) _ (numB s (rsE id s p4).1 (rsE id s p4).2.1).2.2 [] (by omega) n7.2.2
  rw [show vbd (wrB s) (id (numB s (rsE id s p4).1 (rsE id s p4).2.1).1.toNat) (numB s (rsE id s p4).1 (rsE id s p4).2.1).2.1 (numB s (rsE id s p4).1 (rsE id s p4).2.1).2.2 []=wsE id s (rsE id s p4)from rfl]at n8
  have n9:=v7x s (wsE id s (rsE id s p4)).1 (wsE id s (rsE id s p4)).2.1 (by omega) n8.2.1
  have n10:=vqi s (va6 s (wsE id s (rsE id s p4)).1 (wsE id s (rsE id s p4)).2.1).2.1 (va6 s (wsE id s (rsE id s p4)).1 (wsE id s (rsE id s p4)).2.1).2.2 (by omega) n9.2.2
  have e3:(Ty.slice tRange).wt (rsE id s p4).2.2=(rsE id s p4).2.2.length+((rsE id s p4).2.2.map tRange.wt).sum:=rfl
  have e4:(Ty.slice tWrite).wt (wsE id s (rsE id s p4)).2.2=(wsE id s (rsE id s p4)).2.2.length+((wsE id s (rsE id s p4)).2.2.map tWrite.wt).sum:=rfl
  have n6':=n6.2.2
  have n8':=n8.2.2
  simp only [List.length_nil,List.map_nil,List.sum_nil]at n6' n8'
  rw [vu6]
  simp only at n10 ⊢
  rw [e3,e4]
  refine⟨by omega,n10.2.2,?_⟩
  push_cast at n6' n8' ⊢
  omega
 cases hx:(vao s (va6 s (wsE id s (rsE id s p4)).1 (wsE id s (rsE id s p4)).2.1).2.1 (va6 s (wsE id s (rsE id s p4)).1 (wsE id s (rsE id s p4)).2.1).2.2).2.2
 ·rw [hx]at h
  simp only [cond_false]at h ⊢
  rw [vuu (wte hs id (i1:=p1.1) (i2:=p2.1) (i3:=p3.1) (i4:=p4.1) rfl hx)]
  cases ho:vbg (p1.1,(p2.1,(p3.1,(p4.1,((rsE id s p4).2.2,((wsE id s (rsE id s p4)).2.2,((va6 s (wsE id s (rsE id s p4)).1 (wsE id s (rsE id s p4)).2.1).1,(vao s (va6 s (wsE id s (rsE id s p4)).1 (wsE id s (rsE id s p4)).2.1).2.1 (va6 s (wsE id s (rsE id s p4)).1 (wsE id s (rsE id s p4)).2.1).2.2).1)))))))
  ·rfl
  ·rw [ho]at h
   have h':true=false:=h
   cases h'
 ·rfl
def txsB (f:Nat→Nat)(s:ByteArray)(p:Int×Bool):Int×Bool×List tTxn.D:=
 vbd (txR s) (f (numB s p.1 p.2).1.toNat) (numB s p.1 p.2).2.1 (numB s p.1 p.2).2.2 []
theorem v5r {s:ByteArray}(hs:s.size≤1048576)(a:Int)(b:Bool)(u3 u4:Int)(u5:List vaa) :
  ((txsB id s (a,b)).2.1=false∧∀k,v3w s a b u3 u4 u5 k=k (s,(txsB id s (a,b)).1,false,u3,u4,u5,(txsB id s (a,b)).2.2))∨
  ((txsB id s (a,b)).2.1=true∧∃p l,(0≤a→a≤(s.size:Int)→a≤p∧p≤(s.size:Int)∧((Ty.slice tTxn).wt l:Int)+a≤p+3)∧∀k,v3w s a b u3 u4 u5 k=k (s,p,true,u3,u4,u5,l)):=by
 unfold txsB
 simp only [wm7]
 unfold wg0
 simp only [vne hs]
 obtain⟨n,hn,hn2⟩:=vm9 s a b
 have hat:=fun h=>vga (s:=s) (a:=a) (b:=b) h
 have hmon:0≤a→a≤(s.size:Int)→a≤(numB s a b).2.1∧(numB s a b).2.1≤(s.size:Int):=fun h0 h1=>by have:=vg9 s a b h0 h1;omega
 rw [hn]
 generalize (numB s a b).2.1=a' at *
 generalize (numB s a b).2.2=b' at *
 have hbadK:∀(i:Nat) (p:Int) (l:List dTxn) (q:Nat) (K),vae vle (q+1) ((n:Int),(i:Int),s,p,true,u3,u4,u5,l) K=K ((n:Int),(i:Int),s,p,true,u3,u4,u5,l):=fun i p l q K=>by
  simp only [vae,vle]
  cases decide ((i:Int)<(n:Int))<;>rfl
 cases b'
 ·have ha:=hat rfl
  obtain⟨f,hf⟩:∃f,Fuel=f+1:=vqb
  rcases vry (vus s) (J:=fun c l=>((Ty.slice tTxn).wt l:Int)+a'≤c) (fun c l hj ho=>by
    have:=vus s c false ho
    rw [Ty.wt_slice,List.length_append,List.length_singleton,vh6]
    rw [Ty.wt_slice]at hj
    push_cast at hj ⊢
    omega) (n:=n) (body:=vle) (σ:=fun i a l=>((n:Int),i,s,a,false,u3,u4,u5,l)) (fin:=fun i a l=>((n:Int),i,s,a,false,u3,u4,u5,l))
   (Bad:=fun z=>∃j p l,(a'≤p∧p≤(s.size:Int)∧((Ty.slice tTxn).wt l:Int)+a'≤p+3)∧z=((n:Int),j,s,p,true,u3,u4,u5,l))
   (fun i a l hi h0 h1 hl ho K=>by
    have hw:IntKind.wrap .i64 ((i:Int)+1)=((i+1:Nat):Int):=va8 (by omega)
    have ho':txOk (vam id s a)=true:=by simpa [txR]using ho
    simp only [vle,vd9,show (i:Int)<(n:Int) by omega,decide_true,cond_true,Bool.not_false,whk,wa4,we4 hs a ho',List.length_singleton,vdx hl,if_true,hw]
    rfl)
   (fun i a l hi h0 h1 hl hj ho q=>by
    have hw:IntKind.wrap .i64 ((i:Int)+1)=((i+1:Nat):Int):=va8 (by omega)
    have ho':txOk (vam id s a)=false:=by simpa [txR]using ho
    obtain⟨x,p,hxp,hx⟩:=v7k hs a h0 h1 ho'
    have hxl:(Ty.slice tTxn).wt (l++[x])=(Ty.slice tTxn).wt l+1+tTxn.wt x:=by
     rw [Ty.wt_slice,Ty.wt_slice,List.length_append,List.length_singleton,vh6]
     omega
    have hja:a'≤a:=by omega
    refine⟨((n:Int),((i+1:Nat):Int),s,p,true,u3,u4,u5,l++[x]),⟨_,_,_,⟨by omega,hxp.2.1,by rw [hxl];push_cast;omega⟩,rfl⟩,fun K=>?_⟩
    rw [vae]
    simp only [vle,vd9,show (i:Int)<(n:Int) by omega,decide_true,cond_true,Bool.not_false,whk,wa4,hx,List.length_singleton,vdx hl,if_true,hw,Sum.elim_inl]
    exact hbadK (i+1) p (l++[x]) q K)
   (fun a l K=>by
    simp only [vle,show ¬((n:Int)<(n:Int)) by omega,decide_false,cond_false])
   1048580 n 0 a' [] Fuel (by omega) (by omega) (by omega) (by omega) (Nat.lt_of_lt_of_le (by omega) vba) (by simp) (by simp [Ty.wt])with⟨e1,e2⟩|⟨e1,z,⟨j,p,l,hpl,rfl⟩,e3⟩
  ·exact .inl ⟨e1,fun k=>(e2 _).trans rfl⟩
  ·exact .inr ⟨e1,p,l,fun h0 h1=>⟨by have:=hmon h0 h1;omega,hpl.2.1,by have:=hmon h0 h1;omega⟩,fun k=>e3 _⟩
 ·obtain⟨f,hf⟩:∃f,Fuel=f+1:=vqb
  exact .inr ⟨by simp only [id,vg0],a',[],fun h0 h1=>⟨by have:=hmon h0 h1;omega,by have:=hmon h0 h1;omega,by have:=hmon h0 h1;simp [Ty.wt];omega⟩,fun k=>by rw [hf];exact hbadK 0 a' [] f _⟩
theorem vs3 {s:ByteArray}(hs:s.size≤1048576)(a:Int)(b:Bool)(u3 u4:Int)(u5:List vaa)(u6:List dTxn) :
  ((txsB id s (a,b)).2.1=false∧∀k,v3b s a b u3 u4 u5 u6 k=k (s,(txsB id s (a,b)).1,false,u3,u4,u5,u6,(txsB id s (a,b)).2.2))∨
  ((txsB id s (a,b)).2.1=true∧∃p l,(0≤a→a≤(s.size:Int)→a≤p∧p≤(s.size:Int)∧((Ty.slice tTxn).wt l:Int)+a≤p+3)∧∀k,v3b s a b u3 u4 u5 u6 k=k (s,p,true,u3,u4,u5,u6,l)):=by
 unfold txsB
 simp only [wmw]
 unfold wfs
 simp only [vne hs]
 obtain⟨n,hn,hn2⟩:=vm9 s a b
 have hat:=fun h=>vga (s:=s) (a:=a) (b:=b) h
 have hmon:0≤a→a≤(s.size:Int)→a≤(numB s a b).2.1∧(numB s a b).2.1≤(s.size:Int):=fun h0 h1=>by have:=vg9 s a b h0 h1;omega
 rw [hn]
 generalize (numB s a b).2.1=a' at *
 generalize (numB s a b).2.2=b' at *
 have hbadK:∀(i:Nat) (p:Int) (l:List dTxn) (q:Nat) (K),vae vkv (q+1) ((n:Int),(i:Int),s,p,true,u3,u4,u5,u6,l) K=K ((n:Int),(i:Int),s,p,true,u3,u4,u5,u6,l):=fun i p l q K=>by
  simp only [vae,vkv]
  cases decide ((i:Int)<(n:Int))<;>rfl
 cases b'
 ·have ha:=hat rfl
  obtain⟨f,hf⟩:∃f,Fuel=f+1:=vqb
  rcases vry (vus s) (J:=fun c l=>((Ty.slice tTxn).wt l:Int)+a'≤c) (fun c l hj ho=>by
    have:=vus s c false ho
    rw [Ty.wt_slice,List.length_append,List.length_singleton,vh6]
    rw [Ty.wt_slice]at hj
    push_cast at hj ⊢
    omega) (n:=n) (body:=vkv) (σ:=fun i a l=>((n:Int),i,s,a,false,u3,u4,u5,u6,l)) (fin:=fun i a l=>((n:Int),i,s,a,false,u3,u4,u5,u6,l))
   (Bad:=fun z=>∃j p l,(a'≤p∧p≤(s.size:Int)∧((Ty.slice tTxn).wt l:Int)+a'≤p+3)∧z=((n:Int),j,s,p,true,u3,u4,u5,u6,l))
   (fun i a l hi h0 h1 hl ho K=>by
    have hw:IntKind.wrap .i64 ((i:Int)+1)=((i+1:Nat):Int):=va8 (by omega)
    have ho':txOk (vam id s a)=true:=by simpa [txR]using ho
    simp only [vkv,vec,show (i:Int)<(n:Int) by omega,decide_true,cond_true,Bool.not_false,wgz,v8v,we4 hs a ho',List.length_singleton,vdx hl,if_true,hw]
    rfl)
   (fun i a l hi h0 h1 hl hj ho q=>by
    have hw:IntKind.wrap .i64 ((i:Int)+1)=((i+1:Nat):Int):=va8 (by omega)
    have ho':txOk (vam id s a)=false:=by simpa [txR]using ho
    obtain⟨x,p,hxp,hx⟩:=v7k hs a h0 h1 ho'
    have hxl:(Ty.slice tTxn).wt (l++[x])=(Ty.slice tTxn).wt l+1+tTxn.wt x:=by
     rw [Ty.wt_slice,Ty.wt_slice,List.length_append,List.length_singleton,vh6]
     omega
    have hja:a'≤a:=by omega
    refine⟨((n:Int),((i+1:Nat):Int),s,p,true,u3,u4,u5,u6,l++[x]),⟨_,_,_,⟨by omega,hxp.2.1,by rw [hxl];push_cast;omega⟩,rfl⟩,fun K=>?_⟩
    rw [vae]
    simp only [vkv,vec,show (i:Int)<(n:Int) by omega,decide_true,cond_true,Bool.not_false,wgz,v8v,hx,List.length_singleton,vdx hl,if_true,hw,Sum.elim_inl]
    exact hbadK (i+1) p (l++[x]) q K)
   (fun a l K=>by
    simp only [vkv,show ¬((n:Int)<(n:Int)) by omega,decide_false,cond_false])
   1048580 n 0 a' [] Fuel (by omega) (by omega) (by omega) (by omega) (Nat.lt_of_lt_of_le (by omega) vba) (by simp) (by simp [Ty.wt])with⟨e1,e2⟩|⟨e1,z,⟨j,p,l,hpl,rfl⟩,e3⟩
  ·exact .inl ⟨e1,fun k=>(e2 _).trans rfl⟩
  ·exact .inr ⟨e1,p,l,fun h0 h1=>⟨by have:=hmon h0 h1;omega,hpl.2.1,by have:=hmon h0 h1;omega⟩,fun k=>e3 _⟩
 ·obtain⟨f,hf⟩:∃f,Fuel=f+1:=vqb
  exact .inr ⟨by simp only [id,vg0],a',[],fun h0 h1=>⟨by have:=hmon h0 h1;omega,by have:=hmon h0 h1;omega,by have:=hmon h0 h1;simp [Ty.wt];omega⟩,fun k=>by rw [hf];exact hbadK 0 a' [] f _⟩
theorem v6y {s:ByteArray}(hs:s.size≤1048576)(m:Nat)(hm:m≤100)(a:Int)(b:Bool) :
  ((txsB (fun n=>min n (m+1)) s (a,b)).2.1=false∧∀k,vsd (m:Int) s a b k=k (s,(txsB (fun n=>min n (m+1)) s (a,b)).1,false,(txsB (fun n=>min n (m+1)) s (a,b)).2.2))∨
  ((txsB (fun n=>min n (m+1)) s (a,b)).2.1=true∧∃p l,∀k,vsd (m:Int) s a b k=k (s,p,true,l)):=by
 unfold txsB
 simp only [wcu]
 unfold v55
 simp only [vtk hs]
 obtain⟨n,hn,hn2⟩:=vm9 s a b
 have hat:=fun h=>vga (s:=s) (a:=a) (b:=b) h
 rw [hn]
 generalize (numB s a b).2.1=a' at *
 generalize (numB s a b).2.2=b' at *
 cases b'
 ·have ha:=hat rfl
  rcases vry (vus s) (J:=fun _ _=>True) (fun _ _ _ _=>trivial) (n:=min n (m+1)) (body:=vgs) (σ:=fun i a l=>((m:Int),(n:Int),i,s,a,false,([]:List dTxn),l)) (fin:=fun i a l=>.inl ((m:Int),(n:Int),i,s,a,false,([]:List dTxn),l))
   (Bad:=fun z=>∃i p l,z = .inr ((m:Int),(n:Int),i,s,p,true,l))
   (fun i a l hi h0 h1 hl ho K=>by
    have hw:IntKind.wrap .i64 ((i:Int)+1)=((i+1:Nat):Int):=va8 (by omega)
    have ho':txOk (vam id s a)=true:=by simpa [txR]using ho
    have ho2:(vam id s a).2.2.2.2.2.2.2.1=true:=ho'
    simp only [vgs,vdq,show (i:Int)<(n:Int) by omega,show (i:Int)≤(m:Int) by omega,decide_true,cond_true,Bool.not_false,weh hs,vru,ho2,Bool.not_true,cond_false,List.length_singleton,vdx hl,if_true,hw]
    rfl)
   (fun i a l hi h0 h1 hl _ ho q=>by
    have ho':txOk (vam id s a)=false:=by simpa [txR]using ho
    have ho2:(vam id s a).2.2.2.2.2.2.2.1=false:=ho'
    refine⟨.inr ((m:Int),(n:Int),(i:Int),s,a,true,l),⟨_,_,_,rfl⟩,fun K=>?_⟩
    rw [vae]
    simp only [vgs,vdq,show (i:Int)<(n:Int) by omega,show (i:Int)≤(m:Int) by omega,decide_true,cond_true,Bool.not_false,weh hs,vru,ho2,Sum.elim_inr])
   (fun a l K=>by
    by_cases h10:n≤m+1
    ·simp only [vgs,show ¬(((min n (m+1):Nat):Int)<(n:Int)) by omega,decide_false,cond_false]
    ·simp only [vgs,show (((min n (m+1):Nat):Int)<(n:Int)) by omega,show ¬(((min n (m+1):Nat):Int)≤(m:Int)) by omega,decide_true,decide_false,cond_true,cond_false])
   1048580 (min n (m+1)) 0 a' [] Fuel (by omega) (by omega) (by omega) (by omega) (Nat.lt_of_lt_of_le (by omega) vba) (by simp) trivial with⟨e1,e2⟩|⟨e1,z,⟨i,p,l,rfl⟩,e3⟩
  ·exact .inl ⟨e1,fun k=>(e2 _).trans rfl⟩
  ·exact .inr ⟨e1,p,l,fun k=>(e3 _).trans rfl⟩
 ·obtain⟨f,hf⟩:∃f,Fuel=f+1:=vqb
  refine .inr ⟨by simp only [vg0],a',[],fun k=>?_⟩
  rw [hf]
  simp only [vae,vgs]
  cases decide ((0:Int)<(n:Int))<;>cases decide ((0:Int)≤(m:Int))<;>rfl
end
end Go.VE
/- Plain laws: ReadBase. -/
namespace Go.VE
noncomputable section
set_option linter.unusedVariables false
set_option linter.unusedSimpArgs false
set_option maxRecDepth 100000
abbrev dRB:=Int×Int×Int×Bool×List vaa×List dTxn×List dTxn
def zRB:dRB:=((0:Int),(0:Int),(0:Int),false,([]:List vaa),([]:List dTxn),([]:List dTxn))
def rbV (f:Nat→Nat)(s:ByteArray)(p:Int×Int×Bool):Int×Bool×List vaa:=
 vbd (vrB s) (f (nx s p).1.toNat) (nx s p).2.1 (nx s p).2.2 []
def v1m (c n:Int)(V:List vaa)(P:List dTxn)(R:Int×Bool×List dTxn):dRB:=
 bif R.2.1 then zRB else bif !vcs (V,(P,(R.2.2,(c,n))))then zRB else(c,n,R.1,true,V,P,R.2.2)
def rb3 (f3:Nat→Nat)(s:ByteArray)(c n:Int)(V:List vaa)(P:Int×Bool×List dTxn):dRB:=v1m c n V P.2.2 (txsB f3 s (P.1,P.2.1))
def rb2 (f2 f3:Nat→Nat)(s:ByteArray)(c n:Int)(V:Int×Bool×List vaa):dRB:=rb3 f3 s c n V.2.2 (txsB f2 s (V.1,V.2.1))
def rb1 (f1 f2 f3:Nat→Nat)(s:ByteArray)(p1 p2:Int×Int×Bool):dRB:=rb2 f2 f3 s p1.1 p2.1 (rbV f1 s p2)
def va0 (f1 f2 f3:Nat→Nat)(s:ByteArray)(a:Int):dRB:=rb1 f1 f2 f3 s (numB s a false) (nx s (numB s a false))
theorem v5z (f:Nat→Nat)(s:ByteArray)(a:Int):(txsB f s (a,true)).2.1=true:=by
 unfold txsB
 rw [show (numB s (a,true).1 (a,true).2).2.2=true from rfl,vg0]
theorem v8e {f:Nat→Nat}{s:ByteArray}{a:Int}{b:Bool}(h:(txsB f s (a,b)).2.1=false) :
  b=false∧0≤a∧(txsB f s (a,b)).1≤(s.size:Int)∧(txsB f s (a,b)).2.2.length=f (numB s a b).1.toNat∧(((Ty.slice tTxn).wt (txsB f s (a,b)).2.2:Nat):Int)+a≤(txsB f s (a,b)).1:=by
 have h1:=ven (vus s) _ _ _ _ (fun h=>vga h) h
 have h2:=vfc h1.1
 have h3:=h1.2.2.2.2
 have e3:(Ty.slice tTxn).wt (txsB f s (a,b)).2.2=(txsB f s (a,b)).2.2.length+((txsB f s (a,b)).2.2.map tTxn.wt).sum:=rfl
 have h4:=h1.2.2.1
 have h5:=h1.2.2.2.1
 rw [show vbd (txR s) (f (numB s (a,b).1 (a,b).2).1.toNat) (numB s (a,b).1 (a,b).2).2.1 (numB s (a,b).1 (a,b).2).2.2 []=txsB f s (a,b)from rfl]at h3 h4 h5
 simp only [List.length_nil,List.map_nil,List.sum_nil,Nat.zero_add]at h3 h5
 refine⟨h2.1,h2.2.1,h4,h5,?_⟩
 rw [e3]
 have:=h2.2.2.1
 have e7:(numB s (a,b).1 (a,b).2).2.1=(numB s a b).2.1:=rfl
 have e8:(a,b).1=a:=rfl
 omega
theorem wzb {f:Nat→Nat}{s:ByteArray}{p:Int×Int×Bool}(h:(rbV f s p).2.1=false) :
  p.2.2=false∧0≤p.2.1∧(rbV f s p).1≤(s.size:Int)∧(rbV f s p).2.2.length=f (nx s p).1.toNat∧(((Ty.slice tVersion).wt (rbV f s p).2.2:Nat):Int)+p.2.1≤(rbV f s p).1:=by
 have h1:=ven (wim s) _ _ _ _ (fun h=>vga h) h
 have h2:=vfc h1.1
 have h3:=h1.2.2.2.2
 have e3:(Ty.slice tVersion).wt (rbV f s p).2.2=(rbV f s p).2.2.length+((rbV f s p).2.2.map tVersion.wt).sum:=rfl
 have h4:=h1.2.2.1
 have h5:=h1.2.2.2.1
 rw [show vbd (vrB s) (f (nx s p).1.toNat) (numB s p.2.1 p.2.2).2.1 (numB s p.2.1 p.2.2).2.2 []=rbV f s p from rfl]at h3 h4 h5
 simp only [List.length_nil,List.map_nil,List.sum_nil,Nat.zero_add]at h3 h5
 refine⟨h2.1,h2.2.1,h4,h5,?_⟩
 rw [e3]
 have:=h2.2.2.1
 omega
theorem wmz {f1 f2 f3:Nat→Nat}{s:ByteArray}(hs:s.size≤1048576){p2:Int×Int×Bool}{V:Int×Bool×List vaa}{P R:Int×Bool×List dTxn}(hV:rbV f1 s p2=V)(hP:txsB f2 s (V.1,V.2.1)=P)(hR:txsB f3 s (P.1,P.2.1)=R)(h:R.2.1=false)(c n:Int) :
  tBase.wt (V.2.2,(P.2.2,(R.2.2,(c,n))))≤1048576∧V.2.1=false∧P.2.1=false∧V.2.2.length=f1 (nx s p2).1.toNat∧P.2.2.length=f2 (numB s V.1 V.2.1).1.toNat∧R.2.2.length=f3 (numB s P.1 P.2.1).1.toNat:=by
 subst hR
 have h3:=v8e h
 have h2:=h3.1
 subst hP
 have h2s:=v8e h2
 have h1:=h2s.1
 subst hV
 have h1s:=wzb h1
 refine⟨?_,h1,h2,h1s.2.2.2.1,h2s.2.2.2.1,h3.2.2.2.1⟩
 rw [vvh]
 simp only
 omega
theorem wj7 {c n:Int}{V:List vaa}{P:List dTxn}{R:Int×Bool×List dTxn}(hw:R.2.1=false→tBase.wt (V,(P,(R.2.2,(c,n))))≤1048576)(h:R.2.1=true∨V.length>120∨P.length>12∨R.2.2.length>3):v1m c n V P R=zRB:=by
 unfold v1m
 cases hR:R.2.1
 ·cases hb:vcs (V,(P,(R.2.2,(c,n))))
  ·rfl
  ·have:=vjt (hw hR) hb
   have h1:=this.2.2.1
   have h2:=this.2.2.2.2.1
   have h3:=this.2.2.2.2.2.2.1
   simp only at h1 h2 h3
   rcases h with h|h|h|h
   ·rw [hR]at h;cases h
   ·omega
   ·omega
   ·omega
 ·rfl
theorem vqt {f1 f2 f3:Nat→Nat}{s:ByteArray}(hs:s.size≤1048576){p1 p2:Int×Int×Bool}
  (h:f1 (nx s p2).1.toNat>120∨f2 (numB s (rbV f1 s p2).1 (rbV f1 s p2).2.1).1.toNat>12∨
   f3 (numB s (txsB f2 s ((rbV f1 s p2).1,(rbV f1 s p2).2.1)).1 (txsB f2 s ((rbV f1 s p2).1,(rbV f1 s p2).2.1)).2.1).1.toNat>3):rb1 f1 f2 f3 s p1 p2=zRB:=by
 unfold rb1 rb2 rb3
 apply wj7
 ·intro hR;exact(wmz hs rfl rfl rfl hR p1.1 p2.1).1
 ·cases hR:(txsB f3 s ((txsB f2 s ((rbV f1 s p2).1,(rbV f1 s p2).2.1)).1,(txsB f2 s ((rbV f1 s p2).1,(rbV f1 s p2).2.1)).2.1)).2.1
  ·obtain⟨_,_,_,e1,e2,e3⟩:=wmz hs rfl rfl rfl hR p1.1 p2.1
   right
   rw [e1,e2,e3]
   exact h
  ·exact .inl rfl
theorem wc0 {s:ByteArray}(hs:s.size≤1048576)(a:Int):va0 (fun n=>min n 130) (fun n=>min n 13) (fun n=>min n 4) s a=va0 id id id s a:=by
 unfold va0
 generalize numB s a false=p1
 generalize nx s p1=p2
 by_cases h1:(nx s p2).1.toNat≤120
 ·have e1:rbV (fun n=>min n 130) s p2=rbV id s p2:=by
   unfold rbV;rw [show (fun n=>min n 130) (nx s p2).1.toNat=id (nx s p2).1.toNat by simp;omega]
  by_cases h2:(numB s (rbV id s p2).1 (rbV id s p2).2.1).1.toNat≤12
  ·have e2:txsB (fun n=>min n 13) s ((rbV id s p2).1,(rbV id s p2).2.1)=txsB id s ((rbV id s p2).1,(rbV id s p2).2.1):=by
    unfold txsB;rw [show (fun n=>min n 13) (numB s (rbV id s p2).1 (rbV id s p2).2.1).1.toNat=id (numB s (rbV id s p2).1 (rbV id s p2).2.1).1.toNat by simp;omega]
   by_cases h3:(numB s (txsB id s ((rbV id s p2).1,(rbV id s p2).2.1)).1 (txsB id s ((rbV id s p2).1,(rbV id s p2).2.1)).2.1).1.toNat≤3
   ·unfold rb1 rb2 rb3
    rw [e1,e2]
    generalize txsB id s ((rbV id s p2).1,(rbV id s p2).2.1)=P at *
    have e3:txsB (fun n=>min n 4) s (P.1,P.2.1)=txsB id s (P.1,P.2.1):=by
     unfold txsB;rw [show (fun n=>min n 4) (numB s P.1 P.2.1).1.toNat=id (numB s P.1 P.2.1).1.toNat by simp;omega]
    rw [e3]
   ·rw [vqt hs (.inr (.inr (by rw [e1,e2];simp;omega))),vqt hs (.inr (.inr (by simp;omega)))]
  ·rw [vqt hs (.inr (.inl (by rw [e1];simp;omega))),vqt hs (.inr (.inl (by simp;omega)))]
 ·rw [vqt hs (.inl (by simp;omega)),vqt hs (.inl (by simp;omega))]
theorem wz4 {s:ByteArray}(hs:s.size≤1048576)(a:Int):∃y,(y = .inl (va0 id id id s a)∨y = .inr (va0 id id id s a))∧∀k,waj s a k=k y:=by
 rw [←wc0 hs a]
 simp only [wls]
 unfold wia
 simp only [vtk hs]
 unfold va0
 generalize hp1:numB s a false=p1
 rw [show numB s p1.2.1 p1.2.2=nx s p1 from rfl]
 generalize hp2:nx s p1=p2
 rw [show numB s p2.2.1 p2.2.2=nx s p2 from rfl]
 obtain⟨n,hn,hn2⟩:=vm9 s p2.2.1 p2.2.2
 have hn':(nx s p2).1=(n:Int):=hn
 obtain⟨j,hj⟩:=v6h hs hn2 (a:=(nx s p2).2.1) (b:=(nx s p2).2.2) (fun h=>vga h) (v1:=0) (v2:=0) (u3:=p1.1) (u4:=p2.1)
 have hVe:vbd (vrB s) (min n 130) (nx s p2).2.1 (nx s p2).2.2 []=rbV (fun n=>min n 130) s p2:=by
  unfold rbV;rw [hn',Int.toNat_natCast]
 rw [hn']
 simp only [hj,hVe]
 unfold rb1
 generalize hV:rbV (fun n=>min n 130) s p2=V
 unfold rb2 rb3
 rcases v6y hs 12 (by omega) V.1 V.2.1 with⟨b2,q2⟩|⟨b2,x,l,q2⟩
 ·simp only [show ((12:Nat):Int)=12 from rfl]at q2
  simp only [q2]
  generalize hP:txsB (fun n=>min n (12+1)) s (V.1,V.2.1)=P at *
  have hP':txsB (fun n=>min n 13) s (V.1,V.2.1)=P:=hP
  try rw [hP']
  rcases v6y hs 3 (by omega) P.1 false with⟨b3,q3⟩|⟨b3,x,l,q3⟩
  ·simp only [show ((3:Nat):Int)=3 from rfl]at q3
   simp only [q3,cond_false]
   rw [b2]
   have b3':(txsB (fun n=>min n 4) s (P.1,false)).2.1=false:=b3
   have hw:=(wmz hs hV hP (f3:=fun n=>min n 4) (R:=txsB (fun n=>min n 4) s (P.1,false)) (by rw [b2]) b3' p1.1 p2.1).1
   have hB:=fun k=>wdl hw k
   simp only [show txsB (fun n=>min n (3+1)) s (P.1,false)=txsB (fun n=>min n 4) s (P.1,false)from rfl]
   simp only [hB]
   unfold v1m
   rw [b3']
   cases vcs (V.2.2,(P.2.2,((txsB (fun n=>min n 4) s (P.1,false)).2.2,(p1.1,p2.1))))
   ·exact⟨_,.inl rfl,fun k=>rfl⟩
   ·exact⟨_,.inr rfl,fun k=>rfl⟩
  ·simp only [show ((3:Nat):Int)=3 from rfl]at q3
   simp only [q3]
   unfold v1m
   rw [b2,show (txsB (fun n=>min n 4) s (P.1,false)).2.1=true from b3]
   exact⟨_,.inl rfl,fun k=>rfl⟩
 ·simp only [show ((12:Nat):Int)=12 from rfl]at q2
  simp only [q2]
  rcases v6y hs 3 (by omega) x true with⟨b3,q3⟩|⟨b3,x',l',q3⟩
  ·rw [v5z]at b3;cases b3
  ·simp only [show ((3:Nat):Int)=3 from rfl]at q3
   simp only [q3]
   unfold v1m
   rw [show (txsB (fun n=>min n 13) s (V.1,V.2.1)).2.1=true from b2,v5z]
   exact⟨_,.inl rfl,fun k=>rfl⟩
theorem wbu {s:ByteArray}(hs:s.size≤1048576)(a:Int):tBase.wt ((va0 id id id s a).2.2.2.2.1,((va0 id id id s a).2.2.2.2.2.1,((va0 id id id s a).2.2.2.2.2.2,((va0 id id id s a).1,(va0 id id id s a).2.1))))≤1048576:=by
 unfold va0
 generalize numB s a false=p1
 generalize nx s p1=p2
 unfold rb1 rb2 rb3
 generalize hV:rbV id s p2=V
 generalize hP:txsB id s (V.1,V.2.1)=P
 generalize hR:txsB id s (P.1,P.2.1)=R
 have hz:tBase.wt (zRB.2.2.2.2.1,(zRB.2.2.2.2.2.1,(zRB.2.2.2.2.2.2,(zRB.1,zRB.2.1))))≤1048576:=by decide
 unfold v1m
 cases hb:R.2.1
 ·cases vcs (V.2.2,(P.2.2,(R.2.2,(p1.1,p2.1))))
  ·exact hz
  ·exact(wmz hs hV hP hR hb p1.1 p2.1).1
 ·exact hz
end
end Go.VE
/- Plain laws: records that are read from text. -/
namespace Go.VE
noncomputable section
set_option linter.unusedVariables false
set_option linter.unusedSimpArgs false
set_option maxRecDepth 100000
theorem vhz (a b:ByteArray):vah (a++b)=vah a++vah b:=by
 unfold vah
 rw [ByteArray.data_append,Array.toList_append,List.map_append]
def vif (s:ByteArray):ByteArray:=s.extract 0 (s.size-4)
def vcz (s:ByteArray):ByteArray×Bool:=
 bif decide ((s.size:Int)<4)then(⟨#[]⟩,false)else
 bif decide ((s.size:Int)-4>20000)then(⟨#[]⟩,false)else
 bif vap (vif s++vr7 (sumB (vif s))) s then(vif s,true)else(⟨#[]⟩,false)
theorem vu3 {s:ByteArray}(h:¬(s.size:Int)<4):(vif s).size=s.size-4:=by
 unfold vif
 rw [ByteArray.size_extract]
 omega
theorem wzv (s f:ByteArray):vap (s.extract (s.size-4) s.size) f=vap (vif s++f) s:=by
 rw [vqd,vqd,vhz]
 unfold vif
 rw [vj2,vj2]
 have hl:((vah s).drop (s.size-4)).take (s.size-(s.size-4))=(vah s).drop (s.size-4):=List.take_of_length_le (by rw [List.length_drop,vak];omega)
 rw [hl,List.drop_zero,Nat.sub_zero]
 have hs:=List.take_append_drop (s.size-4) (vah s)
 rw [Bool.eq_iff_iff]
 simp only [decide_eq_true_eq]
 constructor
 ·intro h;rw [←h];exact hs
 ·intro h
  have h2:(vah s).take (s.size-4)++vah f=(vah s).take (s.size-4)++(vah s).drop (s.size-4):=h.trans hs.symm
  exact(List.append_cancel_left h2).symm
theorem wy4 {s:ByteArray}(hs:s.size≤1048576) (k):v9s s k=k (vcz s):=by
 rw [woa]
 unfold wfw vcz
 by_cases h4:(s.size:Int)<4
 ·simp only [h4,decide_true,cond_true]
 ·have w:IntKind.wrap .i64 ((s.size:Int)-4)=((s.size-4:Nat):Int):=by rw [vau (by omega) (by omega)];omega
  have hb:=vu3 h4
  simp only [h4,decide_false,cond_false,w,Int.toNat_natCast,show (0:Int).toNat=0 from rfl]
  rw [if_pos ⟨by omega,by omega,by omega⟩]
  change vyv (vif s) _=_
  rw [v6l (by omega)]
  unfold vrv
  rw [hb]
  by_cases h2:(s.size:Int)-4>20000
  ·simp only [show (((s.size-4:Nat):Int)>20000) by omega,h2,decide_true,cond_true,Bool.not_false]
  ·simp only [show ¬(((s.size-4:Nat):Int)>20000) by omega,h2,decide_false,cond_false,Bool.not_true]
   cases vap (vif s++vr7 (sumB (vif s))) s<;>rfl
theorem wtl {s:ByteArray}(hs:s.size≤1048576) (k):vxl s k=k (vcz s):=by
 rw [wct]
 unfold v77 vcz
 by_cases h4:(s.size:Int)<4
 ·have w:IntKind.wrap .i64 ((s.size:Int)-4)=(s.size:Int)-4:=vau (by omega) (by omega)
  simp only [w,show (s.size:Int)-4<0 by omega,h4,decide_true,cond_true]
 ·have w:IntKind.wrap .i64 ((s.size:Int)-4)=((s.size-4:Nat):Int):=by rw [vau (by omega) (by omega)];omega
  have hb:=vu3 h4
  have hF:∀n k,vrz n k=k (vr7 n):=fun n k=>by rw [v69];rfl
  simp only [h4,decide_false,cond_false,w,Int.toNat_natCast,show (0:Int).toNat=0 from rfl,show ¬(((s.size-4:Nat):Int)<0) by omega]
  by_cases h2:(s.size:Int)-4>20000
  ·simp only [show (((s.size-4:Nat):Int)>20000) by omega,h2,decide_true,cond_true]
  ·simp only [show ¬(((s.size-4:Nat):Int)>20000) by omega,h2,decide_false,cond_false]
   rw [if_pos ⟨by omega,by omega,by omega⟩,if_pos ⟨by omega,by omega,by omega⟩]
   rw [show s.extract 0 (s.size-4)=vif s from rfl,wgm (by omega)]
   simp only [hF,wzv]
   cases vap (vif s++vr7 (sumB (vif s))) s
   ·rfl
   ·simp only [Bool.not_true,cond_false]
    rw [if_pos ⟨by omega,by omega,by omega⟩]
    rfl
theorem vsp {s:ByteArray}(h:(vcz s).2=true):(vcz s).1=vif s∧(vif s).size≤20000∧vif s++vr7 (sumB (vif s))=s:=by
 unfold vcz at h ⊢
 by_cases h4:(s.size:Int)<4
 ·simp only [h4,decide_true,cond_true]at h;cases h
 ·have hb:=vu3 h4
  by_cases h2:(s.size:Int)-4>20000
  ·simp only [h4,h2,decide_true,decide_false,cond_false,cond_true]at h;cases h
  ·simp only [h4,h2,decide_false,cond_false]at h ⊢
   cases hq:vap (vif s++vr7 (sumB (vif s))) s
   ·rw [hq]at h;cases h
   ·refine⟨rfl,by omega,?_⟩
    exact vqq hq
theorem w2q (s:ByteArray):MonR (vrB s) tVersion.wt (s.size:Int):=by
 intro a b h0 h1
 have m1:a≤(vao s a b).2.1∧((vao s a b).1.size:Int)+a≤(vao s a b).2.1∧(vao s a b).2.1≤(s.size:Int):=vqi s a b h0 h1
 have m2:=vqi s (vao s a b).2.1 (vao s a b).2.2 (by omega) m1.2.2
 have m3:=v7x s (vao s (vao s a b).2.1 (vao s a b).2.2).2.1 (vao s (vao s a b).2.1 (vao s a b).2.2).2.2 (by omega) m2.2.2
 have m4:=vg9 s (va6 s (vao s (vao s a b).2.1 (vao s a b).2.2).2.1 (vao s (vao s a b).2.1 (vao s a b).2.2).2.2).2.1 (va6 s (vao s (vao s a b).2.1 (vao s a b).2.2).2.1 (vao s (vao s a b).2.1 (vao s a b).2.2).2.2).2.2 (by omega) m3.2.2
 unfold vrB vrB1
 rw [vsz]
 simp only at m1 m2 m3 m4 ⊢
 refine⟨by omega,?_,m4.2.2⟩
 push_cast
 omega
theorem w01 {s:ByteArray}{p:Int×Int×Bool}(h0:0≤p.2.1)(h1:p.2.1≤(s.size:Int)) :
  p.2.1≤(rbV id s p).1∧(rbV id s p).1≤(s.size:Int)∧((Ty.slice tVersion).wt (rbV id s p).2.2:Int)+p.2.1≤(rbV id s p).1+1:=by
 have n1:=vg9 s p.2.1 p.2.2 h0 h1
 have n2:=vt9 (w2q s) (wim s) (id (nx s p).1.toNat) (nx s p).2.1 (nx s p).2.2 [] (show 0≤(numB s p.2.1 p.2.2).2.1 by omega) n1.2.2
 rw [show vbd (vrB s) (id (nx s p).1.toNat) (nx s p).2.1 (nx s p).2.2 []=rbV id s p from rfl]at n2
 have e:(Ty.slice tVersion).wt (rbV id s p).2.2=(rbV id s p).2.2.length+((rbV id s p).2.2.map tVersion.wt).sum:=rfl
 have e2:(nx s p).2.1=(numB s p.2.1 p.2.2).2.1:=rfl
 have n3:=n2.2.2
 simp only [List.length_nil,List.map_nil,List.sum_nil]at n3
 rw [e]
 push_cast at n3 ⊢
 exact⟨by omega,n2.2.1,by omega⟩
def wuk (c n:Int)(p:Int)(b:Bool)(V:List vaa)(P R:List dTxn)(s:ByteArray):Int×Int×ByteArray×Int×Bool×List vaa×List dTxn×List dTxn:=(c,n,s,p,b,V,P,R)
theorem w0v {s:ByteArray}(hs:s.size≤40000){a:Int}(h0:0≤a)(h1:a≤(s.size:Int)) :
  ((va0 id id id s a).2.2.2.1=true∧∀k,v26 s a false k=k (wuk (va0 id id id s a).1 (va0 id id id s a).2.1 (va0 id id id s a).2.2.1 false (va0 id id id s a).2.2.2.2.1 (va0 id id id s a).2.2.2.2.2.1 (va0 id id id s a).2.2.2.2.2.2 s))∨
  (va0 id id id s a=zRB∧∃c n p V P R,tBase.wt (V,(P,(R,(c,n))))≤100000∧∀k,v26 s a false k=k (wuk c n p true V P R s)):=by
 have hs':s.size≤1048576:=by omega
 simp only [wpj]
 unfold wik
 simp only [vne hs',v5i hs']
 unfold va0
 have n1:=vg9 s a false h0 h1
 generalize hp1:numB s a false=p1 at *
 have n2:=vg9 s p1.2.1 p1.2.2 (by omega) n1.2.2
 rw [show numB s p1.2.1 p1.2.2=nx s p1 from rfl]at n2
 simp only [show numB s p1.2.1 p1.2.2=nx s p1 from rfl]
 generalize hp2:nx s p1=p2 at *
 simp only [show numB s p2.2.1 p2.2.2=nx s p2 from rfl]
 unfold rb1
 simp only [show vbd (vrB s) (nx s p2).1.toNat (nx s p2).2.1 (nx s p2).2.2 []=rbV id s p2 from rfl]
 have hVm:=w01 (p:=p2) (by omega) n2.2.2
 generalize hV:rbV id s p2=V at *
 unfold rb2 rb3
 rcases v5r hs' V.1 V.2.1 p1.1 p2.1 V.2.2 with⟨b2,q2⟩|⟨b2,x,l,w2,q2⟩
 ·simp only [q2]
  generalize hP:txsB id s (V.1,V.2.1)=P at *
  have hPs:V.2.1=false∧0≤V.1∧P.1≤(s.size:Int)∧(((Ty.slice tTxn).wt P.2.2:Nat):Int)+V.1≤P.1:=by
   have:=v8e (f:=id) (s:=s) (a:=V.1) (b:=V.2.1) (by rw [hP];exact b2)
   rw [hP]at this
   exact⟨this.1,this.2.1,this.2.2.1,this.2.2.2.2⟩
  rcases vs3 hs' P.1 false p1.1 p2.1 V.2.2 P.2.2 with⟨b3,q3⟩|⟨b3,x,l,w3,q3⟩
  ·simp only [q3,cond_false]
   rw [b2]
   have hw:=(wmz hs' hV hP (R:=txsB id s (P.1,false)) (by rw [b2]) b3 p1.1 p2.1).1
   have hB:=fun k=>wbr hw k
   have hRs:=v8e (f:=id) (s:=s) (a:=P.1) (b:=false) b3
   simp only [hB]
   unfold v1m
   rw [b3]
   cases hb:vcs (V.2.2,(P.2.2,((txsB id s (P.1,false)).2.2,(p1.1,p2.1))))
   ·refine .inr ⟨rfl,p1.1,p2.1,(txsB id s (P.1,false)).1,V.2.2,P.2.2,(txsB id s (P.1,false)).2.2,?_,fun k=>rfl⟩
    rw [vvh]
    simp only
    have h9:=hRs.2.2.2.2
    have h8:=hRs.2.2.1
    omega
   ·exact .inl ⟨rfl,fun k=>rfl⟩
  ·simp only [q3]
   unfold v1m
   rw [b2,b3]
   refine .inr ⟨rfl,p1.1,p2.1,x,V.2.2,P.2.2,l,?_,fun k=>rfl⟩
   have h3:=w3 (by omega) hPs.2.2.1
   rw [vvh]
   simp only
   omega
 ·simp only [q2]
  have h2:=w2 (by omega) hVm.2.1
  rcases vs3 hs' x true p1.1 p2.1 V.2.2 l with⟨b3,q3⟩|⟨b3,x',l',w3,q3⟩
  ·rw [v5z]at b3;cases b3
  ·simp only [q3]
   unfold v1m
   rw [b2,v5z]
   refine .inr ⟨rfl,p1.1,p2.1,x',V.2.2,l,l',?_,fun k=>rfl⟩
   have h3:=w3 (by omega) h2.2.1
   rw [vvh]
   simp only
   omega
end
end Go.VE
/- Plain laws: ReadRecord. -/
namespace Go.VE
noncomputable section
set_option linter.unusedVariables false
set_option linter.unusedSimpArgs false
set_option maxRecDepth 100000
theorem wit (s:ByteArray)(i:Int):0≤bt s i∧bt s i≤255:=by
 unfold bt
 have:=(s.data.getD i.toNat 0).toNat_lt
 omega
theorem wra {p n:ByteArray}{g:Bool}(hn:n.size≤3)(hp:p=(van [IntKind.wrap .u8 3]++shB n)++bitB g) :
  (va6 p (vao p 1 false).2.1 (vao p 1 false).2.2).2.2=false:=by
 have w3:IntKind.wrap .u8 3=3:=wjv (by omega) (by omega)
 have wn:IntKind.wrap .u8 (n.size:Int)=(n.size:Int):=wjv (by omega) (by omega)
 have hv:vah (varB (n.size:Int))=[(n.size:Int)]:=by
  unfold varB varL
  rw [if_neg (by omega),wn]
  exact vj9 (by intro y hy;simp only [List.mem_singleton]at hy;omega)
 have hg:vah (bitB g)=[if g then 1 else 0]:=by cases g<;>rfl
 have hi:vah p=3::(n.size:Int)::(vah n++[if g then 1 else 0]):=by
  rw [hp,vhz,vhz,w3,vj9 (by intro y hy;simp only [List.mem_singleton]at hy;omega),hg]
  unfold shB
  rw [vhz,hv]
  simp
 have hz:p.size=3+n.size:=by
  have:=congrArg List.length hi
  rw [vak]at this
  simp only [List.length_cons,List.length_append,List.length_nil,vak]at this
  omega
 have hr:vbb p 1=((n.size:Int),2,true):=by
  unfold vbb var
  rw [hi]
  simp only [show decide ((1:Int)≥0)=true by decide,show decide ((1:Int)≤(p.size:Int))=true by simp;omega,Bool.and_self,cond_true,show (1:Int).toNat=1 from rfl,List.drop_succ_cons,List.drop_zero]
  unfold rvF
  have e1:(0:Nat)+((n.size:Int).toNat % 128)*128^0=n.size:=by simp;omega
  rw [if_neg (by omega),if_pos (by omega),e1,if_pos ⟨by omega,by rw [ve5 (by omega)];rfl⟩]
  rfl
 have ht:(vao p 1 false).2.1=2+(n.size:Int)∧(vao p 1 false).2.2=false:=by
  unfold vao vg2
  rw [hr]
  simp only [Bool.not_true,cond_false,show decide ((n.size:Int)>20000)=false by simp;omega,show decide ((n.size:Int)>(p.size:Int)-2)=false by simp;omega]
  exact⟨trivial,trivial⟩
 rw [ht.1,ht.2]
 have hb:bt p (2+(n.size:Int))=(if g then 1 else 0):=by
  have hd:(vah p).drop (2+n.size)=[if g then 1 else 0]:=by
   rw [hi,show 2+n.size=n.size+1+1 by omega,List.drop_succ_cons,List.drop_succ_cons,List.drop_append,List.drop_of_length_le (by rw [vak];omega),vak,Nat.sub_self]
   rfl
  have:=(wds hd).1
  rw [←this]
  congr 1
 unfold va6 var
 rw [hb]
 simp only [cond_false,show decide ((2:Int)+(n.size:Int)≥0)=true by simp;omega,show decide ((2:Int)+(n.size:Int)≤(p.size:Int)-1)=true by simp;omega,Bool.and_self,Bool.not_true]
 cases g<;>rfl
abbrev zT:dTxn:=((0:Int),((0:Int),((0:Int),((0:Int),(([]:List vai),(([]:List vag),(false,(⟨#[]⟩:ByteArray))))))))
abbrev zB:vfd:=(([]:List vaa),(([]:List dTxn),(([]:List dTxn),((0:Int),(0:Int)))))
abbrev dRR:=Int×Int×Int×Int×Int×Bool×ByteArray×ByteArray×Bool×Int×Int×Bool×List vai×List vag×List vaa×List dTxn×List dTxn
def rrOf (r:vcd)(ok:Bool):dRR:=(r.1,r.2.1.1,r.2.1.2.1,r.2.1.2.2.1,r.2.1.2.2.2.1,r.2.1.2.2.2.2.2.2.1,r.2.1.2.2.2.2.2.2.2,r.2.2.1,r.2.2.2.1,r.2.2.2.2.2.2.2.1,r.2.2.2.2.2.2.2.2,ok,r.2.1.2.2.2.2.1,r.2.1.2.2.2.2.2.1,r.2.2.2.2.1,r.2.2.2.2.2.1,r.2.2.2.2.2.2.1)
def zRR:dRR:=rrOf ((0:Int),(zT,((⟨#[]⟩:ByteArray),(false,zB)))) false
def recB (p:ByteArray):vcd:=
 bif bt p 0==3 then(bt p 0,(zT,((vao p 1 false).1,((va6 p (vao p 1 false).2.1 (vao p 1 false).2.2).1,zB))))else
 bif bt p 0==4 then(bt p 0,(zT,((⟨#[]⟩:ByteArray),(false,((va0 id id id p 1).2.2.2.2.1,((va0 id id id p 1).2.2.2.2.2.1,((va0 id id id p 1).2.2.2.2.2.2,((va0 id id id p 1).1,(va0 id id id p 1).2.1))))))))else
  (bt p 0,(txOf (vam id p 1),((⟨#[]⟩:ByteArray),(false,zB))))
def vtu (r:vcd)(s:ByteArray):Bool:=(vbt r).2&&vap (vbt r).1 s
def vex (s:ByteArray):dRR:=
 bif !(vcz s).2 then zRR else bif vap (vcz s).1 ⟨#[]⟩then zRR else bif vtu (recB (vcz s).1) s then rrOf (recB (vcz s).1) true else zRR
theorem wzs:tTxn.wt zT=0:=by decide
theorem wyy:tBase.wt zB=0:=by decide
theorem wk2 (p:ByteArray)(hp:p.size≤20000)(h0:1≤p.size):(vao p 1 false).1.size≤20000:=by
 have:=vqi p 1 false (by omega) (by omega)
 simp only at this
 omega
theorem weg {p:ByteArray}(hp:p.size≤20000)(h0:1≤p.size):tRecord.wt (recB p)≤1048576:=by
 rw [vht]
 unfold recB
 cases bt p 0==3
 ·cases bt p 0==4
  ·simp only [cond_false]
   have h1:tTxn.wt (txOf (vam id p 1))≤1048576:=wdv (by omega) 1
   rw [wyy]
   have:(⟨#[]⟩:ByteArray).size=0:=rfl
   omega
  ·simp only [cond_false,cond_true]
   have h1:=wbu (s:=p) (by omega) 1
   rw [wzs]
   have:(⟨#[]⟩:ByteArray).size=0:=rfl
   omega
 ·simp only [cond_true]
  have h1:=wk2 p hp h0
  rw [wzs,wyy]
  omega
theorem v66 {s:ByteArray}(h:vap s ⟨#[]⟩=false):1≤s.size:=by
 cases hz:s.size with
 |zero=>
  have:vah s=[]:=by
   have:=vak s
   rw [hz]at this
   exact List.length_eq_zero_iff.1 this
  rw [vqd,this]at h
  exact absurd h (by decide)
 |succ n=>omega
theorem wz8 {s:ByteArray}(hs:s.size≤1048576):∃y,(y = .inl (vex s)∨y = .inr (vex s))∧∀k,v2x s k=k y:=by
 simp only [wme]
 unfold wg4 vex
 simp only [wtl hs]
 cases hu:(vcz s).2
 ·exact⟨_,.inr rfl,fun k=>rfl⟩
 obtain⟨h1,h2,_⟩:=vsp hu
 rw [h1]
 generalize vif s=p at *
 cases he:vap p (⟨#[]⟩:ByteArray)
 ·have h0:=v66 he
  have hw:=weg h2 h0
  have hbt:=wit p 0
  have w:IntKind.wrap .i64 (bt p 0)=bt p 0:=vau (by omega) (by omega)
  have hc:((0:Int)≤(0:Int)∧(0:Int)<(p.size:Int)):=⟨Int.le_refl _,by omega⟩
  have hps:p.size≤1048576:=by omega
  unfold recB at hw ⊢
  simp only [vfj,Bool.not_true,cond_false,if_pos hc,w]
  cases h3:bt p 0==3
  ·cases h4:bt p 0==4
   ·rw [h3,h4]at hw
    simp only [cond_false]at hw ⊢
    have hT:=fun k=>wdo hw k
    simp only [weh hps,vru,vbl,Sum.elim_inl]
    generalize hr:(bt p 0,(txOf (vam id p 1),((⟨#[]⟩:ByteArray),(false,zB))))=r at *
    have hT':∀k,vx4 (bt p 0,((vam id p 1).1,((vam id p 1).2.1,((vam id p 1).2.2.1,((vam id p 1).2.2.2.1,((vam id p 1).2.2.2.2.2.2.2.2.1,((vam id p 1).2.2.2.2.2.2.2.2.2,((vam id p 1).2.2.2.2.1,(vam id p 1).2.2.2.2.2.1))))))),((⟨#[]⟩:ByteArray),(false,zB))) k=k (vbt r):=by rw [←hr];rw [←hr]at hT;exact hT
    simp only [hT']
    unfold vtu
    rw [←hr]
    generalize vbt (bt p 0,(txOf (vam id p 1),((⟨#[]⟩:ByteArray),(false,zB))))=R
    cases R.2
    ·first|exact⟨_,.inl rfl,fun k=>rfl⟩|exact⟨_,.inr rfl,fun k=>rfl⟩
    ·cases vap R.1 s
     ·first|exact⟨_,.inl rfl,fun k=>rfl⟩|exact⟨_,.inr rfl,fun k=>rfl⟩
     ·first|exact⟨_,.inl rfl,fun k=>rfl⟩|exact⟨_,.inr rfl,fun k=>rfl⟩
   ·rw [h3,h4]at hw
    simp only [cond_false,cond_true]at hw ⊢
    have hT:=fun k=>wdo hw k
    obtain⟨y,hy,hq⟩:=wz4 hps 1
    simp only [hq]
    generalize va0 id id id p 1=b at *
    generalize hR:vbt (bt p 0,(zT,((⟨#[]⟩:ByteArray),(false,(b.2.2.2.2.1,(b.2.2.2.2.2.1,(b.2.2.2.2.2.2,(b.1,b.2.1))))))))=R at *
    unfold vtu
    rw [hR]
    rcases hy with rfl|rfl
    ·simp only [vbl,Sum.elim_inl,hT]
     cases R.2
     ·first|exact⟨_,.inl rfl,fun k=>rfl⟩|exact⟨_,.inr rfl,fun k=>rfl⟩
     ·cases vap R.1 s
      ·first|exact⟨_,.inl rfl,fun k=>rfl⟩|exact⟨_,.inr rfl,fun k=>rfl⟩
      ·first|exact⟨_,.inl rfl,fun k=>rfl⟩|exact⟨_,.inr rfl,fun k=>rfl⟩
    ·simp only [vbl,Sum.elim_inr,hT]
     cases R.2
     ·first|exact⟨_,.inl rfl,fun k=>rfl⟩|exact⟨_,.inr rfl,fun k=>rfl⟩
     ·cases vap R.1 s
      ·first|exact⟨_,.inl rfl,fun k=>rfl⟩|exact⟨_,.inr rfl,fun k=>rfl⟩
      ·first|exact⟨_,.inl rfl,fun k=>rfl⟩|exact⟨_,.inr rfl,fun k=>rfl⟩
  ·rw [h3]at hw
   simp only [cond_true]at hw ⊢
   have hT:=fun k=>wdo hw k
   have hat:(vao p 1 false).2.2=false→0≤(vao p 1 false).2.1∧(vao p 1 false).2.1≤(p.size:Int):=fun h=>by have:=vgm h;omega
   simp only [vt7 hps,vwh hps hat,vbl,Sum.elim_inl,hT]
   unfold vtu
   generalize vbt (bt p 0,(zT,((vao p 1 false).1,((va6 p (vao p 1 false).2.1 (vao p 1 false).2.2).1,zB))))=R
   cases R.2
   ·first|exact⟨_,.inl rfl,fun k=>rfl⟩|exact⟨_,.inr rfl,fun k=>rfl⟩
   ·cases vap R.1 s
    ·first|exact⟨_,.inl rfl,fun k=>rfl⟩|exact⟨_,.inr rfl,fun k=>rfl⟩
    ·first|exact⟨_,.inl rfl,fun k=>rfl⟩|exact⟨_,.inr rfl,fun k=>rfl⟩
 ·exact⟨_,.inr rfl,fun k=>rfl⟩
theorem wyq {s:ByteArray}{a:Int}(h:txOk (vam id s a)=false):vam id s a=zRT:=by
 unfold vam tx0 tx2 tx3 at h ⊢
 generalize (vao s _ _)=x at *
 cases hx:x.2.2
 ·rw [hx]at h
  simp only [cond_false]at h ⊢
  generalize hO:vbg _=o at *
  cases o
  ·rfl
  ·have h':true=false:=h
   cases h'
 ·rfl
theorem w4f:vcs zB=false:=by
 unfold vcs
 rw [show var (zB.2.2.2.2:Int) 1 9999=false from rfl]
 simp only [Bool.and_false,Bool.false_and]
theorem vy9 {r:vcd}{s:ByteArray}(h:vdm r=false):vtu r s=false:=by
 unfold vtu vbt
 rw [h]
 rfl
theorem ws6 {s p:ByteArray}(hseal:p++vr7 (sumB p)=s)(h3:bt p 0=3)(hb:(va6 p (vao p 1 false).2.1 (vao p 1 false).2.2).2.2=true) :
  vtu (bt p 0,(zT,((vao p 1 false).1,((va6 p (vao p 1 false).2.1 (vao p 1 false).2.2).1,zB)))) s=false:=by
 generalize hr:(bt p 0,(zT,((vao p 1 false).1,((va6 p (vao p 1 false).2.1 (vao p 1 false).2.2).1,zB))))=r
 have r1:r.1=3:=by rw [←hr];exact h3
 have r2:r.2.2.1=(vao p 1 false).1:=by rw [←hr]
 have r3:r.2.2.2.1=(va6 p (vao p 1 false).2.1 (vao p 1 false).2.2).1:=by rw [←hr]
 cases hok:vdm r
 ·exact vy9 hok
 have hn:r.2.2.1.size≤3:=by
  rcases vnw hok with⟨_,h⟩|⟨h,_⟩|⟨h,_⟩
  ·exact h
  ·rw [r1]at h;exact absurd h (by decide)
  ·rw [r1]at h;exact absurd h (by decide)
 unfold vtu vbt
 rw [hok,r1]
 simp only [Bool.not_true,cond_false,show ((3:Int)==3)=true from rfl,cond_true]
 unfold vrv
 generalize hX:(van [IntKind.wrap .u8 3]++shB r.2.2.1)++bitB r.2.2.2.1=X
 by_cases h2:(X.size:Int)>20000
 ·simp only [h2,decide_true,cond_true,Bool.false_and]
 ·simp only [h2,decide_false,cond_false,Bool.true_and]
  cases hq:vap (X++vr7 (sumB X)) s
  ·rfl
  ·have he:=vqq hq
   have hi:vah X++vah (vr7 (sumB X))=vah p++vah (vr7 (sumB p)):=by rw [←vhz,←vhz,he,hseal]
   have hl:(vah X).length=(vah p).length:=by
    have:=congrArg List.length hi
    rw [List.length_append,List.length_append,vak,vak,vak,vak,vqp,vqp]at this
    rw [vak,vak]
    omega
   have hx:=(List.append_inj hi hl).1
   have hp:p=X:=by rw [←vav p,←hx,vav]
   have:=wra hn (hp.trans hX.symm)
   rw [this]at hb
   cases hb
theorem w0n {s:ByteArray}(hs:s.size≤1048576) (k):vrd s k=k (vex s):=by
 rw [wly]
 unfold wf4 vex
 rw [wy4 hs]
 cases hu:(vcz s).2
 ·rfl
 obtain⟨h1,h2,hseal⟩:=vsp hu
 rw [h1]
 generalize vif s=p at *
 cases he:vap p (⟨#[]⟩:ByteArray)
 ·have h0:=v66 he
  have hw:=weg h2 h0
  have hbt:=wit p 0
  have w:IntKind.wrap .i64 (bt p 0)=bt p 0:=vau (by omega) (by omega)
  have hc:((0:Int)≤(0:Int)∧(0:Int)<(p.size:Int)):=⟨Int.le_refl _,by omega⟩
  have hps:p.size≤1048576:=by omega
  unfold recB at hw ⊢
  simp only [vfi,Bool.not_true,cond_false,if_pos hc,w]
  cases h3:bt p 0==3
  ·cases h4:bt p 0==4
   ·rw [h3,h4]at hw
    simp only [cond_false]at hw ⊢
    cases hk:txOk (vam id p 1)
    ·obtain⟨x,q,⟨_,hq,hxw⟩,hx⟩:=v7k hps 1 (by omega) (by omega) hk
     have hz:=wyq hk
     have hT:=fun k=>vy5 (r:=(bt p 0,(x,((⟨#[]⟩:ByteArray),(false,zB))))) (by rw [vht,wyy];have:(⟨#[]⟩:ByteArray).size=0:=rfl;simp only;omega) k
     have hS:vtu (bt p 0,(txOf (vam id p 1),((⟨#[]⟩:ByteArray),(false,zB)))) s=false:=vy9 (by
      rw [hz]
      unfold vdm
      rw [h3,h4]
      cases bt p 0==1<;>cases bt p 0==2<;>rfl)
     rw [hS,hx]
     simp only [vb0]
     refine(hT _).trans ?_
     rfl
    ·have hT:=fun k=>vy5 hw k
     rw [we4 hps 1 hk]
     simp only [vb0]
     refine(hT _).trans ?_
     unfold vtu
     generalize vbt (bt p 0,(txOf (vam id p 1),((⟨#[]⟩:ByteArray),(false,zB))))=R
     cases R.2
     ·rfl
     ·cases vap R.1 s<;>rfl
   ·rw [h3,h4]at hw
    simp only [cond_false,cond_true]at hw ⊢
    rcases w0v (s:=p) (by omega) (a:=1) (by omega) (by omega)with⟨hb,hq⟩|⟨hb,c,n,q,V,P,Q,hbw,hq⟩
    ·have hT:=fun k=>vy5 hw k
     rw [hq]
     unfold wuk
     simp only [vb0]
     refine(hT _).trans ?_
     unfold vtu
     generalize vbt _=R
     cases R.2
     ·rfl
     ·cases vap R.1 s<;>rfl
    ·have hT:=fun k=>vy5 (r:=(bt p 0,(zT,((⟨#[]⟩:ByteArray),(false,(V,(P,(Q,(c,n)))))))) ) (by rw [vht,wzs];have:(⟨#[]⟩:ByteArray).size=0:=rfl;simp only;omega) k
     have hS:vtu (bt p 0,(zT,((⟨#[]⟩:ByteArray),(false,((va0 id id id p 1).2.2.2.2.1,((va0 id id id p 1).2.2.2.2.2.1,((va0 id id id p 1).2.2.2.2.2.2,((va0 id id id p 1).1,(va0 id id id p 1).2.1)))))))) s=false:=vy9 (by
      rw [hb,show bt p 0=4 by simpa using h4]
      show (vox zT&&vap (⟨#[]⟩:ByteArray) ⟨#[]⟩&&vcs zB && !false)=false
      rw [w4f,Bool.and_false,Bool.false_and])
     rw [hS,hq]
     unfold wuk
     simp only [vb0]
     refine(hT _).trans ?_
     rfl
  ·rw [h3]at hw
   simp only [cond_true]at hw ⊢
   have hT:=fun k=>vy5 hw k
   simp only [vvc hps,vxq hps,vb0]
   refine(hT _).trans ?_
   cases hb:(va6 p (vao p 1 false).2.1 (vao p 1 false).2.2).2.2
   ·unfold vtu
    generalize vbt _=R
    cases R.2
    ·rfl
    ·cases vap R.1 s<;>rfl
   ·rw [ws6 hseal (by simpa using h3) hb]
    rfl
 ·rfl
theorem v0c {s:ByteArray}(hs:s.size≤1048576):∃r ok,vex s=rrOf r ok∧tRecord.wt r≤1048576:=by
 have hz:tRecord.wt ((0:Int),(zT,((⟨#[]⟩:ByteArray),(false,zB))))≤1048576:=by decide
 unfold vex
 cases hu:(vcz s).2
 ·exact⟨_,_,rfl,hz⟩
 obtain⟨h1,h2,hseal⟩:=vsp hu
 rw [h1]
 cases he:vap (vif s) (⟨#[]⟩:ByteArray)
 ·have hw:=weg h2 (v66 he)
  cases vtu (recB (vif s)) s
  ·exact⟨_,_,rfl,hz⟩
  ·exact⟨_,_,rfl,hw⟩
 ·exact⟨_,_,rfl,hz⟩
def cntR (r:vcd):Int:=1+2*(r.2.1.2.2.2.2.1.length:Int)+3*(r.2.1.2.2.2.2.2.1.length:Int)
theorem wb6 {r:vcd}(h:tRecord.wt r≤1048576):1≤cntR r∧cntR r+cntB r.2.2.2.2≤8000000∧0≤cntB r.2.2.2.2∧r.2.1.2.2.2.2.1.length≤1048576∧r.2.1.2.2.2.2.2.1.length≤1048576∧OkBs r.2.2.2.2:=by
 rw [vht]at h
 have h1:=vu6 r.2.1
 have h2:=wyr r.2.2.2.2
 have h3:=wrw r.2.2.2.2
 have h4:r.2.1.2.2.2.2.1.length≤(Ty.slice tRange).wt r.2.1.2.2.2.2.1:=vct (T:=tRange) (Nat.le_refl _)
 have h5:r.2.1.2.2.2.2.2.1.length≤(Ty.slice tWrite).wt r.2.1.2.2.2.2.2.1:=vct (T:=tWrite) (Nat.le_refl _)
 unfold cntR
 exact⟨by omega,by omega,h3,by omega,by omega,w0p (by omega)⟩
theorem v7d {r:vcd}(h:tRecord.wt r≤1048576)(a0 a1 a2 a3 a4:Int)(a5:Bool)(a6 a7:ByteArray)(a8:Bool)(a9 a10:Int) (k) :
  v48 a0 a1 a2 a3 a4 a5 a6 a7 a8 a9 a10 1 r.2.1.2.2.2.2.1 r.2.1.2.2.2.2.2.1 r.2.2.2.2.1 r.2.2.2.2.2.1 r.2.2.2.2.2.2.1 k =
   k (cntR r+cntB r.2.2.2.2,vlt 1 r.2.1.2.2.2.2.1,vk7 (1+2*(r.2.1.2.2.2.2.1.length:Int)) r.2.1.2.2.2.2.2.1,(vgx (cntR r) r.2.2.2.2).1,(vgx (cntR r) r.2.2.2.2).2.1,(vgx (cntR r) r.2.2.2.2).2.2.1):=by
 obtain⟨c0,c1,c2,l1,l2,ho⟩:=wb6 h
 rw [wnf]
 unfold wi9
 rw [wys (by omega) l2 l1]
 simp only
 rw [show 1+2*(r.2.1.2.2.2.2.1.length:Int)+3*(r.2.1.2.2.2.2.2.1.length:Int)=cntR r from rfl,wek ho (by omega) (by omega)]
theorem v6i {r:vcd}(h:tRecord.wt r≤1048576)(a0 a1 a2 a3 a4:Int)(a5:Bool)(a6 a7:ByteArray)(a8:Bool)(z:Int×Int) (k) :
  vvk (a0,((a1,(a2,(a3,(a4,(vlt 1 r.2.1.2.2.2.2.1,(vk7 (1+2*(r.2.1.2.2.2.2.1.length:Int)) r.2.1.2.2.2.2.2.1,(a5,a6))))))),(a7,(a8,((vgx (cntR r) r.2.2.2.2).1,((vgx (cntR r) r.2.2.2.2).2.1,((vgx (cntR r) r.2.2.2.2).2.2.1,z))))))) 1 k=k (cntR r+cntB r.2.2.2.2):=by
 obtain⟨c0,c1,c2,l1,l2,ho⟩:=wb6 h
 rw [wmy]
 unfold wiu
 simp only
 rw [wei l1 l2]
 rw [show 1+2*(r.2.1.2.2.2.2.1.length:Int)+3*(r.2.1.2.2.2.2.2.1.length:Int)=cntR r from rfl]
 simp only [decide_eq_false (show ¬cntR r<0 by omega),cond_false]
 rw [wb0 ho (by omega) (by omega)]
 simp only [decide_eq_false (show ¬cntR r+cntB r.2.2.2.2<0 by omega),cond_false]
end
end Go.VE
/- The plain laws. -/
namespace Go.VE
set_option linter.unusedVariables false
set_option linter.unusedSimpArgs false
set_option maxRecDepth 100000
theorem vp9 (x:ByteArray)(hx:Ty.str.wf x)(k:Bool→Option Res):wa7 x k=k true:=by
 rw [w23]
 unfold wnc
 by_cases bz:(x.size:Int)>1048576
 ·simp only [bz,decide_true,cond_true]
 simp only [bz,decide_false,cond_false]
 have hs:x.size≤1048576:=by omega
 obtain⟨y,hy,hq⟩:=wz8 hs
 have hI:=fun k=>w0n hs k
 obtain⟨r,ok,hz,hw⟩:=v0c hs
 rw [hz]at hy hI
 have hE:=fun k=>wja hw k
 have hM:=fun a0 a1 a2 a3 a4 a5 a6 a7 a8 a9 a10 k=>v7d hw a0 a1 a2 a3 a4 a5 a6 a7 a8 a9 a10 k
 have hH:∀a0 a1 a2 a3 a4 a5 a6 a7 a8 z1 z2 k,vvk (a0,((a1,(a2,(a3,(a4,(vlt 1 r.2.1.2.2.2.2.1,(vk7 (1+2*(r.2.1.2.2.2.2.1.length:Int)) r.2.1.2.2.2.2.2.1,(a5,a6))))))),(a7,(a8,((vgx (cntR r) r.2.2.2.2).1,((vgx (cntR r) r.2.2.2.2).2.1,((vgx (cntR r) r.2.2.2.2).2.2.1,(z1,z2)))))))) 1 k=k (cntR r+cntB r.2.2.2.2):=
  fun a0 a1 a2 a3 a4 a5 a6 a7 a8 z1 z2 k=>v6i hw a0 a1 a2 a3 a4 a5 a6 a7 a8 (z1,z2) k
 have hc:=wb6 hw
 have n0:decide (cntR r+cntB r.2.2.2.2<0)=false:=decide_eq_false (by omega)
 rw [hq]
 rcases hy with rfl|rfl
 ·simp only [Sum.elim_inl,Sum.elim_inr,hI,rrOf,v7m,hE,Bool.not_true,cond_false,bne_self_eq_false,beq_self_eq_true,vb1,vdd,hM,hH,n0]
 ·simp only [Sum.elim_inl,Sum.elim_inr,hI,rrOf,v7m,hE,Bool.not_true,cond_false,bne_self_eq_false,beq_self_eq_true,vb1,vdd,hM,hH,n0]
end Go.VE
