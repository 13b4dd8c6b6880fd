/- Loops told as recursions over what is left; written by gen.py. -/
import Derived.Test.YtbaniaofomgceaaLeaveN
import Derived.Test.YtbaniaofomgceaaP1
namespace Go.VE
noncomputable section
set_option linter.unusedVariables false
set_option linter.unusedSimpArgs false
set_option maxRecDepth 100000
def vl1 (u0:(List vaa))(u2:Int):List vaa→Int→Nat→(((Int×Int×Int)⊕(Int×Int))→Option Res)→Option Res
 |[],s1,i,k=>
  k (.inr (s1,(i:Int)))
 |y::l,s1,i,k=>
  vve y s1 (fun y1=>
   bif (decide (y1<(0:Int)))then
    k (.inl (y1,(-1:Int),(i:Int)))
   else
    vl1 u0 u2 l y1 (i+1) k)
theorem wfs {u0} {u2}(h0:u0.length<9223372036854775807){K:(q16T⊕q16T)→Option Res}:∀(l:List vaa) (i:Nat) (s1:Int) (n:Nat),u0.drop i=l→l.length<n→vac vj7 n (u0,s1,u2,(i:Int)) K=vl1 u0 u2 l s1 i (Sum.elim (fun z=>K (.inl (u0,z.1,z.2.1,z.2.2))) (fun z=>K (.inr (u0,z.1,u2,z.2)))):=by
 intro l
 induction l with
 |nil=>
  intro i s1 n hd hn
  have hge:=vay hd
  cases n with
  |zero=>exact absurd hn (Nat.not_lt_zero _)
  |succ n=>simp only [vac,vj7,vl1,hge,decide_false,cond_false,Sum.elim_inr,Sum.elim_inl]
 |cons y l ih=>
  intro i s1 n hd hn
  obtain⟨hlt,hz,hd2,hw,hnn⟩:=van hd h0
  have hy:=vap hd
  cases n with
  |zero=>exact absurd hn (Nat.not_lt_zero _)
  |succ n=>
   have ih2:=fun(s1:Int)=>ih (i+1) s1 n hd2 (Nat.lt_of_succ_lt_succ hn)
   simp only [vac,vj7,vl1,hlt,hz,decide_true,cond_true,and_self,if_true,hy,hw,hnn,Sum.elim_inl,Sum.elim_inr,ih2]
theorem wfv {u0} {u2}(h0:u0.length<9223372036854775807){K:(q16T⊕q16T)→Option Res}{s1:Int}:vac vj7 Fuel (u0,s1,u2,(0:Int)) K=vl1 u0 u2 u0 s1 0 (Sum.elim (fun z=>K (.inl (u0,z.1,z.2.1,z.2.2))) (fun z=>K (.inr (u0,z.1,u2,z.2)))):=
 wfs h0 u0 0 s1 Fuel rfl (vao h0)
def vl9 (u0:(List vam))(u2:Int):List vam→Int→Nat→(((Int×Int×Int)⊕(Int×Int))→Option Res)→Option Res
 |[],s1,i,k=>
  k (.inr (s1,(i:Int)))
 |y::l,s1,i,k=>
  vtt y s1 (fun y1=>
   bif (decide (y1<(0:Int)))then
    k (.inl (y1,(-1:Int),(i:Int)))
   else
    vl9 u0 u2 l y1 (i+1) k)
theorem wd4 {u0} {u2}(h0:u0.length<9223372036854775807){K:(q2T⊕q2T)→Option Res}:∀(l:List vam) (i:Nat) (s1:Int) (n:Nat),u0.drop i=l→l.length<n→vac vi3 n (u0,s1,u2,(i:Int)) K=vl9 u0 u2 l s1 i (Sum.elim (fun z=>K (.inl (u0,z.1,z.2.1,z.2.2))) (fun z=>K (.inr (u0,z.1,u2,z.2)))):=by
 intro l
 induction l with
 |nil=>
  intro i s1 n hd hn
  have hge:=vay hd
  cases n with
  |zero=>exact absurd hn (Nat.not_lt_zero _)
  |succ n=>simp only [vac,vi3,vl9,hge,decide_false,cond_false,Sum.elim_inr,Sum.elim_inl]
 |cons y l ih=>
  intro i s1 n hd hn
  obtain⟨hlt,hz,hd2,hw,hnn⟩:=van hd h0
  have hy:=vap hd
  cases n with
  |zero=>exact absurd hn (Nat.not_lt_zero _)
  |succ n=>
   have ih2:=fun(s1:Int)=>ih (i+1) s1 n hd2 (Nat.lt_of_succ_lt_succ hn)
   simp only [vac,vi3,vl9,hlt,hz,decide_true,cond_true,and_self,if_true,hy,hw,hnn,Sum.elim_inl,Sum.elim_inr,ih2]
theorem wfy {u0} {u2}(h0:u0.length<9223372036854775807){K:(q2T⊕q2T)→Option Res}{s1:Int}:vac vi3 Fuel (u0,s1,u2,(0:Int)) K=vl9 u0 u2 u0 s1 0 (Sum.elim (fun z=>K (.inl (u0,z.1,z.2.1,z.2.2))) (fun z=>K (.inr (u0,z.1,u2,z.2)))):=
 wd4 h0 u0 0 s1 Fuel rfl (vao h0)
def vlh (u0:(List val))(u2:Int):List val→Int→Nat→(((Int×Int×Int)⊕(Int×Int))→Option Res)→Option Res
 |[],s1,i,k=>
  k (.inr (s1,(i:Int)))
 |y::l,s1,i,k=>
  vt5 y s1 (fun y1=>
   bif (decide (y1<(0:Int)))then
    k (.inl (y1,(-1:Int),(i:Int)))
   else
    vlh u0 u2 l y1 (i+1) k)
theorem wb7 {u0} {u2}(h0:u0.length<9223372036854775807){K:(q19T⊕q19T)→Option Res}:∀(l:List val) (i:Nat) (s1:Int) (n:Nat),u0.drop i=l→l.length<n→vac vik n (u0,s1,u2,(i:Int)) K=vlh u0 u2 l s1 i (Sum.elim (fun z=>K (.inl (u0,z.1,z.2.1,z.2.2))) (fun z=>K (.inr (u0,z.1,u2,z.2)))):=by
 intro l
 induction l with
 |nil=>
  intro i s1 n hd hn
  have hge:=vay hd
  cases n with
  |zero=>exact absurd hn (Nat.not_lt_zero _)
  |succ n=>simp only [vac,vik,vlh,hge,decide_false,cond_false,Sum.elim_inr,Sum.elim_inl]
 |cons y l ih=>
  intro i s1 n hd hn
  obtain⟨hlt,hz,hd2,hw,hnn⟩:=van hd h0
  have hy:=vap hd
  cases n with
  |zero=>exact absurd hn (Nat.not_lt_zero _)
  |succ n=>
   have ih2:=fun(s1:Int)=>ih (i+1) s1 n hd2 (Nat.lt_of_succ_lt_succ hn)
   simp only [vac,vik,vlh,hlt,hz,decide_true,cond_true,and_self,if_true,hy,hw,hnn,Sum.elim_inl,Sum.elim_inr,ih2]
theorem wdr {u0} {u2}(h0:u0.length<9223372036854775807){K:(q19T⊕q19T)→Option Res}{s1:Int}:vac vik Fuel (u0,s1,u2,(0:Int)) K=vlh u0 u2 u0 s1 0 (Sum.elim (fun z=>K (.inl (u0,z.1,z.2.1,z.2.2))) (fun z=>K (.inr (u0,z.1,u2,z.2)))):=
 wb7 h0 u0 0 s1 Fuel rfl (vao h0)
def vlf (u0:(List dTxn))(u2:Int):List dTxn→Int→Nat→(((Int×Int×Int)⊕(Int×Int))→Option Res)→Option Res
 |[],s1,i,k=>
  k (.inr (s1,(i:Int)))
 |y::l,s1,i,k=>
  vvc y s1 (fun y1=>
   bif (decide (y1<(0:Int)))then
    k (.inl (y1,(-1:Int),(i:Int)))
   else
    vlf u0 u2 l y1 (i+1) k)
theorem wcn {u0} {u2}(h0:u0.length<9223372036854775807){K:(q7T⊕q7T)→Option Res}:∀(l:List dTxn) (i:Nat) (s1:Int) (n:Nat),u0.drop i=l→l.length<n→vac vio n (u0,s1,u2,(i:Int)) K=vlf u0 u2 l s1 i (Sum.elim (fun z=>K (.inl (u0,z.1,z.2.1,z.2.2))) (fun z=>K (.inr (u0,z.1,u2,z.2)))):=by
 intro l
 induction l with
 |nil=>
  intro i s1 n hd hn
  have hge:=vay hd
  cases n with
  |zero=>exact absurd hn (Nat.not_lt_zero _)
  |succ n=>simp only [vac,vio,vlf,hge,decide_false,cond_false,Sum.elim_inr,Sum.elim_inl]
 |cons y l ih=>
  intro i s1 n hd hn
  obtain⟨hlt,hz,hd2,hw,hnn⟩:=van hd h0
  have hy:=vap hd
  cases n with
  |zero=>exact absurd hn (Nat.not_lt_zero _)
  |succ n=>
   have ih2:=fun(s1:Int)=>ih (i+1) s1 n hd2 (Nat.lt_of_succ_lt_succ hn)
   simp only [vac,vio,vlf,hlt,hz,decide_true,cond_true,and_self,if_true,hy,hw,hnn,Sum.elim_inl,Sum.elim_inr,ih2]
theorem wdf {u0} {u2}(h0:u0.length<9223372036854775807){K:(q7T⊕q7T)→Option Res}{s1:Int}:vac vio Fuel (u0,s1,u2,(0:Int)) K=vlf u0 u2 u0 s1 0 (Sum.elim (fun z=>K (.inl (u0,z.1,z.2.1,z.2.2))) (fun z=>K (.inr (u0,z.1,u2,z.2)))):=
 wcn h0 u0 0 s1 Fuel rfl (vao h0)
def vgf (u0:(List vaa)):List vaa→(List vaa)→Nat→((Int×(List vaa))→Option Res)→Option Res
 |[],s2,i,k=>
  k ((i:Int),s2)
 |y::l,s2,i,k=>
  vtx y (fun y1=>
   if 0≤(i:Int)∧(i:Int)<(s2.length:Int)then
    vgf u0 l (s2.set (i:Int).toNat y1) (i+1) k
   else none)
theorem wfo {u0}(h0:u0.length<9223372036854775807){K:q13T→Option Res}:∀(l:List vaa) (i:Nat) (s2:(List vaa)) (n:Nat),u0.drop i=l→l.length<n→vac vic n (u0,(i:Int),s2) K=vgf u0 l s2 i (fun z=>K (u0,z.1,z.2)):=by
 intro l
 induction l with
 |nil=>
  intro i s2 n hd hn
  have hge:=vay hd
  cases n with
  |zero=>exact absurd hn (Nat.not_lt_zero _)
  |succ n=>simp only [vac,vic,vgf,hge,decide_false,cond_false,Sum.elim_inr,Sum.elim_inl]
 |cons y l ih=>
  intro i s2 n hd hn
  obtain⟨hlt,hz,hd2,hw,hnn⟩:=van hd h0
  have hy:=vap hd
  cases n with
  |zero=>exact absurd hn (Nat.not_lt_zero _)
  |succ n=>
   have ih2:=fun(s2:(List vaa))=>ih (i+1) s2 n hd2 (Nat.lt_of_succ_lt_succ hn)
   simp only [vac,vic,vgf,hlt,hz,decide_true,cond_true,and_self,if_true,hy,hw,hnn,Sum.elim_inl,Sum.elim_inr,ih2]
theorem wcb {u0}(h0:u0.length<9223372036854775807){K:q13T→Option Res}{s2:(List vaa)}:vac vic Fuel (u0,(0:Int),s2) K=vgf u0 u0 s2 0 (fun z=>K (u0,z.1,z.2)):=
 wfo h0 u0 0 s2 Fuel rfl (vao h0)
def v78 (a0:(List vaa))(k:(List vaa)→Option Res):Option Res:=
 if 0≤(a0.length:Int)∧(a0.length:Int)≤(a0.length:Int)∧(a0.length:Int)≤(VE.maxLen:Int)then
  vgf a0 a0 (List.replicate (a0.length:Int).toNat (Ty.zero tVersion)) 0 (fun z48=>
   k z48.2)
 else none
theorem wjr {a0:(List vaa)}(h0:a0.length<9223372036854775807){k:(List vaa)→Option Res}:vv1 a0 k=v78 a0 k:=by
 rw [wa5]
 simp only [v3a,v78,(wcb h0),Sum.elim_inl,Sum.elim_inr]
def vgi (u0:(List vam)):List vam→(List vam)→Nat→((Int×(List vam))→Option Res)→Option Res
 |[],s2,i,k=>
  k ((i:Int),s2)
 |y::l,s2,i,k=>
  vui y (fun y1=>
   if 0≤(i:Int)∧(i:Int)<(s2.length:Int)then
    vgi u0 l (s2.set (i:Int).toNat y1) (i+1) k
   else none)
theorem wfm {u0}(h0:u0.length<9223372036854775807){K:q1T→Option Res}:∀(l:List vam) (i:Nat) (s2:(List vam)) (n:Nat),u0.drop i=l→l.length<n→vac vjn n (u0,(i:Int),s2) K=vgi u0 l s2 i (fun z=>K (u0,z.1,z.2)):=by
 intro l
 induction l with
 |nil=>
  intro i s2 n hd hn
  have hge:=vay hd
  cases n with
  |zero=>exact absurd hn (Nat.not_lt_zero _)
  |succ n=>simp only [vac,vjn,vgi,hge,decide_false,cond_false,Sum.elim_inr,Sum.elim_inl]
 |cons y l ih=>
  intro i s2 n hd hn
  obtain⟨hlt,hz,hd2,hw,hnn⟩:=van hd h0
  have hy:=vap hd
  cases n with
  |zero=>exact absurd hn (Nat.not_lt_zero _)
  |succ n=>
   have ih2:=fun(s2:(List vam))=>ih (i+1) s2 n hd2 (Nat.lt_of_succ_lt_succ hn)
   simp only [vac,vjn,vgi,hlt,hz,decide_true,cond_true,and_self,if_true,hy,hw,hnn,Sum.elim_inl,Sum.elim_inr,ih2]
theorem wcm {u0}(h0:u0.length<9223372036854775807){K:q1T→Option Res}{s2:(List vam)}:vac vjn Fuel (u0,(0:Int),s2) K=vgi u0 u0 s2 0 (fun z=>K (u0,z.1,z.2)):=
 wfm h0 u0 0 s2 Fuel rfl (vao h0)
def wax (a0:(List vam))(k:(List vam)→Option Res):Option Res:=
 if 0≤(a0.length:Int)∧(a0.length:Int)≤(a0.length:Int)∧(a0.length:Int)≤(VE.maxLen:Int)then
  vgi a0 a0 (List.replicate (a0.length:Int).toNat (Ty.zero tRange)) 0 (fun z48=>
   k z48.2)
 else none
theorem wlf {a0:(List vam)}(h0:a0.length<9223372036854775807){k:(List vam)→Option Res}:vtr a0 k=wax a0 k:=by
 rw [wag]
 simp only [v5m,wax,(wcm h0),Sum.elim_inl,Sum.elim_inr]
def vgr (u0:(List val)):List val→(List val)→Nat→((Int×(List val))→Option Res)→Option Res
 |[],s2,i,k=>
  k ((i:Int),s2)
 |y::l,s2,i,k=>
  vvk y (fun y1=>
   if 0≤(i:Int)∧(i:Int)<(s2.length:Int)then
    vgr u0 l (s2.set (i:Int).toNat y1) (i+1) k
   else none)
theorem wdg {u0}(h0:u0.length<9223372036854775807){K:q18T→Option Res}:∀(l:List val) (i:Nat) (s2:(List val)) (n:Nat),u0.drop i=l→l.length<n→vac viv n (u0,(i:Int),s2) K=vgr u0 l s2 i (fun z=>K (u0,z.1,z.2)):=by
 intro l
 induction l with
 |nil=>
  intro i s2 n hd hn
  have hge:=vay hd
  cases n with
  |zero=>exact absurd hn (Nat.not_lt_zero _)
  |succ n=>simp only [vac,viv,vgr,hge,decide_false,cond_false,Sum.elim_inr,Sum.elim_inl]
 |cons y l ih=>
  intro i s2 n hd hn
  obtain⟨hlt,hz,hd2,hw,hnn⟩:=van hd h0
  have hy:=vap hd
  cases n with
  |zero=>exact absurd hn (Nat.not_lt_zero _)
  |succ n=>
   have ih2:=fun(s2:(List val))=>ih (i+1) s2 n hd2 (Nat.lt_of_succ_lt_succ hn)
   simp only [vac,viv,vgr,hlt,hz,decide_true,cond_true,and_self,if_true,hy,hw,hnn,Sum.elim_inl,Sum.elim_inr,ih2]
theorem wc6 {u0}(h0:u0.length<9223372036854775807){K:q18T→Option Res}{s2:(List val)}:vac viv Fuel (u0,(0:Int),s2) K=vgr u0 u0 s2 0 (fun z=>K (u0,z.1,z.2)):=
 wdg h0 u0 0 s2 Fuel rfl (vao h0)
def wb3 (a0:(List val))(k:(List val)→Option Res):Option Res:=
 if 0≤(a0.length:Int)∧(a0.length:Int)≤(a0.length:Int)∧(a0.length:Int)≤(VE.maxLen:Int)then
  vgr a0 a0 (List.replicate (a0.length:Int).toNat (Ty.zero tWrite)) 0 (fun z48=>
   k z48.2)
 else none
theorem wj5 {a0:(List val)}(h0:a0.length<9223372036854775807){k:(List val)→Option Res}:vu0 a0 k=wb3 a0 k:=by
 rw [v8d]
 simp only [v24,wb3,(wc6 h0),Sum.elim_inl,Sum.elim_inr]
def vf0 (u0:(List dTxn)):List dTxn→(List dTxn)→Nat→((Int×(List dTxn))→Option Res)→Option Res
 |[],s2,i,k=>
  k ((i:Int),s2)
 |y::l,s2,i,k=>
  vqz y (fun y1=>
   if 0≤(i:Int)∧(i:Int)<(s2.length:Int)then
    vf0 u0 l (s2.set (i:Int).toNat (y1.1,(y1.2.1,(y1.2.2.1,(y1.2.2.2.1,(y1.2.2.2.2.2.2.1,(y1.2.2.2.2.2.2.2,(y1.2.2.2.2.1,y1.2.2.2.2.2.1)))))))) (i+1) k
   else none)
theorem wc4 {u0}(h0:u0.length<9223372036854775807){K:q4T→Option Res}:∀(l:List dTxn) (i:Nat) (s2:(List dTxn)) (n:Nat),u0.drop i=l→l.length<n→vac vkd n (u0,(i:Int),s2) K=vf0 u0 l s2 i (fun z=>K (u0,z.1,z.2)):=by
 intro l
 induction l with
 |nil=>
  intro i s2 n hd hn
  have hge:=vay hd
  cases n with
  |zero=>exact absurd hn (Nat.not_lt_zero _)
  |succ n=>simp only [vac,vkd,vf0,hge,decide_false,cond_false,Sum.elim_inr,Sum.elim_inl]
 |cons y l ih=>
  intro i s2 n hd hn
  obtain⟨hlt,hz,hd2,hw,hnn⟩:=van hd h0
  have hy:=vap hd
  cases n with
  |zero=>exact absurd hn (Nat.not_lt_zero _)
  |succ n=>
   have ih2:=fun(s2:(List dTxn))=>ih (i+1) s2 n hd2 (Nat.lt_of_succ_lt_succ hn)
   simp only [vac,vkd,vf0,hlt,hz,decide_true,cond_true,and_self,if_true,hy,hw,hnn,Sum.elim_inl,Sum.elim_inr,ih2]
theorem wd9 {u0}(h0:u0.length<9223372036854775807){K:q4T→Option Res}{s2:(List dTxn)}:vac vkd Fuel (u0,(0:Int),s2) K=vf0 u0 u0 s2 0 (fun z=>K (u0,z.1,z.2)):=
 wc4 h0 u0 0 s2 Fuel rfl (vao h0)
def v91 (a0:(List dTxn))(k:(List dTxn)→Option Res):Option Res:=
 if 0≤(a0.length:Int)∧(a0.length:Int)≤(a0.length:Int)∧(a0.length:Int)≤(VE.maxLen:Int)then
  vf0 a0 a0 (List.replicate (a0.length:Int).toNat (Ty.zero tTxn)) 0 (fun z48=>
   k z48.2)
 else none
theorem wky {a0:(List dTxn)}(h0:a0.length<9223372036854775807){k:(List dTxn)→Option Res}:vov a0 k=v91 a0 k:=by
 rw [v7y]
 simp only [v4z,v91,(wd9 h0),Sum.elim_inl,Sum.elim_inr]
def vhy (u0:(List dTxn)):List dTxn→(List dTxn)→Nat→((Int×(List dTxn))→Option Res)→Option Res
 |[],s2,i,k=>
  k ((i:Int),s2)
 |y::l,s2,i,k=>
  voi y (fun y1=>
   if s2.length+[(y1.1,(y1.2.1,(y1.2.2.1,(y1.2.2.2.1,(y1.2.2.2.2.2.2.1,(y1.2.2.2.2.2.2.2,(y1.2.2.2.2.1,y1.2.2.2.2.2.1)))))))].length≤VE.maxLen then
    vhy u0 l (s2++[(y1.1,(y1.2.1,(y1.2.2.1,(y1.2.2.2.1,(y1.2.2.2.2.2.2.1,(y1.2.2.2.2.2.2.2,(y1.2.2.2.2.1,y1.2.2.2.2.2.1)))))))]) (i+1) k
   else none)
theorem wfz {u0}(h0:u0.length<9223372036854775807){K:q4T→Option Res}:∀(l:List dTxn) (i:Nat) (s2:(List dTxn)) (n:Nat),u0.drop i=l→l.length<n→vac vjj n (u0,(i:Int),s2) K=vhy u0 l s2 i (fun z=>K (u0,z.1,z.2)):=by
 intro l
 induction l with
 |nil=>
  intro i s2 n hd hn
  have hge:=vay hd
  cases n with
  |zero=>exact absurd hn (Nat.not_lt_zero _)
  |succ n=>simp only [vac,vjj,vhy,hge,decide_false,cond_false,Sum.elim_inr,Sum.elim_inl]
 |cons y l ih=>
  intro i s2 n hd hn
  obtain⟨hlt,hz,hd2,hw,hnn⟩:=van hd h0
  have hy:=vap hd
  cases n with
  |zero=>exact absurd hn (Nat.not_lt_zero _)
  |succ n=>
   have ih2:=fun(s2:(List dTxn))=>ih (i+1) s2 n hd2 (Nat.lt_of_succ_lt_succ hn)
   simp only [vac,vjj,vhy,hlt,hz,decide_true,cond_true,and_self,if_true,hy,hw,hnn,Sum.elim_inl,Sum.elim_inr,ih2]
theorem wfi {u0}(h0:u0.length<9223372036854775807){K:q4T→Option Res}{s2:(List dTxn)}:vac vjj Fuel (u0,(0:Int),s2) K=vhy u0 u0 s2 0 (fun z=>K (u0,z.1,z.2)):=
 wfz h0 u0 0 s2 Fuel rfl (vao h0)
def wbg (a0:(List dTxn))(k:(List dTxn)→Option Res):Option Res:=
 vhy a0 a0 ([]:List dTxn) 0 (fun z48=>
  k z48.2)
theorem wjm {a0:(List dTxn)}(h0:a0.length<9223372036854775807){k:(List dTxn)→Option Res}:vo0 a0 k=wbg a0 k:=by
 rw [v8c]
 simp only [v2z,wbg,(wfi h0),Sum.elim_inl,Sum.elim_inr]
def vf8 (u0:Int)(u1:Int)(u3:(List vaa))(u4:(List dTxn))(u5:(List dTxn))(u6:Int)(u7:Int)(u8:(List dTxn)):List dTxn→Nat→(((Int×Int)⊕Int)→Option Res)→Option Res
 |[],i,k=>
  k (.inr (i:Int))
 |y::l,i,k=>
  bif (y.1==u0)then
   k (.inl ((i:Int),(i:Int)))
  else
   vf8 u0 u1 u3 u4 u5 u6 u7 u8 l (i+1) k
theorem wck {u0} {u1} {u3} {u4} {u5} {u6} {u7} {u8}(h0:u8.length<9223372036854775807){K:(q39T⊕q39T)→Option Res}:∀(l:List dTxn) (i:Nat)  (n:Nat),u8.drop i=l→l.length<n→vac vjc n (u0,u1,(i:Int),u3,u4,u5,u6,u7,u8) K=vf8 u0 u1 u3 u4 u5 u6 u7 u8 l  i (Sum.elim (fun z=>K (.inl (u0,z.1,z.2,u3,u4,u5,u6,u7,u8))) (fun z=>K (.inr (u0,u1,z,u3,u4,u5,u6,u7,u8)))):=by
 intro l
 induction l with
 |nil=>
  intro i  n hd hn
  have hge:=vay hd
  cases n with
  |zero=>exact absurd hn (Nat.not_lt_zero _)
  |succ n=>simp only [vac,vjc,vf8,hge,decide_false,cond_false,Sum.elim_inr,Sum.elim_inl]
 |cons y l ih=>
  intro i  n hd hn
  obtain⟨hlt,hz,hd2,hw,hnn⟩:=van hd h0
  have hy:=vap hd
  cases n with
  |zero=>exact absurd hn (Nat.not_lt_zero _)
  |succ n=>
   have ih2:=ih (i+1)  n hd2 (Nat.lt_of_succ_lt_succ hn)
   simp only [vac,vjc,vf8,hlt,hz,decide_true,cond_true,and_self,if_true,hy,hw,hnn,Sum.elim_inl,Sum.elim_inr,ih2]
theorem wcz {u0} {u1} {u3} {u4} {u5} {u6} {u7} {u8}(h0:u8.length<9223372036854775807){K:(q39T⊕q39T)→Option Res}  : vac vjc Fuel (u0,u1,(0:Int),u3,u4,u5,u6,u7,u8) K=vf8 u0 u1 u3 u4 u5 u6 u7 u8 u8  0 (Sum.elim (fun z=>K (.inl (u0,z.1,z.2,u3,u4,u5,u6,u7,u8))) (fun z=>K (.inr (u0,u1,z,u3,u4,u5,u6,u7,u8)))):=
 wck h0 u8 0  Fuel rfl (vao h0)
def wa4 (a0:va7)(a1:Int)(k:Int→Option Res):Option Res:=
 vf8 a1 (0:Int) a0.1.1 a0.1.2.1 a0.1.2.2.1 a0.1.2.2.2.1 a0.1.2.2.2.2 a0.2 a0.2  0 (Sum.elim (fun z48=>
  k z48.1) (fun _=>
  k (-1:Int)))
theorem wkq {a0:va7}{a1:Int}(h0:a0.2.length<9223372036854775807){k:Int→Option Res}:vu2 a0 a1 k=wa4 a0 a1 k:=by
 rw [wan]
 simp only [v2y,wa4,(wcz h0),Sum.elim_inl,Sum.elim_inr]
def vhj (u0:(List dTxn)):List dTxn→Int→Nat→((Int×Int)→Option Res)→Option Res
 |[],s1,i,k=>
  k (s1,(i:Int))
 |y::l,s1,i,k=>
  bif (decide (y.2.2.1<s1))then
   vhj u0 l y.2.2.1 (i+1) k
  else
   vhj u0 l s1 (i+1) k
theorem wcs {u0}(h0:u0.length<9223372036854775807){K:((List dTxn)×Int×Int)→Option Res}:∀(l:List dTxn) (i:Nat) (s1:Int) (n:Nat),u0.drop i=l→l.length<n→vac viq n (u0,s1,(i:Int)) K=vhj u0 l s1 i (fun z=>K (u0,z.1,z.2)):=by
 intro l
 induction l with
 |nil=>
  intro i s1 n hd hn
  have hge:=vay hd
  cases n with
  |zero=>exact absurd hn (Nat.not_lt_zero _)
  |succ n=>simp only [vac,viq,vhj,hge,decide_false,cond_false,Sum.elim_inr,Sum.elim_inl]
 |cons y l ih=>
  intro i s1 n hd hn
  obtain⟨hlt,hz,hd2,hw,hnn⟩:=van hd h0
  have hy:=vap hd
  cases n with
  |zero=>exact absurd hn (Nat.not_lt_zero _)
  |succ n=>
   have ih2:=fun(s1:Int)=>ih (i+1) s1 n hd2 (Nat.lt_of_succ_lt_succ hn)
   simp only [vac,viq,vhj,hlt,hz,decide_true,cond_true,and_self,if_true,hy,hw,hnn,Sum.elim_inl,Sum.elim_inr,ih2]
theorem wfw {u0}(h0:u0.length<9223372036854775807){K:((List dTxn)×Int×Int)→Option Res}{s1:Int}:vac viq Fuel (u0,s1,(0:Int)) K=vhj u0 u0 s1 0 (fun z=>K (u0,z.1,z.2)):=
 wcs h0 u0 0 s1 Fuel rfl (vao h0)
def v9y (a0:vc9)(a1:(List dTxn))(k:Int→Option Res):Option Res:=
 vhj a1 a1 a0.2.2.2.1 0 (fun z48=>
  k z48.1)
theorem wk4 {a0:vc9}{a1:(List dTxn)}(h0:a1.length<9223372036854775807){k:Int→Option Res}:vp8 a0 a1 k=v9y a0 a1 k:=by
 rw [wae]
 simp only [v3t,v9y,(wfw h0),Sum.elim_inl,Sum.elim_inr]
def vea (u0:(List vaa))(u1:ByteArray)(u2:Int):List vaa→Int→Nat→((Int×Int)→Option Res)→Option Res
 |[],s3,i,k=>
  k (s3,(i:Int))
 |y::l,s3,i,k=>
  bif (vbm (y.1) u1)then
   bif (decide (y.2.2.2≤u2))then
    bif (decide (s3<(0:Int)))then
     vea u0 u1 u2 l (i:Int) (i+1) k
    else
     if 0≤s3∧s3<(u0.length:Int)then
      bif (decide (y.2.2.2>(rd (Ty.zero tVersion) u0 s3).2.2.2))then
       vea u0 u1 u2 l (i:Int) (i+1) k
      else
       vea u0 u1 u2 l s3 (i+1) k
     else none
   else
    vea u0 u1 u2 l s3 (i+1) k
  else
   vea u0 u1 u2 l s3 (i+1) k
theorem wcu {u0} {u1} {u2}(h0:u0.length<9223372036854775807){K:q10T→Option Res}:∀(l:List vaa) (i:Nat) (s3:Int) (n:Nat),u0.drop i=l→l.length<n→vac vjt n (u0,u1,u2,s3,(i:Int)) K=vea u0 u1 u2 l s3 i (fun z=>K (u0,u1,u2,z.1,z.2)):=by
 intro l
 induction l with
 |nil=>
  intro i s3 n hd hn
  have hge:=vay hd
  cases n with
  |zero=>exact absurd hn (Nat.not_lt_zero _)
  |succ n=>simp only [vac,vjt,vea,hge,decide_false,cond_false,Sum.elim_inr,Sum.elim_inl]
 |cons y l ih=>
  intro i s3 n hd hn
  obtain⟨hlt,hz,hd2,hw,hnn⟩:=van hd h0
  have hy:=vap hd
  cases n with
  |zero=>exact absurd hn (Nat.not_lt_zero _)
  |succ n=>
   have ih2:=fun(s3:Int)=>ih (i+1) s3 n hd2 (Nat.lt_of_succ_lt_succ hn)
   simp only [vac,vjt,vea,hlt,hz,decide_true,cond_true,and_self,if_true,hy,hw,hnn,Sum.elim_inl,Sum.elim_inr,ih2]
theorem wee {u0} {u1} {u2}(h0:u0.length<9223372036854775807){K:q10T→Option Res}{s3:Int}:vac vjt Fuel (u0,u1,u2,s3,(0:Int)) K=vea u0 u1 u2 u0 s3 0 (fun z=>K (u0,u1,u2,z.1,z.2)):=
 wcu h0 u0 0 s3 Fuel rfl (vao h0)
def wbv (a0:(List vaa))(a1:ByteArray)(a2:Int)(k:Int→Option Res):Option Res:=
 vea a0 a1 a2 a0 (-1:Int) 0 (fun z48=>
  k z48.1)
theorem wj6 {a0:(List vaa)}{a1:ByteArray}{a2:Int}(h0:a0.length<9223372036854775807){k:Int→Option Res}:vsp a0 a1 a2 k=wbv a0 a1 a2 k:=by
 rw [v9g]
 simp only [v5g,wbv,(wee h0),Sum.elim_inl,Sum.elim_inr]
def vch (u0:(List vaa))(u1:Int)(u2:Int)(u3:Bool)(u4:(List vaa))(k:(List vaa)→Option Res):Option Res:=
  bif u3 then
   if 0≤u2∧u2<(u0.length:Int)then
    if u4.length+[(rd (Ty.zero tVersion) u0 u2)].length≤VE.maxLen then
     k (u4++[(rd (Ty.zero tVersion) u0 u2)])
    else none
   else none
  else
   k u4
theorem vip {u0} {u1} {u2} {u3} {u4}  {K:q15T→Option Res}:vb1 (u0,u1,u2,u3,u4) K=vch u0 u1 u2 u3 u4 (fun z=>K (u0,u1,u2,u3,z)):=by
 simp only [vb1,vch,Sum.elim_inl,Sum.elim_inr]
def vgj (u0:(List vaa))(u1:Int):List vaa→(List vaa)→Nat→((Int×(List vaa))→Option Res)→Option Res
 |[],s3,i,k=>
  k ((i:Int),s3)
 |y::l,s3,i,k=>
  vsp u0 y.1 u1 (fun y1=>
   bif (decide (y.2.2.2>u1))then
    vch u0 u1 (i:Int) true s3 (fun z2=>
     vgj u0 u1 l z2 (i+1) k)
   else
    vch u0 u1 (i:Int) (y1==(i:Int)) s3 (fun z3=>
     vgj u0 u1 l z3 (i+1) k))
theorem wd2 {u0} {u1}(h0:u0.length<9223372036854775807){K:q14T→Option Res}:∀(l:List vaa) (i:Nat) (s3:(List vaa)) (n:Nat),u0.drop i=l→l.length<n→vac vi0 n (u0,u1,(i:Int),s3) K=vgj u0 u1 l s3 i (fun z=>K (u0,u1,z.1,z.2)):=by
 intro l
 induction l with
 |nil=>
  intro i s3 n hd hn
  have hge:=vay hd
  cases n with
  |zero=>exact absurd hn (Nat.not_lt_zero _)
  |succ n=>simp only [vac,vi0,vgj,hge,decide_false,cond_false,Sum.elim_inr,Sum.elim_inl,vip]
 |cons y l ih=>
  intro i s3 n hd hn
  obtain⟨hlt,hz,hd2,hw,hnn⟩:=van hd h0
  have hy:=vap hd
  cases n with
  |zero=>exact absurd hn (Nat.not_lt_zero _)
  |succ n=>
   have ih2:=fun(s3:(List vaa))=>ih (i+1) s3 n hd2 (Nat.lt_of_succ_lt_succ hn)
   simp only [vac,vi0,vgj,hlt,hz,decide_true,cond_true,and_self,if_true,hy,hw,hnn,Sum.elim_inl,Sum.elim_inr,ih2,vip]
theorem wdq {u0} {u1}(h0:u0.length<9223372036854775807){K:q14T→Option Res}{s3:(List vaa)}:vac vi0 Fuel (u0,u1,(0:Int),s3) K=vgj u0 u1 u0 s3 0 (fun z=>K (u0,u1,z.1,z.2)):=
 wd2 h0 u0 0 s3 Fuel rfl (vao h0)
def vb4 (u0:Int)(u1:Int)(u2:Bool)(u3:(List vaa))(u4:(List vaa))(k:(List vaa)→Option Res):Option Res:=
  bif u2 then
   if 0≤u1∧u1<(u3.length:Int)then
    if u4.length+[(u3.getD u1.toNat (Ty.zero tVersion))].length≤VE.maxLen then
     k (u4++[(u3.getD u1.toNat (Ty.zero tVersion))])
    else none
   else none
  else
   k u4
theorem vij {u0} {u1} {u2} {u3} {u4}  {K:q37T→Option Res}:vbt (u0,u1,u2,u3,u4) K=vb4 u0 u1 u2 u3 u4 (fun z=>K (u0,u1,u2,u3,z)):=by
 simp only [vbt,vb4,Sum.elim_inl,Sum.elim_inr]
def vh5 (u0:Int)(u1:Int)(u4:(List vaa))(u5:(List vaa)):List vaa→Int→Nat→((Int×Int)→Option Res)→Option Res
 |[],s2,i,k=>
  k (s2,(i:Int))
 |y::l,s2,i,k=>
  if 0≤u1∧u1<(u4.length:Int)then
   bif (vbm (y.1) ((u4.getD u1.toNat (Ty.zero tVersion)).1))then
    vh5 u0 u1 u4 u5 l (IntKind.wrap .i64 (s2+(1:Int))) (i+1) k
   else
    vh5 u0 u1 u4 u5 l s2 (i+1) k
  else none
theorem wcd {u0} {u1} {u4} {u5}(h0:u4.length<9223372036854775807){K:q42T→Option Res}:∀(l:List vaa) (i:Nat) (s2:Int) (n:Nat),u4.drop i=l→l.length<n→vac vkc n (u0,u1,s2,(i:Int),u4,u5) K=vh5 u0 u1 u4 u5 l s2 i (fun z=>K (u0,u1,z.1,z.2,u4,u5)):=by
 intro l
 induction l with
 |nil=>
  intro i s2 n hd hn
  have hge:=vay hd
  cases n with
  |zero=>exact absurd hn (Nat.not_lt_zero _)
  |succ n=>simp only [vac,vkc,vh5,hge,decide_false,cond_false,Sum.elim_inr,Sum.elim_inl]
 |cons y l ih=>
  intro i s2 n hd hn
  obtain⟨hlt,hz,hd2,hw,hnn⟩:=van hd h0
  have hy:=vap hd
  cases n with
  |zero=>exact absurd hn (Nat.not_lt_zero _)
  |succ n=>
   have ih2:=fun(s2:Int)=>ih (i+1) s2 n hd2 (Nat.lt_of_succ_lt_succ hn)
   simp only [vac,vkc,vh5,hlt,hz,decide_true,cond_true,and_self,if_true,hy,hw,hnn,Sum.elim_inl,Sum.elim_inr,ih2]
theorem v3k {u0} {u1} {u4} {u5}(h0:u4.length<9223372036854775807){K:q42T→Option Res}{s2:Int}:vac vkc Fuel (u0,u1,s2,(0:Int),u4,u5) K=vh5 u0 u1 u4 u5 u4 s2 0 (fun z=>K (u0,u1,z.1,z.2,u4,u5)):=
 wcd h0 u4 0 s2 Fuel rfl (vao h0)
def vfw (u0:Int)(u2:(List vaa)):List vaa→(List vaa)→Nat→((Int×(List vaa))→Option Res)→Option Res
 |[],s3,i,k=>
  k ((i:Int),s3)
 |y::l,s3,i,k=>
  vh5 u0 (i:Int) u2 s3 u2 (0:Int) 0 (fun z1=>
   bif (!y.2.2.1)then
    vb4 u0 (i:Int) true u2 s3 (fun z2=>
     vfw u0 u2 l z2 (i+1) k)
   else
    bif (decide (y.2.2.2>u0))then
     vb4 u0 (i:Int) true u2 s3 (fun z3=>
      vfw u0 u2 l z3 (i+1) k)
    else
     vb4 u0 (i:Int) (decide (z1.1>(1:Int))) u2 s3 (fun z4=>
      vfw u0 u2 l z4 (i+1) k))
theorem we0 {u0} {u2}(h0:u2.length<9223372036854775807){K:q36T→Option Res}:∀(l:List vaa) (i:Nat) (s3:(List vaa)) (n:Nat),u2.drop i=l→l.length<n→vac vhl n (u0,(i:Int),u2,s3) K=vfw u0 u2 l s3 i (fun z=>K (u0,z.1,u2,z.2)):=by
 intro l
 induction l with
 |nil=>
  intro i s3 n hd hn
  have hge:=vay hd
  cases n with
  |zero=>exact absurd hn (Nat.not_lt_zero _)
  |succ n=>simp only [vac,vhl,vfw,hge,decide_false,cond_false,Sum.elim_inr,Sum.elim_inl,vij,(v3k h0)]
 |cons y l ih=>
  intro i s3 n hd hn
  obtain⟨hlt,hz,hd2,hw,hnn⟩:=van hd h0
  have hy:=vap hd
  cases n with
  |zero=>exact absurd hn (Nat.not_lt_zero _)
  |succ n=>
   have ih2:=fun(s3:(List vaa))=>ih (i+1) s3 n hd2 (Nat.lt_of_succ_lt_succ hn)
   simp only [vac,vhl,vfw,hlt,hz,decide_true,cond_true,and_self,if_true,hy,hw,hnn,Sum.elim_inl,Sum.elim_inr,ih2,vij,(v3k h0)]
theorem wcc {u0} {u2}(h0:u2.length<9223372036854775807){K:q36T→Option Res}{s3:(List vaa)}:vac vhl Fuel (u0,(0:Int),u2,s3) K=vfw u0 u2 u2 s3 0 (fun z=>K (u0,z.1,u2,z.2)):=
 we0 h0 u2 0 s3 Fuel rfl (vao h0)
def v8y (a0:(List vaa))(a1:Int)(k:(List vaa)→Option Res):Option Res:=
 vgj a0 a1 a0 ([]:List vaa) 0 (fun z48=>
  vac vhl Fuel (a1,(0:Int),z48.2,([]:List vaa)) (fun z49=>
   k z49.2.2.2))
theorem wki {a0:(List vaa)}{a1:Int}(h0:a0.length<9223372036854775807){k:(List vaa)→Option Res}:vp5 a0 a1 k=v8y a0 a1 k:=by
 rw [war]
 simp only [v31,v8y,(wdq h0),Sum.elim_inl,Sum.elim_inr]
def vez (u0:Int)(u2:(List vaa))(u3:(List dTxn))(u4:(List dTxn))(u5:Int)(u6:Int)(u7:Int)(u8:Int)(u9:Int)(u10:Int)(u11:(List vaa))(u13:(List dTxn)):List dTxn→(List dTxn)→Nat→((Int×(List dTxn))→Option Res)→Option Res
 |[],s12,i,k=>
  k ((i:Int),s12)
 |y::l,s12,i,k=>
  bif (decide (y.2.2.2.1>u0))then
   voi y (fun y1=>
    if s12.length+[(y1.1,(y1.2.1,(y1.2.2.1,(y1.2.2.2.1,(y1.2.2.2.2.2.2.1,(y1.2.2.2.2.2.2.2,(y1.2.2.2.2.1,y1.2.2.2.2.2.1)))))))].length≤VE.maxLen then
     vez u0 u2 u3 u4 u5 u6 u7 u8 u9 u10 u11 u13 l (s12++[(y1.1,(y1.2.1,(y1.2.2.1,(y1.2.2.2.1,(y1.2.2.2.2.2.2.1,(y1.2.2.2.2.2.2.2,(y1.2.2.2.2.1,y1.2.2.2.2.2.1)))))))]) (i+1) k
    else none)
  else
   vez u0 u2 u3 u4 u5 u6 u7 u8 u9 u10 u11 u13 l s12 (i+1) k
theorem we5 {u0} {u2} {u3} {u4} {u5} {u6} {u7} {u8} {u9} {u10} {u11} {u13}(h0:u3.length<9223372036854775807){K:q34T→Option Res}:∀(l:List dTxn) (i:Nat) (s12:(List dTxn)) (n:Nat),u3.drop i=l→l.length<n→vac vib n (u0,(i:Int),u2,u3,u4,u5,u6,u7,u8,u9,u10,u11,s12,u13) K=vez u0 u2 u3 u4 u5 u6 u7 u8 u9 u10 u11 u13 l s12 i (fun z=>K (u0,z.1,u2,u3,u4,u5,u6,u7,u8,u9,u10,u11,z.2,u13)):=by
 intro l
 induction l with
 |nil=>
  intro i s12 n hd hn
  have hge:=vay hd
  cases n with
  |zero=>exact absurd hn (Nat.not_lt_zero _)
  |succ n=>simp only [vac,vib,vez,hge,decide_false,cond_false,Sum.elim_inr,Sum.elim_inl]
 |cons y l ih=>
  intro i s12 n hd hn
  obtain⟨hlt,hz,hd2,hw,hnn⟩:=van hd h0
  have hy:=vap hd
  cases n with
  |zero=>exact absurd hn (Nat.not_lt_zero _)
  |succ n=>
   have ih2:=fun(s12:(List dTxn))=>ih (i+1) s12 n hd2 (Nat.lt_of_succ_lt_succ hn)
   simp only [vac,vib,vez,hlt,hz,decide_true,cond_true,and_self,if_true,hy,hw,hnn,Sum.elim_inl,Sum.elim_inr,ih2]
theorem wfq {u0} {u2} {u3} {u4} {u5} {u6} {u7} {u8} {u9} {u10} {u11} {u13}(h0:u3.length<9223372036854775807){K:q34T→Option Res}{s12:(List dTxn)}:vac vib Fuel (u0,(0:Int),u2,u3,u4,u5,u6,u7,u8,u9,u10,u11,s12,u13) K=vez u0 u2 u3 u4 u5 u6 u7 u8 u9 u10 u11 u13 u3 s12 0 (fun z=>K (u0,z.1,u2,u3,u4,u5,u6,u7,u8,u9,u10,u11,z.2,u13)):=
 we5 h0 u3 0 s12 Fuel rfl (vao h0)
def v9k (a0:vc9)(a1:(List dTxn))(k:q35T→Option Res):Option Res:=
 vrc a0 (fun y48=>
  vp8 a0 a1 (fun y49=>
   vez y49 a0.1 a0.2.1 a0.2.2.1 a0.2.2.2.1 a0.2.2.2.2 (0:Int) (0:Int) y48.1 y48.2.1 y48.2.2.1 y48.2.2.2.2 a0.2.1 ([]:List dTxn) 0 (fun z50=>
    vp5 a0.1 y49 (fun y51=>
     k (y48.1,y48.2.1,y51,z50.2,y48.2.2.2.2)))))
theorem wjk {a0:vc9}{a1:(List dTxn)}(h0:a0.2.1.length<9223372036854775807){k:q35T→Option Res}:vrk a0 a1 k=v9k a0 a1 k:=by
 rw [v8h]
 simp only [v5q,v9k,(wfq h0),Sum.elim_inl,Sum.elim_inr]
def vex (u0:Int)(u2:Int)(u3:Int)(u4:(List vaa))(u5:(List dTxn))(u6:(List dTxn))(u7:(List dTxn)):List dTxn→(List dTxn)→Nat→((Int×(List dTxn))→Option Res)→Option Res
 |[],s8,i,k=>
  k ((i:Int),s8)
 |y::l,s8,i,k=>
  bif (y.1 != u0)then
   if s8.length+[y].length≤VE.maxLen then
    vex u0 u2 u3 u4 u5 u6 u7 l (s8++[y]) (i+1) k
   else none
  else
   vex u0 u2 u3 u4 u5 u6 u7 l s8 (i+1) k
theorem wd1 {u0} {u2} {u3} {u4} {u5} {u6} {u7}(h0:u7.length<9223372036854775807){K:q41T→Option Res}:∀(l:List dTxn) (i:Nat) (s8:(List dTxn)) (n:Nat),u7.drop i=l→l.length<n→vac vjf n (u0,(i:Int),u2,u3,u4,u5,u6,u7,s8) K=vex u0 u2 u3 u4 u5 u6 u7 l s8 i (fun z=>K (u0,z.1,u2,u3,u4,u5,u6,u7,z.2)):=by
 intro l
 induction l with
 |nil=>
  intro i s8 n hd hn
  have hge:=vay hd
  cases n with
  |zero=>exact absurd hn (Nat.not_lt_zero _)
  |succ n=>simp only [vac,vjf,vex,hge,decide_false,cond_false,Sum.elim_inr,Sum.elim_inl]
 |cons y l ih=>
  intro i s8 n hd hn
  obtain⟨hlt,hz,hd2,hw,hnn⟩:=van hd h0
  have hy:=vap hd
  cases n with
  |zero=>exact absurd hn (Nat.not_lt_zero _)
  |succ n=>
   have ih2:=fun(s8:(List dTxn))=>ih (i+1) s8 n hd2 (Nat.lt_of_succ_lt_succ hn)
   simp only [vac,vjf,vex,hlt,hz,decide_true,cond_true,and_self,if_true,hy,hw,hnn,Sum.elim_inl,Sum.elim_inr,ih2]
theorem wfl {u0} {u2} {u3} {u4} {u5} {u6} {u7}(h0:u7.length<9223372036854775807){K:q41T→Option Res}{s8:(List dTxn)}:vac vjf Fuel (u0,(0:Int),u2,u3,u4,u5,u6,u7,s8) K=vex u0 u2 u3 u4 u5 u6 u7 u7 s8 0 (fun z=>K (u0,z.1,u2,u3,u4,u5,u6,u7,z.2)):=
 wd1 h0 u7 0 s8 Fuel rfl (vao h0)
def wab (a0:Int)(a1:Int)(a2:Int)(a3:(List vaa))(a4:(List dTxn))(a5:(List dTxn))(a6:(List dTxn))(k:q31T→Option Res):Option Res:=
 vex a0 a1 a2 a3 a4 a5 a6 a6 ([]:List dTxn) 0 (fun z48=>
  vrk (a3,(a4,(a5,(a1,a2)))) z48.2 (fun y49=>
   k (y49.1,y49.2.1,z48.2,a3,a4,a5,a6,y49.2.2.1,y49.2.2.2.1,y49.2.2.2.2)))
theorem wlo {a0:Int}{a1:Int}{a2:Int}{a3:(List vaa)}{a4:(List dTxn)}{a5:(List dTxn)}{a6:(List dTxn)}(h0:a6.length<9223372036854775807){k:q31T→Option Res}:vvw a0 a1 a2 a3 a4 a5 a6 k=wab a0 a1 a2 a3 a4 a5 a6 k:=by
 rw [v7z]
 simp only [v4s,wab,(wfl h0),Sum.elim_inl,Sum.elim_inr]
def vhx (u0:(List dTxn)):List dTxn→(List dTxn)→Nat→((Int×(List dTxn))→Option Res)→Option Res
 |[],s3,i,k=>
  k ((i:Int),s3)
 |y::l,s3,i,k=>
  vtl y (fun y1=>
   if s3.length+[(y1.1,(y1.2.1,(y1.2.2.1,(y1.2.2.2.1,(y1.2.2.2.2.2.2.1,(y1.2.2.2.2.2.2.2,(y1.2.2.2.2.1,y1.2.2.2.2.2.1)))))))].length≤VE.maxLen then
    vhx u0 l (s3++[(y1.1,(y1.2.1,(y1.2.2.1,(y1.2.2.2.1,(y1.2.2.2.2.2.2.1,(y1.2.2.2.2.2.2.2,(y1.2.2.2.2.1,y1.2.2.2.2.2.1)))))))]) (i+1) k
   else none)
theorem wc3 {u0}(h0:u0.length<9223372036854775807){K:q5T→Option Res}:∀(l:List dTxn) (i:Nat) (s3:(List dTxn)) (n:Nat),u0.drop i=l→l.length<n→vac vi7 n (u0,(u0.length:Int),(i:Int),s3) K=vhx u0 l s3 i (fun z=>K (u0,(u0.length:Int),z.1,z.2)):=by
 intro l
 induction l with
 |nil=>
  intro i s3 n hd hn
  have hge:=vay hd
  cases n with
  |zero=>exact absurd hn (Nat.not_lt_zero _)
  |succ n=>simp only [vac,vi7,vhx,hge,decide_false,cond_false,Sum.elim_inr,Sum.elim_inl]
 |cons y l ih=>
  intro i s3 n hd hn
  obtain⟨hlt,hz,hd2,hw,hnn⟩:=van hd h0
  have hy:=vap hd
  cases n with
  |zero=>exact absurd hn (Nat.not_lt_zero _)
  |succ n=>
   have ih2:=fun(s3:(List dTxn))=>ih (i+1) s3 n hd2 (Nat.lt_of_succ_lt_succ hn)
   simp only [vac,vi7,vhx,hlt,hz,decide_true,cond_true,and_self,if_true,hy,hw,hnn,Sum.elim_inl,Sum.elim_inr,ih2]
theorem wex {u0}(h0:u0.length<9223372036854775807){K:q5T→Option Res}{s3:(List dTxn)}:vac vi7 Fuel (u0,(u0.length:Int),(0:Int),s3) K=vhx u0 u0 s3 0 (fun z=>K (u0,(u0.length:Int),z.1,z.2)):=
 wc3 h0 u0 0 s3 Fuel rfl (vao h0)
def v8l (a0:(List dTxn))(k:(List dTxn)→Option Res):Option Res:=
 vhx a0 a0 ([]:List dTxn) 0 (fun z48=>
  k z48.2)
theorem wl3 {a0:(List dTxn)}(h0:a0.length<9223372036854775807){k:(List dTxn)→Option Res}:vo2 a0 k=v8l a0 k:=by
 rw [v71]
 simp only [v4x,v8l,(wex h0),Sum.elim_inl,Sum.elim_inr]
def vh2 (u0:(List dTxn))(u1:Int):List dTxn→Int→Nat→(((Int×Int×Int)⊕(Int×Int))→Option Res)→Option Res
 |[],s4,i,k=>
  k (.inr ((i:Int),s4))
 |y::l,s4,i,k=>
  voz y s4 (fun y1=>
   bif y1.1 then
    k (.inl ((i:Int),(i:Int),y1.2))
   else
    vh2 u0 u1 l y1.2 (i+1) k)
theorem wc5 {u0} {u1}(h0:u0.length<9223372036854775807){K:(q6T⊕q6T)→Option Res}:∀(l:List dTxn) (i:Nat) (s4:Int) (n:Nat),u0.drop i=l→l.length<n→vac vjq n (u0,u1,(u0.length:Int),(i:Int),s4) K=vh2 u0 u1 l s4 i (Sum.elim (fun z=>K (.inl (u0,z.1,(u0.length:Int),z.2.1,z.2.2))) (fun z=>K (.inr (u0,u1,(u0.length:Int),z.1,z.2)))):=by
 intro l
 induction l with
 |nil=>
  intro i s4 n hd hn
  have hge:=vay hd
  cases n with
  |zero=>exact absurd hn (Nat.not_lt_zero _)
  |succ n=>simp only [vac,vjq,vh2,hge,decide_false,cond_false,Sum.elim_inr,Sum.elim_inl]
 |cons y l ih=>
  intro i s4 n hd hn
  obtain⟨hlt,hz,hd2,hw,hnn⟩:=van hd h0
  have hy:=vap hd
  cases n with
  |zero=>exact absurd hn (Nat.not_lt_zero _)
  |succ n=>
   have ih2:=fun(s4:Int)=>ih (i+1) s4 n hd2 (Nat.lt_of_succ_lt_succ hn)
   simp only [vac,vjq,vh2,hlt,hz,decide_true,cond_true,and_self,if_true,hy,hw,hnn,Sum.elim_inl,Sum.elim_inr,ih2]
theorem wdh {u0} {u1}(h0:u0.length<9223372036854775807){K:(q6T⊕q6T)→Option Res}{s4:Int}:vac vjq Fuel (u0,u1,(u0.length:Int),(0:Int),s4) K=vh2 u0 u1 u0 s4 0 (Sum.elim (fun z=>K (.inl (u0,z.1,(u0.length:Int),z.2.1,z.2.2))) (fun z=>K (.inr (u0,u1,(u0.length:Int),z.1,z.2)))):=
 wc5 h0 u0 0 s4 Fuel rfl (vao h0)
def wbj (a0:(List dTxn))(a1:Int)(k:(Int×Int)→Option Res):Option Res:=
 vh2 a0 (0:Int) a0 a1 0 (Sum.elim (fun z48=>
  k (z48.1,z48.2.2)) (fun z49=>
  k ((-1:Int),z49.2)))
theorem wl8 {a0:(List dTxn)}{a1:Int}(h0:a0.length<9223372036854775807){k:(Int×Int)→Option Res}:vra a0 a1 k=wbj a0 a1 k:=by
 rw [waz]
 simp only [v4w,wbj,(wdh h0),Sum.elim_inl,Sum.elim_inr]
def v3v (a0:(List dTxn))(a1:Int)(k:(((List dTxn)×Int)⊕(Int×(List dTxn)))→Option Res):Option Res:=
 vra a0 a1 (fun y48=>
  bif (y48.1==(-1:Int))then
   k (.inl (a0,y48.2))
  else
   vac ve6 Fuel (.inl (y48.1,(IntKind.wrap .i64 (y48.1+(1:Int))),a0,([]:List Nat),y48.2)) (Sum.elim (fun z49=>
    if 0≤z49.1∧z49.1≤(z49.2.2.1.length:Int)then
     if 0≤z49.1∧z49.1≤((z49.2.2.1.take z49.1.toNat++List.replicate (z49.2.2.1.length-z49.1.toNat) (Ty.zero tTxn)).length:Int)then
      bif (geD z49.1.toNat (loD z49.1.toNat z49.2.2.2.1))then
       k (.inr (z49.2.2.2.2,((z49.2.2.1.take z49.1.toNat++List.replicate (z49.2.2.1.length-z49.1.toNat) (Ty.zero tTxn)).take z49.1.toNat)))
      else
       none
     else none
    else none) (fun z50=>
    if 0≤z50.1∧z50.1≤(z50.2.2.1.length:Int)then
     if 0≤z50.1∧z50.1≤((z50.2.2.1.take z50.1.toNat++List.replicate (z50.2.2.1.length-z50.1.toNat) (Ty.zero tTxn)).length:Int)then
      bif (geD z50.1.toNat (loD z50.1.toNat z50.2.2.2.1))then
       k (.inr (z50.2.2.2.2,((z50.2.2.1.take z50.1.toNat++List.replicate (z50.2.2.1.length-z50.1.toNat) (Ty.zero tTxn)).take z50.1.toNat)))
      else
       none
     else none
    else none)))
theorem wgj {a0:(List dTxn)}{a1:Int}  {k:(((List dTxn)×Int)⊕(Int×(List dTxn)))→Option Res}:vt0 a0 a1 k=v3v a0 a1 k:=by
 rw [v9i]
 simp only [v4y,v3v,Sum.elim_inl,Sum.elim_inr]
def vhs (u0:(List dTxn))(u1:Int):List dTxn→Int→Nat→(((Int×Int×Int)⊕(Int×Int))→Option Res)→Option Res
 |[],s4,i,k=>
  k (.inr ((i:Int),s4))
 |y::l,s4,i,k=>
  vty y s4 (fun y1=>
   bif y1.1 then
    k (.inl ((i:Int),(i:Int),y1.2))
   else
    vhs u0 u1 l y1.2 (i+1) k)
theorem wc9 {u0} {u1}(h0:u0.length<9223372036854775807){K:(q6T⊕q6T)→Option Res}:∀(l:List dTxn) (i:Nat) (s4:Int) (n:Nat),u0.drop i=l→l.length<n→vac vil n (u0,u1,(u0.length:Int),(i:Int),s4) K=vhs u0 u1 l s4 i (Sum.elim (fun z=>K (.inl (u0,z.1,(u0.length:Int),z.2.1,z.2.2))) (fun z=>K (.inr (u0,u1,(u0.length:Int),z.1,z.2)))):=by
 intro l
 induction l with
 |nil=>
  intro i s4 n hd hn
  have hge:=vay hd
  cases n with
  |zero=>exact absurd hn (Nat.not_lt_zero _)
  |succ n=>simp only [vac,vil,vhs,hge,decide_false,cond_false,Sum.elim_inr,Sum.elim_inl]
 |cons y l ih=>
  intro i s4 n hd hn
  obtain⟨hlt,hz,hd2,hw,hnn⟩:=van hd h0
  have hy:=vap hd
  cases n with
  |zero=>exact absurd hn (Nat.not_lt_zero _)
  |succ n=>
   have ih2:=fun(s4:Int)=>ih (i+1) s4 n hd2 (Nat.lt_of_succ_lt_succ hn)
   simp only [vac,vil,vhs,hlt,hz,decide_true,cond_true,and_self,if_true,hy,hw,hnn,Sum.elim_inl,Sum.elim_inr,ih2]
theorem wds {u0} {u1}(h0:u0.length<9223372036854775807){K:(q6T⊕q6T)→Option Res}{s4:Int}:vac vil Fuel (u0,u1,(u0.length:Int),(0:Int),s4) K=vhs u0 u1 u0 s4 0 (Sum.elim (fun z=>K (.inl (u0,z.1,(u0.length:Int),z.2.1,z.2.2))) (fun z=>K (.inr (u0,u1,(u0.length:Int),z.1,z.2)))):=
 wc9 h0 u0 0 s4 Fuel rfl (vao h0)
def v8f (a0:(List dTxn))(a1:Int)(k:(Int×Int)→Option Res):Option Res:=
 vhs a0 (0:Int) a0 a1 0 (Sum.elim (fun z48=>
  k (z48.1,z48.2.2)) (fun z49=>
  k ((-1:Int),z49.2)))
theorem wj1 {a0:(List dTxn)}{a1:Int}(h0:a0.length<9223372036854775807){k:(Int×Int)→Option Res}:vys a0 a1 k=v8f a0 a1 k:=by
 rw [wbf]
 simp only [v4l,v8f,(wds h0),Sum.elim_inl,Sum.elim_inr]
def vl3 (u1:(List dTxn)):List dTxn→Int→Nat→((Int×Int)→Option Res)→Option Res
 |[],s0,i,k=>
  k (s0,(i:Int))
 |y::l,s0,i,k=>
  vl3 u1 l (if y.2.2.1<s0 then y.2.2.1 else s0) (i+1) k
theorem we6 {u1}(h0:u1.length<9223372036854775807){K:q24T→Option Res}:∀(l:List dTxn) (i:Nat) (s0:Int) (n:Nat),u1.drop i=l→l.length<n→vac vif n (s0,u1,(u1.length:Int),(i:Int)) K=vl3 u1 l s0 i (fun z=>K (z.1,u1,(u1.length:Int),z.2)):=by
 intro l
 induction l with
 |nil=>
  intro i s0 n hd hn
  have hge:=vay hd
  cases n with
  |zero=>exact absurd hn (Nat.not_lt_zero _)
  |succ n=>simp only [vac,vif,vl3,hge,decide_false,cond_false,Sum.elim_inr,Sum.elim_inl]
 |cons y l ih=>
  intro i s0 n hd hn
  obtain⟨hlt,hz,hd2,hw,hnn⟩:=van hd h0
  have hy:=vap hd
  cases n with
  |zero=>exact absurd hn (Nat.not_lt_zero _)
  |succ n=>
   have ih2:=fun(s0:Int)=>ih (i+1) s0 n hd2 (Nat.lt_of_succ_lt_succ hn)
   simp only [vac,vif,vl3,hlt,hz,decide_true,cond_true,and_self,if_true,hy,hw,hnn,Sum.elim_inl,Sum.elim_inr,ih2]
theorem wfr {u1}(h0:u1.length<9223372036854775807){K:q24T→Option Res}{s0:Int}:vac vif Fuel (s0,u1,(u1.length:Int),(0:Int)) K=vl3 u1 u1 s0 0 (fun z=>K (z.1,u1,(u1.length:Int),z.2)):=
 we6 h0 u1 0 s0 Fuel rfl (vao h0)
def v7m (a0:vc9)(a1:(List dTxn))(k:Int→Option Res):Option Res:=
 vl3 a1 a1 a0.2.2.2.1 0 (fun z48=>
  k z48.1)
theorem wke {a0:vc9}{a1:(List dTxn)}(h0:a1.length<9223372036854775807){k:Int→Option Res}:vuc a0 a1 k=v7m a0 a1 k:=by
 rw [v8s]
 simp only [v3l,v7m,(wfr h0),Sum.elim_inl,Sum.elim_inr]
def vh6 (u0:(List dTxn))(u1:Int):List dTxn→Int→Nat→(((Int×Int×Int)⊕(Int×Int))→Option Res)→Option Res
 |[],s4,i,k=>
  k (.inr ((i:Int),s4))
 |y::l,s4,i,k=>
  vos y s4 (fun y1=>
   bif y1.1 then
    k (.inl ((i:Int),(i:Int),y1.2))
   else
    vh6 u0 u1 l y1.2 (i+1) k)
theorem wc7 {u0} {u1}(h0:u0.length<9223372036854775807){K:(q6T⊕q6T)→Option Res}:∀(l:List dTxn) (i:Nat) (s4:Int) (n:Nat),u0.drop i=l→l.length<n→vac vix n (u0,u1,(u0.length:Int),(i:Int),s4) K=vh6 u0 u1 l s4 i (Sum.elim (fun z=>K (.inl (u0,z.1,(u0.length:Int),z.2.1,z.2.2))) (fun z=>K (.inr (u0,u1,(u0.length:Int),z.1,z.2)))):=by
 intro l
 induction l with
 |nil=>
  intro i s4 n hd hn
  have hge:=vay hd
  cases n with
  |zero=>exact absurd hn (Nat.not_lt_zero _)
  |succ n=>simp only [vac,vix,vh6,hge,decide_false,cond_false,Sum.elim_inr,Sum.elim_inl]
 |cons y l ih=>
  intro i s4 n hd hn
  obtain⟨hlt,hz,hd2,hw,hnn⟩:=van hd h0
  have hy:=vap hd
  cases n with
  |zero=>exact absurd hn (Nat.not_lt_zero _)
  |succ n=>
   have ih2:=fun(s4:Int)=>ih (i+1) s4 n hd2 (Nat.lt_of_succ_lt_succ hn)
   simp only [vac,vix,vh6,hlt,hz,decide_true,cond_true,and_self,if_true,hy,hw,hnn,Sum.elim_inl,Sum.elim_inr,ih2]
theorem we4 {u0} {u1}(h0:u0.length<9223372036854775807){K:(q6T⊕q6T)→Option Res}{s4:Int}:vac vix Fuel (u0,u1,(u0.length:Int),(0:Int),s4) K=vh6 u0 u1 u0 s4 0 (Sum.elim (fun z=>K (.inl (u0,z.1,(u0.length:Int),z.2.1,z.2.2))) (fun z=>K (.inr (u0,u1,(u0.length:Int),z.1,z.2)))):=
 wc7 h0 u0 0 s4 Fuel rfl (vao h0)
def wah (a0:(List dTxn))(a1:Int)(k:(Int×Int)→Option Res):Option Res:=
 vh6 a0 (0:Int) a0 a1 0 (Sum.elim (fun z48=>
  k (z48.1,z48.2.2)) (fun z49=>
  k ((-1:Int),z49.2)))
theorem wkk {a0:(List dTxn)}{a1:Int}(h0:a0.length<9223372036854775807){k:(Int×Int)→Option Res}:vr4 a0 a1 k=wah a0 a1 k:=by
 rw [wbp]
 simp only [v4p,wah,(we4 h0),Sum.elim_inl,Sum.elim_inr]
def v3x (a0:(List dTxn))(a1:Int)(k:(((List dTxn)×Int)⊕(Int×(List dTxn)))→Option Res):Option Res:=
 vr4 a0 a1 (fun y48=>
  bif (y48.1==(-1:Int))then
   k (.inl (a0,y48.2))
  else
   vac ve7 Fuel (.inl (y48.1,(IntKind.wrap .i64 (y48.1+(1:Int))),a0,([]:List Nat),y48.2)) (Sum.elim (fun z49=>
    if 0≤z49.1∧z49.1≤(z49.2.2.1.length:Int)then
     if 0≤z49.1∧z49.1≤((z49.2.2.1.take z49.1.toNat++List.replicate (z49.2.2.1.length-z49.1.toNat) (Ty.zero tTxn)).length:Int)then
      bif (geD z49.1.toNat (loD z49.1.toNat z49.2.2.2.1))then
       k (.inr (z49.2.2.2.2,((z49.2.2.1.take z49.1.toNat++List.replicate (z49.2.2.1.length-z49.1.toNat) (Ty.zero tTxn)).take z49.1.toNat)))
      else
       none
     else none
    else none) (fun z50=>
    if 0≤z50.1∧z50.1≤(z50.2.2.1.length:Int)then
     if 0≤z50.1∧z50.1≤((z50.2.2.1.take z50.1.toNat++List.replicate (z50.2.2.1.length-z50.1.toNat) (Ty.zero tTxn)).length:Int)then
      bif (geD z50.1.toNat (loD z50.1.toNat z50.2.2.2.1))then
       k (.inr (z50.2.2.2.2,((z50.2.2.1.take z50.1.toNat++List.replicate (z50.2.2.1.length-z50.1.toNat) (Ty.zero tTxn)).take z50.1.toNat)))
      else
       none
     else none
    else none)))
theorem wgq {a0:(List dTxn)}{a1:Int}  {k:(((List dTxn)×Int)⊕(Int×(List dTxn)))→Option Res}:vuw a0 a1 k=v3x a0 a1 k:=by
 rw [wa9]
 simp only [v5e,v3x,Sum.elim_inl,Sum.elim_inr]
def vd9 (u0:(List vaa))(u1:ByteArray)(u2:Int)(u4:(List vaa)):List vaa→Int→Nat→((Int×Int)→Option Res)→Option Res
 |[],s3,i,k=>
  k (s3,(i:Int))
 |y::l,s3,i,k=>
  bif (vbm (y.1) u1)then
   bif (decide (y.2.2.2≤u2))then
    bif (decide (s3<(0:Int)))then
     vd9 u0 u1 u2 u4 l (i:Int) (i+1) k
    else
     if 0≤s3∧s3<(u0.length:Int)then
      bif (decide (y.2.2.2>(rd (Ty.zero tVersion) u0 s3).2.2.2))then
       vd9 u0 u1 u2 u4 l (i:Int) (i+1) k
      else
       vd9 u0 u1 u2 u4 l s3 (i+1) k
     else none
   else
    vd9 u0 u1 u2 u4 l s3 (i+1) k
  else
   vd9 u0 u1 u2 u4 l s3 (i+1) k
theorem wev {u0} {u1} {u2} {u4}(h0:u4.length<9223372036854775807){K:q9T→Option Res}:∀(l:List vaa) (i:Nat) (s3:Int) (n:Nat),u4.drop i=l→l.length<n→vac vi6 n (u0,u1,u2,s3,u4,(u4.length:Int),(i:Int)) K=vd9 u0 u1 u2 u4 l s3 i (fun z=>K (u0,u1,u2,z.1,u4,(u4.length:Int),z.2)):=by
 intro l
 induction l with
 |nil=>
  intro i s3 n hd hn
  have hge:=vay hd
  cases n with
  |zero=>exact absurd hn (Nat.not_lt_zero _)
  |succ n=>simp only [vac,vi6,vd9,hge,decide_false,cond_false,Sum.elim_inr,Sum.elim_inl]
 |cons y l ih=>
  intro i s3 n hd hn
  obtain⟨hlt,hz,hd2,hw,hnn⟩:=van hd h0
  have hy:=vap hd
  cases n with
  |zero=>exact absurd hn (Nat.not_lt_zero _)
  |succ n=>
   have ih2:=fun(s3:Int)=>ih (i+1) s3 n hd2 (Nat.lt_of_succ_lt_succ hn)
   simp only [vac,vi6,vd9,hlt,hz,decide_true,cond_true,and_self,if_true,hy,hw,hnn,Sum.elim_inl,Sum.elim_inr,ih2]
theorem wfk {u0} {u1} {u2} {u4}(h0:u4.length<9223372036854775807){K:q9T→Option Res}{s3:Int}:vac vi6 Fuel (u0,u1,u2,s3,u4,(u4.length:Int),(0:Int)) K=vd9 u0 u1 u2 u4 u4 s3 0 (fun z=>K (u0,u1,u2,z.1,u4,(u4.length:Int),z.2)):=
 wev h0 u4 0 s3 Fuel rfl (vao h0)
def v79 (a0:(List vaa))(a1:ByteArray)(a2:Int)(k:Int→Option Res):Option Res:=
 vd9 a0 a1 a2 a0 a0 (-1:Int) 0 (fun z48=>
  k z48.1)
theorem wk0 {a0:(List vaa)}{a1:ByteArray}{a2:Int}(h0:a0.length<9223372036854775807){k:Int→Option Res}:vr0 a0 a1 a2 k=v79 a0 a1 a2 k:=by
 rw [v74]
 simp only [v5a,v79,(wfk h0),Sum.elim_inl,Sum.elim_inr]
def vhq (u0:ByteArray)(u4:(List vaa)):List vaa→Int→Nat→((Int×Int)→Option Res)→Option Res
 |[],s1,i,k=>
  k (s1,(i:Int))
 |y::l,s1,i,k=>
  bif (vbm (y.1) u0)then
   vhq u0 u4 l (IntKind.wrap .i64 (s1+(1:Int))) (i+1) k
  else
   vhq u0 u4 l s1 (i+1) k
theorem wcy {u0} {u4}(h0:u4.length<9223372036854775807){K:q23T→Option Res}:∀(l:List vaa) (i:Nat) (s1:Int) (n:Nat),u4.drop i=l→l.length<n→vac vjw n (u0,s1,(u4.length:Int),(i:Int),u4) K=vhq u0 u4 l s1 i (fun z=>K (u0,z.1,(u4.length:Int),z.2,u4)):=by
 intro l
 induction l with
 |nil=>
  intro i s1 n hd hn
  have hge:=vay hd
  cases n with
  |zero=>exact absurd hn (Nat.not_lt_zero _)
  |succ n=>simp only [vac,vjw,vhq,hge,decide_false,cond_false,Sum.elim_inr,Sum.elim_inl]
 |cons y l ih=>
  intro i s1 n hd hn
  obtain⟨hlt,hz,hd2,hw,hnn⟩:=van hd h0
  have hy:=vap hd
  cases n with
  |zero=>exact absurd hn (Nat.not_lt_zero _)
  |succ n=>
   have ih2:=fun(s1:Int)=>ih (i+1) s1 n hd2 (Nat.lt_of_succ_lt_succ hn)
   simp only [vac,vjw,vhq,hlt,hz,decide_true,cond_true,and_self,if_true,hy,hw,hnn,Sum.elim_inl,Sum.elim_inr,ih2]
theorem wdv {u0} {u4}(h0:u4.length<9223372036854775807){K:q23T→Option Res}{s1:Int}:vac vjw Fuel (u0,s1,(u4.length:Int),(0:Int),u4) K=vhq u0 u4 u4 s1 0 (fun z=>K (u0,z.1,(u4.length:Int),z.2,u4)):=
 wcy h0 u4 0 s1 Fuel rfl (vao h0)
def v90 (a0:ByteArray)(a1:(List vaa))(k:(Int×(List vaa))→Option Res):Option Res:=
 vhq a0 a1 a1 (0:Int) 0 (fun z48=>
  k (z48.1,a1))
theorem wj7 {a0:ByteArray}{a1:(List vaa)}(h0:a1.length<9223372036854775807){k:(Int×(List vaa))→Option Res}:vv3 a0 a1 k=v90 a0 a1 k:=by
 rw [wbu]
 simp only [v4o,v90,(wdv h0),Sum.elim_inl,Sum.elim_inr]
def vcj (u0:(List vaa))(u1:Int)(u2:(List vaa))(u3:Int)(u4:Int)(u5:Bool)(u6:ByteArray)(u7:ByteArray)(u8:Bool)(u9:Int)(u10:(List vaa))(k:(List vaa)→Option Res):Option Res:=
  bif u5 then
   if u10.length+[(u6,(u7,(u8,u9)))].length≤VE.maxLen then
    k (u10++[(u6,(u7,(u8,u9)))])
   else none
  else
   k u10
theorem vj1 {u0} {u1} {u2} {u3} {u4} {u5} {u6} {u7} {u8} {u9} {u10}  {K:q12T→Option Res}:vb0 (u0,u1,u2,u3,u4,u5,u6,u7,u8,u9,u10) K=vcj u0 u1 u2 u3 u4 u5 u6 u7 u8 u9 u10 (fun z=>K (u0,u1,u2,u3,u4,u5,u6,u7,u8,u9,z)):=by
 simp only [vb0,vcj,Sum.elim_inl,Sum.elim_inr]
def vf2 (u0:(List vaa))(u1:Int)(u2:(List vaa)):List vaa→(List vaa)→Nat→((Int×(List vaa))→Option Res)→Option Res
 |[],s5,i,k=>
  k ((i:Int),s5)
 |y::l,s5,i,k=>
  bif (decide (y.2.2.2>u1))then
   vcj u0 u1 u2 (u2.length:Int) (i:Int) true y.1 y.2.1 y.2.2.1 y.2.2.2 s5 (fun z1=>
    vf2 u0 u1 u2 l z1 (i+1) k)
  else
   vr0 u0 y.1 u1 (fun y2=>
    vcj u0 u1 u2 (u2.length:Int) (i:Int) (y2==(i:Int)) y.1 y.2.1 y.2.2.1 y.2.2.2 s5 (fun z3=>
     vf2 u0 u1 u2 l z3 (i+1) k))
theorem wd0 {u0} {u1} {u2}(h0:u2.length<9223372036854775807){K:q11T→Option Res}:∀(l:List vaa) (i:Nat) (s5:(List vaa)) (n:Nat),u2.drop i=l→l.length<n→vac vir n (u0,u1,u2,(u2.length:Int),(i:Int),s5) K=vf2 u0 u1 u2 l s5 i (fun z=>K (u0,u1,u2,(u2.length:Int),z.1,z.2)):=by
 intro l
 induction l with
 |nil=>
  intro i s5 n hd hn
  have hge:=vay hd
  cases n with
  |zero=>exact absurd hn (Nat.not_lt_zero _)
  |succ n=>simp only [vac,vir,vf2,hge,decide_false,cond_false,Sum.elim_inr,Sum.elim_inl,vj1]
 |cons y l ih=>
  intro i s5 n hd hn
  obtain⟨hlt,hz,hd2,hw,hnn⟩:=van hd h0
  have hy:=vap hd
  cases n with
  |zero=>exact absurd hn (Nat.not_lt_zero _)
  |succ n=>
   have ih2:=fun(s5:(List vaa))=>ih (i+1) s5 n hd2 (Nat.lt_of_succ_lt_succ hn)
   simp only [vac,vir,vf2,hlt,hz,decide_true,cond_true,and_self,if_true,hy,hw,hnn,Sum.elim_inl,Sum.elim_inr,ih2,vj1]
theorem wb8 {u0} {u1} {u2}(h0:u2.length<9223372036854775807){K:q11T→Option Res}{s5:(List vaa)}:vac vir Fuel (u0,u1,u2,(u2.length:Int),(0:Int),s5) K=vf2 u0 u1 u2 u2 s5 0 (fun z=>K (u0,u1,u2,(u2.length:Int),z.1,z.2)):=
 wd0 h0 u2 0 s5 Fuel rfl (vao h0)
def wap (a0:(List vaa))(a1:Int)(k:(List vaa)→Option Res):Option Res:=
 vf2 a0 a1 a0 a0 ([]:List vaa) 0 (fun z48=>
  vac vii Fuel (a1,(z48.2.length:Int),(0:Int),([]:List vaa),z48.2) (fun z49=>
   k z49.2.2.2.1))
theorem wl4 {a0:(List vaa)}{a1:Int}(h0:a0.length<9223372036854775807){k:(List vaa)→Option Res}:vqc a0 a1 k=wap a0 a1 k:=by
 rw [v9j]
 simp only [v3u,wap,(wb8 h0),Sum.elim_inl,Sum.elim_inr]
def vji (u0:(List vaa))(u1:(List vaa))(u2:Bool):List vaa→Nat→(((Bool×Int)⊕Int)→Option Res)→Option Res
 |[],i,k=>
  k (.inr (i:Int))
 |y::l,i,k=>
  if 0≤(i:Int)∧(i:Int)<(u1.length:Int)then
   vuq y (rd (Ty.zero tVersion) u1 (i:Int)) (fun y1=>
    bif (!y1)then
     k (.inl (false,(i:Int)))
    else
     vji u0 u1 u2 l (i+1) k)
  else none
theorem wb6 {u0} {u1} {u2}(h0:u0.length<9223372036854775807){K:(q8T⊕q8T)→Option Res}:∀(l:List vaa) (i:Nat)  (n:Nat),u0.drop i=l→l.length<n→vac vju n (u0,u1,u2,(i:Int)) K=vji u0 u1 u2 l  i (Sum.elim (fun z=>K (.inl (u0,u1,z.1,z.2))) (fun z=>K (.inr (u0,u1,u2,z)))):=by
 intro l
 induction l with
 |nil=>
  intro i  n hd hn
  have hge:=vay hd
  cases n with
  |zero=>exact absurd hn (Nat.not_lt_zero _)
  |succ n=>simp only [vac,vju,vji,hge,decide_false,cond_false,Sum.elim_inr,Sum.elim_inl]
 |cons y l ih=>
  intro i  n hd hn
  obtain⟨hlt,hz,hd2,hw,hnn⟩:=van hd h0
  have hy:=vap hd
  cases n with
  |zero=>exact absurd hn (Nat.not_lt_zero _)
  |succ n=>
   have ih2:=ih (i+1)  n hd2 (Nat.lt_of_succ_lt_succ hn)
   simp only [vac,vju,vji,hlt,hz,decide_true,cond_true,and_self,if_true,hy,hw,hnn,Sum.elim_inl,Sum.elim_inr,ih2]
theorem wc8 {u0} {u1} {u2}(h0:u0.length<9223372036854775807){K:(q8T⊕q8T)→Option Res}  : vac vju Fuel (u0,u1,u2,(0:Int)) K=vji u0 u1 u2 u0  0 (Sum.elim (fun z=>K (.inl (u0,u1,z.1,z.2))) (fun z=>K (.inr (u0,u1,u2,z)))):=
 wb6 h0 u0 0  Fuel rfl (vao h0)
def wbq (a0:(List vaa))(a1:(List vaa))(k:Bool→Option Res):Option Res:=
 bif ((a0.length:Int) != (a1.length:Int))then
  k false
 else
  vji a0 a1 false a0  0 (Sum.elim (fun z48=>
   k z48.1) (fun _=>
   k true))
theorem wlw {a0:(List vaa)}{a1:(List vaa)}(h0:a0.length<9223372036854775807){k:Bool→Option Res}:vv0 a0 a1 k=wbq a0 a1 k:=by
 rw [v72]
 simp only [v3c,wbq,(wc8 h0),Sum.elim_inl,Sum.elim_inr]
def vjv (u0:(List vam))(u1:(List vam))(u2:Bool):List vam→Nat→(((Bool×Int)⊕Int)→Option Res)→Option Res
 |[],i,k=>
  k (.inr (i:Int))
 |y::l,i,k=>
  if 0≤(i:Int)∧(i:Int)<(u1.length:Int)then
   vvy y (rd (Ty.zero tRange) u1 (i:Int)) (fun y1=>
    bif (!y1)then
     k (.inl (false,(i:Int)))
    else
     vjv u0 u1 u2 l (i+1) k)
  else none
theorem wd7 {u0} {u1} {u2}(h0:u0.length<9223372036854775807){K:(q0T⊕q0T)→Option Res}:∀(l:List vam) (i:Nat)  (n:Nat),u0.drop i=l→l.length<n→vac vi1 n (u0,u1,u2,(i:Int)) K=vjv u0 u1 u2 l  i (Sum.elim (fun z=>K (.inl (u0,u1,z.1,z.2))) (fun z=>K (.inr (u0,u1,u2,z)))):=by
 intro l
 induction l with
 |nil=>
  intro i  n hd hn
  have hge:=vay hd
  cases n with
  |zero=>exact absurd hn (Nat.not_lt_zero _)
  |succ n=>simp only [vac,vi1,vjv,hge,decide_false,cond_false,Sum.elim_inr,Sum.elim_inl]
 |cons y l ih=>
  intro i  n hd hn
  obtain⟨hlt,hz,hd2,hw,hnn⟩:=van hd h0
  have hy:=vap hd
  cases n with
  |zero=>exact absurd hn (Nat.not_lt_zero _)
  |succ n=>
   have ih2:=ih (i+1)  n hd2 (Nat.lt_of_succ_lt_succ hn)
   simp only [vac,vi1,vjv,hlt,hz,decide_true,cond_true,and_self,if_true,hy,hw,hnn,Sum.elim_inl,Sum.elim_inr,ih2]
theorem wet {u0} {u1} {u2}(h0:u0.length<9223372036854775807){K:(q0T⊕q0T)→Option Res}  : vac vi1 Fuel (u0,u1,u2,(0:Int)) K=vjv u0 u1 u2 u0  0 (Sum.elim (fun z=>K (.inl (u0,u1,z.1,z.2))) (fun z=>K (.inr (u0,u1,u2,z)))):=
 wd7 h0 u0 0  Fuel rfl (vao h0)
def v97 (a0:(List vam))(a1:(List vam))(k:Bool→Option Res):Option Res:=
 bif ((a0.length:Int) != (a1.length:Int))then
  k false
 else
  vjv a0 a1 false a0  0 (Sum.elim (fun z48=>
   k z48.1) (fun _=>
   k true))
theorem wlk {a0:(List vam)}{a1:(List vam)}(h0:a0.length<9223372036854775807){k:Bool→Option Res}:vuv a0 a1 k=v97 a0 a1 k:=by
 rw [v7t]
 simp only [v4k,v97,(wet h0),Sum.elim_inl,Sum.elim_inr]
def vi9 (u0:(List val))(u1:(List val))(u2:Bool):List val→Nat→(((Bool×Int)⊕Int)→Option Res)→Option Res
 |[],i,k=>
  k (.inr (i:Int))
 |y::l,i,k=>
  if 0≤(i:Int)∧(i:Int)<(u1.length:Int)then
   vuo y (rd (Ty.zero tWrite) u1 (i:Int)) (fun y1=>
    bif (!y1)then
     k (.inl (false,(i:Int)))
    else
     vi9 u0 u1 u2 l (i+1) k)
  else none
theorem wd5 {u0} {u1} {u2}(h0:u0.length<9223372036854775807){K:(q17T⊕q17T)→Option Res}:∀(l:List val) (i:Nat)  (n:Nat),u0.drop i=l→l.length<n→vac vjs n (u0,u1,u2,(i:Int)) K=vi9 u0 u1 u2 l  i (Sum.elim (fun z=>K (.inl (u0,u1,z.1,z.2))) (fun z=>K (.inr (u0,u1,u2,z)))):=by
 intro l
 induction l with
 |nil=>
  intro i  n hd hn
  have hge:=vay hd
  cases n with
  |zero=>exact absurd hn (Nat.not_lt_zero _)
  |succ n=>simp only [vac,vjs,vi9,hge,decide_false,cond_false,Sum.elim_inr,Sum.elim_inl]
 |cons y l ih=>
  intro i  n hd hn
  obtain⟨hlt,hz,hd2,hw,hnn⟩:=van hd h0
  have hy:=vap hd
  cases n with
  |zero=>exact absurd hn (Nat.not_lt_zero _)
  |succ n=>
   have ih2:=ih (i+1)  n hd2 (Nat.lt_of_succ_lt_succ hn)
   simp only [vac,vjs,vi9,hlt,hz,decide_true,cond_true,and_self,if_true,hy,hw,hnn,Sum.elim_inl,Sum.elim_inr,ih2]
theorem wce {u0} {u1} {u2}(h0:u0.length<9223372036854775807){K:(q17T⊕q17T)→Option Res}  : vac vjs Fuel (u0,u1,u2,(0:Int)) K=vi9 u0 u1 u2 u0  0 (Sum.elim (fun z=>K (.inl (u0,u1,z.1,z.2))) (fun z=>K (.inr (u0,u1,u2,z)))):=
 wd5 h0 u0 0  Fuel rfl (vao h0)
def v76 (a0:(List val))(a1:(List val))(k:Bool→Option Res):Option Res:=
 bif ((a0.length:Int) != (a1.length:Int))then
  k false
 else
  vi9 a0 a1 false a0  0 (Sum.elim (fun z48=>
   k z48.1) (fun _=>
   k true))
theorem wj8 {a0:(List val)}{a1:(List val)}(h0:a0.length<9223372036854775807){k:Bool→Option Res}:vvf a0 a1 k=v76 a0 a1 k:=by
 rw [v8g]
 simp only [v29,v76,(wce h0),Sum.elim_inl,Sum.elim_inr]
def vfu (u0:(List dTxn))(u1:(List dTxn))(u2:Bool):List dTxn→Nat→(((Bool×Int)⊕Int)→Option Res)→Option Res
 |[],i,k=>
  k (.inr (i:Int))
 |y::l,i,k=>
  if 0≤(i:Int)∧(i:Int)<(u1.length:Int)then
   vsg y (rd (Ty.zero tTxn) u1 (i:Int)) (fun y1=>
    bif (!y1)then
     k (.inl (false,(i:Int)))
    else
     vfu u0 u1 u2 l (i+1) k)
  else none
theorem wdy {u0} {u1} {u2}(h0:u0.length<9223372036854775807){K:(q3T⊕q3T)→Option Res}:∀(l:List dTxn) (i:Nat)  (n:Nat),u0.drop i=l→l.length<n→vac vjl n (u0,u1,u2,(i:Int)) K=vfu u0 u1 u2 l  i (Sum.elim (fun z=>K (.inl (u0,u1,z.1,z.2))) (fun z=>K (.inr (u0,u1,u2,z)))):=by
 intro l
 induction l with
 |nil=>
  intro i  n hd hn
  have hge:=vay hd
  cases n with
  |zero=>exact absurd hn (Nat.not_lt_zero _)
  |succ n=>simp only [vac,vjl,vfu,hge,decide_false,cond_false,Sum.elim_inr,Sum.elim_inl]
 |cons y l ih=>
  intro i  n hd hn
  obtain⟨hlt,hz,hd2,hw,hnn⟩:=van hd h0
  have hy:=vap hd
  cases n with
  |zero=>exact absurd hn (Nat.not_lt_zero _)
  |succ n=>
   have ih2:=ih (i+1)  n hd2 (Nat.lt_of_succ_lt_succ hn)
   simp only [vac,vjl,vfu,hlt,hz,decide_true,cond_true,and_self,if_true,hy,hw,hnn,Sum.elim_inl,Sum.elim_inr,ih2]
theorem wfn {u0} {u1} {u2}(h0:u0.length<9223372036854775807){K:(q3T⊕q3T)→Option Res}  : vac vjl Fuel (u0,u1,u2,(0:Int)) K=vfu u0 u1 u2 u0  0 (Sum.elim (fun z=>K (.inl (u0,u1,z.1,z.2))) (fun z=>K (.inr (u0,u1,u2,z)))):=
 wdy h0 u0 0  Fuel rfl (vao h0)
def v4e (a0:(List dTxn))(a1:(List dTxn))(k:Bool→Option Res):Option Res:=
 bif ((a0.length:Int) != (a1.length:Int))then
  k false
 else
  vfu a0 a1 false a0  0 (Sum.elim (fun z48=>
   k z48.1) (fun _=>
   k true))
theorem whk {a0:(List dTxn)}{a1:(List dTxn)}(h0:a0.length<9223372036854775807){k:Bool→Option Res}:vnd a0 a1 k=v4e a0 a1 k:=by
 rw [v73]
 simp only [v22,v4e,(wfn h0),Sum.elim_inl,Sum.elim_inr]
def vhu (u0:(List vaa))(u2:Int):List vaa→Int→Nat→(((Int×Int×Int)⊕(Int×Int))→Option Res)→Option Res
 |[],s1,i,k=>
  k (.inr (s1,(i:Int)))
 |y::l,s1,i,k=>
  vb2 s1 (fun y1=>
   bif (!(vbm (y.1) y1))then
    k (.inl (s1,(-1:Int),(i:Int)))
   else
    vb2 (IntKind.wrap .i64 (s1+(1:Int))) (fun y2=>
     bif (!(vbm (y.2.1) y2))then
      k (.inl ((IntKind.wrap .i64 (s1+(1:Int))),(-1:Int),(i:Int)))
     else
      bif (!(y.2.2.1==(((IntKind.wrap .i64 ((IntKind.wrap .i64 (s1+(1:Int)))+(1:Int))).tmod (3:Int))==(0:Int))))then
       k (.inl ((IntKind.wrap .i64 ((IntKind.wrap .i64 (s1+(1:Int)))+(1:Int))),(-1:Int),(i:Int)))
      else
       bif (y.2.2.2 != (IntKind.wrap .i64 ((IntKind.wrap .i64 ((IntKind.wrap .i64 (s1+(1:Int)))+(1:Int)))+(1:Int))))then
        k (.inl ((IntKind.wrap .i64 ((IntKind.wrap .i64 ((IntKind.wrap .i64 (s1+(1:Int)))+(1:Int)))+(1:Int))),(-1:Int),(i:Int)))
       else
        vhu u0 u2 l (IntKind.wrap .i64 ((IntKind.wrap .i64 ((IntKind.wrap .i64 ((IntKind.wrap .i64 (s1+(1:Int)))+(1:Int)))+(1:Int)))+(1:Int))) (i+1) k))
theorem wdd {u0} {u2}(h0:u0.length<9223372036854775807){K:(q16T⊕q16T)→Option Res}:∀(l:List vaa) (i:Nat) (s1:Int) (n:Nat),u0.drop i=l→l.length<n→vac vjm n (u0,s1,u2,(i:Int)) K=vhu u0 u2 l s1 i (Sum.elim (fun z=>K (.inl (u0,z.1,z.2.1,z.2.2))) (fun z=>K (.inr (u0,z.1,u2,z.2)))):=by
 intro l
 induction l with
 |nil=>
  intro i s1 n hd hn
  have hge:=vay hd
  cases n with
  |zero=>exact absurd hn (Nat.not_lt_zero _)
  |succ n=>simp only [vac,vjm,vhu,hge,decide_false,cond_false,Sum.elim_inr,Sum.elim_inl]
 |cons y l ih=>
  intro i s1 n hd hn
  obtain⟨hlt,hz,hd2,hw,hnn⟩:=van hd h0
  have hy:=vap hd
  cases n with
  |zero=>exact absurd hn (Nat.not_lt_zero _)
  |succ n=>
   have ih2:=fun(s1:Int)=>ih (i+1) s1 n hd2 (Nat.lt_of_succ_lt_succ hn)
   simp only [vac,vjm,vhu,hlt,hz,decide_true,cond_true,and_self,if_true,hy,hw,hnn,Sum.elim_inl,Sum.elim_inr,ih2]
theorem wdb {u0} {u2}(h0:u0.length<9223372036854775807){K:(q16T⊕q16T)→Option Res}{s1:Int}:vac vjm Fuel (u0,s1,u2,(0:Int)) K=vhu u0 u2 u0 s1 0 (Sum.elim (fun z=>K (.inl (u0,z.1,z.2.1,z.2.2))) (fun z=>K (.inr (u0,z.1,u2,z.2)))):=
 wdd h0 u0 0 s1 Fuel rfl (vao h0)
def v70 (a0:(List vaa))(a1:Int)(k:Int→Option Res):Option Res:=
 vhu a0 (0:Int) a0 a1 0 (Sum.elim (fun z48=>
  k z48.2.1) (fun z49=>
  k z49.1))
theorem wjz {a0:(List vaa)}{a1:Int}(h0:a0.length<9223372036854775807){k:Int→Option Res}:vtn a0 a1 k=v70 a0 a1 k:=by
 rw [v7l]
 simp only [v5d,v70,(wdb h0),Sum.elim_inl,Sum.elim_inr]
def vhv (u0:(List vam))(u2:Int):List vam→Int→Nat→(((Int×Int×Int)⊕(Int×Int))→Option Res)→Option Res
 |[],s1,i,k=>
  k (.inr (s1,(i:Int)))
 |y::l,s1,i,k=>
  vb2 s1 (fun y1=>
   bif (!(vbm (y.1) y1))then
    k (.inl (s1,(-1:Int),(i:Int)))
   else
    vb2 (IntKind.wrap .i64 (s1+(1:Int))) (fun y2=>
     bif (!(vbm (y.2) y2))then
      k (.inl ((IntKind.wrap .i64 (s1+(1:Int))),(-1:Int),(i:Int)))
     else
      vhv u0 u2 l (IntKind.wrap .i64 ((IntKind.wrap .i64 (s1+(1:Int)))+(1:Int))) (i+1) k))
theorem wek {u0} {u2}(h0:u0.length<9223372036854775807){K:(q2T⊕q2T)→Option Res}:∀(l:List vam) (i:Nat) (s1:Int) (n:Nat),u0.drop i=l→l.length<n→vac vjz n (u0,s1,u2,(i:Int)) K=vhv u0 u2 l s1 i (Sum.elim (fun z=>K (.inl (u0,z.1,z.2.1,z.2.2))) (fun z=>K (.inr (u0,z.1,u2,z.2)))):=by
 intro l
 induction l with
 |nil=>
  intro i s1 n hd hn
  have hge:=vay hd
  cases n with
  |zero=>exact absurd hn (Nat.not_lt_zero _)
  |succ n=>simp only [vac,vjz,vhv,hge,decide_false,cond_false,Sum.elim_inr,Sum.elim_inl]
 |cons y l ih=>
  intro i s1 n hd hn
  obtain⟨hlt,hz,hd2,hw,hnn⟩:=van hd h0
  have hy:=vap hd
  cases n with
  |zero=>exact absurd hn (Nat.not_lt_zero _)
  |succ n=>
   have ih2:=fun(s1:Int)=>ih (i+1) s1 n hd2 (Nat.lt_of_succ_lt_succ hn)
   simp only [vac,vjz,vhv,hlt,hz,decide_true,cond_true,and_self,if_true,hy,hw,hnn,Sum.elim_inl,Sum.elim_inr,ih2]
theorem wfc {u0} {u2}(h0:u0.length<9223372036854775807){K:(q2T⊕q2T)→Option Res}{s1:Int}:vac vjz Fuel (u0,s1,u2,(0:Int)) K=vhv u0 u2 u0 s1 0 (Sum.elim (fun z=>K (.inl (u0,z.1,z.2.1,z.2.2))) (fun z=>K (.inr (u0,z.1,u2,z.2)))):=
 wek h0 u0 0 s1 Fuel rfl (vao h0)
def v9f (a0:(List vam))(a1:Int)(k:Int→Option Res):Option Res:=
 vhv a0 (0:Int) a0 a1 0 (Sum.elim (fun z48=>
  k z48.2.1) (fun z49=>
  k z49.1))
theorem wla {a0:(List vam)}{a1:Int}(h0:a0.length<9223372036854775807){k:Int→Option Res}:vqg a0 a1 k=v9f a0 a1 k:=by
 rw [wbt]
 simp only [v38,v9f,(wfc h0),Sum.elim_inl,Sum.elim_inr]
def vhh (u0:(List val))(u2:Int):List val→Int→Nat→(((Int×Int×Int)⊕(Int×Int))→Option Res)→Option Res
 |[],s1,i,k=>
  k (.inr (s1,(i:Int)))
 |y::l,s1,i,k=>
  vb2 s1 (fun y1=>
   bif (!(vbm (y.1) y1))then
    k (.inl (s1,(-1:Int),(i:Int)))
   else
    vb2 (IntKind.wrap .i64 (s1+(1:Int))) (fun y2=>
     bif (!(vbm (y.2.1) y2))then
      k (.inl ((IntKind.wrap .i64 (s1+(1:Int))),(-1:Int),(i:Int)))
     else
      bif (!(y.2.2==(((IntKind.wrap .i64 ((IntKind.wrap .i64 (s1+(1:Int)))+(1:Int))).tmod (3:Int))==(0:Int))))then
       k (.inl ((IntKind.wrap .i64 ((IntKind.wrap .i64 (s1+(1:Int)))+(1:Int))),(-1:Int),(i:Int)))
      else
       vhh u0 u2 l (IntKind.wrap .i64 ((IntKind.wrap .i64 ((IntKind.wrap .i64 (s1+(1:Int)))+(1:Int)))+(1:Int))) (i+1) k))
theorem wf0 {u0} {u2}(h0:u0.length<9223372036854775807){K:(q19T⊕q19T)→Option Res}:∀(l:List val) (i:Nat) (s1:Int) (n:Nat),u0.drop i=l→l.length<n→vac vka n (u0,s1,u2,(i:Int)) K=vhh u0 u2 l s1 i (Sum.elim (fun z=>K (.inl (u0,z.1,z.2.1,z.2.2))) (fun z=>K (.inr (u0,z.1,u2,z.2)))):=by
 intro l
 induction l with
 |nil=>
  intro i s1 n hd hn
  have hge:=vay hd
  cases n with
  |zero=>exact absurd hn (Nat.not_lt_zero _)
  |succ n=>simp only [vac,vka,vhh,hge,decide_false,cond_false,Sum.elim_inr,Sum.elim_inl]
 |cons y l ih=>
  intro i s1 n hd hn
  obtain⟨hlt,hz,hd2,hw,hnn⟩:=van hd h0
  have hy:=vap hd
  cases n with
  |zero=>exact absurd hn (Nat.not_lt_zero _)
  |succ n=>
   have ih2:=fun(s1:Int)=>ih (i+1) s1 n hd2 (Nat.lt_of_succ_lt_succ hn)
   simp only [vac,vka,vhh,hlt,hz,decide_true,cond_true,and_self,if_true,hy,hw,hnn,Sum.elim_inl,Sum.elim_inr,ih2]
theorem wcj {u0} {u2}(h0:u0.length<9223372036854775807){K:(q19T⊕q19T)→Option Res}{s1:Int}:vac vka Fuel (u0,s1,u2,(0:Int)) K=vhh u0 u2 u0 s1 0 (Sum.elim (fun z=>K (.inl (u0,z.1,z.2.1,z.2.2))) (fun z=>K (.inr (u0,z.1,u2,z.2)))):=
 wf0 h0 u0 0 s1 Fuel rfl (vao h0)
def wb4 (a0:(List val))(a1:Int)(k:Int→Option Res):Option Res:=
 vhh a0 (0:Int) a0 a1 0 (Sum.elim (fun z48=>
  k z48.2.1) (fun z49=>
  k z49.1))
theorem wls {a0:(List val)}{a1:Int}(h0:a0.length<9223372036854775807){k:Int→Option Res}:vpz a0 a1 k=wb4 a0 a1 k:=by
 rw [v81]
 simp only [v4g,wb4,(wcj h0),Sum.elim_inl,Sum.elim_inr]
def vho (u0:(List dTxn))(u2:Int):List dTxn→Int→Nat→(((Int×Int×Int)⊕(Int×Int))→Option Res)→Option Res
 |[],s1,i,k=>
  k (.inr (s1,(i:Int)))
 |y::l,s1,i,k=>
  bif (y.1 != s1)then
   k (.inl (s1,(-1:Int),(i:Int)))
  else
   bif (y.2.1 != (IntKind.wrap .i64 (s1+(1:Int))))then
    k (.inl ((IntKind.wrap .i64 (s1+(1:Int))),(-1:Int),(i:Int)))
   else
    bif (y.2.2.1 != (IntKind.wrap .i64 ((IntKind.wrap .i64 (s1+(1:Int)))+(1:Int))))then
     k (.inl ((IntKind.wrap .i64 ((IntKind.wrap .i64 (s1+(1:Int)))+(1:Int))),(-1:Int),(i:Int)))
    else
     bif (y.2.2.2.1 != (IntKind.wrap .i64 ((IntKind.wrap .i64 ((IntKind.wrap .i64 (s1+(1:Int)))+(1:Int)))+(1:Int))))then
      k (.inl ((IntKind.wrap .i64 ((IntKind.wrap .i64 ((IntKind.wrap .i64 (s1+(1:Int)))+(1:Int)))+(1:Int))),(-1:Int),(i:Int)))
     else
      vqg y.2.2.2.2.1 (IntKind.wrap .i64 ((IntKind.wrap .i64 ((IntKind.wrap .i64 ((IntKind.wrap .i64 (s1+(1:Int)))+(1:Int)))+(1:Int)))+(1:Int))) (fun y1=>
       bif (decide (y1<(0:Int)))then
        k (.inl (y1,(-1:Int),(i:Int)))
       else
        vpz y.2.2.2.2.2.1 y1 (fun y2=>
         bif (decide (y2<(0:Int)))then
          k (.inl (y2,(-1:Int),(i:Int)))
         else
          bif (!(y.2.2.2.2.2.2.1==((y2.tmod (3:Int))==(0:Int))))then
           k (.inl (y2,(-1:Int),(i:Int)))
          else
           vb2 (IntKind.wrap .i64 (y2+(1:Int))) (fun y3=>
            bif (!(vbm (y.2.2.2.2.2.2.2) y3))then
             k (.inl ((IntKind.wrap .i64 (y2+(1:Int))),(-1:Int),(i:Int)))
            else
             vho u0 u2 l (IntKind.wrap .i64 ((IntKind.wrap .i64 (y2+(1:Int)))+(1:Int))) (i+1) k)))
theorem wfx {u0} {u2}(h0:u0.length<9223372036854775807){K:(q7T⊕q7T)→Option Res}:∀(l:List dTxn) (i:Nat) (s1:Int) (n:Nat),u0.drop i=l→l.length<n→vac vim n (u0,s1,u2,(i:Int)) K=vho u0 u2 l s1 i (Sum.elim (fun z=>K (.inl (u0,z.1,z.2.1,z.2.2))) (fun z=>K (.inr (u0,z.1,u2,z.2)))):=by
 intro l
 induction l with
 |nil=>
  intro i s1 n hd hn
  have hge:=vay hd
  cases n with
  |zero=>exact absurd hn (Nat.not_lt_zero _)
  |succ n=>simp only [vac,vim,vho,hge,decide_false,cond_false,Sum.elim_inr,Sum.elim_inl]
 |cons y l ih=>
  intro i s1 n hd hn
  obtain⟨hlt,hz,hd2,hw,hnn⟩:=van hd h0
  have hy:=vap hd
  cases n with
  |zero=>exact absurd hn (Nat.not_lt_zero _)
  |succ n=>
   have ih2:=fun(s1:Int)=>ih (i+1) s1 n hd2 (Nat.lt_of_succ_lt_succ hn)
   simp only [vac,vim,vho,hlt,hz,decide_true,cond_true,and_self,if_true,hy,hw,hnn,Sum.elim_inl,Sum.elim_inr,ih2]
theorem wdw {u0} {u2}(h0:u0.length<9223372036854775807){K:(q7T⊕q7T)→Option Res}{s1:Int}:vac vim Fuel (u0,s1,u2,(0:Int)) K=vho u0 u2 u0 s1 0 (Sum.elim (fun z=>K (.inl (u0,z.1,z.2.1,z.2.2))) (fun z=>K (.inr (u0,z.1,u2,z.2)))):=
 wfx h0 u0 0 s1 Fuel rfl (vao h0)
def wa3 (a0:(List dTxn))(a1:Int)(k:Int→Option Res):Option Res:=
 vho a0 (0:Int) a0 a1 0 (Sum.elim (fun z48=>
  k z48.2.1) (fun z49=>
  k z49.1))
theorem wlg {a0:(List dTxn)}{a1:Int}(h0:a0.length<9223372036854775807){k:Int→Option Res}:voh a0 a1 k=wa3 a0 a1 k:=by
 rw [v8e]
 simp only [v5h,wa3,(wdw h0),Sum.elim_inl,Sum.elim_inr]
def wad (a0:va7)(a1:Int)(k:Bool→Option Res):Option Res:=
 vvz a0 (1048576:Int) (fun y48=>
  bif (decide (y48<(0:Int)))then
   k true
  else
   vfc a0 (fun y49=>
    vpt ((y49.2.2.1,(y49.2.2.2.1,(y49.2.2.2.2.1,(y49.1,y49.2.1)))),y49.2.2.2.2.2) a1 (Sum.elim (fun y50=>
     vfc a0 (fun y51=>
      vj9 ((y51.2.2.1,(y51.2.2.2.1,(y51.2.2.2.2.1,(y51.1,y51.2.1)))),y51.2.2.2.2.2) a1 (fun y52=>
       vd1 ((y52.2.2.2.1,(y52.2.2.2.2.1,(y52.2.2.2.2.2.1,(y52.1,y52.2.1)))),y52.2.2.2.2.2.2) ((y50.2.2.2.1,(y50.2.2.2.2.1,(y50.2.2.2.2.2.1,(y50.1,y50.2.1)))),y50.2.2.2.2.2.2) (fun y53=>
        bif (!y53)then
         k false
        else
         bif (y52.2.2.1 != y50.2.2.1)then
          k false
         else
          vbf (.inl (a1,false,y50.2.2.1,y52.2.2.1,a0.1.1,a0.1.2.1,a0.1.2.2.1,a0.1.2.2.2.1,a0.1.2.2.2.2,a0.2,y50.1,y50.2.1,y51.1,y51.2.1,y52.1,y52.2.1,y50.2.2.2.1,y50.2.2.2.2.1,y50.2.2.2.2.2.1,y50.2.2.2.2.2.2,y51.2.2.1,y51.2.2.2.1,y51.2.2.2.2.1,y51.2.2.2.2.2,y52.2.2.2.1,y52.2.2.2.2.1,y52.2.2.2.2.2.1,y52.2.2.2.2.2.2)) (Sum.elim (fun z54=>
           k z54.2.1) (Sum.elim (fun z55=>
           k z55.2.1) (Sum.elim (fun z56=>
           k z56.2.1) (Sum.elim (fun z57=>
           k z57.2.1) (fun z58=>
           k z58.1))))))))) (fun y59=>
     vfc a0 (fun y60=>
      vj9 ((y60.2.2.1,(y60.2.2.2.1,(y60.2.2.2.2.1,(y60.1,y60.2.1)))),y60.2.2.2.2.2) a1 (fun y61=>
       vd1 ((y61.2.2.2.1,(y61.2.2.2.2.1,(y61.2.2.2.2.2.1,(y61.1,y61.2.1)))),y61.2.2.2.2.2.2) ((y59.2.2.2.2.1,(y59.2.2.2.2.2.1,(y59.2.2.2.2.2.2,(y59.1,y59.2.1)))),y59.2.2.1) (fun y62=>
        bif (!y62)then
         k false
        else
         bif (y61.2.2.1 != y59.2.2.2.1)then
          k false
         else
          vbf (.inr (a1,false,y59.2.2.2.1,y61.2.2.1,a0.1.1,a0.1.2.1,a0.1.2.2.1,a0.1.2.2.2.1,a0.1.2.2.2.2,a0.2,y59.1,y59.2.1,y59.2.2.1,y60.1,y60.2.1,y61.1,y61.2.1,y59.2.2.2.2.1,y59.2.2.2.2.2.1,y59.2.2.2.2.2.2,y60.2.2.1,y60.2.2.2.1,y60.2.2.2.2.1,y60.2.2.2.2.2,y61.2.2.2.1,y61.2.2.2.2.1,y61.2.2.2.2.2.1,y61.2.2.2.2.2.2)) (Sum.elim (fun z63=>
           k z63.2.1) (Sum.elim (fun z64=>
           k z64.2.1) (Sum.elim (fun z65=>
           k z65.2.1) (Sum.elim (fun z66=>
           k z66.2.1) (fun z67=>
           k z67.1))))))))))))
theorem wlq {a0:va7}{a1:Int}  {k:Bool→Option Res}:vzc a0 a1 k=wad a0 a1 k:=by
 rw [wai]
 simp only [v39,wad,Sum.elim_inl,Sum.elim_inr]
end
end Go.VE
