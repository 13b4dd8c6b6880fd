/- Loops told as recursions over what is left; written by gen.py. -/
import Derived.Test.YtbaniaofomgceaaTidiedN
import Derived.Test.YtbaniaofomgceaaP1
namespace Go.VE
noncomputable section
set_option linter.unusedVariables false
set_option linter.unusedSimpArgs false
set_option maxRecDepth 100000
def vkm (u0:(List vaa))(u2:Int):List vaa→Int→Nat→(((Int×Int×Int)⊕(Int×Int))→Option Res)→Option Res
 |[],s1,i,k=>
  k (.inr (s1,(i:Int)))
 |y::l,s1,i,k=>
  vt4 y s1 (fun y1=>
   bif (decide (y1<(0:Int)))then
    k (.inl (y1,(-1:Int),(i:Int)))
   else
    vkm u0 u2 l y1 (i+1) k)
theorem v82 {u0} {u2}(h0:u0.length<9223372036854775807){K:(q17T⊕q17T)→Option Res}:∀(l:List vaa) (i:Nat) (s1:Int) (n:Nat),u0.drop i=l→l.length<n→vac vid n (u0,s1,u2,(i:Int)) K=vkm u0 u2 l s1 i (Sum.elim (fun z=>K (.inl (u0,z.1,z.2.1,z.2.2))) (fun z=>K (.inr (u0,z.1,u2,z.2)))):=by
 intro l
 induction l with
 |nil=>
  intro i s1 n hd hn
  have hge:=va3 hd
  cases n with
  |zero=>exact absurd hn (Nat.not_lt_zero _)
  |succ n=>simp only [vac,vid,vkm,hge,decide_false,cond_false,Sum.elim_inr,Sum.elim_inl]
 |cons y l ih=>
  intro i s1 n hd hn
  obtain⟨hlt,hz,hd2,hw,hnn⟩:=vaq hd h0
  have hy:=var hd
  cases n with
  |zero=>exact absurd hn (Nat.not_lt_zero _)
  |succ n=>
   have ih2:=fun(s1:Int)=>ih (i+1) s1 n hd2 (Nat.lt_of_succ_lt_succ hn)
   simp only [vac,vid,vkm,hlt,hz,decide_true,cond_true,and_self,if_true,hy,hw,hnn,Sum.elim_inl,Sum.elim_inr,ih2]
theorem v8g {u0} {u2}(h0:u0.length<9223372036854775807){K:(q17T⊕q17T)→Option Res}{s1:Int}:vac vid Fuel (u0,s1,u2,(0:Int)) K=vkm u0 u2 u0 s1 0 (Sum.elim (fun z=>K (.inl (u0,z.1,z.2.1,z.2.2))) (fun z=>K (.inr (u0,z.1,u2,z.2)))):=
 v82 h0 u0 0 s1 Fuel rfl (vas h0)
def vk2 (u0:(List vaj))(u2:Int):List vaj→Int→Nat→(((Int×Int×Int)⊕(Int×Int))→Option Res)→Option Res
 |[],s1,i,k=>
  k (.inr (s1,(i:Int)))
 |y::l,s1,i,k=>
  vtl y s1 (fun y1=>
   bif (decide (y1<(0:Int)))then
    k (.inl (y1,(-1:Int),(i:Int)))
   else
    vk2 u0 u2 l y1 (i+1) k)
theorem v8r {u0} {u2}(h0:u0.length<9223372036854775807){K:(q2T⊕q2T)→Option Res}:∀(l:List vaj) (i:Nat) (s1:Int) (n:Nat),u0.drop i=l→l.length<n→vac vht n (u0,s1,u2,(i:Int)) K=vk2 u0 u2 l s1 i (Sum.elim (fun z=>K (.inl (u0,z.1,z.2.1,z.2.2))) (fun z=>K (.inr (u0,z.1,u2,z.2)))):=by
 intro l
 induction l with
 |nil=>
  intro i s1 n hd hn
  have hge:=va3 hd
  cases n with
  |zero=>exact absurd hn (Nat.not_lt_zero _)
  |succ n=>simp only [vac,vht,vk2,hge,decide_false,cond_false,Sum.elim_inr,Sum.elim_inl]
 |cons y l ih=>
  intro i s1 n hd hn
  obtain⟨hlt,hz,hd2,hw,hnn⟩:=vaq hd h0
  have hy:=var hd
  cases n with
  |zero=>exact absurd hn (Nat.not_lt_zero _)
  |succ n=>
   have ih2:=fun(s1:Int)=>ih (i+1) s1 n hd2 (Nat.lt_of_succ_lt_succ hn)
   simp only [vac,vht,vk2,hlt,hz,decide_true,cond_true,and_self,if_true,hy,hw,hnn,Sum.elim_inl,Sum.elim_inr,ih2]
theorem v8s {u0} {u2}(h0:u0.length<9223372036854775807){K:(q2T⊕q2T)→Option Res}{s1:Int}:vac vht Fuel (u0,s1,u2,(0:Int)) K=vk2 u0 u2 u0 s1 0 (Sum.elim (fun z=>K (.inl (u0,z.1,z.2.1,z.2.2))) (fun z=>K (.inr (u0,z.1,u2,z.2)))):=
 v8r h0 u0 0 s1 Fuel rfl (vas h0)
def vky (u0:(List vak))(u2:Int):List vak→Int→Nat→(((Int×Int×Int)⊕(Int×Int))→Option Res)→Option Res
 |[],s1,i,k=>
  k (.inr (s1,(i:Int)))
 |y::l,s1,i,k=>
  vse y s1 (fun y1=>
   bif (decide (y1<(0:Int)))then
    k (.inl (y1,(-1:Int),(i:Int)))
   else
    vky u0 u2 l y1 (i+1) k)
theorem wbd {u0} {u2}(h0:u0.length<9223372036854775807){K:(q20T⊕q20T)→Option Res}:∀(l:List vak) (i:Nat) (s1:Int) (n:Nat),u0.drop i=l→l.length<n→vac vja n (u0,s1,u2,(i:Int)) K=vky u0 u2 l s1 i (Sum.elim (fun z=>K (.inl (u0,z.1,z.2.1,z.2.2))) (fun z=>K (.inr (u0,z.1,u2,z.2)))):=by
 intro l
 induction l with
 |nil=>
  intro i s1 n hd hn
  have hge:=va3 hd
  cases n with
  |zero=>exact absurd hn (Nat.not_lt_zero _)
  |succ n=>simp only [vac,vja,vky,hge,decide_false,cond_false,Sum.elim_inr,Sum.elim_inl]
 |cons y l ih=>
  intro i s1 n hd hn
  obtain⟨hlt,hz,hd2,hw,hnn⟩:=vaq hd h0
  have hy:=var hd
  cases n with
  |zero=>exact absurd hn (Nat.not_lt_zero _)
  |succ n=>
   have ih2:=fun(s1:Int)=>ih (i+1) s1 n hd2 (Nat.lt_of_succ_lt_succ hn)
   simp only [vac,vja,vky,hlt,hz,decide_true,cond_true,and_self,if_true,hy,hw,hnn,Sum.elim_inl,Sum.elim_inr,ih2]
theorem v9b {u0} {u2}(h0:u0.length<9223372036854775807){K:(q20T⊕q20T)→Option Res}{s1:Int}:vac vja Fuel (u0,s1,u2,(0:Int)) K=vky u0 u2 u0 s1 0 (Sum.elim (fun z=>K (.inl (u0,z.1,z.2.1,z.2.2))) (fun z=>K (.inr (u0,z.1,u2,z.2)))):=
 wbd h0 u0 0 s1 Fuel rfl (vas h0)
def vlc (u0:(List dTxn))(u2:Int):List dTxn→Int→Nat→(((Int×Int×Int)⊕(Int×Int))→Option Res)→Option Res
 |[],s1,i,k=>
  k (.inr (s1,(i:Int)))
 |y::l,s1,i,k=>
  vtw y s1 (fun y1=>
   bif (decide (y1<(0:Int)))then
    k (.inl (y1,(-1:Int),(i:Int)))
   else
    vlc u0 u2 l y1 (i+1) k)
theorem war {u0} {u2}(h0:u0.length<9223372036854775807){K:(q8T⊕q8T)→Option Res}:∀(l:List dTxn) (i:Nat) (s1:Int) (n:Nat),u0.drop i=l→l.length<n→vac vix n (u0,s1,u2,(i:Int)) K=vlc u0 u2 l s1 i (Sum.elim (fun z=>K (.inl (u0,z.1,z.2.1,z.2.2))) (fun z=>K (.inr (u0,z.1,u2,z.2)))):=by
 intro l
 induction l with
 |nil=>
  intro i s1 n hd hn
  have hge:=va3 hd
  cases n with
  |zero=>exact absurd hn (Nat.not_lt_zero _)
  |succ n=>simp only [vac,vix,vlc,hge,decide_false,cond_false,Sum.elim_inr,Sum.elim_inl]
 |cons y l ih=>
  intro i s1 n hd hn
  obtain⟨hlt,hz,hd2,hw,hnn⟩:=vaq hd h0
  have hy:=var hd
  cases n with
  |zero=>exact absurd hn (Nat.not_lt_zero _)
  |succ n=>
   have ih2:=fun(s1:Int)=>ih (i+1) s1 n hd2 (Nat.lt_of_succ_lt_succ hn)
   simp only [vac,vix,vlc,hlt,hz,decide_true,cond_true,and_self,if_true,hy,hw,hnn,Sum.elim_inl,Sum.elim_inr,ih2]
theorem wap {u0} {u2}(h0:u0.length<9223372036854775807){K:(q8T⊕q8T)→Option Res}{s1:Int}:vac vix Fuel (u0,s1,u2,(0:Int)) K=vlc u0 u2 u0 s1 0 (Sum.elim (fun z=>K (.inl (u0,z.1,z.2.1,z.2.2))) (fun z=>K (.inr (u0,z.1,u2,z.2)))):=
 war h0 u0 0 s1 Fuel rfl (vas h0)
def vf7 (u0:(List vaa)):List vaa→(List vaa)→Nat→((Int×(List vaa))→Option Res)→Option Res
 |[],s2,i,k=>
  k ((i:Int),s2)
 |y::l,s2,i,k=>
  vtv y (fun y1=>
   if 0≤(i:Int)∧(i:Int)<(s2.length:Int)then
    vf7 u0 l (s2.set (i:Int).toNat y1) (i+1) k
   else none)
theorem waq {u0}(h0:u0.length<9223372036854775807){K:q14T→Option Res}:∀(l:List vaa) (i:Nat) (s2:(List vaa)) (n:Nat),u0.drop i=l→l.length<n→vac vh2 n (u0,(i:Int),s2) K=vf7 u0 l s2 i (fun z=>K (u0,z.1,z.2)):=by
 intro l
 induction l with
 |nil=>
  intro i s2 n hd hn
  have hge:=va3 hd
  cases n with
  |zero=>exact absurd hn (Nat.not_lt_zero _)
  |succ n=>simp only [vac,vh2,vf7,hge,decide_false,cond_false,Sum.elim_inr,Sum.elim_inl]
 |cons y l ih=>
  intro i s2 n hd hn
  obtain⟨hlt,hz,hd2,hw,hnn⟩:=vaq hd h0
  have hy:=var hd
  cases n with
  |zero=>exact absurd hn (Nat.not_lt_zero _)
  |succ n=>
   have ih2:=fun(s2:(List vaa))=>ih (i+1) s2 n hd2 (Nat.lt_of_succ_lt_succ hn)
   simp only [vac,vh2,vf7,hlt,hz,decide_true,cond_true,and_self,if_true,hy,hw,hnn,Sum.elim_inl,Sum.elim_inr,ih2]
theorem v77 {u0}(h0:u0.length<9223372036854775807){K:q14T→Option Res}{s2:(List vaa)}:vac vh2 Fuel (u0,(0:Int),s2) K=vf7 u0 u0 s2 0 (fun z=>K (u0,z.1,z.2)):=
 waq h0 u0 0 s2 Fuel rfl (vas h0)
def v7h (a0:(List vaa))(k:(List vaa)→Option Res):Option Res:=
 if 0≤(a0.length:Int)∧(a0.length:Int)≤(a0.length:Int)∧(a0.length:Int)≤(VE.maxLen:Int)then
  vf7 a0 a0 (List.replicate (a0.length:Int).toNat (Ty.zero tVersion)) 0 (fun z25=>
   k z25.2)
 else none
theorem wf4 {a0:(List vaa)}(h0:a0.length<9223372036854775807){k:(List vaa)→Option Res}:vtx a0 k=v7h a0 k:=by
 rw [v6a]
 simp only [v07,v7h,(v77 h0),Sum.elim_inl,Sum.elim_inr]
def vfo (u0:(List vaj)):List vaj→(List vaj)→Nat→((Int×(List vaj))→Option Res)→Option Res
 |[],s2,i,k=>
  k ((i:Int),s2)
 |y::l,s2,i,k=>
  vr5 y (fun y1=>
   if 0≤(i:Int)∧(i:Int)<(s2.length:Int)then
    vfo u0 l (s2.set (i:Int).toNat y1) (i+1) k
   else none)
theorem v8z {u0}(h0:u0.length<9223372036854775807){K:q1T→Option Res}:∀(l:List vaj) (i:Nat) (s2:(List vaj)) (n:Nat),u0.drop i=l→l.length<n→vac vjb n (u0,(i:Int),s2) K=vfo u0 l s2 i (fun z=>K (u0,z.1,z.2)):=by
 intro l
 induction l with
 |nil=>
  intro i s2 n hd hn
  have hge:=va3 hd
  cases n with
  |zero=>exact absurd hn (Nat.not_lt_zero _)
  |succ n=>simp only [vac,vjb,vfo,hge,decide_false,cond_false,Sum.elim_inr,Sum.elim_inl]
 |cons y l ih=>
  intro i s2 n hd hn
  obtain⟨hlt,hz,hd2,hw,hnn⟩:=vaq hd h0
  have hy:=var hd
  cases n with
  |zero=>exact absurd hn (Nat.not_lt_zero _)
  |succ n=>
   have ih2:=fun(s2:(List vaj))=>ih (i+1) s2 n hd2 (Nat.lt_of_succ_lt_succ hn)
   simp only [vac,vjb,vfo,hlt,hz,decide_true,cond_true,and_self,if_true,hy,hw,hnn,Sum.elim_inl,Sum.elim_inr,ih2]
theorem v9m {u0}(h0:u0.length<9223372036854775807){K:q1T→Option Res}{s2:(List vaj)}:vac vjb Fuel (u0,(0:Int),s2) K=vfo u0 u0 s2 0 (fun z=>K (u0,z.1,z.2)):=
 v8z h0 u0 0 s2 Fuel rfl (vas h0)
def v4b (a0:(List vaj))(k:(List vaj)→Option Res):Option Res:=
 if 0≤(a0.length:Int)∧(a0.length:Int)≤(a0.length:Int)∧(a0.length:Int)≤(VE.maxLen:Int)then
  vfo a0 a0 (List.replicate (a0.length:Int).toNat (Ty.zero tRange)) 0 (fun z25=>
   k z25.2)
 else none
theorem we0 {a0:(List vaj)}(h0:a0.length<9223372036854775807){k:(List vaj)→Option Res}:vt9 a0 k=v4b a0 k:=by
 rw [v5w]
 simp only [v2o,v4b,(v9m h0),Sum.elim_inl,Sum.elim_inr]
def vfq (u0:(List vak)):List vak→(List vak)→Nat→((Int×(List vak))→Option Res)→Option Res
 |[],s2,i,k=>
  k ((i:Int),s2)
 |y::l,s2,i,k=>
  vsf y (fun y1=>
   if 0≤(i:Int)∧(i:Int)<(s2.length:Int)then
    vfq u0 l (s2.set (i:Int).toNat y1) (i+1) k
   else none)
theorem wae {u0}(h0:u0.length<9223372036854775807){K:q19T→Option Res}:∀(l:List vak) (i:Nat) (s2:(List vak)) (n:Nat),u0.drop i=l→l.length<n→vac vh0 n (u0,(i:Int),s2) K=vfq u0 l s2 i (fun z=>K (u0,z.1,z.2)):=by
 intro l
 induction l with
 |nil=>
  intro i s2 n hd hn
  have hge:=va3 hd
  cases n with
  |zero=>exact absurd hn (Nat.not_lt_zero _)
  |succ n=>simp only [vac,vh0,vfq,hge,decide_false,cond_false,Sum.elim_inr,Sum.elim_inl]
 |cons y l ih=>
  intro i s2 n hd hn
  obtain⟨hlt,hz,hd2,hw,hnn⟩:=vaq hd h0
  have hy:=var hd
  cases n with
  |zero=>exact absurd hn (Nat.not_lt_zero _)
  |succ n=>
   have ih2:=fun(s2:(List vak))=>ih (i+1) s2 n hd2 (Nat.lt_of_succ_lt_succ hn)
   simp only [vac,vh0,vfq,hlt,hz,decide_true,cond_true,and_self,if_true,hy,hw,hnn,Sum.elim_inl,Sum.elim_inr,ih2]
theorem wbc {u0}(h0:u0.length<9223372036854775807){K:q19T→Option Res}{s2:(List vak)}:vac vh0 Fuel (u0,(0:Int),s2) K=vfq u0 u0 s2 0 (fun z=>K (u0,z.1,z.2)):=
 wae h0 u0 0 s2 Fuel rfl (vas h0)
def v5g (a0:(List vak))(k:(List vak)→Option Res):Option Res:=
 if 0≤(a0.length:Int)∧(a0.length:Int)≤(a0.length:Int)∧(a0.length:Int)≤(VE.maxLen:Int)then
  vfq a0 a0 (List.replicate (a0.length:Int).toNat (Ty.zero tWrite)) 0 (fun z25=>
   k z25.2)
 else none
theorem wfd {a0:(List vak)}(h0:a0.length<9223372036854775807){k:(List vak)→Option Res}:vsa a0 k=v5g a0 k:=by
 rw [v5a]
 simp only [v12,v5g,(wbc h0),Sum.elim_inl,Sum.elim_inr]
def vf0 (u0:(List dTxn)):List dTxn→(List dTxn)→Nat→((Int×(List dTxn))→Option Res)→Option Res
 |[],s2,i,k=>
  k ((i:Int),s2)
 |y::l,s2,i,k=>
  vpm y (fun y1=>
   if 0≤(i:Int)∧(i:Int)<(s2.length:Int)then
    vf0 u0 l (s2.set (i:Int).toNat (y1.1,(y1.2.1,(y1.2.2.1,(y1.2.2.2.1,(y1.2.2.2.2.2.2.1,(y1.2.2.2.2.2.2.2,(y1.2.2.2.2.1,y1.2.2.2.2.2.1)))))))) (i+1) k
   else none)
theorem v92 {u0}(h0:u0.length<9223372036854775807){K:q5T→Option Res}:∀(l:List dTxn) (i:Nat) (s2:(List dTxn)) (n:Nat),u0.drop i=l→l.length<n→vac vis n (u0,(i:Int),s2) K=vf0 u0 l s2 i (fun z=>K (u0,z.1,z.2)):=by
 intro l
 induction l with
 |nil=>
  intro i s2 n hd hn
  have hge:=va3 hd
  cases n with
  |zero=>exact absurd hn (Nat.not_lt_zero _)
  |succ n=>simp only [vac,vis,vf0,hge,decide_false,cond_false,Sum.elim_inr,Sum.elim_inl]
 |cons y l ih=>
  intro i s2 n hd hn
  obtain⟨hlt,hz,hd2,hw,hnn⟩:=vaq hd h0
  have hy:=var hd
  cases n with
  |zero=>exact absurd hn (Nat.not_lt_zero _)
  |succ n=>
   have ih2:=fun(s2:(List dTxn))=>ih (i+1) s2 n hd2 (Nat.lt_of_succ_lt_succ hn)
   simp only [vac,vis,vf0,hlt,hz,decide_true,cond_true,and_self,if_true,hy,hw,hnn,Sum.elim_inl,Sum.elim_inr,ih2]
theorem wa9 {u0}(h0:u0.length<9223372036854775807){K:q5T→Option Res}{s2:(List dTxn)}:vac vis Fuel (u0,(0:Int),s2) K=vf0 u0 u0 s2 0 (fun z=>K (u0,z.1,z.2)):=
 v92 h0 u0 0 s2 Fuel rfl (vas h0)
def v45 (a0:(List dTxn))(k:(List dTxn)→Option Res):Option Res:=
 if 0≤(a0.length:Int)∧(a0.length:Int)≤(a0.length:Int)∧(a0.length:Int)≤(VE.maxLen:Int)then
  vf0 a0 a0 (List.replicate (a0.length:Int).toNat (Ty.zero tTxn)) 0 (fun z25=>
   k z25.2)
 else none
theorem wgg {a0:(List dTxn)}(h0:a0.length<9223372036854775807){k:(List dTxn)→Option Res}:veo a0 k=v45 a0 k:=by
 rw [v6i]
 simp only [v2k,v45,(wa9 h0),Sum.elim_inl,Sum.elim_inr]
def vhi (u0:(List dTxn)):List dTxn→(List dTxn)→Nat→((Int×(List dTxn))→Option Res)→Option Res
 |[],s2,i,k=>
  k ((i:Int),s2)
 |y::l,s2,i,k=>
  vnl y (fun y1=>
   if s2.length+[(y1.1,(y1.2.1,(y1.2.2.1,(y1.2.2.2.1,(y1.2.2.2.2.2.2.1,(y1.2.2.2.2.2.2.2,(y1.2.2.2.2.1,y1.2.2.2.2.2.1)))))))].length≤VE.maxLen then
    vhi u0 l (s2++[(y1.1,(y1.2.1,(y1.2.2.1,(y1.2.2.2.1,(y1.2.2.2.2.2.2.1,(y1.2.2.2.2.2.2.2,(y1.2.2.2.2.1,y1.2.2.2.2.2.1)))))))]) (i+1) k
   else none)
theorem wa3 {u0}(h0:u0.length<9223372036854775807){K:q5T→Option Res}:∀(l:List dTxn) (i:Nat) (s2:(List dTxn)) (n:Nat),u0.drop i=l→l.length<n→vac vif n (u0,(i:Int),s2) K=vhi u0 l s2 i (fun z=>K (u0,z.1,z.2)):=by
 intro l
 induction l with
 |nil=>
  intro i s2 n hd hn
  have hge:=va3 hd
  cases n with
  |zero=>exact absurd hn (Nat.not_lt_zero _)
  |succ n=>simp only [vac,vif,vhi,hge,decide_false,cond_false,Sum.elim_inr,Sum.elim_inl]
 |cons y l ih=>
  intro i s2 n hd hn
  obtain⟨hlt,hz,hd2,hw,hnn⟩:=vaq hd h0
  have hy:=var hd
  cases n with
  |zero=>exact absurd hn (Nat.not_lt_zero _)
  |succ n=>
   have ih2:=fun(s2:(List dTxn))=>ih (i+1) s2 n hd2 (Nat.lt_of_succ_lt_succ hn)
   simp only [vac,vif,vhi,hlt,hz,decide_true,cond_true,and_self,if_true,hy,hw,hnn,Sum.elim_inl,Sum.elim_inr,ih2]
theorem wad {u0}(h0:u0.length<9223372036854775807){K:q5T→Option Res}{s2:(List dTxn)}:vac vif Fuel (u0,(0:Int),s2) K=vhi u0 u0 s2 0 (fun z=>K (u0,z.1,z.2)):=
 wa3 h0 u0 0 s2 Fuel rfl (vas h0)
def v7d (a0:(List dTxn))(k:(List dTxn)→Option Res):Option Res:=
 vhi a0 a0 ([]:List dTxn) 0 (fun z25=>
  k z25.2)
theorem wff {a0:(List dTxn)}(h0:a0.length<9223372036854775807){k:(List dTxn)→Option Res}:vpu a0 k=v7d a0 k:=by
 rw [v48]
 simp only [v2q,v7d,(wad h0),Sum.elim_inl,Sum.elim_inr]
def vhl (u0:(List dTxn)):List dTxn→Int→Nat→((Int×Int)→Option Res)→Option Res
 |[],s1,i,k=>
  k (s1,(i:Int))
 |y::l,s1,i,k=>
  bif (decide (y.2.2.1<s1))then
   vhl u0 l y.2.2.1 (i+1) k
  else
   vhl u0 l s1 (i+1) k
theorem v80 {u0}(h0:u0.length<9223372036854775807){K:((List dTxn)×Int×Int)→Option Res}:∀(l:List dTxn) (i:Nat) (s1:Int) (n:Nat),u0.drop i=l→l.length<n→vac vi4 n (u0,s1,(i:Int)) K=vhl u0 l s1 i (fun z=>K (u0,z.1,z.2)):=by
 intro l
 induction l with
 |nil=>
  intro i s1 n hd hn
  have hge:=va3 hd
  cases n with
  |zero=>exact absurd hn (Nat.not_lt_zero _)
  |succ n=>simp only [vac,vi4,vhl,hge,decide_false,cond_false,Sum.elim_inr,Sum.elim_inl]
 |cons y l ih=>
  intro i s1 n hd hn
  obtain⟨hlt,hz,hd2,hw,hnn⟩:=vaq hd h0
  have hy:=var hd
  cases n with
  |zero=>exact absurd hn (Nat.not_lt_zero _)
  |succ n=>
   have ih2:=fun(s1:Int)=>ih (i+1) s1 n hd2 (Nat.lt_of_succ_lt_succ hn)
   simp only [vac,vi4,vhl,hlt,hz,decide_true,cond_true,and_self,if_true,hy,hw,hnn,Sum.elim_inl,Sum.elim_inr,ih2]
theorem waa {u0}(h0:u0.length<9223372036854775807){K:((List dTxn)×Int×Int)→Option Res}{s1:Int}:vac vi4 Fuel (u0,s1,(0:Int)) K=vhl u0 u0 s1 0 (fun z=>K (u0,z.1,z.2)):=
 v80 h0 u0 0 s1 Fuel rfl (vas h0)
def v7u (a0:vcn)(a1:(List dTxn))(k:Int→Option Res):Option Res:=
 vhl a1 a1 a0.2.2.2.1 0 (fun z25=>
  k z25.1)
theorem we5 {a0:vcn}{a1:(List dTxn)}(h0:a1.length<9223372036854775807){k:Int→Option Res}:vp8 a0 a1 k=v7u a0 a1 k:=by
 rw [v6g]
 simp only [v2t,v7u,(waa h0),Sum.elim_inl,Sum.elim_inr]
def vd0 (u0:(List vaa))(u1:ByteArray)(u2:Int):List vaa→Int→Nat→((Int×Int)→Option Res)→Option Res
 |[],s3,i,k=>
  k (s3,(i:Int))
 |y::l,s3,i,k=>
  bif (vbh (y.1) u1)then
   bif (decide (y.2.2.2≤u2))then
    bif (decide (s3<(0:Int)))then
     vd0 u0 u1 u2 l (i:Int) (i+1) k
    else
     if 0≤s3∧s3<(u0.length:Int)then
      bif (decide (y.2.2.2>(rd (Ty.zero tVersion) u0 s3).2.2.2))then
       vd0 u0 u1 u2 l (i:Int) (i+1) k
      else
       vd0 u0 u1 u2 l s3 (i+1) k
     else none
   else
    vd0 u0 u1 u2 l s3 (i+1) k
  else
   vd0 u0 u1 u2 l s3 (i+1) k
theorem wba {u0} {u1} {u2}(h0:u0.length<9223372036854775807){K:q11T→Option Res}:∀(l:List vaa) (i:Nat) (s3:Int) (n:Nat),u0.drop i=l→l.length<n→vac vh3 n (u0,u1,u2,s3,(i:Int)) K=vd0 u0 u1 u2 l s3 i (fun z=>K (u0,u1,u2,z.1,z.2)):=by
 intro l
 induction l with
 |nil=>
  intro i s3 n hd hn
  have hge:=va3 hd
  cases n with
  |zero=>exact absurd hn (Nat.not_lt_zero _)
  |succ n=>simp only [vac,vh3,vd0,hge,decide_false,cond_false,Sum.elim_inr,Sum.elim_inl]
 |cons y l ih=>
  intro i s3 n hd hn
  obtain⟨hlt,hz,hd2,hw,hnn⟩:=vaq hd h0
  have hy:=var hd
  cases n with
  |zero=>exact absurd hn (Nat.not_lt_zero _)
  |succ n=>
   have ih2:=fun(s3:Int)=>ih (i+1) s3 n hd2 (Nat.lt_of_succ_lt_succ hn)
   simp only [vac,vh3,vd0,hlt,hz,decide_true,cond_true,and_self,if_true,hy,hw,hnn,Sum.elim_inl,Sum.elim_inr,ih2]
theorem v8t {u0} {u1} {u2}(h0:u0.length<9223372036854775807){K:q11T→Option Res}{s3:Int}:vac vh3 Fuel (u0,u1,u2,s3,(0:Int)) K=vd0 u0 u1 u2 u0 s3 0 (fun z=>K (u0,u1,u2,z.1,z.2)):=
 wba h0 u0 0 s3 Fuel rfl (vas h0)
def v5f (a0:(List vaa))(a1:ByteArray)(a2:Int)(k:Int→Option Res):Option Res:=
 vd0 a0 a1 a2 a0 (-1:Int) 0 (fun z25=>
  k z25.1)
theorem wfb {a0:(List vaa)}{a1:ByteArray}{a2:Int}(h0:a0.length<9223372036854775807){k:Int→Option Res}:vra a0 a1 a2 k=v5f a0 a1 a2 k:=by
 rw [v4h]
 simp only [v15,v5f,(v8t h0),Sum.elim_inl,Sum.elim_inr]
def vce (u0:(List vaa))(u1:Int)(u2:Int)(u3:Bool)(u4:(List vaa))(k:(List vaa)→Option Res):Option Res:=
  bif u3 then
   if 0≤u2∧u2<(u0.length:Int)then
    if u4.length+[(rd (Ty.zero tVersion) u0 u2)].length≤VE.maxLen then
     k (u4++[(rd (Ty.zero tVersion) u0 u2)])
    else none
   else none
  else
   k u4
theorem vih {u0} {u1} {u2} {u3} {u4}  {K:q16T→Option Res}:vbu (u0,u1,u2,u3,u4) K=vce u0 u1 u2 u3 u4 (fun z=>K (u0,u1,u2,u3,z)):=by
 simp only [vbu,vce,Sum.elim_inl,Sum.elim_inr]
def vf8 (u0:(List vaa))(u1:Int):List vaa→(List vaa)→Nat→((Int×(List vaa))→Option Res)→Option Res
 |[],s3,i,k=>
  k ((i:Int),s3)
 |y::l,s3,i,k=>
  vra u0 y.1 u1 (fun y1=>
   bif (decide (y.2.2.2>u1))then
    vce u0 u1 (i:Int) true s3 (fun z2=>
     vf8 u0 u1 l z2 (i+1) k)
   else
    vce u0 u1 (i:Int) (y1==(i:Int)) s3 (fun z3=>
     vf8 u0 u1 l z3 (i+1) k))
theorem v9s {u0} {u1}(h0:u0.length<9223372036854775807){K:q15T→Option Res}:∀(l:List vaa) (i:Nat) (s3:(List vaa)) (n:Nat),u0.drop i=l→l.length<n→vac vi3 n (u0,u1,(i:Int),s3) K=vf8 u0 u1 l s3 i (fun z=>K (u0,u1,z.1,z.2)):=by
 intro l
 induction l with
 |nil=>
  intro i s3 n hd hn
  have hge:=va3 hd
  cases n with
  |zero=>exact absurd hn (Nat.not_lt_zero _)
  |succ n=>simp only [vac,vi3,vf8,hge,decide_false,cond_false,Sum.elim_inr,Sum.elim_inl,vih]
 |cons y l ih=>
  intro i s3 n hd hn
  obtain⟨hlt,hz,hd2,hw,hnn⟩:=vaq hd h0
  have hy:=var hd
  cases n with
  |zero=>exact absurd hn (Nat.not_lt_zero _)
  |succ n=>
   have ih2:=fun(s3:(List vaa))=>ih (i+1) s3 n hd2 (Nat.lt_of_succ_lt_succ hn)
   simp only [vac,vi3,vf8,hlt,hz,decide_true,cond_true,and_self,if_true,hy,hw,hnn,Sum.elim_inl,Sum.elim_inr,ih2,vih]
theorem v8d {u0} {u1}(h0:u0.length<9223372036854775807){K:q15T→Option Res}{s3:(List vaa)}:vac vi3 Fuel (u0,u1,(0:Int),s3) K=vf8 u0 u1 u0 s3 0 (fun z=>K (u0,u1,z.1,z.2)):=
 v9s h0 u0 0 s3 Fuel rfl (vas h0)
def vbz (u0:Int)(u1:Int)(u2:Bool)(u3:(List vaa))(u4:(List vaa))(k:(List vaa)→Option Res):Option Res:=
  bif u2 then
   if 0≤u1∧u1<(u3.length:Int)then
    if u4.length+[(u3.getD u1.toNat (Ty.zero tVersion))].length≤VE.maxLen then
     k (u4++[(u3.getD u1.toNat (Ty.zero tVersion))])
    else none
   else none
  else
   k u4
theorem vjl {u0} {u1} {u2} {u3} {u4}  {K:q28T→Option Res}:vbm (u0,u1,u2,u3,u4) K=vbz u0 u1 u2 u3 u4 (fun z=>K (u0,u1,u2,u3,z)):=by
 simp only [vbm,vbz,Sum.elim_inl,Sum.elim_inr]
def vg7 (u0:Int)(u1:Int)(u4:(List vaa))(u5:(List vaa)):List vaa→Int→Nat→((Int×Int)→Option Res)→Option Res
 |[],s2,i,k=>
  k (s2,(i:Int))
 |y::l,s2,i,k=>
  if 0≤u1∧u1<(u4.length:Int)then
   bif (vbh (y.1) ((u4.getD u1.toNat (Ty.zero tVersion)).1))then
    vg7 u0 u1 u4 u5 l (IntKind.wrap .i64 (s2+(1:Int))) (i+1) k
   else
    vg7 u0 u1 u4 u5 l s2 (i+1) k
  else none
theorem v98 {u0} {u1} {u4} {u5}(h0:u4.length<9223372036854775807){K:q30T→Option Res}:∀(l:List vaa) (i:Nat) (s2:Int) (n:Nat),u4.drop i=l→l.length<n→vac vi5 n (u0,u1,s2,(i:Int),u4,u5) K=vg7 u0 u1 u4 u5 l s2 i (fun z=>K (u0,u1,z.1,z.2,u4,u5)):=by
 intro l
 induction l with
 |nil=>
  intro i s2 n hd hn
  have hge:=va3 hd
  cases n with
  |zero=>exact absurd hn (Nat.not_lt_zero _)
  |succ n=>simp only [vac,vi5,vg7,hge,decide_false,cond_false,Sum.elim_inr,Sum.elim_inl]
 |cons y l ih=>
  intro i s2 n hd hn
  obtain⟨hlt,hz,hd2,hw,hnn⟩:=vaq hd h0
  have hy:=var hd
  cases n with
  |zero=>exact absurd hn (Nat.not_lt_zero _)
  |succ n=>
   have ih2:=fun(s2:Int)=>ih (i+1) s2 n hd2 (Nat.lt_of_succ_lt_succ hn)
   simp only [vac,vi5,vg7,hlt,hz,decide_true,cond_true,and_self,if_true,hy,hw,hnn,Sum.elim_inl,Sum.elim_inr,ih2]
theorem v0t {u0} {u1} {u4} {u5}(h0:u4.length<9223372036854775807){K:q30T→Option Res}{s2:Int}:vac vi5 Fuel (u0,u1,s2,(0:Int),u4,u5) K=vg7 u0 u1 u4 u5 u4 s2 0 (fun z=>K (u0,u1,z.1,z.2,u4,u5)):=
 v98 h0 u4 0 s2 Fuel rfl (vas h0)
def vf1 (u0:Int)(u2:(List vaa)):List vaa→(List vaa)→Nat→((Int×(List vaa))→Option Res)→Option Res
 |[],s3,i,k=>
  k ((i:Int),s3)
 |y::l,s3,i,k=>
  vg7 u0 (i:Int) u2 s3 u2 (0:Int) 0 (fun z1=>
   bif (!y.2.2.1)then
    vbz u0 (i:Int) true u2 s3 (fun z2=>
     vf1 u0 u2 l z2 (i+1) k)
   else
    bif (decide (y.2.2.2>u0))then
     vbz u0 (i:Int) true u2 s3 (fun z3=>
      vf1 u0 u2 l z3 (i+1) k)
    else
     vbz u0 (i:Int) (decide (z1.1>(1:Int))) u2 s3 (fun z4=>
      vf1 u0 u2 l z4 (i+1) k))
theorem v9y {u0} {u2}(h0:u2.length<9223372036854775807){K:q27T→Option Res}:∀(l:List vaa) (i:Nat) (s3:(List vaa)) (n:Nat),u2.drop i=l→l.length<n→vac vhb n (u0,(i:Int),u2,s3) K=vf1 u0 u2 l s3 i (fun z=>K (u0,z.1,u2,z.2)):=by
 intro l
 induction l with
 |nil=>
  intro i s3 n hd hn
  have hge:=va3 hd
  cases n with
  |zero=>exact absurd hn (Nat.not_lt_zero _)
  |succ n=>simp only [vac,vhb,vf1,hge,decide_false,cond_false,Sum.elim_inr,Sum.elim_inl,vjl,(v0t h0)]
 |cons y l ih=>
  intro i s3 n hd hn
  obtain⟨hlt,hz,hd2,hw,hnn⟩:=vaq hd h0
  have hy:=var hd
  cases n with
  |zero=>exact absurd hn (Nat.not_lt_zero _)
  |succ n=>
   have ih2:=fun(s3:(List vaa))=>ih (i+1) s3 n hd2 (Nat.lt_of_succ_lt_succ hn)
   simp only [vac,vhb,vf1,hlt,hz,decide_true,cond_true,and_self,if_true,hy,hw,hnn,Sum.elim_inl,Sum.elim_inr,ih2,vjl,(v0t h0)]
theorem waf {u0} {u2}(h0:u2.length<9223372036854775807){K:q27T→Option Res}{s3:(List vaa)}:vac vhb Fuel (u0,(0:Int),u2,s3) K=vf1 u0 u2 u2 s3 0 (fun z=>K (u0,z.1,u2,z.2)):=
 v9y h0 u2 0 s3 Fuel rfl (vas h0)
def v4s (a0:(List vaa))(a1:Int)(k:(List vaa)→Option Res):Option Res:=
 vf8 a0 a1 a0 ([]:List vaa) 0 (fun z25=>
  vac vhb Fuel (a1,(0:Int),z25.2,([]:List vaa)) (fun z26=>
   k z26.2.2.2))
theorem wfg {a0:(List vaa)}{a1:Int}(h0:a0.length<9223372036854775807){k:(List vaa)→Option Res}:vo7 a0 a1 k=v4s a0 a1 k:=by
 rw [v70]
 simp only [v1e,v4s,(v8d h0),Sum.elim_inl,Sum.elim_inr]
def vey (u0:Int)(u2:(List vaa))(u3:(List dTxn))(u4:(List dTxn))(u5:Int)(u6:Int)(u7:Int)(u8:Int)(u9:Int)(u10:Int)(u11:(List vaa))(u13:(List dTxn)):List dTxn→(List dTxn)→Nat→((Int×(List dTxn))→Option Res)→Option Res
 |[],s12,i,k=>
  k ((i:Int),s12)
 |y::l,s12,i,k=>
  bif (decide (y.2.2.2.1>u0))then
   vnl y (fun y1=>
    if s12.length+[(y1.1,(y1.2.1,(y1.2.2.1,(y1.2.2.2.1,(y1.2.2.2.2.2.2.1,(y1.2.2.2.2.2.2.2,(y1.2.2.2.2.1,y1.2.2.2.2.2.1)))))))].length≤VE.maxLen then
     vey u0 u2 u3 u4 u5 u6 u7 u8 u9 u10 u11 u13 l (s12++[(y1.1,(y1.2.1,(y1.2.2.1,(y1.2.2.2.1,(y1.2.2.2.2.2.2.1,(y1.2.2.2.2.2.2.2,(y1.2.2.2.2.1,y1.2.2.2.2.2.1)))))))]) (i+1) k
    else none)
  else
   vey u0 u2 u3 u4 u5 u6 u7 u8 u9 u10 u11 u13 l s12 (i+1) k
theorem v90 {u0} {u2} {u3} {u4} {u5} {u6} {u7} {u8} {u9} {u10} {u11} {u13}(h0:u3.length<9223372036854775807){K:q25T→Option Res}:∀(l:List dTxn) (i:Nat) (s12:(List dTxn)) (n:Nat),u3.drop i=l→l.length<n→vac vil n (u0,(i:Int),u2,u3,u4,u5,u6,u7,u8,u9,u10,u11,s12,u13) K=vey u0 u2 u3 u4 u5 u6 u7 u8 u9 u10 u11 u13 l s12 i (fun z=>K (u0,z.1,u2,u3,u4,u5,u6,u7,u8,u9,u10,u11,z.2,u13)):=by
 intro l
 induction l with
 |nil=>
  intro i s12 n hd hn
  have hge:=va3 hd
  cases n with
  |zero=>exact absurd hn (Nat.not_lt_zero _)
  |succ n=>simp only [vac,vil,vey,hge,decide_false,cond_false,Sum.elim_inr,Sum.elim_inl]
 |cons y l ih=>
  intro i s12 n hd hn
  obtain⟨hlt,hz,hd2,hw,hnn⟩:=vaq hd h0
  have hy:=var hd
  cases n with
  |zero=>exact absurd hn (Nat.not_lt_zero _)
  |succ n=>
   have ih2:=fun(s12:(List dTxn))=>ih (i+1) s12 n hd2 (Nat.lt_of_succ_lt_succ hn)
   simp only [vac,vil,vey,hlt,hz,decide_true,cond_true,and_self,if_true,hy,hw,hnn,Sum.elim_inl,Sum.elim_inr,ih2]
theorem waw {u0} {u2} {u3} {u4} {u5} {u6} {u7} {u8} {u9} {u10} {u11} {u13}(h0:u3.length<9223372036854775807){K:q25T→Option Res}{s12:(List dTxn)}:vac vil Fuel (u0,(0:Int),u2,u3,u4,u5,u6,u7,u8,u9,u10,u11,s12,u13) K=vey u0 u2 u3 u4 u5 u6 u7 u8 u9 u10 u11 u13 u3 s12 0 (fun z=>K (u0,z.1,u2,u3,u4,u5,u6,u7,u8,u9,u10,u11,z.2,u13)):=
 v90 h0 u3 0 s12 Fuel rfl (vas h0)
def v46 (a0:vcn)(a1:(List dTxn))(k:q26T→Option Res):Option Res:=
 vs9 a0 (fun y25=>
  vp8 a0 a1 (fun y26=>
   vey y26 a0.1 a0.2.1 a0.2.2.1 a0.2.2.2.1 a0.2.2.2.2 (0:Int) (0:Int) y25.1 y25.2.1 y25.2.2.1 y25.2.2.2.2 a0.2.1 ([]:List dTxn) 0 (fun z27=>
    vo7 a0.1 y26 (fun y28=>
     k (y25.1,y25.2.1,y28,z27.2,y25.2.2.2.2)))))
theorem wfj {a0:vcn}{a1:(List dTxn)}(h0:a0.2.1.length<9223372036854775807){k:q26T→Option Res}:vpg a0 a1 k=v46 a0 a1 k:=by
 rw [v4g]
 simp only [v0o,v46,(waw h0),Sum.elim_inl,Sum.elim_inr]
def vhm (u0:(List dTxn)):List dTxn→(List dTxn)→Nat→((Int×(List dTxn))→Option Res)→Option Res
 |[],s3,i,k=>
  k ((i:Int),s3)
 |y::l,s3,i,k=>
  vtn y (fun y1=>
   if s3.length+[(y1.1,(y1.2.1,(y1.2.2.1,(y1.2.2.2.1,(y1.2.2.2.2.2.2.1,(y1.2.2.2.2.2.2.2,(y1.2.2.2.2.1,y1.2.2.2.2.2.1)))))))].length≤VE.maxLen then
    vhm u0 l (s3++[(y1.1,(y1.2.1,(y1.2.2.1,(y1.2.2.2.1,(y1.2.2.2.2.2.2.1,(y1.2.2.2.2.2.2.2,(y1.2.2.2.2.1,y1.2.2.2.2.2.1)))))))]) (i+1) k
   else none)
theorem wa4 {u0}(h0:u0.length<9223372036854775807){K:q6T→Option Res}:∀(l:List dTxn) (i:Nat) (s3:(List dTxn)) (n:Nat),u0.drop i=l→l.length<n→vac viv n (u0,(u0.length:Int),(i:Int),s3) K=vhm u0 l s3 i (fun z=>K (u0,(u0.length:Int),z.1,z.2)):=by
 intro l
 induction l with
 |nil=>
  intro i s3 n hd hn
  have hge:=va3 hd
  cases n with
  |zero=>exact absurd hn (Nat.not_lt_zero _)
  |succ n=>simp only [vac,viv,vhm,hge,decide_false,cond_false,Sum.elim_inr,Sum.elim_inl]
 |cons y l ih=>
  intro i s3 n hd hn
  obtain⟨hlt,hz,hd2,hw,hnn⟩:=vaq hd h0
  have hy:=var hd
  cases n with
  |zero=>exact absurd hn (Nat.not_lt_zero _)
  |succ n=>
   have ih2:=fun(s3:(List dTxn))=>ih (i+1) s3 n hd2 (Nat.lt_of_succ_lt_succ hn)
   simp only [vac,viv,vhm,hlt,hz,decide_true,cond_true,and_self,if_true,hy,hw,hnn,Sum.elim_inl,Sum.elim_inr,ih2]
theorem wah {u0}(h0:u0.length<9223372036854775807){K:q6T→Option Res}{s3:(List dTxn)}:vac viv Fuel (u0,(u0.length:Int),(0:Int),s3) K=vhm u0 u0 s3 0 (fun z=>K (u0,(u0.length:Int),z.1,z.2)):=
 wa4 h0 u0 0 s3 Fuel rfl (vas h0)
def v65 (a0:(List dTxn))(k:(List dTxn)→Option Res):Option Res:=
 vhm a0 a0 ([]:List dTxn) 0 (fun z25=>
  k z25.2)
theorem wfy {a0:(List dTxn)}(h0:a0.length<9223372036854775807){k:(List dTxn)→Option Res}:vo8 a0 k=v65 a0 k:=by
 rw [v4o]
 simp only [v2b,v65,(wah h0),Sum.elim_inl,Sum.elim_inr]
def vk9 (u1:(List dTxn)):List dTxn→Int→Nat→((Int×Int)→Option Res)→Option Res
 |[],s0,i,k=>
  k (s0,(i:Int))
 |y::l,s0,i,k=>
  vk9 u1 l (if y.2.2.1<s0 then y.2.2.1 else s0) (i+1) k
theorem v74 {u1}(h0:u1.length<9223372036854775807){K:q23T→Option Res}:∀(l:List dTxn) (i:Nat) (s0:Int) (n:Nat),u1.drop i=l→l.length<n→vac vji n (s0,u1,(u1.length:Int),(i:Int)) K=vk9 u1 l s0 i (fun z=>K (z.1,u1,(u1.length:Int),z.2)):=by
 intro l
 induction l with
 |nil=>
  intro i s0 n hd hn
  have hge:=va3 hd
  cases n with
  |zero=>exact absurd hn (Nat.not_lt_zero _)
  |succ n=>simp only [vac,vji,vk9,hge,decide_false,cond_false,Sum.elim_inr,Sum.elim_inl]
 |cons y l ih=>
  intro i s0 n hd hn
  obtain⟨hlt,hz,hd2,hw,hnn⟩:=vaq hd h0
  have hy:=var hd
  cases n with
  |zero=>exact absurd hn (Nat.not_lt_zero _)
  |succ n=>
   have ih2:=fun(s0:Int)=>ih (i+1) s0 n hd2 (Nat.lt_of_succ_lt_succ hn)
   simp only [vac,vji,vk9,hlt,hz,decide_true,cond_true,and_self,if_true,hy,hw,hnn,Sum.elim_inl,Sum.elim_inr,ih2]
theorem wau {u1}(h0:u1.length<9223372036854775807){K:q23T→Option Res}{s0:Int}:vac vji Fuel (s0,u1,(u1.length:Int),(0:Int)) K=vk9 u1 u1 s0 0 (fun z=>K (z.1,u1,(u1.length:Int),z.2)):=
 v74 h0 u1 0 s0 Fuel rfl (vas h0)
def v54 (a0:vcn)(a1:(List dTxn))(k:Int→Option Res):Option Res:=
 vk9 a1 a1 a0.2.2.2.1 0 (fun z25=>
  k z25.1)
theorem we6 {a0:vcn}{a1:(List dTxn)}(h0:a1.length<9223372036854775807){k:Int→Option Res}:vr6 a0 a1 k=v54 a0 a1 k:=by
 rw [v64]
 simp only [v16,v54,(wau h0),Sum.elim_inl,Sum.elim_inr]
def vhd (u0:(List dTxn))(u1:Int):List dTxn→Int→Nat→(((Int×Int×Int)⊕(Int×Int))→Option Res)→Option Res
 |[],s4,i,k=>
  k (.inr ((i:Int),s4))
 |y::l,s4,i,k=>
  vno y s4 (fun y1=>
   bif y1.1 then
    k (.inl ((i:Int),(i:Int),y1.2))
   else
    vhd u0 u1 l y1.2 (i+1) k)
theorem v9f {u0} {u1}(h0:u0.length<9223372036854775807){K:(q7T⊕q7T)→Option Res}:∀(l:List dTxn) (i:Nat) (s4:Int) (n:Nat),u0.drop i=l→l.length<n→vac vh8 n (u0,u1,(u0.length:Int),(i:Int),s4) K=vhd u0 u1 l s4 i (Sum.elim (fun z=>K (.inl (u0,z.1,(u0.length:Int),z.2.1,z.2.2))) (fun z=>K (.inr (u0,u1,(u0.length:Int),z.1,z.2)))):=by
 intro l
 induction l with
 |nil=>
  intro i s4 n hd hn
  have hge:=va3 hd
  cases n with
  |zero=>exact absurd hn (Nat.not_lt_zero _)
  |succ n=>simp only [vac,vh8,vhd,hge,decide_false,cond_false,Sum.elim_inr,Sum.elim_inl]
 |cons y l ih=>
  intro i s4 n hd hn
  obtain⟨hlt,hz,hd2,hw,hnn⟩:=vaq hd h0
  have hy:=var hd
  cases n with
  |zero=>exact absurd hn (Nat.not_lt_zero _)
  |succ n=>
   have ih2:=fun(s4:Int)=>ih (i+1) s4 n hd2 (Nat.lt_of_succ_lt_succ hn)
   simp only [vac,vh8,vhd,hlt,hz,decide_true,cond_true,and_self,if_true,hy,hw,hnn,Sum.elim_inl,Sum.elim_inr,ih2]
theorem waj {u0} {u1}(h0:u0.length<9223372036854775807){K:(q7T⊕q7T)→Option Res}{s4:Int}:vac vh8 Fuel (u0,u1,(u0.length:Int),(0:Int),s4) K=vhd u0 u1 u0 s4 0 (Sum.elim (fun z=>K (.inl (u0,z.1,(u0.length:Int),z.2.1,z.2.2))) (fun z=>K (.inr (u0,u1,(u0.length:Int),z.1,z.2)))):=
 v9f h0 u0 0 s4 Fuel rfl (vas h0)
def v6z (a0:(List dTxn))(a1:Int)(k:(Int×Int)→Option Res):Option Res:=
 vhd a0 (0:Int) a0 a1 0 (Sum.elim (fun z25=>
  k (z25.1,z25.2.2)) (fun z26=>
  k ((-1:Int),z26.2)))
theorem wgk {a0:(List dTxn)}{a1:Int}(h0:a0.length<9223372036854775807){k:(Int×Int)→Option Res}:vo4 a0 a1 k=v6z a0 a1 k:=by
 rw [v50]
 simp only [v1g,v6z,(waj h0),Sum.elim_inl,Sum.elim_inr]
def v0j (a0:(List dTxn))(a1:Int)(k:(((List dTxn)×Int)⊕(Int×(List dTxn)))→Option Res):Option Res:=
 vo4 a0 a1 (fun y25=>
  bif (y25.1==(-1:Int))then
   k (.inl (a0,y25.2))
  else
   vac vev Fuel (.inl (y25.1,(IntKind.wrap .i64 (y25.1+(1:Int))),a0,([]:List Nat),y25.2)) (Sum.elim (fun z26=>
    if 0≤z26.1∧z26.1≤(z26.2.2.1.length:Int)then
     if 0≤z26.1∧z26.1≤((z26.2.2.1.take z26.1.toNat++List.replicate (z26.2.2.1.length-z26.1.toNat) (Ty.zero tTxn)).length:Int)then
      bif (geD z26.1.toNat (loD z26.1.toNat z26.2.2.2.1))then
       k (.inr (z26.2.2.2.2,((z26.2.2.1.take z26.1.toNat++List.replicate (z26.2.2.1.length-z26.1.toNat) (Ty.zero tTxn)).take z26.1.toNat)))
      else
       none
     else none
    else none) (fun z27=>
    if 0≤z27.1∧z27.1≤(z27.2.2.1.length:Int)then
     if 0≤z27.1∧z27.1≤((z27.2.2.1.take z27.1.toNat++List.replicate (z27.2.2.1.length-z27.1.toNat) (Ty.zero tTxn)).length:Int)then
      bif (geD z27.1.toNat (loD z27.1.toNat z27.2.2.2.1))then
       k (.inr (z27.2.2.2.2,((z27.2.2.1.take z27.1.toNat++List.replicate (z27.2.2.1.length-z27.1.toNat) (Ty.zero tTxn)).take z27.1.toNat)))
      else
       none
     else none
    else none)))
theorem wbw {a0:(List dTxn)}{a1:Int}  {k:(((List dTxn)×Int)⊕(Int×(List dTxn)))→Option Res}:vsy a0 a1 k=v0j a0 a1 k:=by
 rw [v5z]
 simp only [v1n,v0j,Sum.elim_inl,Sum.elim_inr]
def vdx (u0:(List vaa))(u1:ByteArray)(u2:Int)(u4:(List vaa)):List vaa→Int→Nat→((Int×Int)→Option Res)→Option Res
 |[],s3,i,k=>
  k (s3,(i:Int))
 |y::l,s3,i,k=>
  bif (vbh (y.1) u1)then
   bif (decide (y.2.2.2≤u2))then
    bif (decide (s3<(0:Int)))then
     vdx u0 u1 u2 u4 l (i:Int) (i+1) k
    else
     if 0≤s3∧s3<(u0.length:Int)then
      bif (decide (y.2.2.2>(rd (Ty.zero tVersion) u0 s3).2.2.2))then
       vdx u0 u1 u2 u4 l (i:Int) (i+1) k
      else
       vdx u0 u1 u2 u4 l s3 (i+1) k
     else none
   else
    vdx u0 u1 u2 u4 l s3 (i+1) k
  else
   vdx u0 u1 u2 u4 l s3 (i+1) k
theorem wbf {u0} {u1} {u2} {u4}(h0:u4.length<9223372036854775807){K:q10T→Option Res}:∀(l:List vaa) (i:Nat) (s3:Int) (n:Nat),u4.drop i=l→l.length<n→vac vh5 n (u0,u1,u2,s3,u4,(u4.length:Int),(i:Int)) K=vdx u0 u1 u2 u4 l s3 i (fun z=>K (u0,u1,u2,z.1,u4,(u4.length:Int),z.2)):=by
 intro l
 induction l with
 |nil=>
  intro i s3 n hd hn
  have hge:=va3 hd
  cases n with
  |zero=>exact absurd hn (Nat.not_lt_zero _)
  |succ n=>simp only [vac,vh5,vdx,hge,decide_false,cond_false,Sum.elim_inr,Sum.elim_inl]
 |cons y l ih=>
  intro i s3 n hd hn
  obtain⟨hlt,hz,hd2,hw,hnn⟩:=vaq hd h0
  have hy:=var hd
  cases n with
  |zero=>exact absurd hn (Nat.not_lt_zero _)
  |succ n=>
   have ih2:=fun(s3:Int)=>ih (i+1) s3 n hd2 (Nat.lt_of_succ_lt_succ hn)
   simp only [vac,vh5,vdx,hlt,hz,decide_true,cond_true,and_self,if_true,hy,hw,hnn,Sum.elim_inl,Sum.elim_inr,ih2]
theorem v75 {u0} {u1} {u2} {u4}(h0:u4.length<9223372036854775807){K:q10T→Option Res}{s3:Int}:vac vh5 Fuel (u0,u1,u2,s3,u4,(u4.length:Int),(0:Int)) K=vdx u0 u1 u2 u4 u4 s3 0 (fun z=>K (u0,u1,u2,z.1,u4,(u4.length:Int),z.2)):=
 wbf h0 u4 0 s3 Fuel rfl (vas h0)
def v6d (a0:(List vaa))(a1:ByteArray)(a2:Int)(k:Int→Option Res):Option Res:=
 vdx a0 a1 a2 a0 a0 (-1:Int) 0 (fun z25=>
  k z25.1)
theorem wfl {a0:(List vaa)}{a1:ByteArray}{a2:Int}(h0:a0.length<9223372036854775807){k:Int→Option Res}:vre a0 a1 a2 k=v6d a0 a1 a2 k:=by
 rw [v38]
 simp only [v1d,v6d,(v75 h0),Sum.elim_inl,Sum.elim_inr]
def vhh (u0:ByteArray)(u4:(List vaa)):List vaa→Int→Nat→((Int×Int)→Option Res)→Option Res
 |[],s1,i,k=>
  k (s1,(i:Int))
 |y::l,s1,i,k=>
  bif (vbh (y.1) u0)then
   vhh u0 u4 l (IntKind.wrap .i64 (s1+(1:Int))) (i+1) k
  else
   vhh u0 u4 l s1 (i+1) k
theorem v8o {u0} {u4}(h0:u4.length<9223372036854775807){K:q22T→Option Res}:∀(l:List vaa) (i:Nat) (s1:Int) (n:Nat),u4.drop i=l→l.length<n→vac vje n (u0,s1,(u4.length:Int),(i:Int),u4) K=vhh u0 u4 l s1 i (fun z=>K (u0,z.1,(u4.length:Int),z.2,u4)):=by
 intro l
 induction l with
 |nil=>
  intro i s1 n hd hn
  have hge:=va3 hd
  cases n with
  |zero=>exact absurd hn (Nat.not_lt_zero _)
  |succ n=>simp only [vac,vje,vhh,hge,decide_false,cond_false,Sum.elim_inr,Sum.elim_inl]
 |cons y l ih=>
  intro i s1 n hd hn
  obtain⟨hlt,hz,hd2,hw,hnn⟩:=vaq hd h0
  have hy:=var hd
  cases n with
  |zero=>exact absurd hn (Nat.not_lt_zero _)
  |succ n=>
   have ih2:=fun(s1:Int)=>ih (i+1) s1 n hd2 (Nat.lt_of_succ_lt_succ hn)
   simp only [vac,vje,vhh,hlt,hz,decide_true,cond_true,and_self,if_true,hy,hw,hnn,Sum.elim_inl,Sum.elim_inr,ih2]
theorem v9n {u0} {u4}(h0:u4.length<9223372036854775807){K:q22T→Option Res}{s1:Int}:vac vje Fuel (u0,s1,(u4.length:Int),(0:Int),u4) K=vhh u0 u4 u4 s1 0 (fun z=>K (u0,z.1,(u4.length:Int),z.2,u4)):=
 v8o h0 u4 0 s1 Fuel rfl (vas h0)
def v49 (a0:ByteArray)(a1:(List vaa))(k:(Int×(List vaa))→Option Res):Option Res:=
 vhh a0 a1 a1 (0:Int) 0 (fun z25=>
  k (z25.1,a1))
theorem we8 {a0:ByteArray}{a1:(List vaa)}(h0:a1.length<9223372036854775807){k:(Int×(List vaa))→Option Res}:vtc a0 a1 k=v49 a0 a1 k:=by
 rw [v5c]
 simp only [v19,v49,(v9n h0),Sum.elim_inl,Sum.elim_inr]
def vb8 (u0:(List vaa))(u1:Int)(u2:(List vaa))(u3:Int)(u4:Int)(u5:Bool)(u6:ByteArray)(u7:ByteArray)(u8:Bool)(u9:Int)(u10:(List vaa))(k:(List vaa)→Option Res):Option Res:=
  bif u5 then
   if u10.length+[(u6,(u7,(u8,u9)))].length≤VE.maxLen then
    k (u10++[(u6,(u7,(u8,u9)))])
   else none
  else
   k u10
theorem vh6 {u0} {u1} {u2} {u3} {u4} {u5} {u6} {u7} {u8} {u9} {u10}  {K:q13T→Option Res}:vbt (u0,u1,u2,u3,u4,u5,u6,u7,u8,u9,u10) K=vb8 u0 u1 u2 u3 u4 u5 u6 u7 u8 u9 u10 (fun z=>K (u0,u1,u2,u3,u4,u5,u6,u7,u8,u9,z)):=by
 simp only [vbt,vb8,Sum.elim_inl,Sum.elim_inr]
def vfy (u0:(List vaa))(u1:Int)(u2:(List vaa)):List vaa→(List vaa)→Nat→((Int×(List vaa))→Option Res)→Option Res
 |[],s5,i,k=>
  k ((i:Int),s5)
 |y::l,s5,i,k=>
  bif (decide (y.2.2.2>u1))then
   vb8 u0 u1 u2 (u2.length:Int) (i:Int) true y.1 y.2.1 y.2.2.1 y.2.2.2 s5 (fun z1=>
    vfy u0 u1 u2 l z1 (i+1) k)
  else
   vre u0 y.1 u1 (fun y2=>
    vb8 u0 u1 u2 (u2.length:Int) (i:Int) (y2==(i:Int)) y.1 y.2.1 y.2.2.1 y.2.2.2 s5 (fun z3=>
     vfy u0 u1 u2 l z3 (i+1) k))
theorem v78 {u0} {u1} {u2}(h0:u2.length<9223372036854775807){K:q12T→Option Res}:∀(l:List vaa) (i:Nat) (s5:(List vaa)) (n:Nat),u2.drop i=l→l.length<n→vac vip n (u0,u1,u2,(u2.length:Int),(i:Int),s5) K=vfy u0 u1 u2 l s5 i (fun z=>K (u0,u1,u2,(u2.length:Int),z.1,z.2)):=by
 intro l
 induction l with
 |nil=>
  intro i s5 n hd hn
  have hge:=va3 hd
  cases n with
  |zero=>exact absurd hn (Nat.not_lt_zero _)
  |succ n=>simp only [vac,vip,vfy,hge,decide_false,cond_false,Sum.elim_inr,Sum.elim_inl,vh6]
 |cons y l ih=>
  intro i s5 n hd hn
  obtain⟨hlt,hz,hd2,hw,hnn⟩:=vaq hd h0
  have hy:=var hd
  cases n with
  |zero=>exact absurd hn (Nat.not_lt_zero _)
  |succ n=>
   have ih2:=fun(s5:(List vaa))=>ih (i+1) s5 n hd2 (Nat.lt_of_succ_lt_succ hn)
   simp only [vac,vip,vfy,hlt,hz,decide_true,cond_true,and_self,if_true,hy,hw,hnn,Sum.elim_inl,Sum.elim_inr,ih2,vh6]
theorem v8v {u0} {u1} {u2}(h0:u2.length<9223372036854775807){K:q12T→Option Res}{s5:(List vaa)}:vac vip Fuel (u0,u1,u2,(u2.length:Int),(0:Int),s5) K=vfy u0 u1 u2 u2 s5 0 (fun z=>K (u0,u1,u2,(u2.length:Int),z.1,z.2)):=
 v78 h0 u2 0 s5 Fuel rfl (vas h0)
def v6b (a0:(List vaa))(a1:Int)(k:(List vaa)→Option Res):Option Res:=
 vfy a0 a1 a0 a0 ([]:List vaa) 0 (fun z25=>
  vac vii Fuel (a1,(z25.2.length:Int),(0:Int),([]:List vaa),z25.2) (fun z26=>
   k z26.2.2.2.1))
theorem wgb {a0:(List vaa)}{a1:Int}(h0:a0.length<9223372036854775807){k:(List vaa)→Option Res}:vo6 a0 a1 k=v6b a0 a1 k:=by
 rw [v53]
 simp only [v08,v6b,(v8v h0),Sum.elim_inl,Sum.elim_inr]
def vi2 (u0:(List vaa))(u1:(List vaa))(u2:Bool):List vaa→Nat→(((Bool×Int)⊕Int)→Option Res)→Option Res
 |[],i,k=>
  k (.inr (i:Int))
 |y::l,i,k=>
  if 0≤(i:Int)∧(i:Int)<(u1.length:Int)then
   vub y (rd (Ty.zero tVersion) u1 (i:Int)) (fun y1=>
    bif (!y1)then
     k (.inl (false,(i:Int)))
    else
     vi2 u0 u1 u2 l (i+1) k)
  else none
theorem v9u {u0} {u1} {u2}(h0:u0.length<9223372036854775807){K:(q9T⊕q9T)→Option Res}:∀(l:List vaa) (i:Nat)  (n:Nat),u0.drop i=l→l.length<n→vac vjp n (u0,u1,u2,(i:Int)) K=vi2 u0 u1 u2 l  i (Sum.elim (fun z=>K (.inl (u0,u1,z.1,z.2))) (fun z=>K (.inr (u0,u1,u2,z)))):=by
 intro l
 induction l with
 |nil=>
  intro i  n hd hn
  have hge:=va3 hd
  cases n with
  |zero=>exact absurd hn (Nat.not_lt_zero _)
  |succ n=>simp only [vac,vjp,vi2,hge,decide_false,cond_false,Sum.elim_inr,Sum.elim_inl]
 |cons y l ih=>
  intro i  n hd hn
  obtain⟨hlt,hz,hd2,hw,hnn⟩:=vaq hd h0
  have hy:=var hd
  cases n with
  |zero=>exact absurd hn (Nat.not_lt_zero _)
  |succ n=>
   have ih2:=ih (i+1)  n hd2 (Nat.lt_of_succ_lt_succ hn)
   simp only [vac,vjp,vi2,hlt,hz,decide_true,cond_true,and_self,if_true,hy,hw,hnn,Sum.elim_inl,Sum.elim_inr,ih2]
theorem v76 {u0} {u1} {u2}(h0:u0.length<9223372036854775807){K:(q9T⊕q9T)→Option Res}  : vac vjp Fuel (u0,u1,u2,(0:Int)) K=vi2 u0 u1 u2 u0  0 (Sum.elim (fun z=>K (.inl (u0,u1,z.1,z.2))) (fun z=>K (.inr (u0,u1,u2,z)))):=
 v9u h0 u0 0  Fuel rfl (vas h0)
def v4f (a0:(List vaa))(a1:(List vaa))(k:Bool→Option Res):Option Res:=
 bif ((a0.length:Int) != (a1.length:Int))then
  k false
 else
  vi2 a0 a1 false a0  0 (Sum.elim (fun z25=>
   k z25.1) (fun _=>
   k true))
theorem we3 {a0:(List vaa)}{a1:(List vaa)}(h0:a0.length<9223372036854775807){k:Bool→Option Res}:vt5 a0 a1 k=v4f a0 a1 k:=by
 rw [v62]
 simp only [v06,v4f,(v76 h0),Sum.elim_inl,Sum.elim_inr]
def vig (u0:(List vaj))(u1:(List vaj))(u2:Bool):List vaj→Nat→(((Bool×Int)⊕Int)→Option Res)→Option Res
 |[],i,k=>
  k (.inr (i:Int))
 |y::l,i,k=>
  if 0≤(i:Int)∧(i:Int)<(u1.length:Int)then
   vsq y (rd (Ty.zero tRange) u1 (i:Int)) (fun y1=>
    bif (!y1)then
     k (.inl (false,(i:Int)))
    else
     vig u0 u1 u2 l (i+1) k)
  else none
theorem wa7 {u0} {u1} {u2}(h0:u0.length<9223372036854775807){K:(q0T⊕q0T)→Option Res}:∀(l:List vaj) (i:Nat)  (n:Nat),u0.drop i=l→l.length<n→vac vjj n (u0,u1,u2,(i:Int)) K=vig u0 u1 u2 l  i (Sum.elim (fun z=>K (.inl (u0,u1,z.1,z.2))) (fun z=>K (.inr (u0,u1,u2,z)))):=by
 intro l
 induction l with
 |nil=>
  intro i  n hd hn
  have hge:=va3 hd
  cases n with
  |zero=>exact absurd hn (Nat.not_lt_zero _)
  |succ n=>simp only [vac,vjj,vig,hge,decide_false,cond_false,Sum.elim_inr,Sum.elim_inl]
 |cons y l ih=>
  intro i  n hd hn
  obtain⟨hlt,hz,hd2,hw,hnn⟩:=vaq hd h0
  have hy:=var hd
  cases n with
  |zero=>exact absurd hn (Nat.not_lt_zero _)
  |succ n=>
   have ih2:=ih (i+1)  n hd2 (Nat.lt_of_succ_lt_succ hn)
   simp only [vac,vjj,vig,hlt,hz,decide_true,cond_true,and_self,if_true,hy,hw,hnn,Sum.elim_inl,Sum.elim_inr,ih2]
theorem wa0 {u0} {u1} {u2}(h0:u0.length<9223372036854775807){K:(q0T⊕q0T)→Option Res}  : vac vjj Fuel (u0,u1,u2,(0:Int)) K=vig u0 u1 u2 u0  0 (Sum.elim (fun z=>K (.inl (u0,u1,z.1,z.2))) (fun z=>K (.inr (u0,u1,u2,z)))):=
 wa7 h0 u0 0  Fuel rfl (vas h0)
def v5b (a0:(List vaj))(a1:(List vaj))(k:Bool→Option Res):Option Res:=
 bif ((a0.length:Int) != (a1.length:Int))then
  k false
 else
  vig a0 a1 false a0  0 (Sum.elim (fun z25=>
   k z25.1) (fun _=>
   k true))
theorem wgc {a0:(List vaj)}{a1:(List vaj)}(h0:a0.length<9223372036854775807){k:Bool→Option Res}:vsu a0 a1 k=v5b a0 a1 k:=by
 rw [v7p]
 simp only [v1o,v5b,(wa0 h0),Sum.elim_inl,Sum.elim_inr]
def vjo (u0:(List vak))(u1:(List vak))(u2:Bool):List vak→Nat→(((Bool×Int)⊕Int)→Option Res)→Option Res
 |[],i,k=>
  k (.inr (i:Int))
 |y::l,i,k=>
  if 0≤(i:Int)∧(i:Int)<(u1.length:Int)then
   vtb y (rd (Ty.zero tWrite) u1 (i:Int)) (fun y1=>
    bif (!y1)then
     k (.inl (false,(i:Int)))
    else
     vjo u0 u1 u2 l (i+1) k)
  else none
theorem v9c {u0} {u1} {u2}(h0:u0.length<9223372036854775807){K:(q18T⊕q18T)→Option Res}:∀(l:List vak) (i:Nat)  (n:Nat),u0.drop i=l→l.length<n→vac vib n (u0,u1,u2,(i:Int)) K=vjo u0 u1 u2 l  i (Sum.elim (fun z=>K (.inl (u0,u1,z.1,z.2))) (fun z=>K (.inr (u0,u1,u2,z)))):=by
 intro l
 induction l with
 |nil=>
  intro i  n hd hn
  have hge:=va3 hd
  cases n with
  |zero=>exact absurd hn (Nat.not_lt_zero _)
  |succ n=>simp only [vac,vib,vjo,hge,decide_false,cond_false,Sum.elim_inr,Sum.elim_inl]
 |cons y l ih=>
  intro i  n hd hn
  obtain⟨hlt,hz,hd2,hw,hnn⟩:=vaq hd h0
  have hy:=var hd
  cases n with
  |zero=>exact absurd hn (Nat.not_lt_zero _)
  |succ n=>
   have ih2:=ih (i+1)  n hd2 (Nat.lt_of_succ_lt_succ hn)
   simp only [vac,vib,vjo,hlt,hz,decide_true,cond_true,and_self,if_true,hy,hw,hnn,Sum.elim_inl,Sum.elim_inr,ih2]
theorem wa1 {u0} {u1} {u2}(h0:u0.length<9223372036854775807){K:(q18T⊕q18T)→Option Res}  : vac vib Fuel (u0,u1,u2,(0:Int)) K=vjo u0 u1 u2 u0  0 (Sum.elim (fun z=>K (.inl (u0,u1,z.1,z.2))) (fun z=>K (.inr (u0,u1,u2,z)))):=
 v9c h0 u0 0  Fuel rfl (vas h0)
def v4k (a0:(List vak))(a1:(List vak))(k:Bool→Option Res):Option Res:=
 bif ((a0.length:Int) != (a1.length:Int))then
  k false
 else
  vjo a0 a1 false a0  0 (Sum.elim (fun z25=>
   k z25.1) (fun _=>
   k true))
theorem wgl {a0:(List vak)}{a1:(List vak)}(h0:a0.length<9223372036854775807){k:Bool→Option Res}:vt0 a0 a1 k=v4k a0 a1 k:=by
 rw [v4r]
 simp only [v2a,v4k,(wa1 h0),Sum.elim_inl,Sum.elim_inr]
def vgb (u0:(List dTxn))(u1:(List dTxn))(u2:Bool):List dTxn→Nat→(((Bool×Int)⊕Int)→Option Res)→Option Res
 |[],i,k=>
  k (.inr (i:Int))
 |y::l,i,k=>
  if 0≤(i:Int)∧(i:Int)<(u1.length:Int)then
   vpt y (rd (Ty.zero tTxn) u1 (i:Int)) (fun y1=>
    bif (!y1)then
     k (.inl (false,(i:Int)))
    else
     vgb u0 u1 u2 l (i+1) k)
  else none
theorem wbj {u0} {u1} {u2}(h0:u0.length<9223372036854775807){K:(q3T⊕q3T)→Option Res}:∀(l:List dTxn) (i:Nat)  (n:Nat),u0.drop i=l→l.length<n→vac vjg n (u0,u1,u2,(i:Int)) K=vgb u0 u1 u2 l  i (Sum.elim (fun z=>K (.inl (u0,u1,z.1,z.2))) (fun z=>K (.inr (u0,u1,u2,z)))):=by
 intro l
 induction l with
 |nil=>
  intro i  n hd hn
  have hge:=va3 hd
  cases n with
  |zero=>exact absurd hn (Nat.not_lt_zero _)
  |succ n=>simp only [vac,vjg,vgb,hge,decide_false,cond_false,Sum.elim_inr,Sum.elim_inl]
 |cons y l ih=>
  intro i  n hd hn
  obtain⟨hlt,hz,hd2,hw,hnn⟩:=vaq hd h0
  have hy:=var hd
  cases n with
  |zero=>exact absurd hn (Nat.not_lt_zero _)
  |succ n=>
   have ih2:=ih (i+1)  n hd2 (Nat.lt_of_succ_lt_succ hn)
   simp only [vac,vjg,vgb,hlt,hz,decide_true,cond_true,and_self,if_true,hy,hw,hnn,Sum.elim_inl,Sum.elim_inr,ih2]
theorem v9d {u0} {u1} {u2}(h0:u0.length<9223372036854775807){K:(q3T⊕q3T)→Option Res}  : vac vjg Fuel (u0,u1,u2,(0:Int)) K=vgb u0 u1 u2 u0  0 (Sum.elim (fun z=>K (.inl (u0,u1,z.1,z.2))) (fun z=>K (.inr (u0,u1,u2,z)))):=
 wbj h0 u0 0  Fuel rfl (vas h0)
def v0r (a0:(List dTxn))(a1:(List dTxn))(k:Bool→Option Res):Option Res:=
 bif ((a0.length:Int) != (a1.length:Int))then
  k false
 else
  vgb a0 a1 false a0  0 (Sum.elim (fun z25=>
   k z25.1) (fun _=>
   k true))
theorem wcg {a0:(List dTxn)}{a1:(List dTxn)}(h0:a0.length<9223372036854775807){k:Bool→Option Res}:vkh a0 a1 k=v0r a0 a1 k:=by
 rw [v59]
 simp only [v0m,v0r,(v9d h0),Sum.elim_inl,Sum.elim_inr]
def vg9 (u0:(List vaa))(u2:Int):List vaa→Int→Nat→(((Int×Int×Int)⊕(Int×Int))→Option Res)→Option Res
 |[],s1,i,k=>
  k (.inr (s1,(i:Int)))
 |y::l,s1,i,k=>
  vbv s1 (fun y1=>
   bif (!(vbh (y.1) y1))then
    k (.inl (s1,(-1:Int),(i:Int)))
   else
    vbv (IntKind.wrap .i64 (s1+(1:Int))) (fun y2=>
     bif (!(vbh (y.2.1) y2))then
      k (.inl ((IntKind.wrap .i64 (s1+(1:Int))),(-1:Int),(i:Int)))
     else
      bif (!(y.2.2.1==(((IntKind.wrap .i64 ((IntKind.wrap .i64 (s1+(1:Int)))+(1:Int))).tmod (3:Int))==(0:Int))))then
       k (.inl ((IntKind.wrap .i64 ((IntKind.wrap .i64 (s1+(1:Int)))+(1:Int))),(-1:Int),(i:Int)))
      else
       bif (y.2.2.2 != (IntKind.wrap .i64 ((IntKind.wrap .i64 ((IntKind.wrap .i64 (s1+(1:Int)))+(1:Int)))+(1:Int))))then
        k (.inl ((IntKind.wrap .i64 ((IntKind.wrap .i64 ((IntKind.wrap .i64 (s1+(1:Int)))+(1:Int)))+(1:Int))),(-1:Int),(i:Int)))
       else
        vg9 u0 u2 l (IntKind.wrap .i64 ((IntKind.wrap .i64 ((IntKind.wrap .i64 ((IntKind.wrap .i64 (s1+(1:Int)))+(1:Int)))+(1:Int)))+(1:Int))) (i+1) k))
theorem v9l {u0} {u2}(h0:u0.length<9223372036854775807){K:(q17T⊕q17T)→Option Res}:∀(l:List vaa) (i:Nat) (s1:Int) (n:Nat),u0.drop i=l→l.length<n→vac vi1 n (u0,s1,u2,(i:Int)) K=vg9 u0 u2 l s1 i (Sum.elim (fun z=>K (.inl (u0,z.1,z.2.1,z.2.2))) (fun z=>K (.inr (u0,z.1,u2,z.2)))):=by
 intro l
 induction l with
 |nil=>
  intro i s1 n hd hn
  have hge:=va3 hd
  cases n with
  |zero=>exact absurd hn (Nat.not_lt_zero _)
  |succ n=>simp only [vac,vi1,vg9,hge,decide_false,cond_false,Sum.elim_inr,Sum.elim_inl]
 |cons y l ih=>
  intro i s1 n hd hn
  obtain⟨hlt,hz,hd2,hw,hnn⟩:=vaq hd h0
  have hy:=var hd
  cases n with
  |zero=>exact absurd hn (Nat.not_lt_zero _)
  |succ n=>
   have ih2:=fun(s1:Int)=>ih (i+1) s1 n hd2 (Nat.lt_of_succ_lt_succ hn)
   simp only [vac,vi1,vg9,hlt,hz,decide_true,cond_true,and_self,if_true,hy,hw,hnn,Sum.elim_inl,Sum.elim_inr,ih2]
theorem wac {u0} {u2}(h0:u0.length<9223372036854775807){K:(q17T⊕q17T)→Option Res}{s1:Int}:vac vi1 Fuel (u0,s1,u2,(0:Int)) K=vg9 u0 u2 u0 s1 0 (Sum.elim (fun z=>K (.inl (u0,z.1,z.2.1,z.2.2))) (fun z=>K (.inr (u0,z.1,u2,z.2)))):=
 v9l h0 u0 0 s1 Fuel rfl (vas h0)
def v7o (a0:(List vaa))(a1:Int)(k:Int→Option Res):Option Res:=
 vg9 a0 (0:Int) a0 a1 0 (Sum.elim (fun z25=>
  k z25.2.1) (fun z26=>
  k z26.1))
theorem weu {a0:(List vaa)}{a1:Int}(h0:a0.length<9223372036854775807){k:Int→Option Res}:vsc a0 a1 k=v7o a0 a1 k:=by
 rw [v7z]
 simp only [v0x,v7o,(wac h0),Sum.elim_inl,Sum.elim_inr]
def vg2 (u0:(List vaj))(u2:Int):List vaj→Int→Nat→(((Int×Int×Int)⊕(Int×Int))→Option Res)→Option Res
 |[],s1,i,k=>
  k (.inr (s1,(i:Int)))
 |y::l,s1,i,k=>
  vbv s1 (fun y1=>
   bif (!(vbh (y.1) y1))then
    k (.inl (s1,(-1:Int),(i:Int)))
   else
    vbv (IntKind.wrap .i64 (s1+(1:Int))) (fun y2=>
     bif (!(vbh (y.2) y2))then
      k (.inl ((IntKind.wrap .i64 (s1+(1:Int))),(-1:Int),(i:Int)))
     else
      vg2 u0 u2 l (IntKind.wrap .i64 ((IntKind.wrap .i64 (s1+(1:Int)))+(1:Int))) (i+1) k))
theorem v9i {u0} {u2}(h0:u0.length<9223372036854775807){K:(q2T⊕q2T)→Option Res}:∀(l:List vaj) (i:Nat) (s1:Int) (n:Nat),u0.drop i=l→l.length<n→vac vjc n (u0,s1,u2,(i:Int)) K=vg2 u0 u2 l s1 i (Sum.elim (fun z=>K (.inl (u0,z.1,z.2.1,z.2.2))) (fun z=>K (.inr (u0,z.1,u2,z.2)))):=by
 intro l
 induction l with
 |nil=>
  intro i s1 n hd hn
  have hge:=va3 hd
  cases n with
  |zero=>exact absurd hn (Nat.not_lt_zero _)
  |succ n=>simp only [vac,vjc,vg2,hge,decide_false,cond_false,Sum.elim_inr,Sum.elim_inl]
 |cons y l ih=>
  intro i s1 n hd hn
  obtain⟨hlt,hz,hd2,hw,hnn⟩:=vaq hd h0
  have hy:=var hd
  cases n with
  |zero=>exact absurd hn (Nat.not_lt_zero _)
  |succ n=>
   have ih2:=fun(s1:Int)=>ih (i+1) s1 n hd2 (Nat.lt_of_succ_lt_succ hn)
   simp only [vac,vjc,vg2,hlt,hz,decide_true,cond_true,and_self,if_true,hy,hw,hnn,Sum.elim_inl,Sum.elim_inr,ih2]
theorem v79 {u0} {u2}(h0:u0.length<9223372036854775807){K:(q2T⊕q2T)→Option Res}{s1:Int}:vac vjc Fuel (u0,s1,u2,(0:Int)) K=vg2 u0 u2 u0 s1 0 (Sum.elim (fun z=>K (.inl (u0,z.1,z.2.1,z.2.2))) (fun z=>K (.inr (u0,z.1,u2,z.2)))):=
 v9i h0 u0 0 s1 Fuel rfl (vas h0)
def v6r (a0:(List vaj))(a1:Int)(k:Int→Option Res):Option Res:=
 vg2 a0 (0:Int) a0 a1 0 (Sum.elim (fun z25=>
  k z25.2.1) (fun z26=>
  k z26.1))
theorem wey {a0:(List vaj)}{a1:Int}(h0:a0.length<9223372036854775807){k:Int→Option Res}:vp5 a0 a1 k=v6r a0 a1 k:=by
 rw [v5q]
 simp only [v18,v6r,(v79 h0),Sum.elim_inl,Sum.elim_inr]
def vgx (u0:(List vak))(u2:Int):List vak→Int→Nat→(((Int×Int×Int)⊕(Int×Int))→Option Res)→Option Res
 |[],s1,i,k=>
  k (.inr (s1,(i:Int)))
 |y::l,s1,i,k=>
  vbv s1 (fun y1=>
   bif (!(vbh (y.1) y1))then
    k (.inl (s1,(-1:Int),(i:Int)))
   else
    vbv (IntKind.wrap .i64 (s1+(1:Int))) (fun y2=>
     bif (!(vbh (y.2.1) y2))then
      k (.inl ((IntKind.wrap .i64 (s1+(1:Int))),(-1:Int),(i:Int)))
     else
      bif (!(y.2.2==(((IntKind.wrap .i64 ((IntKind.wrap .i64 (s1+(1:Int)))+(1:Int))).tmod (3:Int))==(0:Int))))then
       k (.inl ((IntKind.wrap .i64 ((IntKind.wrap .i64 (s1+(1:Int)))+(1:Int))),(-1:Int),(i:Int)))
      else
       vgx u0 u2 l (IntKind.wrap .i64 ((IntKind.wrap .i64 ((IntKind.wrap .i64 (s1+(1:Int)))+(1:Int)))+(1:Int))) (i+1) k))
theorem v8m {u0} {u2}(h0:u0.length<9223372036854775807){K:(q20T⊕q20T)→Option Res}:∀(l:List vak) (i:Nat) (s1:Int) (n:Nat),u0.drop i=l→l.length<n→vac viy n (u0,s1,u2,(i:Int)) K=vgx u0 u2 l s1 i (Sum.elim (fun z=>K (.inl (u0,z.1,z.2.1,z.2.2))) (fun z=>K (.inr (u0,z.1,u2,z.2)))):=by
 intro l
 induction l with
 |nil=>
  intro i s1 n hd hn
  have hge:=va3 hd
  cases n with
  |zero=>exact absurd hn (Nat.not_lt_zero _)
  |succ n=>simp only [vac,viy,vgx,hge,decide_false,cond_false,Sum.elim_inr,Sum.elim_inl]
 |cons y l ih=>
  intro i s1 n hd hn
  obtain⟨hlt,hz,hd2,hw,hnn⟩:=vaq hd h0
  have hy:=var hd
  cases n with
  |zero=>exact absurd hn (Nat.not_lt_zero _)
  |succ n=>
   have ih2:=fun(s1:Int)=>ih (i+1) s1 n hd2 (Nat.lt_of_succ_lt_succ hn)
   simp only [vac,viy,vgx,hlt,hz,decide_true,cond_true,and_self,if_true,hy,hw,hnn,Sum.elim_inl,Sum.elim_inr,ih2]
theorem v81 {u0} {u2}(h0:u0.length<9223372036854775807){K:(q20T⊕q20T)→Option Res}{s1:Int}:vac viy Fuel (u0,s1,u2,(0:Int)) K=vgx u0 u2 u0 s1 0 (Sum.elim (fun z=>K (.inl (u0,z.1,z.2.1,z.2.2))) (fun z=>K (.inr (u0,z.1,u2,z.2)))):=
 v8m h0 u0 0 s1 Fuel rfl (vas h0)
def v5v (a0:(List vak))(a1:Int)(k:Int→Option Res):Option Res:=
 vgx a0 (0:Int) a0 a1 0 (Sum.elim (fun z25=>
  k z25.2.1) (fun z26=>
  k z26.1))
theorem we1 {a0:(List vak)}{a1:Int}(h0:a0.length<9223372036854775807){k:Int→Option Res}:vrl a0 a1 k=v5v a0 a1 k:=by
 rw [v40]
 simp only [v1f,v5v,(v81 h0),Sum.elim_inl,Sum.elim_inr]
def vg3 (u0:(List dTxn))(u2:Int):List dTxn→Int→Nat→(((Int×Int×Int)⊕(Int×Int))→Option Res)→Option Res
 |[],s1,i,k=>
  k (.inr (s1,(i:Int)))
 |y::l,s1,i,k=>
  bif (y.1 != s1)then
   k (.inl (s1,(-1:Int),(i:Int)))
  else
   bif (y.2.1 != (IntKind.wrap .i64 (s1+(1:Int))))then
    k (.inl ((IntKind.wrap .i64 (s1+(1:Int))),(-1:Int),(i:Int)))
   else
    bif (y.2.2.1 != (IntKind.wrap .i64 ((IntKind.wrap .i64 (s1+(1:Int)))+(1:Int))))then
     k (.inl ((IntKind.wrap .i64 ((IntKind.wrap .i64 (s1+(1:Int)))+(1:Int))),(-1:Int),(i:Int)))
    else
     bif (y.2.2.2.1 != (IntKind.wrap .i64 ((IntKind.wrap .i64 ((IntKind.wrap .i64 (s1+(1:Int)))+(1:Int)))+(1:Int))))then
      k (.inl ((IntKind.wrap .i64 ((IntKind.wrap .i64 ((IntKind.wrap .i64 (s1+(1:Int)))+(1:Int)))+(1:Int))),(-1:Int),(i:Int)))
     else
      vp5 y.2.2.2.2.1 (IntKind.wrap .i64 ((IntKind.wrap .i64 ((IntKind.wrap .i64 ((IntKind.wrap .i64 (s1+(1:Int)))+(1:Int)))+(1:Int)))+(1:Int))) (fun y1=>
       bif (decide (y1<(0:Int)))then
        k (.inl (y1,(-1:Int),(i:Int)))
       else
        vrl y.2.2.2.2.2.1 y1 (fun y2=>
         bif (decide (y2<(0:Int)))then
          k (.inl (y2,(-1:Int),(i:Int)))
         else
          bif (!(y.2.2.2.2.2.2.1==((y2.tmod (3:Int))==(0:Int))))then
           k (.inl (y2,(-1:Int),(i:Int)))
          else
           vbv (IntKind.wrap .i64 (y2+(1:Int))) (fun y3=>
            bif (!(vbh (y.2.2.2.2.2.2.2) y3))then
             k (.inl ((IntKind.wrap .i64 (y2+(1:Int))),(-1:Int),(i:Int)))
            else
             vg3 u0 u2 l (IntKind.wrap .i64 ((IntKind.wrap .i64 (y2+(1:Int)))+(1:Int))) (i+1) k)))
theorem wal {u0} {u2}(h0:u0.length<9223372036854775807){K:(q8T⊕q8T)→Option Res}:∀(l:List dTxn) (i:Nat) (s1:Int) (n:Nat),u0.drop i=l→l.length<n→vac vir n (u0,s1,u2,(i:Int)) K=vg3 u0 u2 l s1 i (Sum.elim (fun z=>K (.inl (u0,z.1,z.2.1,z.2.2))) (fun z=>K (.inr (u0,z.1,u2,z.2)))):=by
 intro l
 induction l with
 |nil=>
  intro i s1 n hd hn
  have hge:=va3 hd
  cases n with
  |zero=>exact absurd hn (Nat.not_lt_zero _)
  |succ n=>simp only [vac,vir,vg3,hge,decide_false,cond_false,Sum.elim_inr,Sum.elim_inl]
 |cons y l ih=>
  intro i s1 n hd hn
  obtain⟨hlt,hz,hd2,hw,hnn⟩:=vaq hd h0
  have hy:=var hd
  cases n with
  |zero=>exact absurd hn (Nat.not_lt_zero _)
  |succ n=>
   have ih2:=fun(s1:Int)=>ih (i+1) s1 n hd2 (Nat.lt_of_succ_lt_succ hn)
   simp only [vac,vir,vg3,hlt,hz,decide_true,cond_true,and_self,if_true,hy,hw,hnn,Sum.elim_inl,Sum.elim_inr,ih2]
theorem v9t {u0} {u2}(h0:u0.length<9223372036854775807){K:(q8T⊕q8T)→Option Res}{s1:Int}:vac vir Fuel (u0,s1,u2,(0:Int)) K=vg3 u0 u2 u0 s1 0 (Sum.elim (fun z=>K (.inl (u0,z.1,z.2.1,z.2.2))) (fun z=>K (.inr (u0,z.1,u2,z.2)))):=
 wal h0 u0 0 s1 Fuel rfl (vas h0)
def v7b (a0:(List dTxn))(a1:Int)(k:Int→Option Res):Option Res:=
 vg3 a0 (0:Int) a0 a1 0 (Sum.elim (fun z25=>
  k z25.2.1) (fun z26=>
  k z26.1))
theorem wer {a0:(List dTxn)}{a1:Int}(h0:a0.length<9223372036854775807){k:Int→Option Res}:vp1 a0 a1 k=v7b a0 a1 k:=by
 rw [v7n]
 simp only [v0v,v7b,(v9t h0),Sum.elim_inl,Sum.elim_inr]
def vdp (u0:(List dTxn))(u1:Bool)(u2:(List vaa))(u3:(List dTxn))(u4:(List dTxn))(u5:Int)(u6:Int)(u7:Int)(u8:Int)(u9:Int)(u10:Int)(u11:(List vaa))(u12:(List dTxn))(u13:(List dTxn))(u14:(List vaa))(u15:(List dTxn))(u16:(List dTxn))(k:(Bool×(List vaa)×(List dTxn)×(List dTxn))→Option Res):Option Res:=
  vlw u9 u10 (1:Int) u14 u15 u16 (fun y1=>
   vlp (y1.2.1,(y1.2.2.1,(y1.2.2.2,(u9,u10)))) (1:Int) (fun y2=>
    bif (decide (y2<(0:Int)))then
     k (false,y1.2.1,y1.2.2.1,y1.2.2.2)
    else
     bif (y2 != y1.1)then
      k (false,y1.2.1,y1.2.2.1,y1.2.2.2)
     else
      vgn (u2,(u3,(u4,(u5,u6)))) (fun y3=>
       veo u0 (fun y4=>
        vnx (y3.2.2.1,(y3.2.2.2.1,(y3.2.2.2.2,(y3.1,y3.2.1)))) y4 (fun y5=>
         ve2 (y5.2.2.1,(y5.2.2.2.1,(y5.2.2.2.2,(y5.1,y5.2.1)))) (u11,(u12,(u13,(u7,u8)))) (fun y6=>
          bif (!y6)then
           k (false,y1.2.1,y1.2.2.1,y1.2.2.2)
          else
           vlp (y1.2.1,(y1.2.2.1,(y1.2.2.2,(u9,u10)))) (1:Int) (fun y7=>
            bif (decide (y7<(0:Int)))then
             k (false,y1.2.1,y1.2.2.1,y1.2.2.2)
            else
             bif (y7 != y1.1)then
              k (false,y1.2.1,y1.2.2.1,y1.2.2.2)
             else
              k (true,y1.2.1,y1.2.2.1,y1.2.2.2))))))))
theorem vr2 {u0} {u1} {u2} {u3} {u4} {u5} {u6} {u7} {u8} {u9} {u10} {u11} {u12} {u13} {u14} {u15} {u16}  {K:q4T→Option Res}:vcf (u0,u1,u2,u3,u4,u5,u6,u7,u8,u9,u10,u11,u12,u13,u14,u15,u16) K=vdp u0 u1 u2 u3 u4 u5 u6 u7 u8 u9 u10 u11 u12 u13 u14 u15 u16 (fun z=>K (u0,z.1,u2,u3,u4,u5,u6,u7,u8,u9,u10,u11,u12,u13,z.2.1,z.2.2.1,z.2.2.2)):=by
 simp only [vcf,vdp,Sum.elim_inl,Sum.elim_inr]
def v5l (a0:vcn)(a1:(List dTxn))(k:Bool→Option Res):Option Res:=
 vt3 a0 (1048576:Int) (fun y25=>
  bif (decide (y25<(0:Int)))then
   k true
  else
   vnr a1 y25 (fun y26=>
    bif (decide (y26<(0:Int)))then
     k true
    else
     vgn a0 (fun y27=>
      veo a1 (fun y28=>
       vpg (y27.2.2.1,(y27.2.2.2.1,(y27.2.2.2.2,(y27.1,y27.2.1)))) y28 (fun y29=>
        vgn a0 (fun y30=>
         veo a1 (fun y31=>
          vnx (y30.2.2.1,(y30.2.2.2.1,(y30.2.2.2.2,(y30.1,y30.2.1)))) y31 (fun y32=>
           ve2 (y32.2.2.1,(y32.2.2.2.1,(y32.2.2.2.2,(y32.1,y32.2.1)))) (y29.2.2.1,(y29.2.2.2.1,(y29.2.2.2.2,(y29.1,y29.2.1)))) (fun y33=>
            bif (!y33)then
             k false
            else
             vgn a0 (fun y34=>
              ve2 (y30.2.2.1,(y30.2.2.2.1,(y30.2.2.2.2,(y30.1,y30.2.1)))) (y34.2.2.1,(y34.2.2.2.1,(y34.2.2.2.2,(y34.1,y34.2.1)))) (fun y35=>
               bif (!y35)then
                k false
               else
                veo a1 (fun y36=>
                 vkh y31 y36 (fun y37=>
                  bif (!y37)then
                   k false
                  else
                   vlw y30.1 y30.2.1 (1:Int) y30.2.2.1 y30.2.2.2.1 y30.2.2.2.2 (fun y38=>
                    vlo y38.1 y31 (fun y39=>
                     bif (decide (y39.1<(0:Int)))then
                      k false
                     else
                      ve2 (y32.2.2.1,(y32.2.2.2.1,(y32.2.2.2.2,(y32.1,y32.2.1)))) (y29.2.2.1,(y29.2.2.2.1,(y29.2.2.2.2,(y29.1,y29.2.1)))) (fun y40=>
                       bif (!y40)then
                        k false
                       else
                        vdp a1 false a0.1 a0.2.1 a0.2.2.1 a0.2.2.2.1 a0.2.2.2.2 y29.1 y29.2.1 y32.1 y32.2.1 y29.2.2.1 y29.2.2.2.1 y29.2.2.2.2 y32.2.2.1 y32.2.2.2.1 y32.2.2.2.2 (fun z41=>
                         k z41.1)))))))))))))))))
theorem wew {a0:vcn}{a1:(List dTxn)}  {k:Bool→Option Res}:vw6 a0 a1 k=v5l a0 a1 k:=by
 rw [v7y]
 simp only [v1k,v5l,vr2,Sum.elim_inl,Sum.elim_inr]
end
end Go.VE
