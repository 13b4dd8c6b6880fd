/- Loops told as recursions over what is left; written by gen.py. -/
import Derived.Test.YtbaniaofomgceaaGivenUpN
import Derived.Test.YtbaniaofomgceaaP1
namespace Go.VE
noncomputable section
set_option linter.unusedVariables false
set_option linter.unusedSimpArgs false
set_option maxRecDepth 100000
def vjq (u0:(List vaa))(u2:Int):List vaa→Int→Nat→(((Int×Int×Int)⊕(Int×Int))→Option Res)→Option Res
 |[],s1,i,k=>
  k (.inr (s1,(i:Int)))
 |y::l,s1,i,k=>
  vqv y s1 (fun y1=>
   bif (decide (y1<(0:Int)))then
    k (.inl (y1,(-1:Int),(i:Int)))
   else
    vjq u0 u2 l y1 (i+1) k)
theorem v5p {u0} {u2}(h0:u0.length<9223372036854775807){K:(q10T⊕q10T)→Option Res}:∀(l:List vaa) (i:Nat) (s1:Int) (n:Nat),u0.drop i=l→l.length<n→vad vhw n (u0,s1,u2,(i:Int)) K=vjq u0 u2 l s1 i (Sum.elim (fun z=>K (.inl (u0,z.1,z.2.1,z.2.2))) (fun z=>K (.inr (u0,z.1,u2,z.2)))):=by
 intro l
 induction l with
 |nil=>
  intro i s1 n hd hn
  have hge:=vbp hd
  cases n with
  |zero=>exact absurd hn (Nat.not_lt_zero _)
  |succ n=>simp only [vad,vhw,vjq,hge,decide_false,cond_false,Sum.elim_inr,Sum.elim_inl]
 |cons y l ih=>
  intro i s1 n hd hn
  obtain⟨hlt,hz,hd2,hw,hnn⟩:=va7 hd h0
  have hy:=vbe hd
  cases n with
  |zero=>exact absurd hn (Nat.not_lt_zero _)
  |succ n=>
   have ih2:=fun(s1:Int)=>ih (i+1) s1 n hd2 (Nat.lt_of_succ_lt_succ hn)
   simp only [vad,vhw,vjq,hlt,hz,decide_true,cond_true,and_self,if_true,hy,hw,hnn,Sum.elim_inl,Sum.elim_inr,ih2]
theorem v45 {u0} {u2}(h0:u0.length<9223372036854775807){K:(q10T⊕q10T)→Option Res}{s1:Int}:vad vhw Fuel (u0,s1,u2,(0:Int)) K=vjq u0 u2 u0 s1 0 (Sum.elim (fun z=>K (.inl (u0,z.1,z.2.1,z.2.2))) (fun z=>K (.inr (u0,z.1,u2,z.2)))):=
 v5p h0 u0 0 s1 Fuel rfl (vbb h0)
def vjn (u0:(List vak))(u2:Int):List vak→Int→Nat→(((Int×Int×Int)⊕(Int×Int))→Option Res)→Option Res
 |[],s1,i,k=>
  k (.inr (s1,(i:Int)))
 |y::l,s1,i,k=>
  vq9 y s1 (fun y1=>
   bif (decide (y1<(0:Int)))then
    k (.inl (y1,(-1:Int),(i:Int)))
   else
    vjn u0 u2 l y1 (i+1) k)
theorem v5m {u0} {u2}(h0:u0.length<9223372036854775807){K:(q2T⊕q2T)→Option Res}:∀(l:List vak) (i:Nat) (s1:Int) (n:Nat),u0.drop i=l→l.length<n→vad vhl n (u0,s1,u2,(i:Int)) K=vjn u0 u2 l s1 i (Sum.elim (fun z=>K (.inl (u0,z.1,z.2.1,z.2.2))) (fun z=>K (.inr (u0,z.1,u2,z.2)))):=by
 intro l
 induction l with
 |nil=>
  intro i s1 n hd hn
  have hge:=vbp hd
  cases n with
  |zero=>exact absurd hn (Nat.not_lt_zero _)
  |succ n=>simp only [vad,vhl,vjn,hge,decide_false,cond_false,Sum.elim_inr,Sum.elim_inl]
 |cons y l ih=>
  intro i s1 n hd hn
  obtain⟨hlt,hz,hd2,hw,hnn⟩:=va7 hd h0
  have hy:=vbe hd
  cases n with
  |zero=>exact absurd hn (Nat.not_lt_zero _)
  |succ n=>
   have ih2:=fun(s1:Int)=>ih (i+1) s1 n hd2 (Nat.lt_of_succ_lt_succ hn)
   simp only [vad,vhl,vjn,hlt,hz,decide_true,cond_true,and_self,if_true,hy,hw,hnn,Sum.elim_inl,Sum.elim_inr,ih2]
theorem v6r {u0} {u2}(h0:u0.length<9223372036854775807){K:(q2T⊕q2T)→Option Res}{s1:Int}:vad vhl Fuel (u0,s1,u2,(0:Int)) K=vjn u0 u2 u0 s1 0 (Sum.elim (fun z=>K (.inl (u0,z.1,z.2.1,z.2.2))) (fun z=>K (.inr (u0,z.1,u2,z.2)))):=
 v5m h0 u0 0 s1 Fuel rfl (vbb h0)
def vji (u0:(List vai))(u2:Int):List vai→Int→Nat→(((Int×Int×Int)⊕(Int×Int))→Option Res)→Option Res
 |[],s1,i,k=>
  k (.inr (s1,(i:Int)))
 |y::l,s1,i,k=>
  vrg y s1 (fun y1=>
   bif (decide (y1<(0:Int)))then
    k (.inl (y1,(-1:Int),(i:Int)))
   else
    vji u0 u2 l y1 (i+1) k)
theorem v7a {u0} {u2}(h0:u0.length<9223372036854775807){K:(q13T⊕q13T)→Option Res}:∀(l:List vai) (i:Nat) (s1:Int) (n:Nat),u0.drop i=l→l.length<n→vad vhx n (u0,s1,u2,(i:Int)) K=vji u0 u2 l s1 i (Sum.elim (fun z=>K (.inl (u0,z.1,z.2.1,z.2.2))) (fun z=>K (.inr (u0,z.1,u2,z.2)))):=by
 intro l
 induction l with
 |nil=>
  intro i s1 n hd hn
  have hge:=vbp hd
  cases n with
  |zero=>exact absurd hn (Nat.not_lt_zero _)
  |succ n=>simp only [vad,vhx,vji,hge,decide_false,cond_false,Sum.elim_inr,Sum.elim_inl]
 |cons y l ih=>
  intro i s1 n hd hn
  obtain⟨hlt,hz,hd2,hw,hnn⟩:=va7 hd h0
  have hy:=vbe hd
  cases n with
  |zero=>exact absurd hn (Nat.not_lt_zero _)
  |succ n=>
   have ih2:=fun(s1:Int)=>ih (i+1) s1 n hd2 (Nat.lt_of_succ_lt_succ hn)
   simp only [vad,vhx,vji,hlt,hz,decide_true,cond_true,and_self,if_true,hy,hw,hnn,Sum.elim_inl,Sum.elim_inr,ih2]
theorem v5b {u0} {u2}(h0:u0.length<9223372036854775807){K:(q13T⊕q13T)→Option Res}{s1:Int}:vad vhx Fuel (u0,s1,u2,(0:Int)) K=vji u0 u2 u0 s1 0 (Sum.elim (fun z=>K (.inl (u0,z.1,z.2.1,z.2.2))) (fun z=>K (.inr (u0,z.1,u2,z.2)))):=
 v7a h0 u0 0 s1 Fuel rfl (vbb h0)
def vj3 (u0:(List dTxn))(u2:Int):List dTxn→Int→Nat→(((Int×Int×Int)⊕(Int×Int))→Option Res)→Option Res
 |[],s1,i,k=>
  k (.inr (s1,(i:Int)))
 |y::l,s1,i,k=>
  vsc y s1 (fun y1=>
   bif (decide (y1<(0:Int)))then
    k (.inl (y1,(-1:Int),(i:Int)))
   else
    vj3 u0 u2 l y1 (i+1) k)
theorem v5l {u0} {u2}(h0:u0.length<9223372036854775807){K:(q7T⊕q7T)→Option Res}:∀(l:List dTxn) (i:Nat) (s1:Int) (n:Nat),u0.drop i=l→l.length<n→vad vif n (u0,s1,u2,(i:Int)) K=vj3 u0 u2 l s1 i (Sum.elim (fun z=>K (.inl (u0,z.1,z.2.1,z.2.2))) (fun z=>K (.inr (u0,z.1,u2,z.2)))):=by
 intro l
 induction l with
 |nil=>
  intro i s1 n hd hn
  have hge:=vbp hd
  cases n with
  |zero=>exact absurd hn (Nat.not_lt_zero _)
  |succ n=>simp only [vad,vif,vj3,hge,decide_false,cond_false,Sum.elim_inr,Sum.elim_inl]
 |cons y l ih=>
  intro i s1 n hd hn
  obtain⟨hlt,hz,hd2,hw,hnn⟩:=va7 hd h0
  have hy:=vbe hd
  cases n with
  |zero=>exact absurd hn (Nat.not_lt_zero _)
  |succ n=>
   have ih2:=fun(s1:Int)=>ih (i+1) s1 n hd2 (Nat.lt_of_succ_lt_succ hn)
   simp only [vad,vif,vj3,hlt,hz,decide_true,cond_true,and_self,if_true,hy,hw,hnn,Sum.elim_inl,Sum.elim_inr,ih2]
theorem v5o {u0} {u2}(h0:u0.length<9223372036854775807){K:(q7T⊕q7T)→Option Res}{s1:Int}:vad vif Fuel (u0,s1,u2,(0:Int)) K=vj3 u0 u2 u0 s1 0 (Sum.elim (fun z=>K (.inl (u0,z.1,z.2.1,z.2.2))) (fun z=>K (.inr (u0,z.1,u2,z.2)))):=
 v5l h0 u0 0 s1 Fuel rfl (vbb h0)
def vfh (u0:(List vaa)):List vaa→(List vaa)→Nat→((Int×(List vaa))→Option Res)→Option Res
 |[],s2,i,k=>
  k ((i:Int),s2)
 |y::l,s2,i,k=>
  vrs y (fun y1=>
   if 0≤(i:Int)∧(i:Int)<(s2.length:Int)then
    vfh u0 l (s2.set (i:Int).toNat y1) (i+1) k
   else none)
theorem v5u {u0}(h0:u0.length<9223372036854775807){K:q9T→Option Res}:∀(l:List vaa) (i:Nat) (s2:(List vaa)) (n:Nat),u0.drop i=l→l.length<n→vad vh2 n (u0,(i:Int),s2) K=vfh u0 l s2 i (fun z=>K (u0,z.1,z.2)):=by
 intro l
 induction l with
 |nil=>
  intro i s2 n hd hn
  have hge:=vbp hd
  cases n with
  |zero=>exact absurd hn (Nat.not_lt_zero _)
  |succ n=>simp only [vad,vh2,vfh,hge,decide_false,cond_false,Sum.elim_inr,Sum.elim_inl]
 |cons y l ih=>
  intro i s2 n hd hn
  obtain⟨hlt,hz,hd2,hw,hnn⟩:=va7 hd h0
  have hy:=vbe hd
  cases n with
  |zero=>exact absurd hn (Nat.not_lt_zero _)
  |succ n=>
   have ih2:=fun(s2:(List vaa))=>ih (i+1) s2 n hd2 (Nat.lt_of_succ_lt_succ hn)
   simp only [vad,vh2,vfh,hlt,hz,decide_true,cond_true,and_self,if_true,hy,hw,hnn,Sum.elim_inl,Sum.elim_inr,ih2]
theorem v6t {u0}(h0:u0.length<9223372036854775807){K:q9T→Option Res}{s2:(List vaa)}:vad vh2 Fuel (u0,(0:Int),s2) K=vfh u0 u0 s2 0 (fun z=>K (u0,z.1,z.2)):=
 v5u h0 u0 0 s2 Fuel rfl (vbb h0)
def v26 (a0:(List vaa))(k:(List vaa)→Option Res):Option Res:=
 if 0≤(a0.length:Int)∧(a0.length:Int)≤(a0.length:Int)∧(a0.length:Int)≤(VE.maxLen:Int)then
  vfh a0 a0 (List.replicate (a0.length:Int).toNat (Ty.zero tVersion)) 0 (fun z18=>
   k z18.2)
 else none
theorem wa6 {a0:(List vaa)}(h0:a0.length<9223372036854775807){k:(List vaa)→Option Res}:vqo a0 k=v26 a0 k:=by
 rw [v1o]
 simp only [vyk,v26,(v6t h0),Sum.elim_inl,Sum.elim_inr]
def vfj (u0:(List vak)):List vak→(List vak)→Nat→((Int×(List vak))→Option Res)→Option Res
 |[],s2,i,k=>
  k ((i:Int),s2)
 |y::l,s2,i,k=>
  vq4 y (fun y1=>
   if 0≤(i:Int)∧(i:Int)<(s2.length:Int)then
    vfj u0 l (s2.set (i:Int).toNat y1) (i+1) k
   else none)
theorem v6j {u0}(h0:u0.length<9223372036854775807){K:q1T→Option Res}:∀(l:List vak) (i:Nat) (s2:(List vak)) (n:Nat),u0.drop i=l→l.length<n→vad vih n (u0,(i:Int),s2) K=vfj u0 l s2 i (fun z=>K (u0,z.1,z.2)):=by
 intro l
 induction l with
 |nil=>
  intro i s2 n hd hn
  have hge:=vbp hd
  cases n with
  |zero=>exact absurd hn (Nat.not_lt_zero _)
  |succ n=>simp only [vad,vih,vfj,hge,decide_false,cond_false,Sum.elim_inr,Sum.elim_inl]
 |cons y l ih=>
  intro i s2 n hd hn
  obtain⟨hlt,hz,hd2,hw,hnn⟩:=va7 hd h0
  have hy:=vbe hd
  cases n with
  |zero=>exact absurd hn (Nat.not_lt_zero _)
  |succ n=>
   have ih2:=fun(s2:(List vak))=>ih (i+1) s2 n hd2 (Nat.lt_of_succ_lt_succ hn)
   simp only [vad,vih,vfj,hlt,hz,decide_true,cond_true,and_self,if_true,hy,hw,hnn,Sum.elim_inl,Sum.elim_inr,ih2]
theorem v65 {u0}(h0:u0.length<9223372036854775807){K:q1T→Option Res}{s2:(List vak)}:vad vih Fuel (u0,(0:Int),s2) K=vfj u0 u0 s2 0 (fun z=>K (u0,z.1,z.2)):=
 v6j h0 u0 0 s2 Fuel rfl (vbb h0)
def v4t (a0:(List vak))(k:(List vak)→Option Res):Option Res:=
 if 0≤(a0.length:Int)∧(a0.length:Int)≤(a0.length:Int)∧(a0.length:Int)≤(VE.maxLen:Int)then
  vfj a0 a0 (List.replicate (a0.length:Int).toNat (Ty.zero tRange)) 0 (fun z18=>
   k z18.2)
 else none
theorem wb0 {a0:(List vak)}(h0:a0.length<9223372036854775807){k:(List vak)→Option Res}:vqe a0 k=v4t a0 k:=by
 rw [v1l]
 simp only [vzo,v4t,(v65 h0),Sum.elim_inl,Sum.elim_inr]
def ve8 (u0:(List vai)):List vai→(List vai)→Nat→((Int×(List vai))→Option Res)→Option Res
 |[],s2,i,k=>
  k ((i:Int),s2)
 |y::l,s2,i,k=>
  vqf y (fun y1=>
   if 0≤(i:Int)∧(i:Int)<(s2.length:Int)then
    ve8 u0 l (s2.set (i:Int).toNat y1) (i+1) k
   else none)
theorem v46 {u0}(h0:u0.length<9223372036854775807){K:q12T→Option Res}:∀(l:List vai) (i:Nat) (s2:(List vai)) (n:Nat),u0.drop i=l→l.length<n→vad vhj n (u0,(i:Int),s2) K=ve8 u0 l s2 i (fun z=>K (u0,z.1,z.2)):=by
 intro l
 induction l with
 |nil=>
  intro i s2 n hd hn
  have hge:=vbp hd
  cases n with
  |zero=>exact absurd hn (Nat.not_lt_zero _)
  |succ n=>simp only [vad,vhj,ve8,hge,decide_false,cond_false,Sum.elim_inr,Sum.elim_inl]
 |cons y l ih=>
  intro i s2 n hd hn
  obtain⟨hlt,hz,hd2,hw,hnn⟩:=va7 hd h0
  have hy:=vbe hd
  cases n with
  |zero=>exact absurd hn (Nat.not_lt_zero _)
  |succ n=>
   have ih2:=fun(s2:(List vai))=>ih (i+1) s2 n hd2 (Nat.lt_of_succ_lt_succ hn)
   simp only [vad,vhj,ve8,hlt,hz,decide_true,cond_true,and_self,if_true,hy,hw,hnn,Sum.elim_inl,Sum.elim_inr,ih2]
theorem v5s {u0}(h0:u0.length<9223372036854775807){K:q12T→Option Res}{s2:(List vai)}:vad vhj Fuel (u0,(0:Int),s2) K=ve8 u0 u0 s2 0 (fun z=>K (u0,z.1,z.2)):=
 v46 h0 u0 0 s2 Fuel rfl (vbb h0)
def v31 (a0:(List vai))(k:(List vai)→Option Res):Option Res:=
 if 0≤(a0.length:Int)∧(a0.length:Int)≤(a0.length:Int)∧(a0.length:Int)≤(VE.maxLen:Int)then
  ve8 a0 a0 (List.replicate (a0.length:Int).toNat (Ty.zero tWrite)) 0 (fun z18=>
   k z18.2)
 else none
theorem wbb {a0:(List vai)}(h0:a0.length<9223372036854775807){k:(List vai)→Option Res}:vqr a0 k=v31 a0 k:=by
 rw [v34]
 simp only [vx4,v31,(v5s h0),Sum.elim_inl,Sum.elim_inr]
def vfa (u0:(List dTxn)):List dTxn→(List dTxn)→Nat→((Int×(List dTxn))→Option Res)→Option Res
 |[],s2,i,k=>
  k ((i:Int),s2)
 |y::l,s2,i,k=>
  vnw y (fun y1=>
   if 0≤(i:Int)∧(i:Int)<(s2.length:Int)then
    vfa u0 l (s2.set (i:Int).toNat (y1.1,(y1.2.1,(y1.2.2.1,(y1.2.2.2.1,(y1.2.2.2.2.2.2.1,(y1.2.2.2.2.2.2.2,(y1.2.2.2.2.1,y1.2.2.2.2.2.1)))))))) (i+1) k
   else none)
theorem v7p {u0}(h0:u0.length<9223372036854775807){K:q4T→Option Res}:∀(l:List dTxn) (i:Nat) (s2:(List dTxn)) (n:Nat),u0.drop i=l→l.length<n→vad vhy n (u0,(i:Int),s2) K=vfa u0 l s2 i (fun z=>K (u0,z.1,z.2)):=by
 intro l
 induction l with
 |nil=>
  intro i s2 n hd hn
  have hge:=vbp hd
  cases n with
  |zero=>exact absurd hn (Nat.not_lt_zero _)
  |succ n=>simp only [vad,vhy,vfa,hge,decide_false,cond_false,Sum.elim_inr,Sum.elim_inl]
 |cons y l ih=>
  intro i s2 n hd hn
  obtain⟨hlt,hz,hd2,hw,hnn⟩:=va7 hd h0
  have hy:=vbe hd
  cases n with
  |zero=>exact absurd hn (Nat.not_lt_zero _)
  |succ n=>
   have ih2:=fun(s2:(List dTxn))=>ih (i+1) s2 n hd2 (Nat.lt_of_succ_lt_succ hn)
   simp only [vad,vhy,vfa,hlt,hz,decide_true,cond_true,and_self,if_true,hy,hw,hnn,Sum.elim_inl,Sum.elim_inr,ih2]
theorem v41 {u0}(h0:u0.length<9223372036854775807){K:q4T→Option Res}{s2:(List dTxn)}:vad vhy Fuel (u0,(0:Int),s2) K=vfa u0 u0 s2 0 (fun z=>K (u0,z.1,z.2)):=
 v7p h0 u0 0 s2 Fuel rfl (vbb h0)
def v3n (a0:(List dTxn))(k:(List dTxn)→Option Res):Option Res:=
 if 0≤(a0.length:Int)∧(a0.length:Int)≤(a0.length:Int)∧(a0.length:Int)≤(VE.maxLen:Int)then
  vfa a0 a0 (List.replicate (a0.length:Int).toNat (Ty.zero tTxn)) 0 (fun z18=>
   k z18.2)
 else none
theorem wai {a0:(List dTxn)}(h0:a0.length<9223372036854775807){k:(List dTxn)→Option Res}:vop a0 k=v3n a0 k:=by
 rw [v2l]
 simp only [vyq,v3n,(v41 h0),Sum.elim_inl,Sum.elim_inr]
def vgk (u0:(List dTxn)):List dTxn→(List dTxn)→Nat→((Int×(List dTxn))→Option Res)→Option Res
 |[],s2,i,k=>
  k ((i:Int),s2)
 |y::l,s2,i,k=>
  vml y (fun y1=>
   if s2.length+[(y1.1,(y1.2.1,(y1.2.2.1,(y1.2.2.2.1,(y1.2.2.2.2.2.2.1,(y1.2.2.2.2.2.2.2,(y1.2.2.2.2.1,y1.2.2.2.2.2.1)))))))].length≤VE.maxLen then
    vgk u0 l (s2++[(y1.1,(y1.2.1,(y1.2.2.1,(y1.2.2.2.1,(y1.2.2.2.2.2.2.1,(y1.2.2.2.2.2.2.2,(y1.2.2.2.2.1,y1.2.2.2.2.2.1)))))))]) (i+1) k
   else none)
theorem v6o {u0}(h0:u0.length<9223372036854775807){K:q4T→Option Res}:∀(l:List dTxn) (i:Nat) (s2:(List dTxn)) (n:Nat),u0.drop i=l→l.length<n→vad vim n (u0,(i:Int),s2) K=vgk u0 l s2 i (fun z=>K (u0,z.1,z.2)):=by
 intro l
 induction l with
 |nil=>
  intro i s2 n hd hn
  have hge:=vbp hd
  cases n with
  |zero=>exact absurd hn (Nat.not_lt_zero _)
  |succ n=>simp only [vad,vim,vgk,hge,decide_false,cond_false,Sum.elim_inr,Sum.elim_inl]
 |cons y l ih=>
  intro i s2 n hd hn
  obtain⟨hlt,hz,hd2,hw,hnn⟩:=va7 hd h0
  have hy:=vbe hd
  cases n with
  |zero=>exact absurd hn (Nat.not_lt_zero _)
  |succ n=>
   have ih2:=fun(s2:(List dTxn))=>ih (i+1) s2 n hd2 (Nat.lt_of_succ_lt_succ hn)
   simp only [vad,vim,vgk,hlt,hz,decide_true,cond_true,and_self,if_true,hy,hw,hnn,Sum.elim_inl,Sum.elim_inr,ih2]
theorem v7n {u0}(h0:u0.length<9223372036854775807){K:q4T→Option Res}{s2:(List dTxn)}:vad vim Fuel (u0,(0:Int),s2) K=vgk u0 u0 s2 0 (fun z=>K (u0,z.1,z.2)):=
 v6o h0 u0 0 s2 Fuel rfl (vbb h0)
def v3t (a0:(List dTxn))(k:(List dTxn)→Option Res):Option Res:=
 vgk a0 a0 ([]:List dTxn) 0 (fun z18=>
  k z18.2)
theorem wae {a0:(List dTxn)}(h0:a0.length<9223372036854775807){k:(List dTxn)→Option Res}:vnv a0 k=v3t a0 k:=by
 rw [v3o]
 simp only [vx5,v3t,(v7n h0),Sum.elim_inl,Sum.elim_inr]
def vec (u0:ByteArray)(u2:(List vaa))(u3:(List dTxn))(u4:(List dTxn))(u5:Int)(u6:Int)(u7:Int)(u8:Int)(u9:Int)(u10:Int)(u11:(List vaa))(u12:(List dTxn)):List dTxn→(List dTxn)→Nat→((Int×(List dTxn))→Option Res)→Option Res
 |[],s13,i,k=>
  k ((i:Int),s13)
 |y::l,s13,i,k=>
  bif (!(vba (y.2.2.2.2.2.2.2) u0))then
   vml y (fun y1=>
    if s13.length+[(y1.1,(y1.2.1,(y1.2.2.1,(y1.2.2.2.1,(y1.2.2.2.2.2.2.1,(y1.2.2.2.2.2.2.2,(y1.2.2.2.2.1,y1.2.2.2.2.2.1)))))))].length≤VE.maxLen then
     vec u0 u2 u3 u4 u5 u6 u7 u8 u9 u10 u11 u12 l (s13++[(y1.1,(y1.2.1,(y1.2.2.1,(y1.2.2.2.1,(y1.2.2.2.2.2.2.1,(y1.2.2.2.2.2.2.2,(y1.2.2.2.2.1,y1.2.2.2.2.2.1)))))))]) (i+1) k
    else none)
  else
   vec u0 u2 u3 u4 u5 u6 u7 u8 u9 u10 u11 u12 l s13 (i+1) k
theorem v6p {u0} {u2} {u3} {u4} {u5} {u6} {u7} {u8} {u9} {u10} {u11} {u12}(h0:u4.length<9223372036854775807){K:q16T→Option Res}:∀(l:List dTxn) (i:Nat) (s13:(List dTxn)) (n:Nat),u4.drop i=l→l.length<n→vad vha n (u0,(i:Int),u2,u3,u4,u5,u6,u7,u8,u9,u10,u11,u12,s13) K=vec u0 u2 u3 u4 u5 u6 u7 u8 u9 u10 u11 u12 l s13 i (fun z=>K (u0,z.1,u2,u3,u4,u5,u6,u7,u8,u9,u10,u11,u12,z.2)):=by
 intro l
 induction l with
 |nil=>
  intro i s13 n hd hn
  have hge:=vbp hd
  cases n with
  |zero=>exact absurd hn (Nat.not_lt_zero _)
  |succ n=>simp only [vad,vha,vec,hge,decide_false,cond_false,Sum.elim_inr,Sum.elim_inl]
 |cons y l ih=>
  intro i s13 n hd hn
  obtain⟨hlt,hz,hd2,hw,hnn⟩:=va7 hd h0
  have hy:=vbe hd
  cases n with
  |zero=>exact absurd hn (Nat.not_lt_zero _)
  |succ n=>
   have ih2:=fun(s13:(List dTxn))=>ih (i+1) s13 n hd2 (Nat.lt_of_succ_lt_succ hn)
   simp only [vad,vha,vec,hlt,hz,decide_true,cond_true,and_self,if_true,hy,hw,hnn,Sum.elim_inl,Sum.elim_inr,ih2]
theorem v6v {u0} {u2} {u3} {u4} {u5} {u6} {u7} {u8} {u9} {u10} {u11} {u12}(h0:u4.length<9223372036854775807){K:q16T→Option Res}{s13:(List dTxn)}:vad vha Fuel (u0,(0:Int),u2,u3,u4,u5,u6,u7,u8,u9,u10,u11,u12,s13) K=vec u0 u2 u3 u4 u5 u6 u7 u8 u9 u10 u11 u12 u4 s13 0 (fun z=>K (u0,z.1,u2,u3,u4,u5,u6,u7,u8,u9,u10,u11,u12,z.2)):=
 v6p h0 u4 0 s13 Fuel rfl (vbb h0)
def v2t (a0:vdk)(a1:ByteArray)(k:q18T→Option Res):Option Res:=
 vqc a0 (fun y18=>
  vec a1 a0.1 a0.2.1 a0.2.2.1 a0.2.2.2.1 a0.2.2.2.2 (0:Int) (0:Int) y18.1 y18.2.1 y18.2.2.1 y18.2.2.2.1 a0.2.2.1 ([]:List dTxn) 0 (fun z19=>
   k (y18.1,y18.2.1,y18.2.2.1,y18.2.2.2.1,z19.2)))
theorem wbc {a0:vdk}{a1:ByteArray}(h0:a0.2.2.1.length<9223372036854775807){k:q18T→Option Res}:vn1 a0 a1 k=v2t a0 a1 k:=by
 rw [v2s]
 simp only [vzd,v2t,(v6v h0),Sum.elim_inl,Sum.elim_inr]
def vgb (u0:(List dTxn)):List dTxn→(List dTxn)→Nat→((Int×(List dTxn))→Option Res)→Option Res
 |[],s3,i,k=>
  k ((i:Int),s3)
 |y::l,s3,i,k=>
  vrk y (fun y1=>
   if s3.length+[(y1.1,(y1.2.1,(y1.2.2.1,(y1.2.2.2.1,(y1.2.2.2.2.2.2.1,(y1.2.2.2.2.2.2.2,(y1.2.2.2.2.1,y1.2.2.2.2.2.1)))))))].length≤VE.maxLen then
    vgb u0 l (s3++[(y1.1,(y1.2.1,(y1.2.2.1,(y1.2.2.2.1,(y1.2.2.2.2.2.2.1,(y1.2.2.2.2.2.2.2,(y1.2.2.2.2.1,y1.2.2.2.2.2.1)))))))]) (i+1) k
   else none)
theorem v7k {u0}(h0:u0.length<9223372036854775807){K:q5T→Option Res}:∀(l:List dTxn) (i:Nat) (s3:(List dTxn)) (n:Nat),u0.drop i=l→l.length<n→vad vg9 n (u0,(u0.length:Int),(i:Int),s3) K=vgb u0 l s3 i (fun z=>K (u0,(u0.length:Int),z.1,z.2)):=by
 intro l
 induction l with
 |nil=>
  intro i s3 n hd hn
  have hge:=vbp hd
  cases n with
  |zero=>exact absurd hn (Nat.not_lt_zero _)
  |succ n=>simp only [vad,vg9,vgb,hge,decide_false,cond_false,Sum.elim_inr,Sum.elim_inl]
 |cons y l ih=>
  intro i s3 n hd hn
  obtain⟨hlt,hz,hd2,hw,hnn⟩:=va7 hd h0
  have hy:=vbe hd
  cases n with
  |zero=>exact absurd hn (Nat.not_lt_zero _)
  |succ n=>
   have ih2:=fun(s3:(List dTxn))=>ih (i+1) s3 n hd2 (Nat.lt_of_succ_lt_succ hn)
   simp only [vad,vg9,vgb,hlt,hz,decide_true,cond_true,and_self,if_true,hy,hw,hnn,Sum.elim_inl,Sum.elim_inr,ih2]
theorem v60 {u0}(h0:u0.length<9223372036854775807){K:q5T→Option Res}{s3:(List dTxn)}:vad vg9 Fuel (u0,(u0.length:Int),(0:Int),s3) K=vgb u0 u0 s3 0 (fun z=>K (u0,(u0.length:Int),z.1,z.2)):=
 v7k h0 u0 0 s3 Fuel rfl (vbb h0)
def v24 (a0:(List dTxn))(k:(List dTxn)→Option Res):Option Res:=
 vgb a0 a0 ([]:List dTxn) 0 (fun z18=>
  k z18.2)
theorem wbh {a0:(List dTxn)}(h0:a0.length<9223372036854775807){k:(List dTxn)→Option Res}:vnr a0 k=v24 a0 k:=by
 rw [v3s]
 simp only [vzu,v24,(v60 h0),Sum.elim_inl,Sum.elim_inr]
def vge (u0:(List dTxn))(u1:Int):List dTxn→ByteArray→Nat→(((Int×Int×ByteArray)⊕(Int×ByteArray))→Option Res)→Option Res
 |[],s4,i,k=>
  k (.inr ((i:Int),s4))
 |y::l,s4,i,k=>
  vmg y s4 (fun y1=>
   bif y1.1 then
    k (.inl ((i:Int),(i:Int),y1.2))
   else
    vge u0 u1 l y1.2 (i+1) k)
theorem v6b {u0} {u1}(h0:u0.length<9223372036854775807){K:(q6T⊕q6T)→Option Res}:∀(l:List dTxn) (i:Nat) (s4:ByteArray) (n:Nat),u0.drop i=l→l.length<n→vad vhq n (u0,u1,(u0.length:Int),(i:Int),s4) K=vge u0 u1 l s4 i (Sum.elim (fun z=>K (.inl (u0,z.1,(u0.length:Int),z.2.1,z.2.2))) (fun z=>K (.inr (u0,u1,(u0.length:Int),z.1,z.2)))):=by
 intro l
 induction l with
 |nil=>
  intro i s4 n hd hn
  have hge:=vbp hd
  cases n with
  |zero=>exact absurd hn (Nat.not_lt_zero _)
  |succ n=>simp only [vad,vhq,vge,hge,decide_false,cond_false,Sum.elim_inr,Sum.elim_inl]
 |cons y l ih=>
  intro i s4 n hd hn
  obtain⟨hlt,hz,hd2,hw,hnn⟩:=va7 hd h0
  have hy:=vbe hd
  cases n with
  |zero=>exact absurd hn (Nat.not_lt_zero _)
  |succ n=>
   have ih2:=fun(s4:ByteArray)=>ih (i+1) s4 n hd2 (Nat.lt_of_succ_lt_succ hn)
   simp only [vad,vhq,vge,hlt,hz,decide_true,cond_true,and_self,if_true,hy,hw,hnn,Sum.elim_inl,Sum.elim_inr,ih2]
theorem v49 {u0} {u1}(h0:u0.length<9223372036854775807){K:(q6T⊕q6T)→Option Res}{s4:ByteArray}:vad vhq Fuel (u0,u1,(u0.length:Int),(0:Int),s4) K=vge u0 u1 u0 s4 0 (Sum.elim (fun z=>K (.inl (u0,z.1,(u0.length:Int),z.2.1,z.2.2))) (fun z=>K (.inr (u0,u1,(u0.length:Int),z.1,z.2)))):=
 v6b h0 u0 0 s4 Fuel rfl (vbb h0)
def v3f (a0:(List dTxn))(a1:ByteArray)(k:(Int×ByteArray)→Option Res):Option Res:=
 vge a0 (0:Int) a0 a1 0 (Sum.elim (fun z18=>
  k (z18.1,z18.2.2)) (fun z19=>
  k ((-1:Int),z19.2)))
theorem wal {a0:(List dTxn)}{a1:ByteArray}(h0:a0.length<9223372036854775807){k:(Int×ByteArray)→Option Res}:vnl a0 a1 k=v3f a0 a1 k:=by
 rw [v35]
 simp only [vy1,v3f,(v49 h0),Sum.elim_inl,Sum.elim_inr]
def vy6 (a0:(List dTxn))(a1:ByteArray)(k:(((List dTxn)×ByteArray)⊕(ByteArray×(List dTxn)))→Option Res):Option Res:=
 vnl a0 a1 (fun y18=>
  bif (y18.1==(-1:Int))then
   k (.inl (a0,y18.2))
  else
   vad vd8 Fuel (.inl (y18.1,(IntKind.wrap .i64 (y18.1+(1:Int))),a0,([]:List Nat),y18.2)) (Sum.elim (fun z19=>
    if 0≤z19.1∧z19.1≤(z19.2.2.1.length:Int)then
     if 0≤z19.1∧z19.1≤((z19.2.2.1.take z19.1.toNat++List.replicate (z19.2.2.1.length-z19.1.toNat) (Ty.zero tTxn)).length:Int)then
      bif (geD z19.1.toNat (loD z19.1.toNat z19.2.2.2.1))then
       k (.inr (z19.2.2.2.2,((z19.2.2.1.take z19.1.toNat++List.replicate (z19.2.2.1.length-z19.1.toNat) (Ty.zero tTxn)).take z19.1.toNat)))
      else
       none
     else none
    else none) (fun z20=>
    if 0≤z20.1∧z20.1≤(z20.2.2.1.length:Int)then
     if 0≤z20.1∧z20.1≤((z20.2.2.1.take z20.1.toNat++List.replicate (z20.2.2.1.length-z20.1.toNat) (Ty.zero tTxn)).length:Int)then
      bif (geD z20.1.toNat (loD z20.1.toNat z20.2.2.2.1))then
       k (.inr (z20.2.2.2.2,((z20.2.2.1.take z20.1.toNat++List.replicate (z20.2.2.1.length-z20.1.toNat) (Ty.zero tTxn)).take z20.1.toNat)))
      else
       none
     else none
    else none)))
theorem v8j {a0:(List dTxn)}{a1:ByteArray}  {k:(((List dTxn)×ByteArray)⊕(ByteArray×(List dTxn)))→Option Res}:vq6 a0 a1 k=vy6 a0 a1 k:=by
 rw [v12]
 simp only [vx0,vy6,Sum.elim_inl,Sum.elim_inr]
def vg6 (u0:(List vaa))(u1:(List vaa))(u2:Bool):List vaa→Nat→(((Bool×Int)⊕Int)→Option Res)→Option Res
 |[],i,k=>
  k (.inr (i:Int))
 |y::l,i,k=>
  if 0≤(i:Int)∧(i:Int)<(u1.length:Int)then
   vqb y (rd (Ty.zero tVersion) u1 (i:Int)) (fun y1=>
    bif (!y1)then
     k (.inl (false,(i:Int)))
    else
     vg6 u0 u1 u2 l (i+1) k)
  else none
theorem v6z {u0} {u1} {u2}(h0:u0.length<9223372036854775807){K:(q8T⊕q8T)→Option Res}:∀(l:List vaa) (i:Nat)  (n:Nat),u0.drop i=l→l.length<n→vad vg1 n (u0,u1,u2,(i:Int)) K=vg6 u0 u1 u2 l  i (Sum.elim (fun z=>K (.inl (u0,u1,z.1,z.2))) (fun z=>K (.inr (u0,u1,u2,z)))):=by
 intro l
 induction l with
 |nil=>
  intro i  n hd hn
  have hge:=vbp hd
  cases n with
  |zero=>exact absurd hn (Nat.not_lt_zero _)
  |succ n=>simp only [vad,vg1,vg6,hge,decide_false,cond_false,Sum.elim_inr,Sum.elim_inl]
 |cons y l ih=>
  intro i  n hd hn
  obtain⟨hlt,hz,hd2,hw,hnn⟩:=va7 hd h0
  have hy:=vbe hd
  cases n with
  |zero=>exact absurd hn (Nat.not_lt_zero _)
  |succ n=>
   have ih2:=ih (i+1)  n hd2 (Nat.lt_of_succ_lt_succ hn)
   simp only [vad,vg1,vg6,hlt,hz,decide_true,cond_true,and_self,if_true,hy,hw,hnn,Sum.elim_inl,Sum.elim_inr,ih2]
theorem v55 {u0} {u1} {u2}(h0:u0.length<9223372036854775807){K:(q8T⊕q8T)→Option Res}  : vad vg1 Fuel (u0,u1,u2,(0:Int)) K=vg6 u0 u1 u2 u0  0 (Sum.elim (fun z=>K (.inl (u0,u1,z.1,z.2))) (fun z=>K (.inr (u0,u1,u2,z)))):=
 v6z h0 u0 0  Fuel rfl (vbb h0)
def v22 (a0:(List vaa))(a1:(List vaa))(k:Bool→Option Res):Option Res:=
 bif ((a0.length:Int) != (a1.length:Int))then
  k false
 else
  vg6 a0 a1 false a0  0 (Sum.elim (fun z18=>
   k z18.1) (fun _=>
   k true))
theorem wb1 {a0:(List vaa)}{a1:(List vaa)}(h0:a0.length<9223372036854775807){k:Bool→Option Res}:vqp a0 a1 k=v22 a0 a1 k:=by
 rw [v4q]
 simp only [vyr,v22,(v55 h0),Sum.elim_inl,Sum.elim_inr]
def vhi (u0:(List vak))(u1:(List vak))(u2:Bool):List vak→Nat→(((Bool×Int)⊕Int)→Option Res)→Option Res
 |[],i,k=>
  k (.inr (i:Int))
 |y::l,i,k=>
  if 0≤(i:Int)∧(i:Int)<(u1.length:Int)then
   vrm y (rd (Ty.zero tRange) u1 (i:Int)) (fun y1=>
    bif (!y1)then
     k (.inl (false,(i:Int)))
    else
     vhi u0 u1 u2 l (i+1) k)
  else none
theorem v5j {u0} {u1} {u2}(h0:u0.length<9223372036854775807){K:(q0T⊕q0T)→Option Res}:∀(l:List vak) (i:Nat)  (n:Nat),u0.drop i=l→l.length<n→vad vh4 n (u0,u1,u2,(i:Int)) K=vhi u0 u1 u2 l  i (Sum.elim (fun z=>K (.inl (u0,u1,z.1,z.2))) (fun z=>K (.inr (u0,u1,u2,z)))):=by
 intro l
 induction l with
 |nil=>
  intro i  n hd hn
  have hge:=vbp hd
  cases n with
  |zero=>exact absurd hn (Nat.not_lt_zero _)
  |succ n=>simp only [vad,vh4,vhi,hge,decide_false,cond_false,Sum.elim_inr,Sum.elim_inl]
 |cons y l ih=>
  intro i  n hd hn
  obtain⟨hlt,hz,hd2,hw,hnn⟩:=va7 hd h0
  have hy:=vbe hd
  cases n with
  |zero=>exact absurd hn (Nat.not_lt_zero _)
  |succ n=>
   have ih2:=ih (i+1)  n hd2 (Nat.lt_of_succ_lt_succ hn)
   simp only [vad,vh4,vhi,hlt,hz,decide_true,cond_true,and_self,if_true,hy,hw,hnn,Sum.elim_inl,Sum.elim_inr,ih2]
theorem v56 {u0} {u1} {u2}(h0:u0.length<9223372036854775807){K:(q0T⊕q0T)→Option Res}  : vad vh4 Fuel (u0,u1,u2,(0:Int)) K=vhi u0 u1 u2 u0  0 (Sum.elim (fun z=>K (.inl (u0,u1,z.1,z.2))) (fun z=>K (.inr (u0,u1,u2,z)))):=
 v5j h0 u0 0  Fuel rfl (vbb h0)
def v11 (a0:(List vak))(a1:(List vak))(k:Bool→Option Res):Option Res:=
 bif ((a0.length:Int) != (a1.length:Int))then
  k false
 else
  vhi a0 a1 false a0  0 (Sum.elim (fun z18=>
   k z18.1) (fun _=>
   k true))
theorem wbf {a0:(List vak)}{a1:(List vak)}(h0:a0.length<9223372036854775807){k:Bool→Option Res}:vrp a0 a1 k=v11 a0 a1 k:=by
 rw [v1q]
 simp only [vys,v11,(v56 h0),Sum.elim_inl,Sum.elim_inr]
def vib (u0:(List vai))(u1:(List vai))(u2:Bool):List vai→Nat→(((Bool×Int)⊕Int)→Option Res)→Option Res
 |[],i,k=>
  k (.inr (i:Int))
 |y::l,i,k=>
  if 0≤(i:Int)∧(i:Int)<(u1.length:Int)then
   vq0 y (rd (Ty.zero tWrite) u1 (i:Int)) (fun y1=>
    bif (!y1)then
     k (.inl (false,(i:Int)))
    else
     vib u0 u1 u2 l (i+1) k)
  else none
theorem v6c {u0} {u1} {u2}(h0:u0.length<9223372036854775807){K:(q11T⊕q11T)→Option Res}:∀(l:List vai) (i:Nat)  (n:Nat),u0.drop i=l→l.length<n→vad vg2 n (u0,u1,u2,(i:Int)) K=vib u0 u1 u2 l  i (Sum.elim (fun z=>K (.inl (u0,u1,z.1,z.2))) (fun z=>K (.inr (u0,u1,u2,z)))):=by
 intro l
 induction l with
 |nil=>
  intro i  n hd hn
  have hge:=vbp hd
  cases n with
  |zero=>exact absurd hn (Nat.not_lt_zero _)
  |succ n=>simp only [vad,vg2,vib,hge,decide_false,cond_false,Sum.elim_inr,Sum.elim_inl]
 |cons y l ih=>
  intro i  n hd hn
  obtain⟨hlt,hz,hd2,hw,hnn⟩:=va7 hd h0
  have hy:=vbe hd
  cases n with
  |zero=>exact absurd hn (Nat.not_lt_zero _)
  |succ n=>
   have ih2:=ih (i+1)  n hd2 (Nat.lt_of_succ_lt_succ hn)
   simp only [vad,vg2,vib,hlt,hz,decide_true,cond_true,and_self,if_true,hy,hw,hnn,Sum.elim_inl,Sum.elim_inr,ih2]
theorem v63 {u0} {u1} {u2}(h0:u0.length<9223372036854775807){K:(q11T⊕q11T)→Option Res}  : vad vg2 Fuel (u0,u1,u2,(0:Int)) K=vib u0 u1 u2 u0  0 (Sum.elim (fun z=>K (.inl (u0,u1,z.1,z.2))) (fun z=>K (.inr (u0,u1,u2,z)))):=
 v6c h0 u0 0  Fuel rfl (vbb h0)
def v4a (a0:(List vai))(a1:(List vai))(k:Bool→Option Res):Option Res:=
 bif ((a0.length:Int) != (a1.length:Int))then
  k false
 else
  vib a0 a1 false a0  0 (Sum.elim (fun z18=>
   k z18.1) (fun _=>
   k true))
theorem waz {a0:(List vai)}{a1:(List vai)}(h0:a0.length<9223372036854775807){k:Bool→Option Res}:vq3 a0 a1 k=v4a a0 a1 k:=by
 rw [v3b]
 simp only [vx3,v4a,(v63 h0),Sum.elim_inl,Sum.elim_inr]
def vfn (u0:(List dTxn))(u1:(List dTxn))(u2:Bool):List dTxn→Nat→(((Bool×Int)⊕Int)→Option Res)→Option Res
 |[],i,k=>
  k (.inr (i:Int))
 |y::l,i,k=>
  if 0≤(i:Int)∧(i:Int)<(u1.length:Int)then
   vpq y (rd (Ty.zero tTxn) u1 (i:Int)) (fun y1=>
    bif (!y1)then
     k (.inl (false,(i:Int)))
    else
     vfn u0 u1 u2 l (i+1) k)
  else none
theorem v6d {u0} {u1} {u2}(h0:u0.length<9223372036854775807){K:(q3T⊕q3T)→Option Res}:∀(l:List dTxn) (i:Nat)  (n:Nat),u0.drop i=l→l.length<n→vad vg3 n (u0,u1,u2,(i:Int)) K=vfn u0 u1 u2 l  i (Sum.elim (fun z=>K (.inl (u0,u1,z.1,z.2))) (fun z=>K (.inr (u0,u1,u2,z)))):=by
 intro l
 induction l with
 |nil=>
  intro i  n hd hn
  have hge:=vbp hd
  cases n with
  |zero=>exact absurd hn (Nat.not_lt_zero _)
  |succ n=>simp only [vad,vg3,vfn,hge,decide_false,cond_false,Sum.elim_inr,Sum.elim_inl]
 |cons y l ih=>
  intro i  n hd hn
  obtain⟨hlt,hz,hd2,hw,hnn⟩:=va7 hd h0
  have hy:=vbe hd
  cases n with
  |zero=>exact absurd hn (Nat.not_lt_zero _)
  |succ n=>
   have ih2:=ih (i+1)  n hd2 (Nat.lt_of_succ_lt_succ hn)
   simp only [vad,vg3,vfn,hlt,hz,decide_true,cond_true,and_self,if_true,hy,hw,hnn,Sum.elim_inl,Sum.elim_inr,ih2]
theorem v5w {u0} {u1} {u2}(h0:u0.length<9223372036854775807){K:(q3T⊕q3T)→Option Res}  : vad vg3 Fuel (u0,u1,u2,(0:Int)) K=vfn u0 u1 u2 u0  0 (Sum.elim (fun z=>K (.inl (u0,u1,z.1,z.2))) (fun z=>K (.inr (u0,u1,u2,z)))):=
 v6d h0 u0 0  Fuel rfl (vbb h0)
def vzx (a0:(List dTxn))(a1:(List dTxn))(k:Bool→Option Res):Option Res:=
 bif ((a0.length:Int) != (a1.length:Int))then
  k false
 else
  vfn a0 a1 false a0  0 (Sum.elim (fun z18=>
   k z18.1) (fun _=>
   k true))
theorem v7x {a0:(List dTxn)}{a1:(List dTxn)}(h0:a0.length<9223372036854775807){k:Bool→Option Res}:vmn a0 a1 k=vzx a0 a1 k:=by
 rw [v2g]
 simp only [vzj,vzx,(v5w h0),Sum.elim_inl,Sum.elim_inr]
def vgt (u0:(List vaa))(u2:Int):List vaa→Int→Nat→(((Int×Int×Int)⊕(Int×Int))→Option Res)→Option Res
 |[],s1,i,k=>
  k (.inr (s1,(i:Int)))
 |y::l,s1,i,k=>
  vbq s1 (fun y1=>
   bif (!(vba (y.1) y1))then
    k (.inl (s1,(-1:Int),(i:Int)))
   else
    vbq (IntKind.wrap .i64 (s1+(1:Int))) (fun y2=>
     bif (!(vba (y.2.1) y2))then
      k (.inl ((IntKind.wrap .i64 (s1+(1:Int))),(-1:Int),(i:Int)))
     else
      bif (!(y.2.2.1==(((IntKind.wrap .i64 ((IntKind.wrap .i64 (s1+(1:Int)))+(1:Int))).tmod (3:Int))==(0:Int))))then
       k (.inl ((IntKind.wrap .i64 ((IntKind.wrap .i64 (s1+(1:Int)))+(1:Int))),(-1:Int),(i:Int)))
      else
       bif (y.2.2.2 != (IntKind.wrap .i64 ((IntKind.wrap .i64 ((IntKind.wrap .i64 (s1+(1:Int)))+(1:Int)))+(1:Int))))then
        k (.inl ((IntKind.wrap .i64 ((IntKind.wrap .i64 ((IntKind.wrap .i64 (s1+(1:Int)))+(1:Int)))+(1:Int))),(-1:Int),(i:Int)))
       else
        vgt u0 u2 l (IntKind.wrap .i64 ((IntKind.wrap .i64 ((IntKind.wrap .i64 ((IntKind.wrap .i64 (s1+(1:Int)))+(1:Int)))+(1:Int)))+(1:Int))) (i+1) k))
theorem v5z {u0} {u2}(h0:u0.length<9223372036854775807){K:(q10T⊕q10T)→Option Res}:∀(l:List vaa) (i:Nat) (s1:Int) (n:Nat),u0.drop i=l→l.length<n→vad vh9 n (u0,s1,u2,(i:Int)) K=vgt u0 u2 l s1 i (Sum.elim (fun z=>K (.inl (u0,z.1,z.2.1,z.2.2))) (fun z=>K (.inr (u0,z.1,u2,z.2)))):=by
 intro l
 induction l with
 |nil=>
  intro i s1 n hd hn
  have hge:=vbp hd
  cases n with
  |zero=>exact absurd hn (Nat.not_lt_zero _)
  |succ n=>simp only [vad,vh9,vgt,hge,decide_false,cond_false,Sum.elim_inr,Sum.elim_inl]
 |cons y l ih=>
  intro i s1 n hd hn
  obtain⟨hlt,hz,hd2,hw,hnn⟩:=va7 hd h0
  have hy:=vbe hd
  cases n with
  |zero=>exact absurd hn (Nat.not_lt_zero _)
  |succ n=>
   have ih2:=fun(s1:Int)=>ih (i+1) s1 n hd2 (Nat.lt_of_succ_lt_succ hn)
   simp only [vad,vh9,vgt,hlt,hz,decide_true,cond_true,and_self,if_true,hy,hw,hnn,Sum.elim_inl,Sum.elim_inr,ih2]
theorem v59 {u0} {u2}(h0:u0.length<9223372036854775807){K:(q10T⊕q10T)→Option Res}{s1:Int}:vad vh9 Fuel (u0,s1,u2,(0:Int)) K=vgt u0 u2 u0 s1 0 (Sum.elim (fun z=>K (.inl (u0,z.1,z.2.1,z.2.2))) (fun z=>K (.inr (u0,z.1,u2,z.2)))):=
 v5z h0 u0 0 s1 Fuel rfl (vbb h0)
def v2v (a0:(List vaa))(a1:Int)(k:Int→Option Res):Option Res:=
 vgt a0 (0:Int) a0 a1 0 (Sum.elim (fun z18=>
  k z18.2.1) (fun z19=>
  k z19.1))
theorem wbp {a0:(List vaa)}{a1:Int}(h0:a0.length<9223372036854775807){k:Int→Option Res}:vr8 a0 a1 k=v2v a0 a1 k:=by
 rw [v1w]
 simp only [vzv,v2v,(v59 h0),Sum.elim_inl,Sum.elim_inr]
def vgo (u0:(List vak))(u2:Int):List vak→Int→Nat→(((Int×Int×Int)⊕(Int×Int))→Option Res)→Option Res
 |[],s1,i,k=>
  k (.inr (s1,(i:Int)))
 |y::l,s1,i,k=>
  vbq s1 (fun y1=>
   bif (!(vba (y.1) y1))then
    k (.inl (s1,(-1:Int),(i:Int)))
   else
    vbq (IntKind.wrap .i64 (s1+(1:Int))) (fun y2=>
     bif (!(vba (y.2) y2))then
      k (.inl ((IntKind.wrap .i64 (s1+(1:Int))),(-1:Int),(i:Int)))
     else
      vgo u0 u2 l (IntKind.wrap .i64 ((IntKind.wrap .i64 (s1+(1:Int)))+(1:Int))) (i+1) k))
theorem v7b {u0} {u2}(h0:u0.length<9223372036854775807){K:(q2T⊕q2T)→Option Res}:∀(l:List vak) (i:Nat) (s1:Int) (n:Nat),u0.drop i=l→l.length<n→vad vhp n (u0,s1,u2,(i:Int)) K=vgo u0 u2 l s1 i (Sum.elim (fun z=>K (.inl (u0,z.1,z.2.1,z.2.2))) (fun z=>K (.inr (u0,z.1,u2,z.2)))):=by
 intro l
 induction l with
 |nil=>
  intro i s1 n hd hn
  have hge:=vbp hd
  cases n with
  |zero=>exact absurd hn (Nat.not_lt_zero _)
  |succ n=>simp only [vad,vhp,vgo,hge,decide_false,cond_false,Sum.elim_inr,Sum.elim_inl]
 |cons y l ih=>
  intro i s1 n hd hn
  obtain⟨hlt,hz,hd2,hw,hnn⟩:=va7 hd h0
  have hy:=vbe hd
  cases n with
  |zero=>exact absurd hn (Nat.not_lt_zero _)
  |succ n=>
   have ih2:=fun(s1:Int)=>ih (i+1) s1 n hd2 (Nat.lt_of_succ_lt_succ hn)
   simp only [vad,vhp,vgo,hlt,hz,decide_true,cond_true,and_self,if_true,hy,hw,hnn,Sum.elim_inl,Sum.elim_inr,ih2]
theorem v42 {u0} {u2}(h0:u0.length<9223372036854775807){K:(q2T⊕q2T)→Option Res}{s1:Int}:vad vhp Fuel (u0,s1,u2,(0:Int)) K=vgo u0 u2 u0 s1 0 (Sum.elim (fun z=>K (.inl (u0,z.1,z.2.1,z.2.2))) (fun z=>K (.inr (u0,z.1,u2,z.2)))):=
 v7b h0 u0 0 s1 Fuel rfl (vbb h0)
def v3y (a0:(List vak))(a1:Int)(k:Int→Option Res):Option Res:=
 vgo a0 (0:Int) a0 a1 0 (Sum.elim (fun z18=>
  k z18.2.1) (fun z19=>
  k z19.1))
theorem wa3 {a0:(List vak)}{a1:Int}(h0:a0.length<9223372036854775807){k:Int→Option Res}:vo6 a0 a1 k=v3y a0 a1 k:=by
 rw [v27]
 simp only [vyn,v3y,(v42 h0),Sum.elim_inl,Sum.elim_inr]
def vgc (u0:(List vai))(u2:Int):List vai→Int→Nat→(((Int×Int×Int)⊕(Int×Int))→Option Res)→Option Res
 |[],s1,i,k=>
  k (.inr (s1,(i:Int)))
 |y::l,s1,i,k=>
  vbq s1 (fun y1=>
   bif (!(vba (y.1) y1))then
    k (.inl (s1,(-1:Int),(i:Int)))
   else
    vbq (IntKind.wrap .i64 (s1+(1:Int))) (fun y2=>
     bif (!(vba (y.2.1) y2))then
      k (.inl ((IntKind.wrap .i64 (s1+(1:Int))),(-1:Int),(i:Int)))
     else
      bif (!(y.2.2==(((IntKind.wrap .i64 ((IntKind.wrap .i64 (s1+(1:Int)))+(1:Int))).tmod (3:Int))==(0:Int))))then
       k (.inl ((IntKind.wrap .i64 ((IntKind.wrap .i64 (s1+(1:Int)))+(1:Int))),(-1:Int),(i:Int)))
      else
       vgc u0 u2 l (IntKind.wrap .i64 ((IntKind.wrap .i64 ((IntKind.wrap .i64 (s1+(1:Int)))+(1:Int)))+(1:Int))) (i+1) k))
theorem v48 {u0} {u2}(h0:u0.length<9223372036854775807){K:(q13T⊕q13T)→Option Res}:∀(l:List vai) (i:Nat) (s1:Int) (n:Nat),u0.drop i=l→l.length<n→vad vig n (u0,s1,u2,(i:Int)) K=vgc u0 u2 l s1 i (Sum.elim (fun z=>K (.inl (u0,z.1,z.2.1,z.2.2))) (fun z=>K (.inr (u0,z.1,u2,z.2)))):=by
 intro l
 induction l with
 |nil=>
  intro i s1 n hd hn
  have hge:=vbp hd
  cases n with
  |zero=>exact absurd hn (Nat.not_lt_zero _)
  |succ n=>simp only [vad,vig,vgc,hge,decide_false,cond_false,Sum.elim_inr,Sum.elim_inl]
 |cons y l ih=>
  intro i s1 n hd hn
  obtain⟨hlt,hz,hd2,hw,hnn⟩:=va7 hd h0
  have hy:=vbe hd
  cases n with
  |zero=>exact absurd hn (Nat.not_lt_zero _)
  |succ n=>
   have ih2:=fun(s1:Int)=>ih (i+1) s1 n hd2 (Nat.lt_of_succ_lt_succ hn)
   simp only [vad,vig,vgc,hlt,hz,decide_true,cond_true,and_self,if_true,hy,hw,hnn,Sum.elim_inl,Sum.elim_inr,ih2]
theorem v51 {u0} {u2}(h0:u0.length<9223372036854775807){K:(q13T⊕q13T)→Option Res}{s1:Int}:vad vig Fuel (u0,s1,u2,(0:Int)) K=vgc u0 u2 u0 s1 0 (Sum.elim (fun z=>K (.inl (u0,z.1,z.2.1,z.2.2))) (fun z=>K (.inr (u0,z.1,u2,z.2)))):=
 v48 h0 u0 0 s1 Fuel rfl (vbb h0)
def v2n (a0:(List vai))(a1:Int)(k:Int→Option Res):Option Res:=
 vgc a0 (0:Int) a0 a1 0 (Sum.elim (fun z18=>
  k z18.2.1) (fun z19=>
  k z19.1))
theorem wao {a0:(List vai)}{a1:Int}(h0:a0.length<9223372036854775807){k:Int→Option Res}:vos a0 a1 k=v2n a0 a1 k:=by
 rw [v16]
 simp only [vyc,v2n,(v51 h0),Sum.elim_inl,Sum.elim_inr]
def vgh (u0:(List dTxn))(u2:Int):List dTxn→Int→Nat→(((Int×Int×Int)⊕(Int×Int))→Option Res)→Option Res
 |[],s1,i,k=>
  k (.inr (s1,(i:Int)))
 |y::l,s1,i,k=>
  bif (y.1 != s1)then
   k (.inl (s1,(-1:Int),(i:Int)))
  else
   bif (y.2.1 != (IntKind.wrap .i64 (s1+(1:Int))))then
    k (.inl ((IntKind.wrap .i64 (s1+(1:Int))),(-1:Int),(i:Int)))
   else
    bif (y.2.2.1 != (IntKind.wrap .i64 ((IntKind.wrap .i64 (s1+(1:Int)))+(1:Int))))then
     k (.inl ((IntKind.wrap .i64 ((IntKind.wrap .i64 (s1+(1:Int)))+(1:Int))),(-1:Int),(i:Int)))
    else
     bif (y.2.2.2.1 != (IntKind.wrap .i64 ((IntKind.wrap .i64 ((IntKind.wrap .i64 (s1+(1:Int)))+(1:Int)))+(1:Int))))then
      k (.inl ((IntKind.wrap .i64 ((IntKind.wrap .i64 ((IntKind.wrap .i64 (s1+(1:Int)))+(1:Int)))+(1:Int))),(-1:Int),(i:Int)))
     else
      vo6 y.2.2.2.2.1 (IntKind.wrap .i64 ((IntKind.wrap .i64 ((IntKind.wrap .i64 ((IntKind.wrap .i64 (s1+(1:Int)))+(1:Int)))+(1:Int)))+(1:Int))) (fun y1=>
       bif (decide (y1<(0:Int)))then
        k (.inl (y1,(-1:Int),(i:Int)))
       else
        vos y.2.2.2.2.2.1 y1 (fun y2=>
         bif (decide (y2<(0:Int)))then
          k (.inl (y2,(-1:Int),(i:Int)))
         else
          bif (!(y.2.2.2.2.2.2.1==((y2.tmod (3:Int))==(0:Int))))then
           k (.inl (y2,(-1:Int),(i:Int)))
          else
           vbq (IntKind.wrap .i64 (y2+(1:Int))) (fun y3=>
            bif (!(vba (y.2.2.2.2.2.2.2) y3))then
             k (.inl ((IntKind.wrap .i64 (y2+(1:Int))),(-1:Int),(i:Int)))
            else
             vgh u0 u2 l (IntKind.wrap .i64 ((IntKind.wrap .i64 (y2+(1:Int)))+(1:Int))) (i+1) k)))
theorem v5e {u0} {u2}(h0:u0.length<9223372036854775807){K:(q7T⊕q7T)→Option Res}:∀(l:List dTxn) (i:Nat) (s1:Int) (n:Nat),u0.drop i=l→l.length<n→vad vg4 n (u0,s1,u2,(i:Int)) K=vgh u0 u2 l s1 i (Sum.elim (fun z=>K (.inl (u0,z.1,z.2.1,z.2.2))) (fun z=>K (.inr (u0,z.1,u2,z.2)))):=by
 intro l
 induction l with
 |nil=>
  intro i s1 n hd hn
  have hge:=vbp hd
  cases n with
  |zero=>exact absurd hn (Nat.not_lt_zero _)
  |succ n=>simp only [vad,vg4,vgh,hge,decide_false,cond_false,Sum.elim_inr,Sum.elim_inl]
 |cons y l ih=>
  intro i s1 n hd hn
  obtain⟨hlt,hz,hd2,hw,hnn⟩:=va7 hd h0
  have hy:=vbe hd
  cases n with
  |zero=>exact absurd hn (Nat.not_lt_zero _)
  |succ n=>
   have ih2:=fun(s1:Int)=>ih (i+1) s1 n hd2 (Nat.lt_of_succ_lt_succ hn)
   simp only [vad,vg4,vgh,hlt,hz,decide_true,cond_true,and_self,if_true,hy,hw,hnn,Sum.elim_inl,Sum.elim_inr,ih2]
theorem v5t {u0} {u2}(h0:u0.length<9223372036854775807){K:(q7T⊕q7T)→Option Res}{s1:Int}:vad vg4 Fuel (u0,s1,u2,(0:Int)) K=vgh u0 u2 u0 s1 0 (Sum.elim (fun z=>K (.inl (u0,z.1,z.2.1,z.2.2))) (fun z=>K (.inr (u0,z.1,u2,z.2)))):=
 v5e h0 u0 0 s1 Fuel rfl (vbb h0)
def v1m (a0:(List dTxn))(a1:Int)(k:Int→Option Res):Option Res:=
 vgh a0 (0:Int) a0 a1 0 (Sum.elim (fun z18=>
  k z18.2.1) (fun z19=>
  k z19.1))
theorem wau {a0:(List dTxn)}{a1:Int}(h0:a0.length<9223372036854775807){k:Int→Option Res}:voy a0 a1 k=v1m a0 a1 k:=by
 rw [v1r]
 simp only [vy8,v1m,(v5t h0),Sum.elim_inl,Sum.elim_inr]
def vde (u0:ByteArray)(u1:Bool)(u2:(List vaa))(u3:(List dTxn))(u4:(List dTxn))(u5:Int)(u6:Int)(u7:Int)(u8:Int)(u9:Int)(u10:Int)(u11:(List vaa))(u12:(List dTxn))(u13:(List dTxn))(u14:(List vaa))(u15:(List dTxn))(u16:(List dTxn))(k:(Bool×(List vaa)×(List dTxn)×(List dTxn))→Option Res):Option Res:=
  vkn u9 u10 (1:Int) u14 u15 u16 (fun y1=>
   vkr (y1.2.1,(y1.2.2.1,(y1.2.2.2,(u9,u10)))) (1:Int) (fun y2=>
    bif (decide (y2<(0:Int)))then
     k (false,y1.2.1,y1.2.2.1,y1.2.2.2)
    else
     bif (y2 != y1.1)then
      k (false,y1.2.1,y1.2.2.1,y1.2.2.2)
     else
      vf6 (u2,(u3,(u4,(u5,u6)))) (fun y3=>
       vmb (y3.2.2.1,(y3.2.2.2.1,(y3.2.2.2.2,(y3.1,y3.2.1)))) u0 (fun y4=>
        vel (y4.2.2.1,(y4.2.2.2.1,(y4.2.2.2.2,(y4.1,y4.2.1)))) (u11,(u12,(u13,(u7,u8)))) (fun y5=>
         bif (!y5)then
          k (false,y1.2.1,y1.2.2.1,y1.2.2.2)
         else
          vkr (y1.2.1,(y1.2.2.1,(y1.2.2.2,(u9,u10)))) (1:Int) (fun y6=>
           bif (decide (y6<(0:Int)))then
            k (false,y1.2.1,y1.2.2.1,y1.2.2.2)
           else
            bif (y6 != y1.1)then
             k (false,y1.2.1,y1.2.2.1,y1.2.2.2)
            else
             k (true,y1.2.1,y1.2.2.1,y1.2.2.2)))))))
theorem vpw {u0} {u1} {u2} {u3} {u4} {u5} {u6} {u7} {u8} {u9} {u10} {u11} {u12} {u13} {u14} {u15} {u16}  {K:q14T→Option Res}:vca (u0,u1,u2,u3,u4,u5,u6,u7,u8,u9,u10,u11,u12,u13,u14,u15,u16) K=vde u0 u1 u2 u3 u4 u5 u6 u7 u8 u9 u10 u11 u12 u13 u14 u15 u16 (fun z=>K (u0,z.1,u2,u3,u4,u5,u6,u7,u8,u9,u10,u11,u12,u13,z.2.1,z.2.2.1,z.2.2.2)):=by
 simp only [vca,vde,Sum.elim_inl,Sum.elim_inr]
def v3l (a0:vdk)(a1:ByteArray)(k:Bool→Option Res):Option Res:=
 bif (decide ((a1.size:Int)>(1048576:Int)))then
  k true
 else
  vrh a0 (1048576:Int) (fun y18=>
   bif (decide (y18<(0:Int)))then
    k true
   else
    vf6 a0 (fun y19=>
     vn1 (y19.2.2.1,(y19.2.2.2.1,(y19.2.2.2.2,(y19.1,y19.2.1)))) a1 (fun y20=>
      vf6 a0 (fun y21=>
       vmb (y21.2.2.1,(y21.2.2.2.1,(y21.2.2.2.2,(y21.1,y21.2.1)))) a1 (fun y22=>
        vel (y22.2.2.1,(y22.2.2.2.1,(y22.2.2.2.2,(y22.1,y22.2.1)))) (y20.2.2.1,(y20.2.2.2.1,(y20.2.2.2.2,(y20.1,y20.2.1)))) (fun y23=>
         bif (!y23)then
          k false
         else
          vf6 a0 (fun y24=>
           vel (y21.2.2.1,(y21.2.2.2.1,(y21.2.2.2.2,(y21.1,y21.2.1)))) (y24.2.2.1,(y24.2.2.2.1,(y24.2.2.2.2,(y24.1,y24.2.1)))) (fun y25=>
            bif (!y25)then
             k false
            else
             vkn y21.1 y21.2.1 (1:Int) y21.2.2.1 y21.2.2.2.1 y21.2.2.2.2 (fun y26=>
              bif (decide (y26.1<(0:Int)))then
               k false
              else
               vel (y22.2.2.1,(y22.2.2.2.1,(y22.2.2.2.2,(y22.1,y22.2.1)))) (y20.2.2.1,(y20.2.2.2.1,(y20.2.2.2.2,(y20.1,y20.2.1)))) (fun y27=>
                bif (!y27)then
                 k false
                else
                 vde a1 false a0.1 a0.2.1 a0.2.2.1 a0.2.2.2.1 a0.2.2.2.2 y20.1 y20.2.1 y22.1 y22.2.1 y20.2.2.1 y20.2.2.2.1 y20.2.2.2.2 y22.2.2.1 y22.2.2.2.1 y22.2.2.2.2 (fun z28=>
                  k z28.1)))))))))))
theorem waj {a0:vdk}{a1:ByteArray}  {k:Bool→Option Res}:vv6 a0 a1 k=v3l a0 a1 k:=by
 rw [v37]
 simp only [vyl,v3l,vpw,Sum.elim_inl,Sum.elim_inr]
end
end Go.VE
