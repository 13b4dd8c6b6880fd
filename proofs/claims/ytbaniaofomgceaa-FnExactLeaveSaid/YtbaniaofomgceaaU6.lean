/- A call: the callee's contract, told in the caller's state. -/
import Derived.Test.YtbaniaofomgceaaU5
namespace Go.VE
set_option linter.unusedVariables false
def vfk (μ:List Slot):List Nat→List Slot→List Slot
 |[],sub=>μ++sub
 |r::l,g::sub=>vfk (μ.set r g) l sub
 |_::_,[]=>μ
theorem vmw (f:Nat→Nat):∀(s:St) (j:Nat),getR (s.map (Rg.ren2 f)) j=(getR s j).ren2 f
 |[],j=>by cases j<;>rfl
 |g::l,0=>rfl
 |g::l,j+1=>by simpa [getR]using vmw f l j
theorem vv9:∀{ids:List Nat} {n j r:Nat},ids[j]? = some r→back ids n j=r
 |[],_,_,_,h=>by simp at h
 |a::l,n,0,r,h=>by simpa [back]using h
 |a::l,n,j+1,r,h=>by
  simp at h
  simpa [back]using vv9 h
theorem vwp:∀{ids:List Nat} {n j:Nat},ids.length≤j→back ids n j=n+(j-ids.length)
 |[],n,j,_=>by simp [back]
 |a::l,n,0,h=>by simp at h
 |a::l,n,j+1,h=>by
  simp at h
  simp [back,vwp h]
theorem vx1 (f:Nat→Nat):∀(ids:List Nat) (s sub:St),ids.Nodup→(∀r∈ids,r<s.length)→ids.length≤sub.length→
  (vh3 s f ids sub).length=s.length+(sub.length-ids.length)∧
  (∀r,r<s.length→getR (vh3 s f ids sub) r=match idx r ids with|some j=>(getR sub j).ren2 f|none=>getR s r)∧
  (∀j,getR (vh3 s f ids sub) (s.length+j)=(getR sub (ids.length+j)).ren2 f)
 |[],s,sub,_,_,_=>by
  refine⟨by simp [vh3],fun r hr=>?_,fun j=>?_⟩
  ·simp only [vh3,idx];exact vat _ _ _ hr
  ·simp only [vh3,List.length_nil,Nat.zero_add]
   rw [vbc,vmw]
 |a::l,s,[],_,_,h=>by simp at h
 |a::l,s,g::sub,hd,hm,hl=>by
  simp only [List.nodup_cons]at hd
  have ha:a<s.length:=hm a (by simp)
  have hlen:=vak s a (g.ren2 f)
  obtain⟨h1,h2,h3⟩:=vx1 f l (setR s a (g.ren2 f)) sub hd.2 (fun r hr=>by rw [hlen];exact hm r (by simp [hr])) (by simpa using hl)
  rw [hlen]at h1 h2 h3
  refine⟨by simp only [vh3,h1,List.length_cons];omega,fun r hr=>?_,fun j=>?_⟩
  ·simp only [vh3,h2 r hr,idx]
   by_cases e:a=r
   ·subst e
    have:idx a l=none:=by
     cases hi:idx a l with
     |none=>rfl
     |some j=>exact absurd (List.mem_of_getElem? (va2 hi)) hd.1
    rw [this,if_pos rfl,vav _ _ _ _ ha,if_pos rfl];rfl
   ·rw [if_neg e]
    cases hi:idx r l with
    |none=>simp only;rw [vav _ _ _ _ ha,if_neg (fun e'=>e e'.symm)]
    |some j=>rfl
  ·simp only [vh3,h3 j,List.length_cons]
   rw [Nat.add_right_comm];rfl
theorem vvt:∀(ids:List Nat) (μ sub:List Slot),ids.Nodup→(∀r∈ids,r<μ.length)→ids.length≤sub.length→
  (vfk μ ids sub).length=μ.length+(sub.length-ids.length)∧
  (∀r,r<μ.length→(vfk μ ids sub)[r]? = match idx r ids with|some j=>sub[j]? | none=>μ[r]?)∧
  (∀j,(vfk μ ids sub)[μ.length+j]? = sub[ids.length+j]?)
 |[],s,sub,_,_,_=>by
  refine⟨by simp [vfk],fun r hr=>?_,fun j=>?_⟩
  ·simp only [vfk,idx];exact List.getElem?_append_left hr
  ·simp only [vfk,List.length_nil,Nat.zero_add]
   rw [List.getElem?_append_right (by omega)]
   congr 1;omega
 |a::l,s,[],_,_,h=>by simp at h
 |a::l,s,g::sub,hd,hm,hl=>by
  simp only [List.nodup_cons]at hd
  have ha:a<s.length:=hm a (by simp)
  have hlen:(s.set a g).length=s.length:=List.length_set
  obtain⟨h1,h2,h3⟩:=vvt l (s.set a g) sub hd.2 (fun r hr=>by rw [hlen];exact hm r (by simp [hr])) (by simpa using hl)
  rw [hlen]at h1 h2 h3
  refine⟨by simp only [vfk,h1,List.length_cons];omega,fun r hr=>?_,fun j=>?_⟩
  ·simp only [vfk,h2 r hr,idx]
   by_cases e:a=r
   ·subst e
    have:idx a l=none:=by
     cases hi:idx a l with
     |none=>rfl
     |some j=>exact absurd (List.mem_of_getElem? (va2 hi)) hd.1
    rw [this,if_pos rfl]
    simp [ha]
   ·rw [if_neg e]
    cases hi:idx r l with
    |none=>simp only;rw [List.getElem?_set_ne e]
    |some j=>simp
  ·simp only [vfk,h3 j,List.length_cons]
   rw [Nat.add_right_comm];simp
theorem vhp:∀(l:List Nat) (s:St),(vcl s l).length=s.length
 |[],s=>rfl
 |r::l,s=>by
  simp only [vcl]
  rw [vhp l]
  unfold vdc
  split<;>simp [vak]
theorem v0k (s:St)(r j:Nat):getR (vdc s r) j=getR s j∨(j=r∧Froz (getR s j) (getR (vdc s r) j)):=by
 unfold vdc
 split
 ·rename_i e xs he
  have hlt:r<s.length:=va1 he (by simp)
  rw [vav _ _ _ _ hlt]
  by_cases h:j=r
  ·subst h;exact .inr ⟨rfl,.inl ⟨e,xs,.inl he,by simp⟩⟩
  ·exact .inl (by simp [h])
 ·rename_i e xs n he
  have hlt:r<s.length:=va1 he (by simp)
  rw [vav _ _ _ _ hlt]
  by_cases h:j=r
  ·subst h;exact .inr ⟨rfl,.inl ⟨e,xs,.inr ⟨n,he⟩,by simp⟩⟩
  ·exact .inl (by simp [h])
 ·rename_i e xs n d0 dd he
  have hlt:r<s.length:=va1 he (by simp)
  rw [vav _ _ _ _ hlt]
  by_cases h:j=r
  ·subst h;exact .inr ⟨rfl,.inr ⟨by rw [he];rfl,by simp⟩⟩
  ·exact .inl (by simp [h])
 ·exact .inl rfl
theorem vy6 {s:St}{r:Nat}(he:(getR s r).isArr=true):(getR (vdc s r) r).live=false:=by
 unfold vdc
 cases hg:getR s r with
 |arr e xs=>simp only;rw [vav _ _ _ _ (va1 hg (by simp)),if_pos rfl];rfl
 |dep e xs n dd=>cases dd<;>(simp only;rw [vav _ _ _ _ (va1 hg (by simp)),if_pos rfl];rfl)
 |_=>rw [hg]at he;cases he
theorem isArr_live' {g:Rg}(h:g.isArr=true):g.live=true:=Rg.isArr_live h
theorem vdv:∀(l:List Nat) (s:St) (j:Nat),(getR (vcl s l) j=getR s j∧(j∈l→(getR s j).isArr=false))∨(j∈l∧Froz (getR s j) (getR (vcl s l) j))
 |[],s,j=>.inl ⟨rfl,by simp⟩
 |r::l,s,j=>by
  simp only [vcl]
  rcases v0k s r j with h1|⟨h0,h1⟩
  ·rcases vdv l (vdc s r) j with⟨h3,h4⟩|⟨h3,h4⟩
   ·left
    refine⟨h3.trans h1,fun hm=>?_⟩
    simp only [List.mem_cons]at hm
    rcases hm with hm|hm
    ·subst hm
     cases ha:(getR s j).isArr with
     |false=>rfl
     |true=>
      have h5:=vy6 ha
      rw [h1,isArr_live' ha]at h5;cases h5
    ·exact h1▸h4 hm
   ·exact .inr ⟨by simp [h3],h1▸h4⟩
  ·rcases vdv l (vdc s r) j with⟨h3,h4⟩|⟨h3,h4⟩
   ·exact .inr ⟨by simp [h0],by rw [h3];exact h1⟩
   ·have h5:=isArr_live' h4.isArr
    rw [h1.dead]at h5;cases h5
theorem vq9:∀{l m:List Nat},v1m l m=false→∀r∈l,r∉m
 |[],_,_,r,hr=>by simp at hr
 |a::l,m,h,r,hr=>by
  simp only [v1m,Bool.or_eq_false_iff]at h
  simp only [List.mem_cons]at hr
  rcases hr with hr|hr
  ·subst hr
   have:idx r m=none:=by
    cases e:idx r m with
    |none=>rfl
    |some j=>rw [e]at h;simp at h
   exact vfs this
  ·exact vq9 h.2 r hr
theorem vhe (s:St):∀(l:List Nat) (r:Nat),r∈vhr s l→(getR s r).isArr=true
 |[],r,h=>by simp [vhr]at h
 |a::l,r,h=>by
  simp only [vhr]at h
  split at h
  ·rename_i e xs he
   simp only [List.mem_cons]at h
   rcases h with h|h
   ·subst h;rw [he];rfl
   ·exact vhe s l r h
  ·rename_i e xs n dd he
   simp only [List.mem_cons]at h
   rcases h with h|h
   ·subst h;rw [he];rfl
   ·exact vhe s l r h
  ·exact vhe s l r h
theorem vl5 (s:St):∀(l:List Nat) (r:Nat),r∈l→(getR s r).isArr=true→r∈vhr s l
 |[],r,h,_=>by simp at h
 |a::l,r,h,he=>by
  simp only [List.mem_cons]at h
  simp only [vhr]
  rcases h with h|h
  ·subst h
   revert he
   cases getR s r with
   |arr _ _=>intro _;simp
   |dep _ _ _ _=>intro _;simp
   |box _=>intro he;cases he
   |frz _ _=>intro he;cases he
   |gone=>intro he;cases he
  ·have:=vl5 s l r h he
   split
   ·simp [this]
   ·simp [this]
   ·exact this
def Calm (w w':World):Prop:=w'.os=w.os∧w'.tape=w.tape∧w'.output=w.output
theorem Calm.refl (w:World):Calm w w:=⟨rfl,rfl,rfl⟩
theorem Calm.trans {a b c:World}(h:Calm a b)(k:Calm b c):Calm a c:=⟨k.1.trans h.1,k.2.1.trans h.2.1,k.2.2.trans h.2.2⟩
def Post (X:Nat→Prop)(w:World)(μ:List Slot)(s:St)(v:AV)(s':St):Ending→World→Prop:=fun e w'=>
 ∃cv μ',e = .returned cv∧Inv X w'.heap μ' s'∧RV w'.heap (Im X w'.heap μ' s') μ' s' v cv∧Ext X w.heap μ s w'.heap μ' s'∧Calm w w'
def vad (P:Program)(f:Nat)(g:List AV→St→K1→Option Res):Prop:=
 ∀args s k r,g args s k=some r→∃v s',k v s'=some r∧
  ∀X μ (w:World) (cargs:List Value),Inv X w.heap μ s→RVs w.heap (Im X w.heap μ s) μ s args cargs→Calls P f cargs.toArray w (Post X w μ s v s')
def wif (X:Nat→Prop)(w:World)(μ:List Slot)(s:St)(tch:List Nat)(v:AV)(s':St):Ending→World→Prop:=fun e w'=>
 ∃cv μ',e = .returned cv∧Inv X w'.heap μ' s'∧RV w'.heap (Im X w'.heap μ' s') μ' s' v cv∧Ext X w.heap μ s w'.heap μ' s'∧Calm w w'∧
  (∀b,b<w.heap.size→vjg μ tch b→w'.heap[b]? = w.heap[b]?)∧∀r,r<s.length→r∉tch→μ'[r]? = μ[r]?
def vag (args:List AV)(s:St):List Nat:=vda s 64 (vn0 args) []
theorem vk2 {P:Program}{G:Glob}{f:Nat}{args:List AV}{seen:List Nat}{s:St}{k:K1}{r:Res}
  (hc:vad P f (G.call f)) (hs:∀q∈seen,(getR s q).isArr=true) (hk:vkn G f args seen s k=some r) :
  (∀q∈seen,q∉vag args s)∧∃v s',k v s'=some r∧∀X μ (w:World) (cargs:List Value),Inv X w.heap μ s→
   RVs w.heap (Im (vgy X μ s (vag args s) seen) w.heap (slots μ (vag args s)) (va4 s (vag args s) (vag args s))) μ s args cargs→
   Calls P f cargs.toArray w (wif X w μ s (vag args s) v s'):=by
 unfold vkn at hk
 simp only at hk
 change (bif v1m seen (vag args s)then none else _)=_ at hk
 cases hmt:v1m seen (vag args s)with
 |true=>rw [hmt]at hk;cases hk
 |false=>
  rw [hmt]at hk
  simp only [cond_false]at hk
  have hns:=vq9 hmt
  refine⟨hns,?_⟩
  have hd:(vag args s).Nodup:=vc4 s _ _ _ (by simp)
  have hlive:∀q∈vag args s,(getR s q).live=true:=fun q hq=>by
   rcases vko s _ _ _ q hq with h1|h1
   ·simp at h1
   ·exact h1
  change G.call f (renL s (vag args s) args) (va4 s (vag args s) (vag args s)) _=some r at hk
  obtain⟨v,sub,hk1,hcalls⟩:=hc _ _ _ _ hk
  have hst:∃s',k (v.ren2 (back (vag args s) s.length)) s'=some r∧
    ((s'=vcl (vh3 s (back (vag args s) s.length) (vag args s) sub) seen)∨
     (s'=vh3 s (back (vag args s) s.length) (vag args s) sub∧v.hasLst=false∧vng sub=false)):=by
   cases seen with
   |nil=>exact⟨_,hk1,.inl rfl⟩
   |cons q l=>
    simp only at hk1
    cases hb:v.hasLst||vng sub with
    |true=>rw [hb]at hk1;exact⟨_,hk1,.inl rfl⟩
    |false=>
     rw [hb]at hk1
     simp only [Bool.or_eq_false_iff]at hb
     exact⟨_,hk1,.inr ⟨rfl,hb.1,hb.2⟩⟩
  obtain⟨s',hks,hs'⟩:=hst
  refine⟨_,s',hks,?_⟩
  intro X μ w cargs inv hargs
  have hX':∀b,vgy X μ s (vag args s) seen b→b<w.heap.size∧(X b∨¬Free μ s b):=by
   rintro b (hb|⟨q,sl,h1,h2,h3,h4,h5⟩)
   ·exact⟨inv.xlt b hb,.inl hb⟩
   ·exact⟨inv.blk_lt h1 h2 h3,.inr fun hf=>hf q sl h1 h2 h3⟩
  have hout:∀q sl b,q∈vag args s→μ[q]? = some sl→(getR s q).live=true→sl.has b→¬vgy X μ s (vag args s) seen b:=by
   rintro q sl b hq h1 h2 h3 (hb|⟨q',sl',g1,g2,g3,g4,g5⟩)
   ·exact inv.notX q sl b h1 h2 h3 hb
   ·exact inv.dis q q' sl sl' b (fun e=>g4 (e▸hq)) h1 g1 h2 g2 h3 g3
  obtain⟨i0,_⟩:=vyy inv (vag args s) hd (vgy X μ s (vag args s) seen) hX' hout
  have hargs0:=RVs.ren (fun b hb=>hb) (vag args s) args cargs hargs
  refine(hcalls _ _ w cargs i0 hargs0).mono ?_
  rintro e w' ⟨cv,μ1,rfl,i1,hv,e1,hcalm⟩
  have hlt:∀q∈vag args s,q<s.length:=fun q hq=>vl4 (hlive q hq)
  have hltμ:∀q∈vag args s,q<μ.length:=fun q hq=>by rw [inv.len];exact hlt q hq
  have hls:(vag args s).length≤sub.length:=by have:=e1.len;rwa [vdj]at this
  have hlm:(vag args s).length≤μ1.length:=by rw [i1.len];exact hls
  obtain⟨m1,m2,m3⟩:=vx1 (back (vag args s) s.length) (vag args s) s sub hd hlt hls
  obtain⟨n1,n2,n3⟩:=vvt (vag args s) μ μ1 hd hltμ hlm
  have hsl:s'.length=s.length+(sub.length-(vag args s).length):=by
   rcases hs' with h1|⟨h1,_⟩
   ·rw [h1,vhp,m1]
   ·rw [h1,m1]
  have hget:∀q,(getR s' q=getR (vh3 s (back (vag args s) s.length) (vag args s) sub) q)∨
    (q∈seen∧Froz (getR (vh3 s (back (vag args s) s.length) (vag args s) sub) q) (getR s' q)):=by
   intro q
   rcases hs' with h1|⟨h1,_⟩
   ·rw [h1]
    rcases vdv seen (vh3 s (back (vag args s) s.length) (vag args s) sub) q with h2|h2
    ·exact .inl h2.1
    ·exact .inr h2
   ·exact .inl (by rw [h1])
  have hseenlt:∀q∈seen,q<s.length:=fun q hq=>by
   exact vl4 (Rg.isArr_live (hs q hq))
  have q1:∀j sl,μ1[j]? = some sl→(vfk μ (vag args s) μ1)[back (vag args s) s.length j]? = some sl∧getR s' (back (vag args s) s.length j)=(getR sub j).ren2 (back (vag args s) s.length):=by
   intro j sl hj
   rcases Nat.lt_or_ge j (vag args s).length with hlt'|hge
   ·have hjr:(vag args s)[j]? = some (vag args s)[j]:=List.getElem?_eq_getElem hlt'
    have hi:=vmk hd hjr
    have hmem:=List.mem_of_getElem? hjr
    rw [vv9 hjr]
    refine⟨by rw [n2 _ (hltμ _ hmem),hi];exact hj,?_⟩
    rcases hget (vag args s)[j]with h1|⟨h1,_⟩
    ·rw [h1,m2 _ (hlt _ hmem),hi]
    ·exact absurd hmem (hns _ h1)
   ·rw [vwp hge]
    refine⟨?_,?_⟩
    ·rw [←inv.len,n3]
     rw [show (vag args s).length+(j-(vag args s).length)=j by omega];exact hj
    ·rcases hget (s.length+(j-(vag args s).length))with h1|⟨h1,_⟩
     ·rw [h1,m3]
      rw [show (vag args s).length+(j-(vag args s).length)=j by omega]
     ·have:=hseenlt _ h1;omega
  have q2:∀q,q<s.length→q∉vag args s→(vfk μ (vag args s) μ1)[q]? = μ[q]?∧(getR s' q=getR s q∨Froz (getR s q) (getR s' q)):=by
   intro q hq hn
   have hi:idx q (vag args s)=none:=by
    cases hi:idx q (vag args s)with
    |none=>rfl
    |some j=>exact absurd (List.mem_of_getElem? (va2 hi)) hn
   refine⟨by rw [n2 _ (by rw [inv.len];exact hq),hi],?_⟩
   have hm:getR (vh3 s (back (vag args s) s.length) (vag args s) sub) q=getR s q:=by rw [m2 _ hq,hi]
   rcases hget q with h1|⟨_,h1⟩
   ·exact .inl (h1.trans hm)
   ·exact .inr (hm▸h1)
  have q3:∀q sl,(vfk μ (vag args s) μ1)[q]? = some sl→(∃j,μ1[j]? = some sl∧q=back (vag args s) s.length j)∨(q<s.length∧q∉vag args s∧μ[q]? = some sl):=by
   intro q sl hq
   rcases Nat.lt_or_ge q s.length with hlt'|hge
   ·rw [n2 _ (by rw [inv.len];exact hlt')]at hq
    cases hi:idx q (vag args s)with
    |none=>rw [hi]at hq;exact .inr ⟨hlt',vfs hi,hq⟩
    |some j=>
     rw [hi]at hq
     exact .inl ⟨j,hq,(vv9 (va2 hi)).symm⟩
   ·have he:q=μ.length+(q-s.length):=by rw [inv.len];omega
    rw [he,n3]at hq
    refine .inl ⟨_,hq,?_⟩
    rw [vwp (by omega)];omega
  have hcase:(∀q∈seen,(getR s' q).live=false)∨(v.hasLst=false∧vng sub=false):=by
   rcases hs' with h1|⟨h1,h2,h3⟩
   ·left
    intro q hq
    have he:=hs q hq
    have hi:idx q (vag args s)=none:=by
     cases hi:idx q (vag args s)with
     |none=>rfl
     |some j=>exact absurd (List.mem_of_getElem? (va2 hi)) (hns q hq)
    have hm:(getR (vh3 s (back (vag args s) s.length) (vag args s) sub) q).isArr=true:=by rw [m2 _ (hseenlt q hq),hi];exact he
    rw [h1]
    rcases vdv seen (vh3 s (back (vag args s) s.length) (vag args s) sub) q with⟨_,h3⟩|⟨_,h4⟩
    ·have h5:=h3 hq
     rw [hm]at h5;cases h5
    ·exact h4.dead
   ·exact .inr ⟨h2,h3⟩
  obtain⟨j1,j2,j3⟩:=v84 (s2:=s') (μ2:=vfk μ (vag args s) μ1) (ρ:=back (vag args s) s.length) inv hd hlive i1 e1 q1 q2 q3
   (by rw [n1,hsl,inv.len,i1.len]) (by omega) (fun j q hj=>vv9 hj) (hcase.imp id fun hn=>hn.2)
  refine⟨cv,_,rfl,j1,j3 v cv (hcase.imp id fun hn=>hn.1) hv,j2,hcalm,fun b hb hno=>e1.same b hb ?_,fun r hr hn=>(q2 r hr hn).1⟩
  intro j sl hj hl hbl
  obtain⟨q,g1,g2,_⟩:=vc8 inv hj hl
  exact hno q (List.mem_of_getElem? g1) sl g2 hbl
end Go.VE
