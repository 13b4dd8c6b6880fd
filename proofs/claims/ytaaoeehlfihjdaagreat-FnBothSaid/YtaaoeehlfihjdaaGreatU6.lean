/- A call: the callee's contract, told in the caller's state. -/
import Derived.Test.YtaaoeehlfihjdaaGreatU5
namespace Go.VE
set_option linter.unusedVariables false
def vju (μ:List Slot):List Nat→List Slot→List Slot
 |[],sub=>μ++sub
 |r::l,g::sub=>vju (μ.set r g) l sub
 |_::_,[]=>μ
theorem vqp (f:Nat→Nat):∀(s:St) (j:Nat),getR (s.map (Rg.ren2 f)) j=(getR s j).ren2 f
 |[],j=>by cases j<;>rfl
 |g::l,0=>rfl
 |g::l,j+1=>by simpa [getR]using vqp f l j
theorem v5n:∀{ids:List Nat} {n j r:Nat},ids[j]? = some r→back ids n j=r
 |[],_,_,_,h=>by simp at h
 |a::l,n,0,r,h=>by simpa [back]using h
 |a::l,n,j+1,r,h=>by
  simp at h
  simpa [back]using v5n h
theorem v43:∀{ids:List Nat} {n j:Nat},ids.length≤j→back ids n j=n+(j-ids.length)
 |[],n,j,_=>by simp [back]
 |a::l,n,0,h=>by simp at h
 |a::l,n,j+1,h=>by
  simp at h
  simp [back,v43 h]
theorem v7d (f:Nat→Nat):∀(ids:List Nat) (s sub:St),ids.Nodup→(∀r∈ids,r<s.length)→ids.length≤sub.length→
  (vmc s f ids sub).length=s.length+(sub.length-ids.length)∧
  (∀r,r<s.length→getR (vmc s f ids sub) r=match idx r ids with|some j=>(getR sub j).ren2 f|none=>getR s r)∧
  (∀j,getR (vmc s f ids sub) (s.length+j)=(getR sub (ids.length+j)).ren2 f)
 |[],s,sub,_,_,_=>by
  refine⟨by simp [vmc],fun r hr=>?_,fun j=>?_⟩
  ·simp only [vmc,idx];exact vbf _ _ _ hr
  ·simp only [vmc,List.length_nil,Nat.zero_add]
   rw [vcl,vqp]
 |a::l,s,[],_,_,h=>by simp at h
 |a::l,s,g::sub,hd,hm,hl=>by
  simp only [List.nodup_cons]at hd
  have ha:a<s.length:=hm a (by simp)
  have hlen:=vap s a (g.ren2 f)
  obtain⟨h1,h2,h3⟩:=v7d f l (setR s a (g.ren2 f)) sub hd.2 (fun r hr=>by rw [hlen];exact hm r (by simp [hr])) (by simpa using hl)
  rw [hlen]at h1 h2 h3
  refine⟨by simp only [vmc,h1,List.length_cons];omega,fun r hr=>?_,fun j=>?_⟩
  ·simp only [vmc,h2 r hr,idx]
   by_cases e:a=r
   ·subst e
    have:idx a l=none:=by
     cases hi:idx a l with
     |none=>rfl
     |some j=>exact absurd (List.mem_of_getElem? (vbp hi)) hd.1
    rw [this,if_pos rfl,vbg _ _ _ _ ha,if_pos rfl];rfl
   ·rw [if_neg e]
    cases hi:idx r l with
    |none=>simp only;rw [vbg _ _ _ _ ha,if_neg (fun e'=>e e'.symm)]
    |some j=>rfl
  ·simp only [vmc,h3 j,List.length_cons]
   rw [Nat.add_right_comm];rfl
theorem v0i:∀(ids:List Nat) (μ sub:List Slot),ids.Nodup→(∀r∈ids,r<μ.length)→ids.length≤sub.length→
  (vju μ ids sub).length=μ.length+(sub.length-ids.length)∧
  (∀r,r<μ.length→(vju μ ids sub)[r]? = match idx r ids with|some j=>sub[j]? | none=>μ[r]?)∧
  (∀j,(vju μ ids sub)[μ.length+j]? = sub[ids.length+j]?)
 |[],s,sub,_,_,_=>by
  refine⟨by simp [vju],fun r hr=>?_,fun j=>?_⟩
  ·simp only [vju,idx];exact List.getElem?_append_left hr
  ·simp only [vju,List.length_nil,Nat.zero_add]
   rw [List.getElem?_append_right (by omega)]
   congr 1;omega
 |a::l,s,[],_,_,h=>by simp at h
 |a::l,s,g::sub,hd,hm,hl=>by
  simp only [List.nodup_cons]at hd
  have ha:a<s.length:=hm a (by simp)
  have hlen:(s.set a g).length=s.length:=List.length_set
  obtain⟨h1,h2,h3⟩:=v0i l (s.set a g) sub hd.2 (fun r hr=>by rw [hlen];exact hm r (by simp [hr])) (by simpa using hl)
  rw [hlen]at h1 h2 h3
  refine⟨by simp only [vju,h1,List.length_cons];omega,fun r hr=>?_,fun j=>?_⟩
  ·simp only [vju,h2 r hr,idx]
   by_cases e:a=r
   ·subst e
    have:idx a l=none:=by
     cases hi:idx a l with
     |none=>rfl
     |some j=>exact absurd (List.mem_of_getElem? (vbp hi)) hd.1
    rw [this,if_pos rfl]
    simp [ha]
   ·rw [if_neg e]
    cases hi:idx r l with
    |none=>simp only;rw [List.getElem?_set_ne e]
    |some j=>simp
  ·simp only [vju,h3 j,List.length_cons]
   rw [Nat.add_right_comm];simp
theorem vlv:∀(l:List Nat) (s:St),(vei s l).length=s.length
 |[],s=>rfl
 |r::l,s=>by
  simp only [vei]
  rw [vlv l]
  unfold vgc
  split<;>simp [vap]
theorem v9q (s:St)(r j:Nat):getR (vgc s r) j=getR s j∨(j=r∧Froz (getR s j) (getR (vgc s r) j)):=by
 unfold vgc
 split
 ·rename_i e xs he
  have hlt:r<s.length:=vbo he (by simp)
  rw [vbg _ _ _ _ hlt]
  by_cases h:j=r
  ·subst h;exact .inr ⟨rfl,.inl ⟨e,xs,.inl he,by simp⟩⟩
  ·exact .inl (by simp [h])
 ·rename_i e xs n he
  have hlt:r<s.length:=vbo he (by simp)
  rw [vbg _ _ _ _ hlt]
  by_cases h:j=r
  ·subst h;exact .inr ⟨rfl,.inl ⟨e,xs,.inr ⟨n,he⟩,by simp⟩⟩
  ·exact .inl (by simp [h])
 ·rename_i e xs n d0 dd he
  have hlt:r<s.length:=vbo he (by simp)
  rw [vbg _ _ _ _ hlt]
  by_cases h:j=r
  ·subst h;exact .inr ⟨rfl,.inr ⟨by rw [he];rfl,by simp⟩⟩
  ·exact .inl (by simp [h])
 ·exact .inl rfl
theorem v72 {s:St}{r:Nat}(he:(getR s r).isArr=true):(getR (vgc s r) r).live=false:=by
 unfold vgc
 cases hg:getR s r with
 |arr e xs=>simp only;rw [vbg _ _ _ _ (vbo hg (by simp)),if_pos rfl];rfl
 |dep e xs n dd=>cases dd<;>(simp only;rw [vbg _ _ _ _ (vbo hg (by simp)),if_pos rfl];rfl)
 |_=>rw [hg]at he;cases he
theorem isArr_live' {g:Rg}(h:g.isArr=true):g.live=true:=Rg.isArr_live h
theorem vg0:∀(l:List Nat) (s:St) (j:Nat),(getR (vei s l) j=getR s j∧(j∈l→(getR s j).isArr=false))∨(j∈l∧Froz (getR s j) (getR (vei s l) j))
 |[],s,j=>.inl ⟨rfl,by simp⟩
 |r::l,s,j=>by
  simp only [vei]
  rcases v9q s r j with h1|⟨h0,h1⟩
  ·rcases vg0 l (vgc s r) j with⟨h3,h4⟩|⟨h3,h4⟩
   ·left
    refine⟨h3.trans h1,fun hm=>?_⟩
    simp only [List.mem_cons]at hm
    rcases hm with hm|hm
    ·subst hm
     cases ha:(getR s j).isArr with
     |false=>rfl
     |true=>
      have h5:=v72 ha
      rw [h1,isArr_live' ha]at h5;cases h5
    ·exact h1▸h4 hm
   ·exact .inr ⟨by simp [h3],h1▸h4⟩
  ·rcases vg0 l (vgc s r) j with⟨h3,h4⟩|⟨h3,h4⟩
   ·exact .inr ⟨by simp [h0],by rw [h3];exact h1⟩
   ·have h5:=isArr_live' h4.isArr
    rw [h1.dead]at h5;cases h5
theorem vwe:∀{l m:List Nat},v94 l m=false→∀r∈l,r∉m
 |[],_,_,r,hr=>by simp at hr
 |a::l,m,h,r,hr=>by
  simp only [v94,Bool.or_eq_false_iff]at h
  simp only [List.mem_cons]at hr
  rcases hr with hr|hr
  ·subst hr
   have:idx r m=none:=by
    cases e:idx r m with
    |none=>rfl
    |some j=>rw [e]at h;simp at h
   exact vjg this
  ·exact vwe h.2 r hr
theorem vmf (s:St):∀(l:List Nat) (r:Nat),r∈vl4 s l→(getR s r).isArr=true
 |[],r,h=>by simp [vl4]at h
 |a::l,r,h=>by
  simp only [vl4]at h
  split at h
  ·rename_i e xs he
   simp only [List.mem_cons]at h
   rcases h with h|h
   ·subst h;rw [he];rfl
   ·exact vmf s l r h
  ·rename_i e xs n dd he
   simp only [List.mem_cons]at h
   rcases h with h|h
   ·subst h;rw [he];rfl
   ·exact vmf s l r h
  ·exact vmf s l r h
theorem vpy (s:St):∀(l:List Nat) (r:Nat),r∈l→(getR s r).isArr=true→r∈vl4 s l
 |[],r,h,_=>by simp at h
 |a::l,r,h,he=>by
  simp only [List.mem_cons]at h
  simp only [vl4]
  rcases h with h|h
  ·subst h
   revert he
   cases getR s r with
   |arr _ _=>intro _;simp
   |dep _ _ _ _=>intro _;simp
   |box _=>intro he;cases he
   |frz _ _=>intro he;cases he
   |gone=>intro he;cases he
  ·have:=vpy s l r h he
   split
   ·simp [this]
   ·simp [this]
   ·exact this
def Calm (w w':World):Prop:=w'.os=w.os∧w'.tape=w.tape∧w'.output=w.output
theorem Calm.refl (w:World):Calm w w:=⟨rfl,rfl,rfl⟩
theorem Calm.trans {a b c:World}(h:Calm a b)(k:Calm b c):Calm a c:=⟨k.1.trans h.1,k.2.1.trans h.2.1,k.2.2.trans h.2.2⟩
def Post (X:Nat→Prop)(w:World)(μ:List Slot)(s:St)(v:AV)(s':St):Ending→World→Prop:=fun e w'=>
 ∃cv μ',e = .returned cv∧Inv X w'.heap μ' s'∧RV w'.heap (Im X w'.heap μ' s') μ' s' v cv∧Ext X w.heap μ s w'.heap μ' s'∧Calm w w'
def vab (P:Program)(f:Nat)(g:List AV→St→K1→Option Res):Prop:=
 ∀args s k r,g args s k=some r→∃v s',k v s'=some r∧
  ∀X μ (w:World) (cargs:List Value),Inv X w.heap μ s→RVs w.heap (Im X w.heap μ s) μ s args cargs→Calls P f cargs.toArray w (Post X w μ s v s')
def ww4 (X:Nat→Prop)(w:World)(μ:List Slot)(s:St)(tch:List Nat)(v:AV)(s':St):Ending→World→Prop:=fun e w'=>
 ∃cv μ',e = .returned cv∧Inv X w'.heap μ' s'∧RV w'.heap (Im X w'.heap μ' s') μ' s' v cv∧Ext X w.heap μ s w'.heap μ' s'∧Calm w w'∧
  (∀b,b<w.heap.size→vnq μ tch b→w'.heap[b]? = w.heap[b]?)∧∀r,r<s.length→r∉tch→μ'[r]? = μ[r]?
def vai (args:List AV)(s:St):List Nat:=vgf s 64 (vsq args) []
theorem vpf {P:Program}{G:Glob}{f:Nat}{args:List AV}{seen:List Nat}{s:St}{k:K1}{r:Res}
  (hc:vab P f (G.call f)) (hs:∀q∈seen,(getR s q).isArr=true) (hk:vom G f args seen s k=some r) :
  (∀q∈seen,q∉vai args s)∧∃v s',k v s'=some r∧∀X μ (w:World) (cargs:List Value),Inv X w.heap μ s→
   RVs w.heap (Im (vlq X μ s (vai args s) seen) w.heap (slots μ (vai args s)) (vb4 s (vai args s) (vai args s))) μ s args cargs→
   Calls P f cargs.toArray w (ww4 X w μ s (vai args s) v s'):=by
 unfold vom at hk
 simp only at hk
 change (bif v94 seen (vai args s)then none else _)=_ at hk
 cases hmt:v94 seen (vai args s)with
 |true=>rw [hmt]at hk;cases hk
 |false=>
  rw [hmt]at hk
  simp only [cond_false]at hk
  have hns:=vwe hmt
  refine⟨hns,?_⟩
  have hd:(vai args s).Nodup:=vfp s _ _ _ (by simp)
  have hlive:∀q∈vai args s,(getR s q).live=true:=fun q hq=>by
   rcases vox s _ _ _ q hq with h1|h1
   ·simp at h1
   ·exact h1
  change G.call f (renL s (vai args s) args) (vb4 s (vai args s) (vai args s)) _=some r at hk
  obtain⟨v,sub,hk1,hcalls⟩:=hc _ _ _ _ hk
  have hst:∃s',k (v.ren2 (back (vai args s) s.length)) s'=some r∧
    ((s'=vei (vmc s (back (vai args s) s.length) (vai args s) sub) seen)∨
     (s'=vmc s (back (vai args s) s.length) (vai args s) sub∧v.hasLst=false∧vq3 sub=false)):=by
   cases seen with
   |nil=>exact⟨_,hk1,.inl rfl⟩
   |cons q l=>
    simp only at hk1
    cases hb:v.hasLst||vq3 sub with
    |true=>rw [hb]at hk1;exact⟨_,hk1,.inl rfl⟩
    |false=>
     rw [hb]at hk1
     simp only [Bool.or_eq_false_iff]at hb
     exact⟨_,hk1,.inr ⟨rfl,hb.1,hb.2⟩⟩
  obtain⟨s',hks,hs'⟩:=hst
  refine⟨_,s',hks,?_⟩
  intro X μ w cargs inv hargs
  have hX':∀b,vlq X μ s (vai args s) seen b→b<w.heap.size∧(X b∨¬Free μ s b):=by
   rintro b (hb|⟨q,sl,h1,h2,h3,h4,h5⟩)
   ·exact⟨inv.xlt b hb,.inl hb⟩
   ·exact⟨inv.blk_lt h1 h2 h3,.inr fun hf=>hf q sl h1 h2 h3⟩
  have hout:∀q sl b,q∈vai args s→μ[q]? = some sl→(getR s q).live=true→sl.has b→¬vlq X μ s (vai args s) seen b:=by
   rintro q sl b hq h1 h2 h3 (hb|⟨q',sl',g1,g2,g3,g4,g5⟩)
   ·exact inv.notX q sl b h1 h2 h3 hb
   ·exact inv.dis q q' sl sl' b (fun e=>g4 (e▸hq)) h1 g1 h2 g2 h3 g3
  obtain⟨i0,_⟩:=v6r inv (vai args s) hd (vlq X μ s (vai args s) seen) hX' hout
  have hargs0:=RVs.ren (fun b hb=>hb) (vai args s) args cargs hargs
  refine(hcalls _ _ w cargs i0 hargs0).mono ?_
  rintro e w' ⟨cv,μ1,rfl,i1,hv,e1,hcalm⟩
  have hlt:∀q∈vai args s,q<s.length:=fun q hq=>vp4 (hlive q hq)
  have hltμ:∀q∈vai args s,q<μ.length:=fun q hq=>by rw [inv.len];exact hlt q hq
  have hls:(vai args s).length≤sub.length:=by have:=e1.len;rwa [vgh]at this
  have hlm:(vai args s).length≤μ1.length:=by rw [i1.len];exact hls
  obtain⟨m1,m2,m3⟩:=v7d (back (vai args s) s.length) (vai args s) s sub hd hlt hls
  obtain⟨n1,n2,n3⟩:=v0i (vai args s) μ μ1 hd hltμ hlm
  have hsl:s'.length=s.length+(sub.length-(vai args s).length):=by
   rcases hs' with h1|⟨h1,_⟩
   ·rw [h1,vlv,m1]
   ·rw [h1,m1]
  have hget:∀q,(getR s' q=getR (vmc s (back (vai args s) s.length) (vai args s) sub) q)∨
    (q∈seen∧Froz (getR (vmc s (back (vai args s) s.length) (vai args s) sub) q) (getR s' q)):=by
   intro q
   rcases hs' with h1|⟨h1,_⟩
   ·rw [h1]
    rcases vg0 seen (vmc s (back (vai args s) s.length) (vai args s) sub) q with h2|h2
    ·exact .inl h2.1
    ·exact .inr h2
   ·exact .inl (by rw [h1])
  have hseenlt:∀q∈seen,q<s.length:=fun q hq=>by
   exact vp4 (Rg.isArr_live (hs q hq))
  have q1:∀j sl,μ1[j]? = some sl→(vju μ (vai args s) μ1)[back (vai args s) s.length j]? = some sl∧getR s' (back (vai args s) s.length j)=(getR sub j).ren2 (back (vai args s) s.length):=by
   intro j sl hj
   rcases Nat.lt_or_ge j (vai args s).length with hlt'|hge
   ·have hjr:(vai args s)[j]? = some (vai args s)[j]:=List.getElem?_eq_getElem hlt'
    have hi:=vq9 hd hjr
    have hmem:=List.mem_of_getElem? hjr
    rw [v5n hjr]
    refine⟨by rw [n2 _ (hltμ _ hmem),hi];exact hj,?_⟩
    rcases hget (vai args s)[j]with h1|⟨h1,_⟩
    ·rw [h1,m2 _ (hlt _ hmem),hi]
    ·exact absurd hmem (hns _ h1)
   ·rw [v43 hge]
    refine⟨?_,?_⟩
    ·rw [←inv.len,n3]
     rw [show (vai args s).length+(j-(vai args s).length)=j by omega];exact hj
    ·rcases hget (s.length+(j-(vai args s).length))with h1|⟨h1,_⟩
     ·rw [h1,m3]
      rw [show (vai args s).length+(j-(vai args s).length)=j by omega]
     ·have:=hseenlt _ h1;omega
  have q2:∀q,q<s.length→q∉vai args s→(vju μ (vai args s) μ1)[q]? = μ[q]?∧(getR s' q=getR s q∨Froz (getR s q) (getR s' q)):=by
   intro q hq hn
   have hi:idx q (vai args s)=none:=by
    cases hi:idx q (vai args s)with
    |none=>rfl
    |some j=>exact absurd (List.mem_of_getElem? (vbp hi)) hn
   refine⟨by rw [n2 _ (by rw [inv.len];exact hq),hi],?_⟩
   have hm:getR (vmc s (back (vai args s) s.length) (vai args s) sub) q=getR s q:=by rw [m2 _ hq,hi]
   rcases hget q with h1|⟨_,h1⟩
   ·exact .inl (h1.trans hm)
   ·exact .inr (hm▸h1)
  have q3:∀q sl,(vju μ (vai args s) μ1)[q]? = some sl→(∃j,μ1[j]? = some sl∧q=back (vai args s) s.length j)∨(q<s.length∧q∉vai args s∧μ[q]? = some sl):=by
   intro q sl hq
   rcases Nat.lt_or_ge q s.length with hlt'|hge
   ·rw [n2 _ (by rw [inv.len];exact hlt')]at hq
    cases hi:idx q (vai args s)with
    |none=>rw [hi]at hq;exact .inr ⟨hlt',vjg hi,hq⟩
    |some j=>
     rw [hi]at hq
     exact .inl ⟨j,hq,(v5n (vbp hi)).symm⟩
   ·have he:q=μ.length+(q-s.length):=by rw [inv.len];omega
    rw [he,n3]at hq
    refine .inl ⟨_,hq,?_⟩
    rw [v43 (by omega)];omega
  have hcase:(∀q∈seen,(getR s' q).live=false)∨(v.hasLst=false∧vq3 sub=false):=by
   rcases hs' with h1|⟨h1,h2,h3⟩
   ·left
    intro q hq
    have he:=hs q hq
    have hi:idx q (vai args s)=none:=by
     cases hi:idx q (vai args s)with
     |none=>rfl
     |some j=>exact absurd (List.mem_of_getElem? (vbp hi)) (hns q hq)
    have hm:(getR (vmc s (back (vai args s) s.length) (vai args s) sub) q).isArr=true:=by rw [m2 _ (hseenlt q hq),hi];exact he
    rw [h1]
    rcases vg0 seen (vmc s (back (vai args s) s.length) (vai args s) sub) q with⟨_,h3⟩|⟨_,h4⟩
    ·have h5:=h3 hq
     rw [hm]at h5;cases h5
    ·exact h4.dead
   ·exact .inr ⟨h2,h3⟩
  obtain⟨j1,j2,j3⟩:=wlx (s2:=s') (μ2:=vju μ (vai args s) μ1) (ρ:=back (vai args s) s.length) inv hd hlive i1 e1 q1 q2 q3
   (by rw [n1,hsl,inv.len,i1.len]) (by omega) (fun j q hj=>v5n hj) (hcase.imp id fun hn=>hn.2)
  refine⟨cv,_,rfl,j1,j3 v cv (hcase.imp id fun hn=>hn.1) hv,j2,hcalm,fun b hb hno=>e1.same b hb ?_,fun r hr hn=>(q2 r hr hn).1⟩
  intro j sl hj hl hbl
  obtain⟨q,g1,g2,_⟩:=vfz inv hj hl
  exact hno q (List.mem_of_getElem? g1) sl g2 hbl
end Go.VE
