/- Regions are given other names: what a callee is vai, what is kept at a loop's head, what a call leaves. -/
import Derived.Test.YtaaoeehlfihjdaaGreatU3
namespace Go.VE
set_option linter.unusedVariables false
theorem vbp:∀{r:Nat} {l:List Nat} {j:Nat},idx r l=some j→l[j]? = some r
 |r,[],_,h=>by simp [idx]at h
 |r,a::l,j,h=>by
  unfold idx at h
  split at h
  ·rename_i e;cases h;simp [e]
  ·split at h
   ·rename_i n hn;cases h;simpa using vbp hn
   ·cases h
theorem vjg:∀{r:Nat} {l:List Nat},idx r l=none→r∉l
 |r,[],_=>by simp
 |r,a::l,h=>by
  unfold idx at h
  split at h
  ·cases h
  ·rename_i hne
   split at h
   ·cases h
   ·rename_i hn
    simp only [List.mem_cons,not_or]
    exact⟨fun e=>hne e.symm,vjg hn⟩
theorem wgr:∀{r:Nat} {l:List Nat},r∈l→∃j,idx r l=some j:=by
 intro r l h
 cases e:idx r l with
 |some j=>exact⟨j,rfl⟩
 |none=>exact absurd h (vjg e)
theorem vq9:∀{l:List Nat} (hd:l.Nodup) {j r:Nat},l[j]? = some r→idx r l=some j
 |[],_,j,r,h=>by simp at h
 |a::l,hd,0,r,h=>by
  simp at h;subst h;simp [idx]
 |a::l,hd,j+1,r,h=>by
  simp at h
  have hm:r∈l:=List.mem_of_getElem? h
  have hne:a≠r:=fun e=>(List.nodup_cons.1 hd).1 (e▸hm)
  simp [idx,hne,vq9 (List.nodup_cons.1 hd).2 h]
theorem vb8 (s:St)(all:List Nat):∀(ids:List Nat) (j:Nat),getR (vb4 s ids all) j=match ids[j]? with
  |some r=>(getR s r).ren s all
  |none=>.gone
 |[],j=>by cases j<;>rfl
 |r::l,0=>rfl
 |r::l,j+1=>by simpa [vb4,getR]using vb8 s all l j
theorem vgh (s:St)(all:List Nat):∀ids:List Nat,(vb4 s ids all).length=ids.length
 |[]=>rfl
 |r::l=>by simp [vb4,vgh s all l]
theorem wrr (s:St)(ids:List Nat)(g:Rg):(g.ren s ids).live=g.live:=by cases g<;>rfl
theorem viw (s:St):∀(n:Nat) (w acc:List Nat),∃t,vgf s n w acc=acc++t
 |0,w,acc=>⟨[],by simp [vgf]⟩
 |n+1,[],acc=>⟨[],by simp [vgf]⟩
 |n+1,r::w,acc=>by
  simp only [vgf]
  split
  ·exact viw s n w acc
  ·split
   ·rename_i cs _
    obtain⟨t,ht⟩:=viw s n (w++vsq cs) (acc++[r])
    exact⟨r::t,by rw [ht];simp⟩
   ·obtain⟨t,ht⟩:=viw s n w (acc++[r])
    exact⟨r::t,by rw [ht];simp⟩
   ·obtain⟨t,ht⟩:=viw s n w (acc++[r])
    exact⟨r::t,by rw [ht];simp⟩
   ·exact viw s n w acc
theorem vfp (s:St):∀(n:Nat) (w acc:List Nat),acc.Nodup→(vgf s n w acc).Nodup
 |0,w,acc,h=>by simpa [vgf]using h
 |n+1,[],acc,h=>by simpa [vgf]using h
 |n+1,r::w,acc,h=>by
  simp only [vgf]
  split
  ·exact vfp s n w acc h
  ·rename_i he
   have hn:(acc++[r]).Nodup:=by
    rw [List.nodup_append]
    refine⟨h,by simp,?_⟩
    intro a ha b hb
    simp at hb;subst hb
    intro e;subst e
    exact vjg he ha
   split
   ·exact vfp s n _ _ hn
   ·exact vfp s n _ _ hn
   ·exact vfp s n _ _ hn
   ·exact vfp s n _ _ h
theorem vox (s:St):∀(n:Nat) (w acc:List Nat) (r:Nat),r∈vgf s n w acc→r∈acc∨(getR s r).live=true
 |0,w,acc,r,h=>by left;simpa [vgf]using h
 |n+1,[],acc,r,h=>by left;simpa [vgf]using h
 |n+1,q::w,acc,r,h=>by
  simp only [vgf]at h
  have key:∀w',r∈vgf s n w' (acc++[q])→(getR s q).live=true→r∈acc∨(getR s r).live=true:=by
   intro w' h1 h2
   rcases vox s n w' _ r h1 with h3|h3
   ·rw [List.mem_append]at h3
    rcases h3 with h3|h3
    ·exact .inl h3
    ·simp at h3;subst h3;exact .inr h2
   ·exact .inr h3
  split at h
  ·exact vox s n w acc r h
  ·split at h
   ·rename_i e;exact key _ h (by rw [e];rfl)
   ·rename_i e;exact key _ h (by rw [e];rfl)
   ·rename_i e;exact key _ h (by rw [e];rfl)
   ·exact vox s n w acc r h
theorem vpu:∀a n,(iota a n).length=n
 |_,0=>rfl
 |a,n+1=>by simp [iota,vpu (a+1) n]
theorem wd5:∀a n j,j<n→(iota a n)[j]? = some (a+j)
 |_,0,_,h=>by omega
 |a,n+1,0,_=>by simp [iota]
 |a,n+1,j+1,h=>by
  simp only [iota,List.getElem?_cons_succ]
  rw [wd5 (a+1) n j (by omega)]
  congr 1;omega
theorem wen:∀a n r,r∈iota a n→a≤r∧r<a+n
 |_,0,_,h=>by simp [iota]at h
 |a,n+1,r,h=>by
  simp only [iota,List.mem_cons]at h
  rcases h with h|h
  ·omega
  ·have:=wen (a+1) n r h;omega
theorem v05:∀a n,(iota a n).Nodup
 |_,0=>by simp [iota]
 |a,n+1=>by
  simp only [iota,List.nodup_cons]
  exact⟨fun h=>by have:=wen _ _ _ h;omega,v05 (a+1) n⟩
section
variable {X:Nat→Prop}{h:Heap}{μ:List Slot}{s:St}
def slots (μ:List Slot)(ids:List Nat):List Slot:=ids.map fun r=>μ[r]?.getD { blk:=none,cap:=0 }
theorem v57 (μ:List Slot)(ids:List Nat)(j:Nat):(slots μ ids)[j]? = (ids[j]?).map fun r=>μ[r]?.getD { blk:=none,cap:=0 }:=by
 simp [slots]
theorem vdi {μ:List Slot}{ids:List Nat}{j r:Nat}{sl:Slot}(hj:ids[j]? = some r)(hr:μ[r]? = some sl):(slots μ ids)[j]? = some sl:=by
 rw [v57,hj];simp [hr]
mutual
theorem RV.ren {I I':Nat→Prop}(hI:∀b,I b→I' b)(ids:List Nat) :
  ∀(a:AV) (v:Value),RV h I μ s a v→RV h I' (slots μ ids) (vb4 s ids ids) (a.ren s ids) v
 |.int _ _,_,hv=>by simpa only [RV,AV.ren]using hv
 |.bool _,_,hv=>by simpa only [RV,AV.ren]using hv
 |.str _,_,hv=>by simpa only [RV,AV.ren]using hv
 |.lst e xs,v,hv=>by
  simp only [RV,AV.ren]at hv ⊢
  exact Rep.mono (fun b hb=>⟨hI b hb,rfl⟩) _ _ _ hv
 |.nilS,_,hv=>by simpa only [RV,AV.ren]using hv
 |.own r,v,hv=>by
  simp only [RV]at hv
  obtain⟨sl,h1,h2⟩:=hv
  cases hg:getR s r with
  |frz e xs=>
   rw [hg]at h2
   simp only [AV.ren,hg,RV]
   exact Rep.mono (fun b hb=>⟨hI b hb,rfl⟩) _ _ _ h2
  |box cs=>rw [hg]at h2;exact h2.elim
  |arr e xs=>
   rw [hg]at h2
   simp only [AV.ren,hg]
   cases hi:idx r ids with
   |none=>simp only [RV]
   |some j=>
    simp only [RV]
    refine⟨sl,vdi (vbp hi) h1,?_⟩
    rw [vb8,vbp hi]
    simp only [hg,Rg.ren]
    exact h2
  |dep e xs m dd=>
   rw [hg]at h2
   simp only [AV.ren,hg]
   cases hi:idx r ids with
   |none=>simp only [RV]
   |some j=>
    simp only [RV]
    refine⟨sl,vdi (vbp hi) h1,?_⟩
    rw [vb8,vbp hi]
    simp only [hg,Rg.ren]
    exact h2
  |gone=>
   rw [hg]at h2
   simp only [AV.ren,hg]
   cases hi:idx r ids with
   |none=>simp only [RV]
   |some j=>
    simp only [RV]
    refine⟨sl,vdi (vbp hi) h1,?_⟩
    rw [vb8,vbp hi]
    simp only [hg,Rg.ren]
    exact h2
 |.bp b off,v,hv=>by
  simp only [RV]at hv
  obtain⟨sl,h1,h2⟩:=hv
  simp only [AV.ren]
  cases hi:idx b ids with
  |none=>simp only [RV]
  |some j=>
   simp only [RV]
   refine⟨sl,vdi (vbp hi) h1,?_⟩
   rw [vb8,vbp hi]
   cases hg:getR s b with
   |box cs=>rw [hg]at h2;simp only [hg,Rg.ren];exact h2
   |arr e xs=>rw [hg]at h2;exact h2.elim
   |dep e xs m dd=>rw [hg]at h2;exact h2.elim
   |frz e xs=>rw [hg]at h2;exact h2.elim
   |gone=>rw [hg]at h2;exact h2.elim
 |.ep r i off,v,hv=>by
  simp only [RV]at hv
  obtain⟨sl,h1,h2⟩:=hv
  simp only [AV.ren]
  cases hi:idx r ids with
  |none=>simp only [RV]
  |some j=>
   simp only [RV]
   refine⟨sl,vdi (vbp hi) h1,?_⟩
   rw [vb8,vbp hi]
   cases hg:getR s r with
   |box cs=>rw [hg]at h2;exact h2.elim
   |arr e xs=>rw [hg]at h2;simp only [hg,Rg.ren];exact h2
   |dep e xs m dd=>rw [hg]at h2;simp only [hg,Rg.ren];exact h2
   |frz e xs=>rw [hg]at h2;simp only [hg,Rg.ren];exact h2
   |gone=>rw [hg]at h2;simp only [hg,Rg.ren];exact h2
 |.win r lo,v,hv=>by
  simp only [RV]at hv
  obtain⟨sl,h1,h2⟩:=hv
  simp only [AV.ren]
  cases hi:idx r ids with
  |none=>simp only [RV]
  |some j=>
   simp only [RV]
   refine⟨sl,vdi (vbp hi) h1,?_⟩
   rw [vb8,vbp hi]
   cases hg:getR s r with
   |box cs=>rw [hg]at h2;exact h2.elim
   |arr e xs=>rw [hg]at h2;simp only [hg,Rg.ren];exact h2
   |dep e xs m dd=>rw [hg]at h2;simp only [hg,Rg.ren];exact h2
   |frz e xs=>rw [hg]at h2;simp only [hg,Rg.ren];exact h2
   |gone=>rw [hg]at h2;simp only [hg,Rg.ren];exact h2
 |.dw r n i off,v,hv=>by simp only [RV,AV.ren]
 |.ip T x off,v,hv=>by
  simp only [RV,AV.ren]at hv ⊢
  obtain⟨b,o,cs,hb,hc,hx,e⟩:=hv
  exact⟨b,o,cs,hI b hb,hc,Rep.mono (fun b hb=>⟨hI b hb,rfl⟩) _ _ _ hx,e⟩
 |.fn f caps,v,hv=>by
  simp only [RV,AV.ren]at hv ⊢
  obtain⟨vs,e,hs⟩:=hv
  exact⟨vs,e,RVs.ren hI ids caps _ hs⟩
 |.agg cs,v,hv=>by
  simp only [RV,AV.ren]at hv ⊢
  obtain⟨vs,e,hs⟩:=hv
  exact⟨vs,e,RVs.ren hI ids cs _ hs⟩
 |.tup cs,v,hv=>by
  simp only [RV,AV.ren]at hv ⊢
  obtain⟨vs,e,hs⟩:=hv
  exact⟨vs,e,RVs.ren hI ids cs _ hs⟩
 |.dead,_,_=>by simp only [RV,AV.ren]
theorem RVs.ren {I I':Nat→Prop}(hI:∀b,I b→I' b)(ids:List Nat) :
  ∀(as:List AV) (vs:List Value),RVs h I μ s as vs→RVs h I' (slots μ ids) (vb4 s ids ids) (renL s ids as) vs
 |[],_,hv=>by simpa only [RVs,renL]using hv
 |a::as,vs,hv=>by
  simp only [RVs,renL]at hv ⊢
  obtain⟨v,r,e,h1,h2⟩:=hv
  exact⟨v,r,e,RV.ren hI ids a v h1,RVs.ren hI ids as r h2⟩
end
theorem vfz (inv:Inv X h μ s){ids:List Nat}{j:Nat}{sl:Slot}(hj:(slots μ ids)[j]? = some sl)(hl:(getR (vb4 s ids ids) j).live=true) :
  ∃r,ids[j]? = some r∧μ[r]? = some sl∧(getR s r).live=true:=by
 rw [vb8]at hl
 cases hi:ids[j]? with
 |none=>rw [hi]at hl;cases hl
 |some r=>
  rw [hi]at hl
  simp only [wrr]at hl
  obtain⟨x,hx⟩:=inv.slot (vp4 hl)
  have:=vdi hi hx
  rw [hj]at this;cases this
  exact⟨r,rfl,hx,hl⟩
theorem Free.slots (inv:Inv X h μ s)(ids:List Nat){b:Nat}(hf:Free μ s b):Free (slots μ ids) (vb4 s ids ids) b:=by
 intro j sl hj hl hb
 obtain⟨r,_,h2,h3⟩:=vfz inv hj hl
 exact hf r sl h2 h3 hb
theorem v6r (inv:Inv X h μ s)(ids:List Nat)(hd:ids.Nodup)(X':Nat→Prop)(hX':∀b,X' b→b<h.size∧(X b∨¬Free μ s b))
  (hout:∀r sl b,r∈ids→μ[r]? = some sl→(getR s r).live=true→sl.has b→¬X' b) :
  Inv X' h (slots μ ids) (vb4 s ids ids)∧(∀b,Im X h μ s b→Im X' h (slots μ ids) (vb4 s ids ids) b):=by
 have him:∀b,Im X h μ s b→Im X' h (slots μ ids) (vb4 s ids ids) b:=fun b hb=>
  ⟨hb.1,fun hx=>by
   rcases(hX' b hx).2 with h1|h1
   ·exact hb.2.1 h1
   ·exact h1 hb.2.2,Free.slots inv ids hb.2.2⟩
 refine⟨⟨by rw [vgh];simp [slots],?_,?_,?_,fun b hb=>(hX' b hb).1⟩,him⟩
 ·intro j sl hj
  rw [vb8]
  rw [v57]at hj
  cases hi:ids[j]? with
  |none=>rw [hi]at hj;cases hj
  |some r=>
   rw [hi]at hj
   simp only [Option.map_some,Option.some.injEq]at hj
   cases hg:getR s r with
   |gone=>simp only [hg,Rg.ren];trivial
   |frz e xs=>simp only [hg,Rg.ren];trivial
   |box cs=>
    have hlt:r<s.length:=vbo hg (by simp)
    obtain⟨x,hx⟩:=inv.slot hlt
    rw [hx]at hj;simp at hj;subst hj
    have:=inv.reg r x hx
    rw [hg]at this
    obtain⟨hm,k,c,el,fr,h1,h2,h3,h4⟩:=this
    simp only [hg,Rg.ren]
    exact⟨hm,k,c,el,fr,h1,h2,h3,RVs.ren him ids _ _ h4⟩
   |dep e xs m dd=>
    have hlt:r<s.length:=vbo hg (by simp)
    obtain⟨x,hx⟩:=inv.slot hlt
    rw [hx]at hj;simp at hj;subst hj
    have:=inv.reg r x hx
    rw [hg]at this
    simp only [hg,Rg.ren]
    exact this
   |arr e xs=>
    have hlt:r<s.length:=vbo hg (by simp)
    obtain⟨x,hx⟩:=inv.slot hlt
    rw [hx]at hj;simp at hj;subst hj
    have:=inv.reg r x hx
    rw [hg]at this
    simp only [hg,Rg.ren]
    exact ArrOk.mono (fun b hb=>⟨him b hb,rfl⟩) (fun _ _=>rfl) this
 ·intro j j' sl sl' b hjj hj hj' hl hl' hb
  obtain⟨r,h1,h2,h3⟩:=vfz inv hj hl
  obtain⟨r',h1',h2',h3'⟩:=vfz inv hj' hl'
  refine inv.dis r r' sl sl' b ?_ h2 h2' h3 h3' hb
  intro e;subst e
  have a1:=vq9 hd h1
  have a2:=vq9 hd h1'
  rw [a1]at a2;cases a2
  exact hjj rfl
 ·intro j sl b hj hl hb
  obtain⟨r,h1,h2,h3⟩:=vfz inv hj hl
  exact hout r sl b (List.mem_of_getElem? h1) h2 h3 hb
mutual
def AV.noDw:AV→Bool
 |.dw _ _ _ _=>false
 |.fn _ caps=>vz4 caps
 |.agg cs=>vz4 cs
 |.tup vs=>vz4 vs
 |_=>true
def vz4:List AV→Bool
 |[]=>true
 |a::l=>a.noDw&&vz4 l
end
mutual
theorem wqm (s:St)(ids:List Nat):∀a:AV,(a.ren s ids).noDw=true
 |.int _ _=>by simp only [AV.ren,AV.noDw]
 |.bool _=>by simp only [AV.ren,AV.noDw]
 |.str _=>by simp only [AV.ren,AV.noDw]
 |.lst _ _=>by simp only [AV.ren,AV.noDw]
 |.nilS=>by simp only [AV.ren,AV.noDw]
 |.own r=>by
  simp only [AV.ren]
  split
  ·simp only [AV.noDw]
  ·split<;>simp only [AV.noDw]
 |.bp b off=>by
  simp only [AV.ren]
  split<;>simp only [AV.noDw]
 |.ep r i off=>by
  simp only [AV.ren]
  split<;>simp only [AV.noDw]
 |.win r lo=>by
  simp only [AV.ren]
  split<;>simp only [AV.noDw]
 |.dw _ _ _ _=>by simp only [AV.ren,AV.noDw]
 |.ip _ _ _=>by simp only [AV.ren,AV.noDw]
 |.fn f caps=>by simp only [AV.ren,AV.noDw];exact vk9 s ids caps
 |.agg cs=>by simp only [AV.ren,AV.noDw];exact vk9 s ids cs
 |.tup vs=>by simp only [AV.ren,AV.noDw];exact vk9 s ids vs
 |.dead=>by simp only [AV.ren,AV.noDw]
theorem vk9 (s:St)(ids:List Nat):∀l:List AV,vz4 (renL s ids l)=true
 |[]=>by simp only [renL,vz4]
 |a::l=>by simp only [renL,vz4,wqm s ids a,vk9 s ids l,Bool.and_self]
end
def Rg.reset (n j:Nat):Rg→Rg
 |.dep e xs m dd=>.dep e xs (if j<n then(bif Nat.beq m 0 then 0 else 1)else 0) dd
 |g=>g
theorem vdn:∀(n:Nat) (s:St) (j:Nat),getR (ved n s) j=(getR s j).reset n j
 |_,[],j=>by cases j<;>simp [ved,getR,Rg.reset]
 |0,g::l,0=>by cases g<;>simp [ved,getR,Rg.reset]
 |0,g::l,j+1=>by
  have h1:getR (ved 0 (g::l)) (j+1)=getR (ved 0 l) j:=by cases g<;>rfl
  rw [h1,vdn 0 l j]
  show Rg.reset 0 j (getR l j)=Rg.reset 0 (j+1) (getR l j)
  cases getR l j<;>simp [Rg.reset]
 |n+1,g::l,0=>by cases g<;>simp [ved,getR,Rg.reset]
 |n+1,g::l,j+1=>by
  have h1:getR (ved (n+1) (g::l)) (j+1)=getR (ved n l) j:=by cases g<;>rfl
  rw [h1,vdn n l j]
  show Rg.reset n j (getR l j)=Rg.reset (n+1) (j+1) (getR l j)
  cases getR l j<;>simp [Rg.reset]
theorem vh7:∀(n:Nat) (s:St),(ved n s).length=s.length
 |n,[]=>by cases n<;>rfl
 |0,g::l=>by cases g<;>simp [ved,vh7 0 l]
 |n+1,g::l=>by cases g<;>simp [ved,vh7 n l]
theorem von (n j:Nat)(g:Rg):(g.reset n j).live=g.live:=by cases g<;>rfl
mutual
theorem RV.reset {I:Nat→Prop}(n:Nat):∀(a:AV) (v:Value),a.noDw=true→RV h I μ s a v→RV h I μ (ved n s) a v
 |.int _ _,_,_,hv=>by simpa only [RV]using hv
 |.bool _,_,_,hv=>by simpa only [RV]using hv
 |.str _,_,_,hv=>by simpa only [RV]using hv
 |.lst e xs,v,_,hv=>by simpa only [RV]using hv
 |.nilS,_,_,hv=>by simpa only [RV]using hv
 |.own r,v,_,hv=>by
  simp only [RV]at hv ⊢
  obtain⟨sl,h1,h2⟩:=hv
  refine⟨sl,h1,?_⟩
  rw [vdn]
  revert h2
  cases getR s r<;>exact id
 |.bp r off,v,_,hv=>by
  simp only [RV]at hv ⊢
  obtain⟨sl,h1,h2⟩:=hv
  refine⟨sl,h1,?_⟩
  rw [vdn]
  revert h2
  cases getR s r<;>exact id
 |.ep r i off,v,_,hv=>by
  simp only [RV]at hv ⊢
  obtain⟨sl,h1,h2⟩:=hv
  refine⟨sl,h1,?_⟩
  rw [vdn]
  revert h2
  cases getR s r<;>exact id
 |.win r lo,v,_,hv=>by
  simp only [RV]at hv ⊢
  obtain⟨sl,h1,h2⟩:=hv
  refine⟨sl,h1,?_⟩
  rw [vdn]
  revert h2
  cases getR s r<;>exact id
 |.dw _ _ _ _,_,hn,_=>by simp only [AV.noDw]at hn;cases hn
 |.ip T x off,v,_,hv=>by simpa only [RV]using hv
 |.fn f caps,v,hn,hv=>by
  simp only [AV.noDw]at hn
  simp only [RV]at hv ⊢
  obtain⟨vs,e,hs⟩:=hv
  exact⟨vs,e,RVs.reset n caps _ hn hs⟩
 |.agg cs,v,hn,hv=>by
  simp only [AV.noDw]at hn
  simp only [RV]at hv ⊢
  obtain⟨vs,e,hs⟩:=hv
  exact⟨vs,e,RVs.reset n cs _ hn hs⟩
 |.tup cs,v,hn,hv=>by
  simp only [AV.noDw]at hn
  simp only [RV]at hv ⊢
  obtain⟨vs,e,hs⟩:=hv
  exact⟨vs,e,RVs.reset n cs _ hn hs⟩
 |.dead,_,_,_=>by simp only [RV]
theorem RVs.reset {I:Nat→Prop}(n:Nat):∀(as:List AV) (vs:List Value),vz4 as=true→RVs h I μ s as vs→RVs h I μ (ved n s) as vs
 |[],_,_,hv=>by simpa only [RVs]using hv
 |a::as,vs,hn,hv=>by
  simp only [vz4,Bool.and_eq_true]at hn
  simp only [RVs]at hv ⊢
  obtain⟨v,r,e,h1,h2⟩:=hv
  exact⟨v,r,e,RV.reset n a v hn.1 h1,RVs.reset n as r hn.2 h2⟩
end
theorem wha (n:Nat)(b:Nat):Free μ (ved n s) b↔Free μ s b:=by
 constructor
 ·intro hf r sl hr hl
  exact hf r sl hr (by rw [vdn,von];exact hl)
 ·intro hf r sl hr hl
  rw [vdn,von]at hl
  exact hf r sl hr hl
theorem v34 (n:Nat):Im X h μ (ved n s)=Im X h μ s:=by
 funext b
 simp only [Im,wha]
theorem whj (inv:Inv X h μ s)(n:Nat)(hbx:∀j cs,getR s j = .box cs→vz4 cs=true):Inv X h μ (ved n s):=by
 have hl:∀r,(getR (ved n s) r).live=(getR s r).live:=fun r=>by rw [vdn,von]
 refine⟨by rw [vh7];exact inv.len,?_,?_,?_,inv.xlt⟩
 ·intro r sl hr
  have h1:=inv.reg r sl hr
  rw [v34,vdn]
  cases hg:getR s r with
  |box cs=>
   rw [hg]at h1
   obtain⟨hm,k,c,el,fr,g1,g2,g3,g4⟩:=h1
   exact⟨hm,k,c,el,fr,g1,g2,g3,RVs.reset n _ _ (hbx r cs hg) g4⟩
  |arr e xs=>rw [hg]at h1;exact h1
  |dep e xs m dd=>rw [hg]at h1;exact h1
  |frz e xs=>trivial
  |gone=>trivial
 ·intro r r' sl sl' b hne hr hr' hl1 hl2
  rw [hl]at hl1 hl2
  exact inv.dis r r' sl sl' b hne hr hr' hl1 hl2
 ·intro r sl b hr hl1
  rw [hl]at hl1
  exact inv.notX r sl b hr hl1
def Fit (μ0:List Slot)(s0:St):Prop:=μ0.length=s0.length∧∀r e xs m dd,getR s0 r = .dep e xs m dd→m=0
theorem vsb:∀{s:St},vt4 s=true→∀r e xs m dd,getR s r = .dep e xs m dd→m=0
 |[],_,r,e,xs,m,dd,hg=>by cases r<;>cases hg
 |g::l,h,0,e,xs,m,dd,hg=>by
  have hg':g = .dep e xs m dd:=hg
  subst hg'
  simp only [vt4,Bool.and_eq_true]at h
  exact Nat.eq_of_beq_eq_true h.1
 |g::l,h,r+1,e,xs,m,dd,hg=>by
  have h2:vt4 l=true:=by
   cases g<;>first|(simp only [vt4,Bool.and_eq_true]at h;exact h.2)|exact h
  exact vsb h2 r e xs m dd hg
theorem vx2 {h0:Heap}{μ0:List Slot}{s0:St}(inv:Inv X h μ s)(ext:Ext X h0 μ0 s0 h μ s)(inv00:Fit μ0 s0)(vs:List AV) :
  let p:=pack s0.length vs s
  ∃μ',Inv X h μ' p.2∧Ext X h0 μ0 s0 h μ' p.2∧∀ws,RVs h (Im X h μ s) μ s vs ws→RVs h (Im X h μ' p.2) μ' p.2 p.1 ws:=by
 obtain⟨inv0,hm0⟩:=inv00
 intro p
 generalize hids:vgf s 64 (v4q s (iota 0 s0.length)++vsq vs) (iota 0 s0.length)=ids
 have hp:p=(renL s ids vs,ved s0.length (vb4 s ids ids)):=by simp only [p,pack,hids]
 rw [hp]
 have hd:ids.Nodup:=by rw [←hids];exact vfp s _ _ _ (v05 0 s0.length)
 obtain⟨t,ht⟩:=viw s 64 (v4q s (iota 0 s0.length)++vsq vs) (iota 0 s0.length)
 rw [hids]at ht
 have hfirst:∀j,j<s0.length→ids[j]? = some j:=by
  intro j hj
  rw [ht,List.getElem?_append_left (by rw [vpu];exact hj),wd5 0 _ _ hj,Nat.zero_add]
 have hlen:s0.length≤ids.length:=by rw [ht,List.length_append,vpu];omega
 obtain⟨i1,him⟩:=v6r inv ids hd X (fun b hb=>⟨inv.xlt b hb,.inl hb⟩) (fun r sl b _ hr hl hb=>inv.notX r sl b hr hl hb)
 have i2:=whj i1 s0.length (by
  intro j cs hg
  rw [vb8]at hg
  split at hg
  ·rename_i r hr
   cases hg2:getR s r with
   |box l=>rw [hg2]at hg;simp only [Rg.ren,Rg.box.injEq]at hg;rw [←hg];exact vk9 s ids l
   |arr _ _=>rw [hg2]at hg;cases hg
   |dep _ _ _ _=>rw [hg2]at hg;cases hg
   |frz _ _=>rw [hg2]at hg;cases hg
   |gone=>rw [hg2]at hg;cases hg
  ·cases hg)
 refine⟨slots μ ids,i2,?_,fun ws hv=>by rw [v34];exact RVs.reset _ _ _ (vk9 s ids vs) (RVs.ren him ids _ _ hv)⟩
 have hnew:∀j sl b,(slots μ ids)[j]? = some sl→(getR (ved s0.length (vb4 s ids ids)) j).live=true→sl.has b→h0.size≤b∨¬Free μ0 s0 b:=by
  intro j sl b hj hl hb
  rw [vdn,von]at hl
  obtain⟨r,_,h2,h3⟩:=vfz inv hj hl
  exact ext.new r sl b h2 h3 hb
 have hgetn:∀r,r<s0.length→getR (ved s0.length (vb4 s ids ids)) r=((getR s r).ren s ids).reset s0.length r:=by
  intro r hr
  rw [vdn,vb8,hfirst r hr]
 refine Ext.mk' ext.size ext.same hnew ?_ (by rw [vh7,vgh];exact hlen)
 intro a v ha hv
 have hv1:=ext.rv a v hv
 have hlt0:∀(r:Nat) (sl:Slot),μ0[r]? = some sl→r<s0.length:=fun r sl hr=>by
  rw [←inv0]
  rcases Nat.lt_or_ge r μ0.length with h2|h2
  ·exact h2
  ·rw [List.getElem?_eq_none h2]at hr;cases hr
 cases a with
 |own r=>
  have hr:r<s0.length:=by simp only [RV]at hv;obtain⟨sl,h1,_⟩:=hv;exact hlt0 r sl h1
  simp only [RV]at hv1 ⊢
  obtain⟨sl,h1,h2⟩:=hv1
  refine⟨sl,vdi (hfirst r hr) h1,?_⟩
  rw [hgetn r hr,v34]
  cases hg:getR s r with
  |box cs=>rw [hg]at h2;exact h2.elim
  |arr e xs=>rw [hg]at h2;simp only [hg,Rg.ren,Rg.reset];exact h2
  |dep e xs m dd=>rw [hg]at h2;simp only [hg,Rg.ren,Rg.reset];exact h2
  |frz e xs=>rw [hg]at h2;simp only [hg,Rg.ren,Rg.reset];exact Rep.mono (fun b hb=>⟨him b hb,rfl⟩) _ _ _ h2
  |gone=>rw [hg]at h2;simp only [hg,Rg.ren,Rg.reset];exact h2
 |bp r off=>
  have hr:r<s0.length:=by simp only [RV]at hv;obtain⟨sl,h1,_⟩:=hv;exact hlt0 r sl h1
  simp only [RV]at hv1 ⊢
  obtain⟨sl,h1,h2⟩:=hv1
  refine⟨sl,vdi (hfirst r hr) h1,?_⟩
  rw [hgetn r hr]
  cases hg:getR s r with
  |box cs=>rw [hg]at h2;simp only [hg,Rg.ren,Rg.reset];exact h2
  |arr e xs=>rw [hg]at h2;exact h2.elim
  |dep e xs m dd=>rw [hg]at h2;exact h2.elim
  |frz e xs=>rw [hg]at h2;exact h2.elim
  |gone=>rw [hg]at h2;exact h2.elim
 |ep r i off=>
  have hr:r<s0.length:=by simp only [RV]at hv;obtain⟨sl,h1,_⟩:=hv;exact hlt0 r sl h1
  simp only [RV]at hv1 ⊢
  obtain⟨sl,h1,h2⟩:=hv1
  refine⟨sl,vdi (hfirst r hr) h1,?_⟩
  rw [hgetn r hr]
  cases hg:getR s r with
  |box cs=>rw [hg]at h2;exact h2.elim
  |arr e xs=>rw [hg]at h2;simp only [hg,Rg.ren,Rg.reset];exact h2
  |dep e xs m dd=>rw [hg]at h2;simp only [hg,Rg.ren,Rg.reset];exact h2
  |frz e xs=>rw [hg]at h2;simp only [hg,Rg.ren,Rg.reset];exact h2
  |gone=>rw [hg]at h2;simp only [hg,Rg.ren,Rg.reset];exact h2
 |win r lo=>
  have hr:r<s0.length:=by simp only [RV]at hv;obtain⟨sl,h1,_⟩:=hv;exact hlt0 r sl h1
  simp only [RV]at hv1 ⊢
  obtain⟨sl,h1,h2⟩:=hv1
  refine⟨sl,vdi (hfirst r hr) h1,?_⟩
  rw [hgetn r hr]
  cases hg:getR s r with
  |box cs=>rw [hg]at h2;exact h2.elim
  |arr e xs=>rw [hg]at h2;simp only [hg,Rg.ren,Rg.reset];exact h2
  |dep e xs m dd=>rw [hg]at h2;simp only [hg,Rg.ren,Rg.reset];exact h2
  |frz e xs=>rw [hg]at h2;simp only [hg,Rg.ren,Rg.reset];exact h2
  |gone=>rw [hg]at h2;simp only [hg,Rg.ren,Rg.reset];exact h2
 |dw r n i off=>
  have hr:r<s0.length:=by simp only [RV]at hv;obtain⟨sl,h1,_⟩:=hv;exact hlt0 r sl h1
  have hn0:∀e xs m dd,getR s r = .dep e xs m dd→n=0:=by
   intro e xs m dd hg
   have hv2:=hv
   simp only [RV]at hv2
   obtain⟨sl0,z1,z2⟩:=hv2
   have bad:v.oneCell'=true→(∀e xs m dd,getR s0 r≠.dep e xs m dd)→(∀l,getR s0 r≠.box l)→False:=by
    intro ho hnd hnb
    have hv3:RV h0 (Im X h0 μ0 s0) μ0 s0 (.dw r (m+1) i off) v:=by
     simp only [RV]
     refine⟨sl0,z1,?_⟩
     cases hg0:getR s0 r with
     |dep e' xs' m' dd'=>exact absurd hg0 (hnd _ _ _ _)
     |box l=>exact absurd hg0 (hnb _)
     |_=>exact ho
    have hv4:=ext.rv _ _ hv3
    simp only [RV]at hv4
    obtain⟨_,_,z3⟩:=hv4
    rw [hg]at z3
    have:=z3.2.1
    omega
   cases hg0:getR s0 r with
   |dep e' xs' m' dd'=>
    rw [hg0]at z2
    have:=hm0 r _ _ _ _ hg0
    have:=z2.2.1
    omega
   |box l=>rw [hg0]at z2;exact z2.elim
   |arr _ _=>rw [hg0]at z2;exact(bad z2 (by intros;rw [hg0];simp) (by intros;rw [hg0];simp)).elim
   |frz _ _=>rw [hg0]at z2;exact(bad z2 (by intros;rw [hg0];simp) (by intros;rw [hg0];simp)).elim
   |gone=>rw [hg0]at z2;exact(bad z2 (by intros;rw [hg0];simp) (by intros;rw [hg0];simp)).elim
  simp only [RV]at hv1 ⊢
  obtain⟨sl,h1,h2⟩:=hv1
  refine⟨sl,vdi (hfirst r hr) h1,?_⟩
  rw [hgetn r hr]
  cases hg:getR s r with
  |box cs=>rw [hg]at h2;exact h2.elim
  |arr e xs=>rw [hg]at h2;simp only [hg,Rg.ren,Rg.reset];exact h2
  |dep e xs m dd=>
   rw [hg]at h2
   simp only [hg,Rg.ren,Rg.reset,hr,if_true]
   have hn:=hn0 e xs m dd hg
   subst hn
   cases hb:Nat.beq m 0 with
   |true=>
    have:=Nat.eq_of_beq_eq_true hb
    subst this
    exact h2
   |false=>exact⟨h2.1,Nat.zero_le _,fun h9=>by cases h9⟩
  |frz e xs=>rw [hg]at h2;simp only [hg,Rg.ren,Rg.reset];exact h2
  |gone=>rw [hg]at h2;simp only [hg,Rg.ren,Rg.reset];exact h2
 |_=>cases ha
end
end Go.VE
