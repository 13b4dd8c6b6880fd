/- What is stored, made, appended. -/
import Derived.Test.YtaaoeehlfihjdaaGreatU8
namespace Go.VE
set_option linter.unusedVariables false
set_option linter.unusedSimpArgs false
theorem v7h (w:World)(k o:Nat)(v:Value)(c:Array Value)(el:TypeId)(fr:Nat×Nat)(hk:w.heap[k]? = some (.cells c el fr)) :
  (w.setCell ⟨k,o,none⟩ v).heap.size=w.heap.size∧(∀b,b≠k→(w.setCell ⟨k,o,none⟩ v).heap[b]? = w.heap[b]?)∧
   (w.setCell ⟨k,o,none⟩ v).heap[k]? = some (.cells (c.setIfInBounds o v) el fr):=by
 unfold World.setCell
 refine⟨by simp,fun b hb=>?_,?_⟩
 ·simp only [Array.getElem?_modify]
  rw [if_neg (fun e=>hb e.symm)]
 ·simp only [Array.getElem?_modify,if_true,hk]
  simp
theorem va6 (k:Nat)(el:TypeId)(fr:Nat×Nat):∀(vs:List Value) (o:Nat) (w:World) (c:Array Value),w.heap[k]? = some (.cells c el fr)→o+vs.length≤c.size→
  (w.setCells k o vs).heap.size=w.heap.size∧(∀b,b≠k→(w.setCells k o vs).heap[b]? = w.heap[b]?)∧
   ∃c',(w.setCells k o vs).heap[k]? = some (.cells c' el fr)∧c'.toList=c.toList.take o++vs++c.toList.drop (o+vs.length)
 |[],o,w,c,hk,hl=>⟨rfl,fun _ _=>rfl,c,hk,by simp⟩
 |v::r,o,w,c,hk,hl=>by
  obtain⟨h1,h2,h3⟩:=v7h w k o v c el fr hk
  obtain⟨g1,g2,c',g3,g4⟩:=va6 k el fr r (o+1) (w.setCell ⟨k,o,none⟩ v) _ h3 (by simp at hl ⊢;omega)
  simp only [World.setCells]
  refine⟨g1.trans h1,fun b hb=>(g2 b hb).trans (h2 b hb),c',g3,?_⟩
  rw [g4,Array.toList_setIfInBounds]
  simp at hl
  have ho:o<c.toList.length:=by simp;omega
  apply List.ext_getElem?
  intro p
  rw [List.append_assoc,List.append_assoc,List.getElem?_append,List.getElem?_append,List.getElem?_append,List.getElem?_append]
  simp only [List.length_take,List.length_set,Array.length_toList,List.getElem?_take,List.getElem?_drop,List.length_cons]
  have m1:min (o+1) c.size=o+1:=by omega
  have m2:min o c.size=o:=by omega
  rw [m1,m2]
  by_cases hp:p<o
  ·rw [if_pos (by omega),if_pos hp,List.getElem?_set_ne (by omega),if_pos (by omega),if_pos hp]
  ·by_cases hp2:p=o
   ·subst hp2
    rw [if_pos (by omega),if_pos (by omega),if_neg (by omega),Nat.sub_self,if_pos (by omega),List.getElem?_set_self ho]
    rfl
   ·have e1:¬p<o+1:=by omega
    rw [if_neg e1,if_neg hp]
    obtain⟨q,rfl⟩:∃q,p=o+1+q:=⟨p-(o+1),by omega⟩
    rw [show o+1+q-(o+1)=q by omega,show o+1+q-o=q+1 by omega]
    simp only [List.getElem?_cons_succ]
    by_cases hq:q<r.length
    ·rw [if_pos hq,if_pos (by omega)]
    ·rw [if_neg hq,if_neg (by omega),List.getElem?_set_ne (by omega)]
     congr 1;omega
theorem vfg {P:Program}{w:World}{k o:Nat}{c:Array Value}{el:TypeId}{fr:Nat×Nat}{vs:List Value}(hk:w.heap[k]? = some (.cells c el fr))(hn:vmq c fr)
  (hl:o+vs.length≤c.size) (h1:∀v∈vs,v.oneCell'=true):(storeCells ⟨k,o,none⟩ vs).run P w = .ok () (w.setCells k o vs):=by
 have:=run_storeCells_cells (P:=P) k o vs 0 w (fun j hj=>by
   rw [Nat.add_zero,vnt hk,Array.getElem?_eq_getElem (by omega)];rfl)
  (fun j hj=>by
   have:=hn (o+0+j) (by omega)
   simp only [World.frozen?,hk]
   exact this) h1
 simpa using this
theorem vdx {c c':Array Value}{fr:Nat×Nat}(h:vmq c fr)(e:c'.size=c.size):vmq c' fr:=fun o ho=>h o (by omega)
theorem v1z:∀{l:List AV} {r:Nat},r∈vc3 l↔∃a∈l,a = .own r∨(∃lo,a = .win r lo)∨∃n i off,a = .dw r n i off
 |[],r=>by simp [vc3]
 |a::l,r=>by
  cases a<;>simp [vc3,v1z (l:=l),eq_comm]
theorem vhw:∀(T:Ty) (x:T.D) (r:Nat) (a:AV),a∈T.cells x→¬(a = .own r∨(∃lo,a = .win r lo)∨∃n i off,a = .dw r n i off)
 |.int _,_,_,_=>by simp only [Ty.cells,List.mem_singleton];rintro rfl;simp
 |.bool,_,_,_=>by simp only [Ty.cells,List.mem_singleton];rintro rfl;simp
 |.str,_,_,_=>by simp only [Ty.cells,List.mem_singleton];rintro rfl;simp
 |.pair a b,x,r,c=>by
  simp only [Ty.cells,List.mem_append]
  rintro(h|h)
  ·exact vhw a x.1 r c h
  ·exact vhw b x.2 r c h
 |.slice _,_,_,_=>by simp only [Ty.cells,List.mem_singleton];rintro rfl;simp
section
variable {X:Nat→Prop}{μ:List Slot}{s:St}{h:Heap}{I:Nat→Prop}
theorem v93 {ids:List Nat}{r:Nat}(hl:(getR (vei s ids) r).live=true):getR (vei s ids) r=getR s r:=by
 rcases vg0 ids s r with h1|⟨_,h2⟩
 ·exact h1.1
 ·rw [h2.dead]at hl;cases hl
theorem v6e (inv:Inv X h μ s){ids:List Nat}{r b:Nat}{sl:Slot}(hr:r∈ids)(hs:μ[r]? = some sl)(ha:(getR s r).isArr=true)(hb:sl.has b) :
  Im X h μ (vei s ids) b:=by
 have hl:=Rg.isArr_live ha
 refine⟨inv.blk_lt hs hl hb,inv.notX r sl b hs hl hb,?_⟩
 intro j sl' hj hl' hb'
 have hj':=v93 hl'
 have hne:j≠r:=by
  intro e'
  subst e'
  rcases vg0 ids s j with⟨h1,h2⟩|⟨_,h2⟩
  ·rw [h2 hr]at ha;cases ha
  ·rw [h2.dead]at hl';cases hl'
 exact inv.dis j r sl' sl b hne hj hs (hj'▸hl') hl hb' hb
theorem vet {L ns:List Value}{o p:Nat}(ho:o+ns.length≤L.length):(L.take o++ns++L.drop (o+ns.length))[p]? = if p<o then L[p]? else if p<o+ns.length then ns[p-o]? else L[p]?:=by
 rw [List.append_assoc,List.getElem?_append,List.getElem?_append]
 simp only [List.length_take,List.getElem?_take,List.getElem?_drop]
 rw [show min o L.length=o by omega]
 by_cases h1:p<o
 ·simp [h1]
 ·rw [if_neg h1,if_neg h1]
  by_cases h2:p<o+ns.length
  ·rw [if_pos h2,if_pos (by omega)]
  ·rw [if_neg h2,if_neg (by omega)]
   congr 1;omega
theorem vk0 {L ns:List Value}{i j sz off:Nat}(hij:j≠i)(hoff:off+ns.length≤sz)(hL:i*sz+sz≤L.length) :
  ((L.take (i*sz+off)++ns++L.drop (i*sz+off+ns.length)).drop (j*sz)).take sz=(L.drop (j*sz)).take sz:=by
 apply List.ext_getElem?
 intro q
 rw [List.getElem?_take,List.getElem?_take]
 split
 ·rename_i hq
  rw [List.getElem?_drop,List.getElem?_drop,vet (by omega)]
  rcases Nat.lt_or_gt_of_ne hij with h1|h1
  ·have:(j+1)*sz≤i*sz:=Nat.mul_le_mul_right _ h1
   rw [Nat.add_mul]at this
   rw [if_pos (by omega)]
  ·have:(i+1)*sz≤j*sz:=Nat.mul_le_mul_right _ h1
   rw [Nat.add_mul]at this
   rw [if_neg (by omega),if_neg (by omega)]
 ·rfl
theorem vmb {L ns:List Value}{i sz off:Nat}(hoff:off+ns.length≤sz)(hL:i*sz+sz≤L.length) :
  ((L.take (i*sz+off)++ns++L.drop (i*sz+off+ns.length)).drop (i*sz)).take sz =
   ((L.drop (i*sz)).take sz).take off++ns++((L.drop (i*sz)).take sz).drop (off+ns.length):=by
 have hlen:((L.drop (i*sz)).take sz).length=sz:=by simp;omega
 apply List.ext_getElem?
 intro q
 rw [vet (by omega),List.getElem?_take,List.getElem?_take]
 split
 ·rename_i hq
  rw [List.getElem?_drop,List.getElem?_drop,vet (by omega)]
  by_cases h1:q<off
  ·rw [if_pos h1,if_pos (by omega)]
  ·rw [if_neg h1,if_neg (by omega)]
   by_cases h2:q<off+ns.length
   ·rw [if_pos h2,if_pos (by omega)];congr 1;omega
   ·rw [if_neg h2,if_neg (by omega)]
 ·rename_i hq
  rw [if_neg (by omega),if_neg (by omega)]
theorem vbm:∀(ids:List Nat) (s:St),(vbd s ids).length=s.length
 |[],s=>rfl
 |r::l,s=>by rw [vbd,vbm l,vap]
theorem vmm:∀(ids:List Nat) (s:St) (j:Nat),(∀r∈ids,r<s.length)→getR (vbd s ids) j=if j∈ids then .gone else getR s j
 |[],s,j,_=>by simp [vbd]
 |r::l,s,j,hl=>by
  rw [vbd,vmm l _ j (fun q hq=>by rw [vap];exact hl q (by simp [hq]))]
  by_cases h1:j∈l
  ·simp [h1]
  ·rw [if_neg h1,vbg s r j _ (hl r (by simp))]
   by_cases h2:j=r
   ·simp [h2]
   ·simp [h1,h2]
theorem vcs {r m i:Nat}:∀(cs:List AV) (p:Nat) (ids:List Nat) (ch:Bool),van s r m i p cs=some (ids,ch)→ids.Nodup∧∀q∈ids,∃e xs,getR s q = .arr e xs∧e.flat=true
 |[],p,ids,ch,hd=>by
  simp only [van,Option.some.injEq,Prod.mk.injEq]at hd
  obtain⟨rfl,_⟩:=hd
  simp
 |a::cs,p,ids,ch,hd=>by
  cases a with
  |int k n=>simp only [van]at hd;exact vcs cs _ ids ch hd
  |bool b=>simp only [van]at hd;exact vcs cs _ ids ch hd
  |str b=>simp only [van]at hd;exact vcs cs _ ids ch hd
  |nilS=>
   simp only [van]at hd
   split at hd
   ·rename_i ids' ch' h1
    simp only [Option.some.injEq,Prod.mk.injEq]at hd
    obtain⟨rfl,_⟩:=hd
    exact vcs cs _ _ _ h1
   ·cases hd
  |dw r' m' i' off'=>
   simp only [van]at hd
   cases hb:(Nat.beq r' r&&Nat.beq m' m&&Nat.beq off' p)with
   |true=>rw [hb]at hd;exact vcs cs _ ids ch hd
   |false=>rw [hb]at hd;cases hd
  |own q=>
   simp only [van]at hd
   split at hd
   ·rename_i e xs hg
    cases hf:e.flat with
    |false=>rw [hf]at hd;cases hd
    |true=>
     rw [hf]at hd
     simp only [cond_true]at hd
     split at hd
     ·rename_i ids' ch' h1
      cases hix:idx q ids' with
      |some j=>rw [hix]at hd;cases hd
      |none=>
       rw [hix]at hd
       simp only [Option.some.injEq,Prod.mk.injEq]at hd
       obtain⟨rfl,_⟩:=hd
       obtain⟨g1,g2⟩:=vcs cs _ _ _ h1
       refine⟨List.nodup_cons.2 ⟨vjg hix,g1⟩,?_⟩
       intro q' hq'
       simp only [List.mem_cons]at hq'
       rcases hq' with rfl|hq'
       ·exact⟨e,xs,hg,hf⟩
       ·exact g2 q' hq'
     ·cases hd
   ·cases hd
  |_=>simp [van]at hd
theorem ArrOk.flat {I I':Nat→Prop}{sl:Slot}{e:Ty}{xs:List e.D}(hf:e.flat=true)(hr:ArrOk h I sl e xs):ArrOk h I' sl e xs:=by
 obtain⟨z1,z2|⟨k2,c2,el2,fr2,z2,z3,z4,z5,z6,z7⟩⟩:=hr
 ·exact⟨z1,.inl z2⟩
 ·exact⟨z1,.inr ⟨k2,c2,el2,fr2,z2,z3,z4,z5,z6,fun i hi=>Rep.flat _ hf _ _ (z7 i hi)⟩⟩
theorem vvt:∀(T:Ty) (cs:List AV) (x:T.D) (rest:List AV),T.take s cs=some (x,rest)→∀q,getE rest q=getE cs (T.size+q)
 |.int k,[],x,rest,h,q=>by simp [Ty.take]at h
 |.int k,c::cs,x,rest,h,q=>by
  cases c<;>simp only [Ty.take]at h<;>first|(cases h;done)|skip
  split at h
  ·cases h;rw [show (Ty.int k).size+q=q+1 by simp [Ty.size];omega];rfl
  ·cases h
 |.bool,[],x,rest,h,q=>by simp [Ty.take]at h
 |.bool,c::cs,x,rest,h,q=>by
  cases c<;>simp only [Ty.take]at h<;>first|(cases h;done)|skip
  cases h;rw [show Ty.bool.size+q=q+1 by simp [Ty.size];omega];rfl
 |.str,[],x,rest,h,q=>by simp [Ty.take]at h
 |.str,c::cs,x,rest,h,q=>by
  cases c<;>simp only [Ty.take]at h<;>first|(cases h;done)|skip
  cases h;rw [show Ty.str.size+q=q+1 by simp [Ty.size];omega];rfl
 |.pair a b,cs,x,rest,h,q=>by
  simp only [Ty.take]at h
  split at h
  ·rename_i x1 r1 ha
   split at h
   ·rename_i y r' hb
    simp only [Option.some.injEq,Prod.mk.injEq]at h
    obtain⟨_,rfl⟩:=h
    rw [vvt b r1 y r' hb,vvt a cs x1 r1 ha,Ty.size,Nat.add_assoc]
   ·cases h
  ·cases h
 |.slice e,[],x,rest,h,q=>by simp [Ty.take]at h
 |.slice e,c::cs,x,rest,h,q=>by
  simp only [Ty.take]at h
  split at h
  ·cases h;rw [show (Ty.slice e).size+q=q+1 by simp [Ty.size];omega];rfl
  ·cases h
theorem vq4 (inv:Inv X h μ s){r m i:Nat}(S:Nat→List Nat)(hS1:∀p,(S p).Nodup)(hS2:∀p p' b,p≠p'→b∈S p→b∉S p')
  (hS3:∀p b q sq e xs,b∈S p→getR s q = .arr e xs→μ[q]? = some sq→sq.blk≠some b)
  (ip:Nat→Nat) (hdw:∀p v e1 (ys:List e1.D),RV h (Im X h μ s) μ s (.dw r m (ip p) p) v→vb3 s e1 (.dw r m (ip p) p)=some ys→
   e1.flat=true∧∃sl,OwnV sl ys.length v∧ArrOk h (fun _=>False) sl e1 ys∧∀b,sl.blk=some b→b∈S p) :
  ∀(T:Ty) (p:Nat) (cs:List AV) (x:T.D) (rest:List AV) (vs:List Value) (ids:List Nat) (ch:Bool),T.deepIn=true→T.take s cs=some (x,rest)→RVs h (Im X h μ s) μ s cs vs→van s r m i p cs=some (ids,ch)→ids.Nodup→(∀q r' m' i' o,q<T.size→getE cs q = .dw r' m' i' o→i'=ip (p+q))→
   ∃v1 v2 bs ids1 ids2 ch2,vs=v1++v2∧DepEl h T v1 x bs∧RVs h (Im X h μ s) μ s rest v2∧van s r m i (p+T.size) rest=some (ids2,ch2)∧ids=ids1++ids2∧bs.Nodup∧
    (∀b∈bs,(∃p',p≤p'∧p'<p+T.size∧b∈S p')∨∃q∈ids1,∃sq,μ[q]? = some sq∧sq.blk=some b)∧
    (ch=false→ch2=false∧∀j u,T.isSl j=true→v1[j]? = some u→RV h (Im X h μ s) μ s (.dw r m (ip (p+j)) (p+j)) u)
 |.int k,p,[],x,rest,vs,ids,ch,_,ht,_,_,_,_=>by simp [Ty.take]at ht
 |.int k,p,c::cs,x,rest,vs,ids,ch,_,ht,hv,hd,hn,hi=>by
  cases c<;>simp only [Ty.take]at ht<;>first|(cases ht;done)|skip
  split at ht
  ·rename_i hkk
   cases ht
   subst hkk
   simp only [RVs,RV]at hv
   obtain⟨v,rr,rfl,rfl,h4⟩:=hv
   simp only [van]at hd
   exact⟨[_],rr,[],[],ids,ch,rfl,⟨rfl,rfl⟩,h4,hd,rfl,by simp,by simp,fun hc=>⟨hc,fun j u hj=>by simp [Ty.isSl]at hj⟩⟩
  ·cases ht
 |.bool,p,[],x,rest,vs,ids,ch,_,ht,_,_,_,_=>by simp [Ty.take]at ht
 |.bool,p,c::cs,x,rest,vs,ids,ch,_,ht,hv,hd,hn,hi=>by
  cases c<;>simp only [Ty.take]at ht<;>first|(cases ht;done)|skip
  cases ht
  simp only [RVs,RV]at hv
  obtain⟨v,rr,rfl,rfl,h4⟩:=hv
  simp only [van]at hd
  exact⟨[_],rr,[],[],ids,ch,rfl,⟨rfl,rfl⟩,h4,hd,rfl,by simp,by simp,fun hc=>⟨hc,fun j u hj=>by simp [Ty.isSl]at hj⟩⟩
 |.str,p,[],x,rest,vs,ids,ch,_,ht,_,_,_,_=>by simp [Ty.take]at ht
 |.str,p,c::cs,x,rest,vs,ids,ch,_,ht,hv,hd,hn,hi=>by
  cases c<;>simp only [Ty.take]at ht<;>first|(cases ht;done)|skip
  cases ht
  simp only [RVs,RV]at hv
  obtain⟨v,rr,rfl,rfl,h4⟩:=hv
  simp only [van]at hd
  exact⟨[_],rr,[],[],ids,ch,rfl,⟨rfl,rfl⟩,h4,hd,rfl,by simp,by simp,fun hc=>⟨hc,fun j u hj=>by simp [Ty.isSl]at hj⟩⟩
 |.pair a b,p,cs,x,rest,vs,ids,ch,hdi,ht,hv,hd,hn,hi=>by
  simp only [Ty.deepIn,Bool.and_eq_true]at hdi
  simp only [Ty.take]at ht
  split at ht
  ·rename_i x1 r1 ha
   split at ht
   ·rename_i y r' hbt
    simp only [Option.some.injEq,Prod.mk.injEq]at ht
    obtain⟨rfl,rfl⟩:=ht
    obtain⟨v1,v2,b1,ids1,ids2,ch2,rfl,g1,g2,g3,rfl,g5,g6,g7⟩:=vq4 inv S hS1 hS2 hS3 ip hdw a p cs x1 r1 vs ids ch hdi.1 ha hv hd hn (fun q r' m' i' o hq=>hi q r' m' i' o (by simp only [Ty.size];omega))
    obtain⟨n1,n2,n3⟩:=List.nodup_append.1 hn
    obtain⟨w1,w2,b2,ids3,ids4,ch3,rfl,k1,k2,k3,rfl,k5,k6,k7⟩:=vq4 inv S hS1 hS2 hS3 ip hdw b (p+a.size) r1 y r' v2 ids2 ch2 hdi.2 hbt g2 g3 n2 (fun q r' m' i' o hq hg=>by
     rw [vvt a cs x1 r1 ha]at hg
     have:=hi (a.size+q) r' m' i' o (by simp only [Ty.size];omega) hg
     rwa [Nat.add_assoc])
    have hl:=DepEl.length _ _ _ _ g1
    refine⟨v1++w1,w2,b1++b2,ids1++ids3,ids4,ch3,by simp,⟨v1,w1,b1,b2,rfl,rfl,g1,k1⟩,k2,by rw [Ty.size,←Nat.add_assoc];exact k3,by simp,?_,?_,?_⟩
    ·rw [List.nodup_append]
     refine⟨g5,k5,?_⟩
     rintro b hb b' hb' rfl
     rcases g6 b hb with⟨p1,m1,m2,m3⟩|⟨q,m1,sq,m2,m3⟩<;>rcases k6 b hb' with⟨p1',m1',m2',m3'⟩|⟨q',m1',sq',m2',m3'⟩
     ·exact hS2 p1 p1' b (by omega) m3 m3'
     ·obtain⟨e,xs,ge,_⟩:=(vcs _ _ _ _ hd).2 q' (List.mem_append_right _ (List.mem_append_left _ m1'))
      exact hS3 p1 b q' sq' e xs m3 ge m2' m3'
     ·obtain⟨e,xs,ge,_⟩:=(vcs _ _ _ _ hd).2 q (List.mem_append_left _ m1)
      exact hS3 p1' b q sq e xs m3' ge m2 m3
     ·obtain⟨e,xs,ge,_⟩:=(vcs _ _ _ _ hd).2 q (List.mem_append_left _ m1)
      obtain⟨e',xs',ge',_⟩:=(vcs _ _ _ _ hd).2 q' (List.mem_append_right _ (List.mem_append_left _ m1'))
      exact inv.dis q q' sq sq' b (fun e0=>n3 q m1 q' (List.mem_append_left _ m1') e0) m2 m2' (by rw [ge];rfl) (by rw [ge'];rfl) (.inl m3) (.inl m3')
    ·intro b hb
     rw [List.mem_append]at hb
     simp only [Ty.size]
     rcases hb with hb|hb
     ·rcases g6 b hb with⟨p1,m1,m2,m3⟩|⟨q,m1,sq,m2,m3⟩
      ·exact .inl ⟨p1,m1,by omega,m3⟩
      ·exact .inr ⟨q,List.mem_append_left _ m1,sq,m2,m3⟩
     ·rcases k6 b hb with⟨p1,m1,m2,m3⟩|⟨q,m1,sq,m2,m3⟩
      ·exact .inl ⟨p1,by omega,by omega,m3⟩
      ·exact .inr ⟨q,List.mem_append_right _ m1,sq,m2,m3⟩
    ·intro hc
     obtain⟨c1,c2⟩:=g7 hc
     obtain⟨c3,c4⟩:=k7 c1
     refine⟨c3,fun j u hj hu=>?_⟩
     simp only [Ty.isSl]at hj
     cases h0:Nat.blt j a.size with
     |true=>
      rw [h0]at hj
      have hlt:j<a.size:=by rw [Nat.blt_eq]at h0;exact h0
      rw [List.getElem?_append_left (by omega)]at hu
      exact c2 j u hj hu
     |false=>
      rw [h0]at hj
      have hge:¬j<a.size:=by
       intro h3
       rw [←Nat.blt_eq,h0]at h3;cases h3
      rw [List.getElem?_append_right (by omega),hl]at hu
      have:=c4 (j-a.size) u hj hu
      rwa [show p+a.size+(j-a.size)=p+j by omega]at this
   ·cases ht
  ·cases ht
 |.slice e,p,[],x,rest,vs,ids,ch,_,ht,_,_,_,_=>by simp [Ty.take]at ht
 |.slice e,p,c::cs,x,rest,vs,ids,ch,hdi,ht,hv,hd,hn,hi=>by
  simp only [Ty.take]at ht
  cases hs:vb3 s e c with
  |none=>rw [hs]at ht;cases ht
  |some xs=>
   rw [hs]at ht
   simp only [Option.some.injEq,Prod.mk.injEq]at ht
   obtain⟨rfl,rfl⟩:=ht
   simp only [RVs]at hv
   obtain⟨v,rr,rfl,h3,h4⟩:=hv
   simp only [Ty.deepIn]at hdi
   cases c with
   |nilS=>
    simp only [vb3,Option.some.injEq]at hs
    subst hs
    simp only [RV]at h3
    obtain⟨a0,rfl⟩:=h3
    simp only [van]at hd
    split at hd
    ·rename_i ids' ch' hd'
     simp only [Option.some.injEq,Prod.mk.injEq]at hd
     obtain⟨rfl,rfl⟩:=hd
     exact⟨[_],rr,[],[],ids',ch',rfl,⟨hdi,_,{ blk:=none,cap:=0 },rfl,rfl,⟨a0,rfl,.inl rfl⟩,⟨fun _ hx=>hx,.inl ⟨rfl,rfl,rfl⟩⟩⟩,h4,hd',rfl,by simp,by simp,by simp⟩
    ·cases hd
   |own q=>
    simp only [van]at hd
    split at hd
    ·rename_i e' xs' hg
     cases hf:e'.flat with
     |false=>rw [hf]at hd;cases hd
     |true=>
      rw [hf]at hd
      simp only [cond_true]at hd
      split at hd
      ·rename_i ids' ch' hd'
       cases hix:idx q ids' with
       |some j=>rw [hix]at hd;cases hd
       |none=>
        rw [hix]at hd
        simp only [Option.some.injEq,Prod.mk.injEq]at hd
        obtain⟨rfl,rfl⟩:=hd
        simp only [vb3,hg]at hs
        split at hs
        ·rename_i he
         subst he
         simp only [vep,Option.some.injEq]at hs
         subst hs
         simp only [RV]at h3
         obtain⟨sq,hsq,h3⟩:=h3
         have hreg:=inv.reg q sq hsq
         rw [hg]at h3 hreg
         refine⟨[v],rr,sq.blk.toList,[q],ids',ch',rfl,⟨hdi,v,sq,rfl,rfl,h3,ArrOk.flat hf hreg⟩,h4,hd',rfl,?_,?_,by simp⟩
         ·cases sq.blk<;>simp
         ·intro b hb
          simp only [Option.mem_toList]at hb
          exact .inr ⟨q,by simp,sq,hsq,hb⟩
        ·cases hs
      ·cases hd
    ·cases hd
   |dw r' m' i' off'=>
    simp only [van]at hd
    cases hb:(Nat.beq r' r&&Nat.beq m' m&&Nat.beq off' p)with
    |false=>rw [hb]at hd;cases hd
    |true=>
     rw [hb]at hd
     simp only [Bool.and_eq_true]at hb
     obtain⟨⟨b1,b2⟩,b4⟩:=hb
     have b1:=Nat.eq_of_beq_eq_true b1
     have b2:=Nat.eq_of_beq_eq_true b2
     have b4:=Nat.eq_of_beq_eq_true b4
     subst b1 b2 b4
     have b3:=hi 0 r' m' i' off' (by simp [Ty.size]) rfl
     rw [Nat.add_zero]at b3
     subst b3
     obtain⟨g0,sl,g1,g2,g3⟩:=hdw off' v e xs h3 hs
     refine⟨[v],rr,sl.blk.toList,[],ids,ch,rfl,⟨g0,v,sl,rfl,rfl,g1,g2⟩,h4,hd,rfl,?_,?_,?_⟩
     ·cases sl.blk<;>simp
     ·intro b hb
      simp only [Option.mem_toList]at hb
      exact .inl ⟨off',Nat.le_refl _,by simp [Ty.size],g3 b hb⟩
     ·intro hc
      refine⟨hc,fun j u hj hu=>?_⟩
      simp only [Ty.isSl]at hj
      have:=Nat.eq_of_beq_eq_true hj
      subst this
      simp only [List.getElem?_cons_zero,Option.some.injEq]at hu
      subst hu
      exact h3
   |int _ _=>simp [vb3]at hs
   |bool _=>simp [vb3]at hs
   |str _=>simp [vb3]at hs
   |_=>simp [van]at hd
theorem DepEl.at:∀(T:Ty) (cs:List Value) (x:T.D) (bs:List Nat),DepEl h T cs x bs→bs.Nodup→∃S:Nat→List Nat,(∀p,(S p).Nodup)∧(∀p p' b,p≠p'→b∈S p→b∉S p')∧(∀p b,b∈S p→b∈bs)∧(∀p,T.size≤p→S p=[])∧
  ∀p e1 (ys:List e1.D) v,getE (T.cells x) p = .lst e1 ys→cs[p]? = some v→e1.flat=true∧∃sl,OwnV sl ys.length v∧ArrOk h (fun _=>False) sl e1 ys∧∀b,sl.blk=some b→b∈S p
 |.int k,cs,x,bs,hr,hd=>⟨fun _=>[],by simp,by simp,by simp,by simp,fun p e1 ys v hg hc=>by cases p<;>simp [Ty.cells,getE]at hg⟩
 |.bool,cs,x,bs,hr,hd=>⟨fun _=>[],by simp,by simp,by simp,by simp,fun p e1 ys v hg hc=>by cases p<;>simp [Ty.cells,getE]at hg⟩
 |.str,cs,x,bs,hr,hd=>⟨fun _=>[],by simp,by simp,by simp,by simp,fun p e1 ys v hg hc=>by cases p<;>simp [Ty.cells,getE]at hg⟩
 |.pair a b,cs,x,bs,⟨c,d,b1,b2,q1,q2,h1,h2⟩,hd=>by
  have l1:=vji a x.1
  have l2:=DepEl.length _ _ _ _ h1
  subst q2
  obtain⟨d1,d2,d3⟩:=List.nodup_append.1 hd
  obtain⟨S1,s1,s2,s3,s4,s5⟩:=DepEl.at a c x.1 b1 h1 d1
  obtain⟨S2,t1,t2,t3,t4,t5⟩:=DepEl.at b d x.2 b2 h2 d2
  refine⟨fun p=>if p<a.size then S1 p else S2 (p-a.size),?_,?_,?_,?_,?_⟩
  ·intro p
   show (if p<a.size then S1 p else S2 (p-a.size)).Nodup
   split
   ·exact s1 p
   ·exact t1 _
  ·intro p p' q hne hq hq'
   simp only at hq hq'
   split at hq<;>split at hq'
   ·exact s2 p p' q hne hq hq'
   ·exact d3 q (s3 _ _ hq) q (t3 _ _ hq') rfl
   ·exact d3 q (s3 _ _ hq') q (t3 _ _ hq) rfl
   ·exact t2 _ _ q (by omega) hq hq'
  ·intro p q hq
   simp only at hq
   split at hq
   ·exact List.mem_append_left _ (s3 _ _ hq)
   ·exact List.mem_append_right _ (t3 _ _ hq)
  ·intro p hp
   simp only [Ty.size]at hp
   show (if p<a.size then S1 p else S2 (p-a.size))=[]
   rw [if_neg (by omega)]
   exact t4 _ (by omega)
  ·intro p e1 ys v hg hc
   simp only [Ty.cells]at hg
   rw [viv,l1]at hg
   rw [q1,List.getElem?_append,l2]at hc
   show e1.flat=true∧∃sl,OwnV sl ys.length v∧ArrOk h (fun _=>False) sl e1 ys∧∀q,sl.blk=some q→q∈(if p<a.size then S1 p else S2 (p-a.size))
   split at hg
   ·rename_i hlt
    rw [if_pos hlt]at hc ⊢
    exact s5 p e1 ys v hg hc
   ·rename_i hlt
    rw [if_neg hlt]at hc ⊢
    exact t5 _ e1 ys v hg hc
 |.slice e,cs,x,bs,⟨hf,u,sl,q1,q2,h1,h2⟩,hd=>by
  refine⟨fun p=>if p=0 then sl.blk.toList else [],?_,?_,?_,?_,?_⟩
  ·intro p
   show (if p=0 then sl.blk.toList else []).Nodup
   split
   ·cases sl.blk<;>simp
   ·simp
  ·intro p p' b hne hb hb'
   simp only at hb hb'
   split at hb
   ·split at hb'
    ·omega
    ·simp at hb'
   ·simp at hb
  ·intro p b hb
   simp only at hb
   split at hb
   ·rw [q2];exact hb
   ·simp at hb
  ·intro p hp
   simp only [Ty.size]at hp
   show (if p=0 then sl.blk.toList else [])=[]
   rw [if_neg (by omega)]
  ·intro p e1 ys v hg hc
   cases p with
   |succ n=>simp [Ty.cells,getE]at hg
   |zero=>
    simp only [Ty.cells,getE,AV.lst.injEq]at hg
    obtain⟨rfl,hg⟩:=hg
    have hg:=eq_of_heq hg
    subst hg
    rw [q1]at hc
    simp only [List.getElem?_cons_zero,Option.some.injEq]at hc
    subst hc
    refine⟨hf,sl,h1,h2,fun b hb=>?_⟩
    show b∈(if 0=0 then sl.blk.toList else [])
    rw [if_pos rfl,hb];simp
theorem DepEl.deepIn:∀(T:Ty) (cs:List Value) (x:T.D) (bs:List Nat),DepEl h T cs x bs→T.deepIn=true
 |.int _,_,_,_,_=>rfl
 |.bool,_,_,_,_=>rfl
 |.str,_,_,_,_=>rfl
 |.pair a b,_,_,_,⟨_,_,_,_,_,_,h1,h2⟩=>by simp only [Ty.deepIn,DepEl.deepIn a _ _ _ h1,DepEl.deepIn b _ _ _ h2,Bool.and_self]
 |.slice _,_,_,_,hr=>hr.1
theorem v0a {r m i p:Nat}{e e1:Ty}{xs:List e.D}{ys:List e1.D}{dd:List Nat}(hg:getR s r = .dep e xs m dd)(hi:i<xs.length)(hs:vb3 s e1 (.dw r m i p)=some ys):getE (e.cells xs[i]) p = .lst e1 ys:=by
 simp only [vb3,hg,Nat.beq_refl,cond_true]at hs
 have:=vsi hs
 rwa [vgr _ hi]at this
theorem vrs {r m i p:Nat}{I':Nat→Prop}{e:Ty}{xs:List e.D}{sl:Slot}{k:Nat}{c:Array Value}{el:TypeId}{fr:Nat×Nat}{v:Value}{dd:List Nat}(hr:μ[r]? = some sl)(hg:getR s r = .dep e xs m dd)(hk:sl.blk=some k)
  (hc:h[k]? = some (.cells c el fr)) (hv:RV h I' μ s (.dw r m i p) v):i<xs.length∧e.isSl p=true∧c[i*e.size+p]? = some v∧hasD dd i=false:=by
 simp only [RV]at hv
 obtain⟨sl',h1,h2⟩:=hv
 rw [hr]at h1;cases h1
 rw [hg]at h2
 obtain⟨g1,g2,k',c',el',fr',g3,g4,g5,g6⟩:=h2.2.2 rfl
 rw [hk]at g3;cases g3
 rw [hc]at g4;cases g4
 exact⟨g1,g2,g5,g6⟩
theorem vuj {i:Nat}:∀{dd:List Nat} {t:Nat},hasD (delD i dd) t=false→t=i∨hasD dd t=false
 |[],t,_=>.inr rfl
 |a::l,t,ht=>by
  simp only [delD]at ht
  cases ha:Nat.beq a i with
  |true=>
   rw [ha]at ht
   have:=Nat.eq_of_beq_eq_true ha
   subst this
   rcases vuj ht with e0|e0
   ·exact .inl e0
   ·by_cases e1:t=a
    ·exact .inl e1
    ·refine .inr ?_
     simp only [hasD,e0,Bool.or_false]
     cases hb:Nat.beq a t with
     |false=>rfl
     |true=>exact absurd (Nat.eq_of_beq_eq_true hb).symm e1
  |false=>
   rw [ha]at ht
   simp only [cond_false,hasD,Bool.or_eq_false_iff]at ht
   rcases vuj ht.2 with e0|e0
   ·exact .inl e0
   ·exact .inr (by simp only [hasD,ht.1,e0,Bool.or_self])
theorem w2k {i j:Nat}{dd:List Nat}{t:Nat}(ht:hasD (mvD i j dd) t=false):t=i∨(t≠j∧hasD dd t=false):=by
 unfold mvD at ht
 cases hb:Nat.beq i j with
 |true=>
  rw [hb]at ht
  have:=Nat.eq_of_beq_eq_true hb
  subst this
  by_cases e0:t=i
  ·exact .inl e0
  ·exact .inr ⟨e0,ht⟩
 |false=>
  rw [hb]at ht
  simp only [cond_false,hasD,Bool.or_eq_false_iff]at ht
  rcases vuj ht.2 with e0|e0
  ·exact .inl e0
  ·refine .inr ⟨fun e1=>?_,e0⟩
   subst e1
   have:=ht.1
   rw [Nat.beq_refl]at this;cases this
theorem vyr (inv:Inv X h μ s){r i off m m2 k':Nat}(ip:Nat→Nat)(J0:List Nat){e:Ty}{xs:List e.D}{dd dd2:List Nat}{sl:Slot}{new cs':List AV}{ns:List Value}{ids:List Nat}{ch:Bool}{x:e.D}(h1:μ[r]? = some sl)(hg:getR s r = .dep e xs m dd)(hi:i<xs.length)(hJ:∀t∈J0,t<xs.length∧hasD dd t=false)(hipJ:∀q,ip q∈J0)(hk:sl.blk=some k')
  (hn:RVs h (Im X h μ s) μ s new ns) (hip:∀q r' m' i' o,getE cs' q = .dw r' m' i' o→i'=ip q)
  (hp1:∀c el fr,h[k']? = some (.cells c el fr)→RVs h (Im X h μ s) μ s cs' (((c.toList.drop (i*e.size)).take e.size).take off++ns++((c.toList.drop (i*e.size)).take e.size).drop (off+ns.length))∧off+ns.length≤e.size)
  {i9:Nat} (hids:van s r m i9 0 cs'=some (ids,ch)) (hd:e.data s cs'=some x) (hm:m≤m2) (hm2:¬(ch=false∧∀q,ip q=i)→m<m2)
  (hdd:∀t,hasD dd2 t=false→t=i∨(t∉J0∧hasD dd t=false)) (hdd2:m2=m→dd2=dd) :
  ∃b o c el fr,Value.pointer (some ⟨k',i*e.size+off,none⟩) = .pointer (some ⟨b,o,none⟩)∧h[b]? = some (.cells c el fr)∧vmq c fr∧o+ns.length≤c.size∧
   ∀(h':Heap) (c':Array Value),h'.size=h.size→(∀b',b'≠b→h'[b']? = h[b']?)→h'[b]? = some (.cells c' el fr)→c'.toList=c.toList.take o++ns++c.toList.drop (o+ns.length)→
    ∃μ',Inv X h' μ' (setR (vbd s ids) r (.dep e (xs.set i x) m2 dd2))∧Ext X h μ s h' μ' (setR (vbd s ids) r (.dep e (xs.set i x) m2 dd2))∧
     ∀j,(∀e xs m dd,getR s j = .dep e xs m dd→j∉(AV.ep r i off).refs)→μ'[j]? = μ[j]?:=by
 have hreg:=inv.reg r sl h1
 rw [hg]at hreg
 have hlive:(getR s r).live=true:=by rw [hg];rfl
 have hlt:=inv.lt h1
 rcases hreg with⟨h0,_⟩|⟨k,c,el,fr,g1,g2,g3,g4,g5,B,g6,g7,g8,g9⟩
 ·rw [h0]at hk;cases hk
 obtain rfl:k=k':=by rw [g1]at hk;exact Option.some.inj hk
 have hSS:∀t,∃S:Nat→List Nat,t∈J0→(∀p,(S p).Nodup)∧(∀p p' b,p≠p'→b∈S p→b∉S p')∧(∀p b,b∈S p→b∈B t)∧
   ∀p e1 (ys:List e1.D) v,getE (e.cells (xs.getD t e.zero)) p = .lst e1 ys→((c.toList.drop (t*e.size)).take e.size)[p]? = some v→e1.flat=true∧∃sl,OwnV sl ys.length v∧ArrOk h (fun _=>False) sl e1 ys∧∀b,sl.blk=some b→b∈S p:=by
  intro t
  by_cases ht:t∈J0
  ·obtain⟨ht1,ht2⟩:=hJ t ht
   obtain⟨S,s1,s2,s3,s4,s5⟩:=DepEl.at _ _ _ _ (g9 t ht1 ht2) (g7 t ht1).1
   refine⟨S,fun _=>⟨s1,s2,s3,?_⟩⟩
   rw [vgr _ ht1]
   exact s5
  ·exact⟨fun _=>[],fun h9=>absurd h9 ht⟩
 obtain⟨SS,hSS⟩:=Classical.axiomOfChoice hSS
 obtain⟨p1,p2⟩:=hp1 c el fr g2
 have hcap:i*e.size+e.size≤c.toList.length:=by
  have:(i+1)*e.size≤sl.cap*e.size:=Nat.mul_le_mul_right _ (by omega)
  rw [Nat.add_mul]at this
  simp;omega
 have htake:e.take s cs'=some (x,[]):=by
  unfold Ty.data at hd
  split at hd
  ·rename_i y hy;cases hd;exact hy
  ·cases hd
 obtain⟨hidn,hida⟩:=vcs _ _ _ _ hids
 have hSB:∀p b,b∈SS (ip p) p→b∈B (ip p):=fun p b hb=>(hSS (ip p) (hipJ p)).2.2.1 p b hb
 have hSm:∀p b,b∈SS (ip p) p→sl.more b:=fun p b hb=>(g7 (ip p) (hJ _ (hipJ p)).1).2 b (hSB p b hb)
 obtain⟨v1,v2,bs,ids1,ids2,ch2,hvs,d1,d2,d3,d4,d5,d6,d7⟩:=vq4 inv (r:=r) (m:=m) (i:=i9) (fun p=>SS (ip p) p) (fun p=>(hSS (ip p) (hipJ p)).1 p)
  (fun p p' b hne hb hb'=>by
   by_cases e0:ip p=ip p'
   ·have hb2:b∈SS (ip p) p':=by rw [e0];exact hb'
    exact(hSS (ip p) (hipJ p)).2.1 p p' b hne hb hb2
   ·exact g8 (ip p) (ip p') b (hJ _ (hipJ p)).1 (hJ _ (hipJ p')).1 e0 (hSB p b hb) (hSB p' b hb'))
  (fun p b q sq e' xs' hb hq hsq hbq=>inv.dis r q sl sq b (by intro e0;subst e0;rw [hg]at hq;cases hq) h1 hsq hlive (by rw [hq];rfl) (.inr (hSm p b hb)) (.inl hbq))
  ip
  (fun p v e1 ys hv hs=>by
   obtain⟨z1,z2,z3,_⟩:=vrs h1 hg g1 g2 hv
   refine(hSS (ip p) (hipJ p)).2.2.2 p e1 ys v (by rw [vgr _ z1];exact v0a hg z1 hs) ?_
   rw [List.getElem?_take,if_pos (voc z2),List.getElem?_drop,Array.getElem?_toList];exact z3)
  e 0 cs' x [] _ ids ch (by
   obtain⟨t1,t2⟩:=hJ _ (hipJ 0)
   exact DepEl.deepIn _ _ _ _ (g9 _ t1 t2)) htake p1 hids hidn (fun q r' m' i' o _ hq=>by rw [Nat.zero_add];exact hip q r' m' i' o hq)
 simp only [RVs]at d2
 subst d2
 simp only [van,Option.some.injEq,Prod.mk.injEq]at d3
 obtain⟨rfl,rfl⟩:=d3
 simp only [List.append_nil]at d4 hvs
 subst d4 hvs
 refine⟨k,i*e.size+off,c,el,fr,rfl,g2,g3,by simp at hcap ⊢;omega,?_⟩
 intro h' c' q1 q2 q3 q4
 have hsz:c'.size=c.size:=by
  rw [←Array.length_toList,←Array.length_toList,q4]
  simp at hcap ⊢;omega
 have hrn:r∉ids:=by
  intro hm
  obtain⟨_,_,h0,_⟩:=hida r hm
  rw [hg]at h0;cases h0
 have hidlt:∀q∈ids,q<s.length:=by
  intro q hq
  obtain⟨_,_,h0,_⟩:=hida q hq
  exact vbo h0 (by simp)
 have hidlive:∀q∈ids,(getR s q).live=true:=by
  intro q hq
  obtain⟨_,_,h0,_⟩:=hida q hq
  rw [h0];rfl
 have hget:∀j,getR (setR (vbd s ids) r (.dep e (xs.set i x) m2 dd2)) j=if j=r then .dep e (xs.set i x) m2 dd2 else if j∈ids then .gone else getR s j:=by
  intro j
  rw [vbg _ r j _ (by rw [vbm];exact hlt),vmm ids s j hidlt]
 have hself:getR (setR (vbd s ids) r (.dep e (xs.set i x) m2 dd2)) r = .dep e (xs.set i x) m2 dd2:=by rw [hget,if_pos rfl]
 let sl2:Slot:=⟨sl.blk,sl.cap,fun b=>sl.more b∨∃q∈ids,∃sq,μ[q]? = some sq∧sq.blk=some b⟩
 have hlm:r<μ.length:=by rw [inv.len];exact hlt
 have hset:∀j y,(μ.set r sl2)[j]? = some y→(j=r∧y=sl2)∨(j≠r∧μ[j]? = some y):=by
  intro j y hj
  by_cases e0:j=r
  ·subst e0
   rw [List.getElem?_set_self hlm]at hj
   cases hj;exact .inl ⟨rfl,rfl⟩
  ·rw [List.getElem?_set_ne (fun h=>e0 h.symm)]at hj
   exact .inr ⟨e0,hj⟩
 have hsr:(μ.set r sl2)[r]? = some sl2:=List.getElem?_set_self hlm
 have hkr:OfJ μ s (r::ids) k:=⟨r,by simp,sl,h1,hlive,.inl g1⟩
 have hbk:∀b∈bs,b≠k:=by
  intro b hb e0
  subst e0
  rcases d6 b hb with⟨p',_,_,m3⟩|⟨q,m1,sq,m2,m3⟩
  ·exact(g6 b (hSm p' b m3)).2 rfl
  ·exact inv.dis r q sl sq b (fun e0=>hrn (e0▸m1)) h1 m2 hlive (hidlive q m1) (.inl g1) (.inl m3)
 have hmk:∀b,sl2.more b→b<h.size∧b≠k:=by
  rintro b (hb|⟨q,m1,sq,m2,m3⟩)
  ·exact g6 b hb
  ·refine⟨inv.blk_lt m2 (hidlive q m1) (.inl m3),fun e0=>?_⟩
   subst e0
   exact inv.dis r q sl sq b (fun e0=>hrn (e0▸m1)) h1 m2 hlive (hidlive q m1) (.inl g1) (.inl m3)
 have hdep:DepOk h' sl2 e (xs.set i x) dd2:=by
  refine .inr ⟨k,c',el,fr,g1,q3,vdx g3 hsz,by rw [hsz];exact g4,by simpa using g5,fun j=>if j=i then bs else if j∈J0 then []else B j,fun b hb=>by rw [q1];exact hmk b hb,?_,?_,?_⟩
  ·intro j hj
   simp only [List.length_set]at hj
   show (if j=i then bs else if j∈J0 then []else B j).Nodup∧∀b∈(if j=i then bs else if j∈J0 then []else B j),sl2.more b
   split
   ·refine⟨d5,fun b hb=>?_⟩
    rcases d6 b hb with⟨p',_,_,m3⟩|m
    ·exact .inl (hSm p' b m3)
    ·exact .inr m
   ·split
    ·exact⟨by simp,fun b hb=>by simp at hb⟩
    ·exact⟨(g7 j hj).1,fun b hb=>.inl ((g7 j hj).2 b hb)⟩
  ·intro j j' b hj hj' hne hb hb'
   simp only [List.length_set]at hj hj'
   have key:∀j',j'<xs.length→j'∉J0→b∈bs→b∉B j':=by
    intro j' hj' hne hb hb'
    rcases d6 b hb with⟨p',_,_,m3⟩|⟨q,m1,sq,m2,m3⟩
    ·exact g8 (ip p') j' b (hJ _ (hipJ p')).1 hj' (fun h9=>hne (h9▸hipJ p')) (hSB p' b m3) hb'
    ·exact inv.dis r q sl sq b (fun e0=>hrn (e0▸m1)) h1 m2 hlive (hidlive q m1) (.inr ((g7 j' hj').2 b hb')) (.inl m3)
   simp only at hb hb'
   split at hb
   ·rename_i e0
    rw [if_neg (by omega)]at hb'
    split at hb'
    ·simp at hb'
    ·rename_i e1
     exact key j' hj' e1 hb hb'
   ·split at hb
    ·simp at hb
    ·rename_i e1 e2
     split at hb'
     ·exact key j hj e2 hb' hb
     ·split at hb'
      ·simp at hb'
      ·exact g8 j j' b hj hj' hne hb hb'
  ·intro j hj hdj
   simp only [List.length_set]at hj
   show DepEl h' e _ (xs.set i x)[j] (if j=i then bs else if j∈J0 then []else B j)
   rw [q4]
   by_cases hij:j=i
   ·subst hij
    rw [if_pos rfl,vmb (by omega) hcap]
    simp only [List.getElem_set_self]
    exact DepEl.mono _ _ _ _ (fun b hb=>q2 b (hbk b hb)) d1
   ·obtain⟨hjj,hdj2⟩:=(hdd j hdj).resolve_left hij
    rw [if_neg hij,if_neg hjj,vk0 hij (by omega) hcap,List.getElem_set_ne (fun e0=>hij e0.symm)]
    exact DepEl.mono _ _ _ _ (fun b hb=>q2 b (g6 b ((g7 j hj).2 b hb)).2) (g9 j hj hdj2)
 refine⟨μ.set r sl2,?_⟩
 rw [←and_assoc]
 refine⟨?_,?_⟩
 ·refine vgo inv (r::ids) (Nat.le_of_eq q1.symm) (by rw [List.length_set,vap,vbm];exact inv.len) (by rw [vap,vbm];exact Nat.le_refl _) ?_ ?_ ?_ ?_ ?_ ?_
  ·intro j hj hn
   simp only [List.mem_cons,not_or]at hn
   refine⟨List.getElem?_set_ne (fun e0=>hn.1 e0.symm),?_⟩
   rw [hget,if_neg hn.1,if_neg hn.2]
  ·intro b hb hno
   exact q2 b fun e0=>hno (e0▸hkr)
  ·intro j y b hj hy hl hb
   rcases hset j y hy with⟨rfl,rfl⟩|⟨e0,e1⟩
   ·right
    rcases hb with hb|hb|⟨q,m1,sq,m2,m3⟩
    ·exact⟨j,by simp,sl,h1,hlive,.inl hb⟩
    ·exact⟨j,by simp,sl,h1,hlive,.inr hb⟩
    ·exact⟨q,by simp [m1],sq,m2,hidlive q m1,.inl m3⟩
   ·rw [hget,if_neg e0]at hl
    rcases hj with hj|hj
    ·simp only [List.mem_cons]at hj
     rw [if_pos (hj.resolve_left e0)]at hl;cases hl
    ·have:=inv.lt e1;omega
  ·intro j j' y y' b hne hj hj' hy hy' hl hl'
   have key:∀j y,(j∈r::ids∨s.length≤j)→(μ.set r sl2)[j]? = some y→(getR (setR (vbd s ids) r (.dep e (xs.set i x) m2 dd2)) j).live=true→j=r:=by
    intro j y hj hy hl
    rcases hset j y hy with⟨rfl,rfl⟩|⟨e0,e1⟩
    ·rfl
    ·rw [hget,if_neg e0]at hl
     rcases hj with hj|hj
     ·simp only [List.mem_cons]at hj
      rw [if_pos (hj.resolve_left e0)]at hl;cases hl
     ·have:=inv.lt e1;omega
   exact absurd ((key j y hj hy hl).trans (key j' y' hj' hy' hl').symm) hne
  ·intro him q hq a v ha har hv
   simp only [List.mem_cons]at hq
   by_cases e0:q=r
   ·subst e0
    cases a with
    |own j=>
     simp only [AV.refs,List.cons.injEq,and_true]at har
     subst har
     simp only [RV]at hv ⊢
     obtain⟨y,z1,z2⟩:=hv
     rw [h1]at z1;cases z1
     refine⟨sl2,hsr,?_⟩
     rw [hself]
     rw [hg]at z2
     simpa using z2
    |bp j off=>
     simp only [AV.refs,List.cons.injEq,and_true]at har
     subst har
     simp only [RV]at hv ⊢
     obtain⟨y,z1,z2⟩:=hv
     rw [hg]at z2;exact z2.elim
    |ep j i off=>
     simp only [AV.refs,List.cons.injEq,and_true]at har
     subst har
     simp only [RV]at hv ⊢
     obtain⟨y,z1,z2⟩:=hv
     rw [h1]at z1;cases z1
     refine⟨sl2,hsr,?_⟩
     rw [hself]
     rw [hg]at z2
     simpa using z2
    |win j lo=>
     simp only [AV.refs,List.cons.injEq,and_true]at har
     subst har
     simp only [RV]at hv ⊢
     obtain⟨y,z1,z2⟩:=hv
     rw [h1]at z1;cases z1
     refine⟨sl2,hsr,?_⟩
     rw [hself]
     rw [hg]at z2
     simpa using z2
    |dw j n i' off'=>
     simp only [AV.refs,List.cons.injEq,and_true]at har
     subst har
     have hv0:=hv
     simp only [RV]at hv ⊢
     obtain⟨y,z1,z2⟩:=hv
     rw [h1]at z1;cases z1
     refine⟨sl2,hsr,?_⟩
     rw [hself]
     rw [hg]at z2
     obtain⟨z2,z3,z4⟩:=z2
     by_cases hlt2:m<m2
     ·exact⟨z2,by omega,fun hn=>by omega⟩
     ·obtain⟨hch,hipi⟩:=Classical.byContradiction fun hne=>hlt2 (hm2 hne)
      subst hch
      refine⟨z2,by omega,fun hn=>?_⟩
      have e9:n=m:=by omega
      have e8:m2=m:=by omega
      subst e8
      subst e9
      obtain⟨z5,z6,z7,z8⟩:=vrs h1 hg g1 g2 hv0
      refine⟨by simpa using z5,z6,k,c',el,fr,g1,q3,?_,by rw [hdd2 (by omega)];exact z8⟩
      have hlt':=voc z6
      rw [←Array.getElem?_toList]at z7 ⊢
      have hseg:∀(C:List Value),C[i'*e.size+off']? = ((C.drop (i'*e.size)).take e.size)[off']?:=by
       intro C
       rw [List.getElem?_take,if_pos hlt',List.getElem?_drop]
      rw [hseg]at z7 ⊢
      rw [q4]
      by_cases hij:i'=i
      ·subst hij
       rw [vmb (by omega) hcap]
       have hx:off'<(((c.toList.drop (i'*e.size)).take e.size).take off++ns++((c.toList.drop (i'*e.size)).take e.size).drop (off+ns.length)).length:=by
        have:=DepEl.length _ _ _ _ d1
        rw [this];exact hlt'
       obtain⟨u,hu⟩:∃u,(((c.toList.drop (i'*e.size)).take e.size).take off++ns++((c.toList.drop (i'*e.size)).take e.size).drop (off+ns.length))[off']? = some u:=⟨_,List.getElem?_eq_getElem hx⟩
       have h9:=(d7 rfl).2 off' u z6 hu
       rw [Nat.zero_add,hipi]at h9
       obtain⟨_,_,y3,_⟩:=vrs h1 hg g1 g2 h9
       rw [←Array.getElem?_toList,hseg]at y3
       rw [hu,←y3,z7]
      ·rw [vk0 hij (by omega) hcap]
       exact z7
    |_=>cases ha
   ·have hq':=hq.resolve_left e0
    obtain⟨sq,hsq⟩:=inv.slot (hidlt q hq')
    refine vop ⟨sq,by rw [List.getElem?_set_ne (fun e1=>e0 e1.symm)];exact hsq⟩ ?_ (by rw [hget,if_neg e0,if_pos hq']) a v ha har hv
    obtain⟨_,_,h0,_⟩:=hida q hq'
    rw [h0];rfl
  ·intro him hrv j y hj hy
   rcases hset j y hy with⟨rfl,rfl⟩|⟨e0,e1⟩
   ·rw [hself];exact hdep
   ·rcases hj with hj|hj
    ·simp only [List.mem_cons]at hj
     rw [hget,if_neg e0,if_pos (hj.resolve_left e0)];trivial
    ·have:=inv.lt e1;omega
 ·intro j hj
  have hne:j≠r:=by
   intro e0
   subst e0
   exact hj e xs m dd hg (by simp [AV.refs])
  exact List.getElem?_set_ne (fun e0=>hne e0.symm)
theorem wjq {r m i:Nat}:∀(l:List AV) (p:Nat),val r m i p (l.take 0)=[]:=fun l p=>by simp [val]
theorem vhl (r m i:Nat):∀(a b:List AV) (p:Nat),val r m i p (a++b)=val r m i p a++val r m i (p+a.length) b
 |[],b,p=>by simp [val]
 |c::a,b,p=>by
  have ih:=vhl r m i a b (p+1)
  rw [show p+1+a.length=p+(c::a).length by simp;omega]at ih
  cases c<;>simp only [List.cons_append,val,ih]
theorem vpa (r m i:Nat):∀(a:List AV) (p:Nat),vdt a=true→val r m i p a=a
 |[],p,_=>rfl
 |c::a,p,h=>by
  simp only [vdt,Bool.and_eq_true]at h
  have ih:=vpa r m i a (p+1) h.2
  cases c<;>first|(simp only [val,ih];done)|(simp [AV.plain]at h)
theorem v3j (r m i:Nat)(l:List AV)(n p:Nat):(val r m i p l).take n=val r m i p (l.take n):=by
 have h:=vhl r m i (l.take n) (l.drop n) p
 rw [List.take_append_drop]at h
 rw [h]
 rcases Nat.lt_or_ge n l.length with h1|h1
 ·have:(val r m i p (l.take n)).length=n:=by rw [vej];simp;omega
  rw [List.take_append_of_le_length (by omega),List.take_of_length_le (by omega)]
 ·have e1:l.drop n=[]:=List.drop_eq_nil_of_le h1
  rw [e1]
  simp only [val,List.append_nil]
  exact List.take_of_length_le (by rw [vej];simp;omega)
theorem v37 (r m i:Nat)(l:List AV)(n p:Nat)(hn:n≤l.length):(val r m i p l).drop n=val r m i (p+n) (l.drop n):=by
 have h:=vhl r m i (l.take n) (l.drop n) p
 rw [List.take_append_drop]at h
 have h0:(l.take n).length=n:=by simp;omega
 have h1:(val r m i p (l.take n)).length=n:=by rw [vej,h0]
 rw [h,List.drop_append_of_le_length (by omega),List.drop_of_length_le (by omega),List.nil_append,h0]
def vba:List AV→Bool
 |[]=>true
 |.int _ _::l=>vba l
 |.bool _::l=>vba l
 |.str _::l=>vba l
 |.lst _ _::l=>vba l
 |_::_=>false
theorem vhp:∀(a b:List AV),vba (a++b)=(vba a&&vba b)
 |[],b=>rfl
 |c::a,b=>by
  have ih:=vhp a b
  cases c<;>simp [vba,ih]
theorem vg6:∀(T:Ty) (x:T.D),vba (T.cells x)=true
 |.int _,_=>rfl
 |.bool,_=>rfl
 |.str,_=>rfl
 |.pair a b,x=>by simp only [Ty.cells,vhp,vg6 a,vg6 b,Bool.and_self]
 |.slice _,_=>rfl
theorem vph:∀(a:List AV),vdt a=true→vba a=true
 |[],_=>rfl
 |c::a,h=>by
  simp only [vdt,Bool.and_eq_true]at h
  have ih:=vph a h.2
  cases c<;>first|(simp only [vba,ih];done)|(simp [AV.plain]at h)
theorem vr7 (l:List AV)(n:Nat)(h:vba l=true):vba (l.take n)=true∧vba (l.drop n)=true:=by
 have:=vhp (l.take n) (l.drop n)
 rw [List.take_append_drop,h]at this
 exact⟨(Bool.and_eq_true_iff.1 this.symm).1,(Bool.and_eq_true_iff.1 this.symm).2⟩
theorem vhb {r m i:Nat}:∀(l:List AV) (p:Nat),vba l=true→van s r m i p (val r m i p l)=some ([],false)
 |[],p,_=>rfl
 |c::l,p,h=>by
  cases c with
  |int k n=>simp only [val,van];exact vhb l (p+1) (by simpa [vba]using h)
  |bool b=>simp only [val,van];exact vhb l (p+1) (by simpa [vba]using h)
  |str b=>simp only [val,van];exact vhb l (p+1) (by simpa [vba]using h)
  |lst e xs=>simp only [val,van,Nat.beq_refl,Bool.and_self,cond_true];exact vhb l (p+1) (by simpa [vba]using h)
  |_=>simp [vba]at h
theorem v3g {r m i:Nat}{e0:Ty}{xs:List e0.D}{dd:List Nat}(hg:getR s r = .dep e0 xs m dd)(hi:i<xs.length) :
  ∀(T:Ty) (p:Nat) (cs:List AV) (x:T.D) (rest:List AV),vba cs=true→(∀q e1 (ys:List e1.D),getE cs q = .lst e1 ys→getE (e0.cells xs[i]) (p+q) = .lst e1 ys)→T.take [] cs=some (x,rest)→
   T.take s (val r m i p cs)=some (x,val r m i (p+T.size) rest)∧vba rest=true∧(∀q e1 (ys:List e1.D),getE rest q = .lst e1 ys→getE (e0.cells xs[i]) (p+T.size+q) = .lst e1 ys)
 |.int k,p,[],x,rest,_,_,ht=>by simp [Ty.take]at ht
 |.int k,p,c::cs,x,rest,hc,hl,ht=>by
  cases c<;>simp only [Ty.take]at ht<;>first|(cases ht;done)|skip
  split at ht
  ·rename_i hkk
   cases ht
   subst hkk
   exact⟨by simp [val,Ty.take,Ty.size],by simpa [vba]using hc,fun q e1 ys h=>by have:=hl (q+1) e1 ys h;rwa [show p+Ty.size (.int _)+q=p+(q+1) by simp [Ty.size];omega]⟩
  ·cases ht
 |.bool,p,[],x,rest,_,_,ht=>by simp [Ty.take]at ht
 |.bool,p,c::cs,x,rest,hc,hl,ht=>by
  cases c<;>simp only [Ty.take]at ht<;>first|(cases ht;done)|skip
  cases ht
  exact⟨by simp [val,Ty.take,Ty.size],by simpa [vba]using hc,fun q e1 ys h=>by have:=hl (q+1) e1 ys h;rwa [show p+Ty.size .bool+q=p+(q+1) by simp [Ty.size];omega]⟩
 |.str,p,[],x,rest,_,_,ht=>by simp [Ty.take]at ht
 |.str,p,c::cs,x,rest,hc,hl,ht=>by
  cases c<;>simp only [Ty.take]at ht<;>first|(cases ht;done)|skip
  cases ht
  exact⟨by simp [val,Ty.take,Ty.size],by simpa [vba]using hc,fun q e1 ys h=>by have:=hl (q+1) e1 ys h;rwa [show p+Ty.size .str+q=p+(q+1) by simp [Ty.size];omega]⟩
 |.pair a b,p,cs,x,rest,hc,hl,ht=>by
  simp only [Ty.take]at ht
  split at ht
  ·rename_i x1 r1 ha
   split at ht
   ·rename_i y r' hbt
    simp only [Option.some.injEq,Prod.mk.injEq]at ht
    obtain⟨rfl,rfl⟩:=ht
    obtain⟨g1,g2,g3⟩:=v3g hg hi a p cs x1 r1 hc hl ha
    obtain⟨k1,k2,k3⟩:=v3g hg hi b (p+a.size) r1 y r' g2 g3 hbt
    refine⟨?_,k2,?_⟩
    ·simp only [Ty.take,g1,k1,Ty.size,Nat.add_assoc]
    ·intro q e1 ys h
     have:=k3 q e1 ys h
     rwa [show p+Ty.size (.pair a b)+q=p+a.size+b.size+q by simp [Ty.size];omega]
   ·cases ht
  ·cases ht
 |.slice e,p,[],x,rest,_,_,ht=>by simp [Ty.take]at ht
 |.slice e,p,c::cs,x,rest,hc,hl,ht=>by
  simp only [Ty.take]at ht
  cases c with
  |lst e1 ys=>
   have h0:=hl 0 e1 ys rfl
   simp only [vb3]at ht
   split at ht
   ·rename_i ys' hys
    split at hys
    ·rename_i he
     subst he
     simp only [vep,Option.some.injEq]at hys
     subst hys
     simp only [Option.some.injEq,Prod.mk.injEq]at ht
     obtain⟨rfl,rfl⟩:=ht
     refine⟨?_,by simpa [vba]using hc,fun q e2 zs h=>by have:=hl (q+1) e2 zs h;rwa [show p+Ty.size (.slice e1)+q=p+(q+1) by simp [Ty.size];omega]⟩
     have h9:vb3 s e1 (.dw r m i p)=some ys:=by
      simp only [vb3,hg,Nat.beq_refl,cond_true]
      rw [vgr _ hi]
      unfold wsk
      rw [Nat.add_zero]at h0
      rw [h0]
      simp [vep]
     simp only [val,Ty.take,h9,Ty.size]
    ·cases hys
   ·cases ht
  |int k n=>simp [vb3]at ht
  |bool b=>simp [vb3]at ht
  |str b=>simp [vb3]at ht
  |_=>simp [vba]at hc
theorem v7j:∀(l:List AV) (n q:Nat),q<n→getE (l.take n) q=getE l q
 |[],n,q,_=>by simp
 |a::l,0,q,h=>by omega
 |a::l,n+1,0,_=>rfl
 |a::l,n+1,q+1,h=>by simp only [List.take_succ_cons,getE];exact v7j l n q (by omega)
theorem v6y:∀(l:List AV) (n q:Nat),getE (l.drop n) q=getE l (n+q)
 |[],n,q=>by simp [getE]
 |a::l,0,q=>by simp
 |a::l,n+1,q=>by rw [List.drop_succ_cons,v6y l n q,show n+1+q=(n+q)+1 by omega];rfl
theorem vth:∀(l:List AV) (q:Nat) (e:Ty) (ys:List e.D),vdt l=true→getE l q≠.lst e ys
 |[],q,e,ys,_=>by simp [getE]
 |a::l,0,e,ys,h=>by
  simp only [vdt,Bool.and_eq_true]at h
  intro h0
  simp only [getE]at h0
  subst h0
  simp [AV.plain]at h
 |a::l,q+1,e,ys,h=>by
  simp only [vdt,Bool.and_eq_true]at h
  exact vth l q e ys h.2
theorem wo0 {T:Ty}{cs:List AV}{x:T.D}(h:T.data s cs=some x):T.take s cs=some (x,[]):=by
 unfold Ty.data at h
 split at h
 ·rename_i y hy;cases h;exact hy
 ·cases h
theorem v0f {r m i r' m' i':Nat}:∀(cs:List AV) (p:Nat) (res:List Nat×Bool),(∀a∈cs,∀q n j o,a = .dw q n j o→q≠r')→van s r' m' i' p cs=some res→van s r m i p cs=some res
 |[],p,res,_,h=>h
 |a::cs,p,res,hd,h=>by
  have ih:=fun res=>v0f (r:=r) (m:=m) (i:=i) (r':=r') (m':=m') (i':=i') cs (p+1) res (fun b hb=>hd b (by simp [hb]))
  cases a with
  |int k n=>simp only [van]at h ⊢;exact ih _ h
  |bool b=>simp only [van]at h ⊢;exact ih _ h
  |str b=>simp only [van]at h ⊢;exact ih _ h
  |nilS=>
   simp only [van]at h ⊢
   split at h
   ·rename_i ids ch h1
    rw [ih _ h1];exact h
   ·cases h
  |dw q n j o=>
   simp only [van]at h
   cases hb:(Nat.beq q r'&&Nat.beq n m'&&Nat.beq o p)with
   |false=>rw [hb]at h;cases h
   |true=>
    rw [Bool.and_eq_true,Bool.and_eq_true]at hb
    exact absurd (Nat.eq_of_beq_eq_true hb.1.1) (hd _ (by simp) q n j o rfl)
  |own q=>
   simp only [van]at h ⊢
   split at h
   ·rename_i e xs hg
    cases hf:e.flat with
    |false=>rw [hf]at h;cases h
    |true=>
     rw [hf]at h
     simp only [cond_true]at h ⊢
     split at h
     ·rename_i ids ch h1
      rw [ih _ h1];exact h
     ·cases h
   ·cases h
  |_=>simp [van]at h
theorem vqf (inv:Inv X h μ s):∀(cs:List AV) (vs:List Value),RVs h (Im X h μ s) μ s cs vs→∀a∈cs,∀q n j o,a = .dw q n j o→q≠s.length
 |[],vs,hv,a,ha,q,n,j,o,e=>by simp at ha
 |c::cs,vs,hv,a,ha,q,n,j,o,e=>by
  simp only [RVs]at hv
  obtain⟨v,r,rfl,h1,h2⟩:=hv
  simp only [List.mem_cons]at ha
  rcases ha with rfl|ha
  ·subst e
   simp only [RV]at h1
   obtain⟨sl,g1,_⟩:=h1
   have:=inv.lt g1
   omega
  ·exact vqf inv cs r h2 a ha q n j o e
theorem vnr {r m k i9:Nat}{I':Nat→Prop}{e:Ty}{xs:List e.D}{dd:List Nat}{sl:Slot}{c:Array Value}{el:TypeId}{fr:Nat×Nat}(hr:μ[r]? = some sl)(hg:getR s r = .dep e xs m dd)(hk:sl.blk=some k)(hc:h[k]? = some (.cells c el fr)) :
  ∀(cs:List AV) (p:Nat) (vs:List Value) (ids:List Nat) (ch:Bool),van s r m i9 p cs=some (ids,ch)→RVs h I' μ s cs vs→∀t∈dwOf cs,t<xs.length∧hasD dd t=false
 |[],p,vs,ids,ch,_,_,t,ht=>by simp [dwOf]at ht
 |a::cs,p,vs,ids,ch,hd,hv,t,ht=>by
  simp only [RVs]at hv
  obtain⟨v,rr,rfl,h3,h4⟩:=hv
  cases a with
  |dw r' m' i' off'=>
   simp only [van]at hd
   cases hb:(Nat.beq r' r&&Nat.beq m' m&&Nat.beq off' p)with
   |false=>rw [hb]at hd;cases hd
   |true=>
    rw [hb]at hd
    simp only [cond_true]at hd
    simp only [Bool.and_eq_true]at hb
    obtain⟨⟨b1,b2⟩,_⟩:=hb
    have b1:=Nat.eq_of_beq_eq_true b1
    have b2:=Nat.eq_of_beq_eq_true b2
    subst b1 b2
    simp only [dwOf,List.mem_cons]at ht
    rcases ht with rfl|ht
    ·obtain⟨z1,_,_,z4⟩:=vrs hr hg hk hc h3
     exact⟨z1,z4⟩
    ·exact vnr hr hg hk hc cs _ rr ids ch hd h4 t ht
  |int _ _=>simp only [van]at hd;exact vnr hr hg hk hc cs _ rr ids ch hd h4 t (by simpa only [dwOf]using ht)
  |bool _=>simp only [van]at hd;exact vnr hr hg hk hc cs _ rr ids ch hd h4 t (by simpa only [dwOf]using ht)
  |str _=>simp only [van]at hd;exact vnr hr hg hk hc cs _ rr ids ch hd h4 t (by simpa only [dwOf]using ht)
  |nilS=>
   simp only [van]at hd
   split at hd
   ·rename_i ids' ch' hd'
    exact vnr hr hg hk hc cs _ rr ids' ch' hd' h4 t (by simpa only [dwOf]using ht)
   ·cases hd
  |own q=>
   simp only [van]at hd
   split at hd
   ·rename_i e' xs' hq
    cases hf:e'.flat with
    |false=>rw [hf]at hd;cases hd
    |true=>
     rw [hf]at hd
     simp only [cond_true]at hd
     split at hd
     ·rename_i ids' ch' hd'
      exact vnr hr hg hk hc cs _ rr ids' ch' hd' h4 t (by simpa only [dwOf]using ht)
     ·cases hd
   ·cases hd
  |_=>simp [van]at hd
theorem v46:∀(cs:List AV) (q r' m' i' o:Nat),getE cs q = .dw r' m' i' o→i'∈dwOf cs
 |[],q,r',m',i',o,hg=>by cases q<;>cases hg
 |a::cs,0,r',m',i',o,hg=>by
  have:a = .dw r' m' i' o:=hg
  subst this
  simp [dwOf]
 |a::cs,q+1,r',m',i',o,hg=>by
  have:=v46 cs q r' m' i' o hg
  cases a<;>simp [dwOf,this]
theorem vx9:∀(cs:List AV) (r j:Nat),vq5 cs=some (r,j)→j∈dwOf cs
 |[],r,j,hs=>by simp [vq5]at hs
 |a::cs,r,j,hs=>by
  have ih:=vx9 cs r j
  cases a<;>first
   |(simp only [vq5]at hs;simp only [dwOf];exact ih hs)
   |(simp only [vq5,Option.some.injEq,Prod.mk.injEq]at hs;simp [dwOf,hs.2])
theorem v41:∀{l dd:List Nat} {t:Nat},hasD (l++dd) t=false→t∉l∧hasD dd t=false
 |[],dd,t,ht=>⟨by simp,ht⟩
 |a::l,dd,t,ht=>by
  simp only [List.cons_append,hasD,Bool.or_eq_false_iff]at ht
  obtain⟨h1,h2⟩:=v41 ht.2
  refine⟨fun hm=>?_,h2⟩
  simp only [List.mem_cons]at hm
  rcases hm with rfl|hm
  ·have:=ht.1
   rw [Nat.beq_refl]at this;cases this
  ·exact h1 hm
theorem vo6 {r m i:Nat}:∀(cs:List AV) (p q r' m' i' o:Nat),vba cs=true→getE (val r m i p cs) q = .dw r' m' i' o→i'=i
 |[],p,q,r',m',i',o,_,hg=>by cases q<;>cases hg
 |a::cs,p,0,r',m',i',o,hc,hg=>by
  cases a<;>first
   |(simp only [val,getE,AV.dw.injEq]at hg;exact hg.2.2.1.symm)
   |(simp only [val,getE]at hg;cases hg;done)
   |simp [vba]at hc
 |a::cs,p,q+1,r',m',i',o,hc,hg=>by
  have ih:=vo6 (r:=r) (m:=m) (i:=i) cs (p+1) q r' m' i' o
  cases a<;>first
   |(simp [vba]at hc;done)
   |(simp only [val,getE]at hg;exact ih (by simpa [vba]using hc) hg)
theorem vps {r m i:Nat}:∀(cs:List AV) (p:Nat) (res:List Nat×Bool),(∀a∈cs,∀q n j o,a = .dw q n j o→q≠r)→van s r m i p cs=some res→∀q r' m' i' o,getE cs q≠.dw r' m' i' o
 |[],p,res,_,_,q,r',m',i',o=>by cases q<;>simp [getE]
 |a::cs,p,res,hd,h,q,r',m',i',o=>by
  have ih:=fun res p=>vps (r:=r) (m:=m) (i:=i) cs p res (fun b hb=>hd b (by simp [hb]))
  have hne:∀q n j o,a≠.dw q n j o:=by
   intro q n j o e0
   subst e0
   simp only [van]at h
   cases hb:(Nat.beq q r&&Nat.beq n m&&Nat.beq o p)with
   |false=>rw [hb]at h;cases h
   |true=>
    rw [Bool.and_eq_true,Bool.and_eq_true]at hb
    exact hd _ (by simp) q n j o rfl (Nat.eq_of_beq_eq_true hb.1.1)
  have hrest:∃res p,van s r m i p cs=some res:=by
   cases a with
   |int k n=>simp only [van]at h;exact⟨_,_,h⟩
   |bool b=>simp only [van]at h;exact⟨_,_,h⟩
   |str b=>simp only [van]at h;exact⟨_,_,h⟩
   |nilS=>
    simp only [van]at h
    split at h
    ·rename_i ids ch h1;exact⟨_,_,h1⟩
    ·cases h
   |dw q n j o=>exact absurd rfl (hne q n j o)
   |own q=>
    simp only [van]at h
    split at h
    ·rename_i e xs hg
     cases hf:e.flat with
     |false=>rw [hf]at h;cases h
     |true=>
      rw [hf]at h
      simp only [cond_true]at h
      split at h
      ·rename_i ids ch h1;exact⟨_,_,h1⟩
      ·cases h
    ·cases h
   |_=>simp [van]at h
  obtain⟨res',p',hr'⟩:=hrest
  cases q with
  |zero=>exact hne _ _ _ _
  |succ q=>exact ih res' p' hr' q r' m' i' o
theorem v3l (inv:Inv X h μ s){a:AV}{new:List AV}{s':St}{v:Value}{ns:List Value}(hst:vin s a new=some s')(hda:vpg s a new=false)(hv:RV h (Im X h μ s) μ s a v)
  (hn:RVs h (Im X h μ s) μ s new ns) :
  ∃b o c el fr,v = .pointer (some ⟨b,o,none⟩)∧h[b]? = some (.cells c el fr)∧vmq c fr∧o+ns.length≤c.size∧
   ∀(h':Heap) (c':Array Value),h'.size=h.size→(∀b',b'≠b→h'[b']? = h[b']?)→h'[b]? = some (.cells c' el fr)→c'.toList=c.toList.take o++ns++c.toList.drop (o+ns.length)→
    ∃μ',Inv X h' μ' s'∧Ext X h μ s h' μ' s'∧∀j,(∀e xs m dd,getR s j = .dep e xs m dd→j∉a.refs)→μ'[j]? = μ[j]?:=by
 unfold vin at hst
 split at hst
 ·rename_i b off
  simp only [RV]at hv
  obtain⟨sl,h1,h2⟩:=hv
  have hreg:=inv.reg b sl h1
  cases hg:getR s b with
  |box l=>
   rw [hg]at hst h2 hreg
   simp only at hst
   obtain⟨_,k,c,el,fr,e1,e2,e3,e4⟩:=hreg
   obtain⟨k',e1',rfl⟩:=h2
   have hkk:k'=k:=by rw [e1]at e1';exact(Option.some.inj e1').symm
   subst hkk
   cases hsp:vlo off new l with
   |none=>rw [hsp]at hst;cases hst
   |some cs'=>
    rw [hsp]at hst
    simp only [Option.some.injEq]at hst
    subst hst
    obtain⟨g1,g2⟩:=vq6 hsp hn e4
    refine⟨k',off,c,el,fr,rfl,e2,e3,by simpa using g2,?_⟩
    intro h' c' p1 p2 p3 p4
    have hsz:c'.size=c.size:=by
     rw [←Array.length_toList,←Array.length_toList,p4]
     simp at g2 ⊢;omega
    have hw:=vsh inv b sl k' (.box cs') h' c' el fr h1 e1 (by rw [hg];trivial) p1 p2 p3 (vdx e3 hsz) (by
     show RVs _ _ _ _ _ _
     rw [p4];exact g1)
    exact⟨μ,hw.1,hw.2,fun _ _=>rfl⟩
  |_=>rw [hg]at hst;cases hst
 ·rename_i r i off
  simp only [RV]at hv
  obtain⟨sl,h1,h2⟩:=hv
  have hreg:=inv.reg r sl h1
  cases hg:getR s r with
  |arr e xs=>
   rw [hg]at hst h2 hreg
   simp only at hst
   obtain⟨hi,k',e1',rfl⟩:=h2
   rcases hreg.2 with⟨h0,_⟩|⟨k,c,el,fr,e1,e2,e3,e4,e5,e6⟩
   ·rw [h0]at e1';cases e1'
   have hkk:k'=k:=by rw [e1]at e1';exact(Option.some.inj e1').symm
   subst hkk
   rw [vgr _ hi]at hst
   cases hsp:vlo off new (e.cells xs[i])with
   |none=>rw [hsp]at hst;cases hst
   |some cs'=>
    rw [hsp]at hst
    simp only at hst
    cases hix:idx r (vc3 new)with
    |some j=>rw [hix]at hst;cases hst
    |none=>
     rw [hix]at hst
     simp only at hst
     cases hd:e.data s cs' with
     |none=>rw [hd]at hst;cases hst
     |some x=>
      rw [hd]at hst
      simp only [Option.some.injEq]at hst
      subst hst
      have hseg:=e6 i hi
      have hcr:=vjq (μ:=μ) (s:=s) e xs[i] _ hseg
      obtain⟨g1,g2⟩:=vq6 hsp hn hcr
      have hseglen:=Rep.length _ _ _ hseg
      rw [hseglen]at g2
      have hcap:i*e.size+e.size≤c.toList.length:=by
       have:(i+1)*e.size≤sl.cap*e.size:=Nat.mul_le_mul_right _ (by omega)
       rw [Nat.add_mul]at this
       simp;omega
      obtain⟨i1,x1⟩:=vp6 (vc3 new) inv
      have hgr:getR (vei s (vc3 new)) r = .arr e xs:=by
       rcases vg0 (vc3 new) s r with q|⟨q,_⟩
       ·exact q.1.trans hg
       ·exact absurd q (vjg hix)
      refine⟨k',i*e.size+off,c,el,fr,rfl,e2,e3,by simp at hcap ⊢;omega,?_⟩
      intro h' c' p1 p2 p3 p4
      have hsz:c'.size=c.size:=by
       rw [←Array.length_toList,←Array.length_toList,p4]
       simp at hcap ⊢;omega
      have hw:=vsh i1 r sl k' (.arr e (xs.set i x)) h' c' el fr h1 e1 (by rw [hgr];exact⟨rfl,by simp⟩) p1 p2 p3 (vdx e3 hsz) (by
       refine⟨by rw [hsz];exact e4,by simpa using e5,?_⟩
       intro j hj
       simp only [List.length_set]at hj
       rw [p4]
       by_cases hij:j=i
       ·subst hij
        rw [vmb (by omega) hcap]
        have hx:(xs.set j x)[j]'(by simpa using hj)=x:=by simp
        rw [hx]
        refine vui inv (fun b hb=>(x1.im b hb).1) hd g1 ?_
        intro q sl' b hq hsl harr hb
        have hq':q∈vc3 new:=by
         rw [v1z]at hq ⊢
         unfold vlo at hsp
         split at hsp
         ·cases hsp
          obtain⟨a0,hq,ha0⟩:=hq
          rw [List.mem_append,List.mem_append]at hq
          rcases hq with(hq|hq)|hq
          ·exact absurd ha0 (vhw _ _ _ _ (List.mem_of_mem_take hq))
          ·exact⟨a0,hq,ha0⟩
          ·exact absurd ha0 (vhw _ _ _ _ (List.mem_of_mem_drop hq))
         ·cases hsp
        exact v6e inv hq' hsl harr hb
       ·rw [vk0 hij (by omega) hcap]
        have hx:(xs.set i x)[j]'(by simpa using hj)=xs[j]:=by
         rw [List.getElem_set_ne (fun e=>hij e.symm)]
        rw [hx]
        exact Rep.mono x1.im _ _ _ (e6 j hj))
      exact⟨μ,hw.1,x1.trans hw.2,fun _ _=>rfl⟩
  |dep e xs m dd=>
   rw [hg]at hst h2
   simp only at hst
   obtain⟨hi,k',e1',rfl⟩:=h2
   rw [vgr _ hi]at hst
   cases hpl:vdt new with
   |true=>
    rw [hpl]at hst
    simp only [cond_true]at hst
    have hdd:hasD dd i=false:=by simpa only [vpg,hg,hpl,cond_true]using hda
    cases hsp:vlo off new (e.cells xs[i])with
    |none=>rw [hsp]at hst;cases hst
    |some cs1=>
     rw [hsp]at hst
     simp only at hst
     cases hd:e.data [] cs1 with
     |none=>rw [hd]at hst;cases hst
     |some x=>
      rw [hd]at hst
      simp only [Option.some.injEq]at hst
      subst hst
      have hle:off+new.length≤(e.cells xs[i]).length∧cs1=(e.cells xs[i]).take off++new++(e.cells xs[i]).drop (off+new.length):=by
       unfold vlo at hsp
       split at hsp
       ·rename_i hle;cases hsp;exact⟨hle,rfl⟩
       ·cases hsp
      obtain⟨hle,hcs1⟩:=hle
      have hlike:vba cs1=true:=by
       rw [hcs1,vhp,vhp,(vr7 _ off (vg6 e xs[i])).1,(vr7 _ _ (vg6 e xs[i])).2,vph _ hpl];rfl
      have hto:(List.take off (e.cells xs[i])).length=off:=by simp;omega
      have hdc:val r m i 0 cs1=(val r m i 0 (e.cells xs[i])).take off++new++(val r m i 0 (e.cells xs[i])).drop (off+new.length):=by
       rw [hcs1,vhl,vhl,v3j,v37 _ _ _ _ _ _ hle,vpa _ _ _ _ _ hpl]
       simp only [List.length_append,hto,Nat.zero_add]
      have hsp':vlo off new (val r m i 0 (e.cells xs[i]))=some (val r m i 0 cs1):=by
       unfold vlo
       rw [if_pos (by rw [vej];exact hle),hdc]
      have htk:=v3g hg hi e 0 cs1 x [] hlike (by
       intro q e1 ys hq
       rw [Nat.zero_add]
       rw [hcs1,viv,viv]at hq
       simp only [List.length_append,hto]at hq
       split at hq
       ·split at hq
        ·rename_i _ h7
         rwa [v7j _ _ _ h7]at hq
        ·exact absurd hq (vth _ _ _ _ hpl)
       ·rename_i h7
        rw [v6y,show off+new.length+(q-(off+new.length))=q by omega]at hq
        exact hq) (wo0 hd)
      have hd':e.data s (val r m i 0 cs1)=some x:=by
       unfold Ty.data
       rw [htk.1]
       rfl
      have hreg0:=inv.reg r sl h1
      rw [hg]at hreg0
      have:=vyr inv (fun _=>i) [i] h1 hg hi (fun t ht=>by simp only [List.mem_singleton]at ht;subst ht;exact⟨hi,hdd⟩) (fun _=>by simp) e1' hn (fun q r' m' i' o hq=>vo6 cs1 0 q r' m' i' o hlike hq)
       (fun c el fr hc=>by
        rcases hreg0 with⟨h0,_⟩|⟨k,c0,el0,fr0,g1,g2,g3,g4,g5,B,g6,g7,g8,g9⟩
        ·rw [h0]at e1';cases e1'
        rw [g1]at e1';cases e1'
        rw [g2]at hc;cases hc
        obtain⟨p1,p2⟩:=vq6 hsp' hn (depCells_rv (I:=Im X h μ s) h1 hg hi hdd g1 g2 (g9 i hi hdd))
        exact⟨p1,by rw [DepEl.length _ _ _ _ (g9 i hi hdd)]at p2;exact p2⟩)
       (vhb (i:=i) cs1 0 hlike) hd' (Nat.le_refl m) (fun h9=>absurd ⟨rfl,fun _=>rfl⟩ h9) (fun t ht=>if e0:t=i then .inl e0 else .inr ⟨by simp [e0],ht⟩) (fun _=>rfl)
      exact this
   |false=>
    rw [hpl]at hst
    simp only [cond_false]at hst
    cases hob:(Nat.beq off 0&&Nat.beq new.length e.size)with
    |false=>rw [hob]at hst;cases hst
    |true=>
     rw [hob]at hst
     simp only [cond_true]at hst
     simp only [Bool.and_eq_true]at hob
     have ho0:=Nat.eq_of_beq_eq_true hob.1
     have hol:=Nat.eq_of_beq_eq_true hob.2
     subst ho0
     have hnl:=vci _ _ hn
     have hp1:∀(c:Array Value) (el:TypeId) (fr:Nat×Nat),h[k']? = some (.cells c el fr)→RVs h (Im X h μ s) μ s new (((c.toList.drop (i*e.size)).take e.size).take 0++ns++((c.toList.drop (i*e.size)).take e.size).drop (0+ns.length))∧0+ns.length≤e.size:=by
      intro c el fr _
      refine⟨?_,by omega⟩
      rw [List.take_zero,List.nil_append,List.drop_of_length_le (by rw [List.length_take];omega),List.append_nil]
      exact hn
     cases hids:van s s.length 0 0 0 new with
     |none=>
      rw [hids]at hst
      simp only at hst
      cases hse:vq5 new with
      |none=>rw [hse]at hst;cases hst
      |some p=>
       obtain⟨r',j⟩:=p
       rw [hse]at hst
       simp only at hst
       cases hid2:van s r m j 0 new with
       |none=>rw [hid2]at hst;cases hst
       |some p=>
        obtain⟨ids,ch⟩:=p
        rw [hid2]at hst
        simp only at hst
        cases hd:e.data s new with
        |none=>rw [hd]at hst;cases hst
        |some x=>
         rw [hd]at hst
         simp only at hst
         cases hbj:Nat.beq r' r with
         |false=>rw [hbj]at hst;cases hst
         |true=>
          rw [hbj]at hst
          simp only [cond_true,Option.some.injEq]at hst
          subst hst
          have hrr:=Nat.eq_of_beq_eq_true hbj
          subst hrr
          have hreg0:=inv.reg r' sl h1
          rw [hg]at hreg0
          rcases hreg0 with⟨h0,_⟩|⟨k0,c0,el0,fr0,g1,g2,_⟩
          ·rw [h0]at e1';cases e1'
          have hok:=vnr (I':=Im X h μ s) h1 hg g1 g2 new 0 ns ids ch hid2 hn
          have hjm:=vx9 new _ _ hse
          exact vyr inv (fun q=>match getE new q with | .dw _ _ i' _=>i'|_=>j) (dwOf new) h1 hg hi hok (fun q=>by
            cases hq:getE new q with
            |dw a b c d=>exact v46 new q a b c d hq
            |_=>exact hjm) e1' hn (fun q r' m' i' o hq=>by simp only [hq]) hp1 hid2 hd (Nat.le_succ m) (fun _=>Nat.lt_succ_self m)
           (fun t ht=>by
            obtain⟨z1,z2⟩:=v41 ht
            rcases vuj z2 with z3|z3
            ·exact .inl z3
            ·exact .inr ⟨z1,z3⟩) (fun e0=>absurd e0 (by omega))
     |some p=>
      obtain⟨ids,ch⟩:=p
      rw [hids]at hst
      simp only at hst
      have hdd:hasD dd i=false:=by simpa only [vpg,hg,hpl,cond_false,hids]using hda
      cases hd:e.data s new with
      |none=>rw [hd]at hst;cases hst
      |some x=>
       rw [hd]at hst
       simp only [Option.some.injEq]at hst
       subst hst
       exact vyr inv (fun _=>i) [i] h1 hg hi (fun t ht=>by simp only [List.mem_singleton]at ht;subst ht;exact⟨hi,hdd⟩) (fun _=>by simp) e1' hn (fun q r' m' i' o hq=>absurd hq (vps new 0 _ (vqf inv new ns hn) hids q r' m' i' o)) hp1
        (v0f (i:=i) new 0 _ (vqf inv new ns hn) hids) hd (Nat.le_succ m) (fun _=>Nat.lt_succ_self m) (fun t ht=>if e0:t=i then .inl e0 else .inr ⟨by simp [e0],ht⟩) (fun e0=>absurd e0 (by omega))
  |_=>rw [hg]at hst;cases hst
 ·cases hst
theorem v71:∀(s:St) (r:Nat) (g:Rg),getR s r=g→r<s.length→setR s r g=s
 |[],r,g,_,h=>by simp at h
 |a::l,0,g,h,_=>by simp only [getR]at h;subst h;rfl
 |a::l,r+1,g,h,hl=>by simp only [getR]at h;simp only [setR,v71 l r g h (by simpa using hl)]
theorem vdv (inv:Inv X h μ s)(sl:Slot):(μ++[sl])[s.length]? = some sl:=by
 rw [←inv.len];simp
theorem vf9 (s:St)(g:Rg):getR (s++[g]) s.length=g:=by simpa [getR]using vcl s [g] 0
end
end Go.VE
