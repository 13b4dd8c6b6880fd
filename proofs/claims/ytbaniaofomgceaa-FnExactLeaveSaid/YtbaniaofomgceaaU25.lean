/- Loops found in code; a loop told by a native body, once more. -/
import Derived.Test.YtbaniaofomgceaaU24
import Derived.Laws.StructEq
namespace Go.VE
set_option linter.unusedVariables false
def veb:Code→List (Nat×Code)
 |.seq a b=>(vh7 b,b)::(veb a++veb b)
 |.cond _ a b=>veb a++veb b
 |.block id (.loop b)=>(id,b)::veb b
 |.block _ c=>veb c
 |_=>[]
def vkq:List (Nat×Code)→Nat→Code
 |[],_=>.skip
 |(i,b)::l,j=>bif Nat.beq i j then b else vkq l j
def vc1 (fn:Func)(id:Nat):Code:=vkq (veb (fn.body.getD .skip)) id
def wii (i:Nat):Bool:=Nat.ble 4000000 i
def OkAt (G:Glob)(F:Fx)(i:Nat)(b:Code):Prop:=
 ∀sp,F.loops i=some sp→match wii i with
  |true=>v8m G F sp b
  |false=>vzu G F sp b
def AllL (G:Glob)(F:Fx):List (Nat×Code)→Prop
 |[]=>True
 |(i,b)::l=>OkAt G F i b∧AllL G F l
theorem AllL.left {G:Glob}{F:Fx}:∀{a b:List (Nat×Code)},AllL G F (a++b)→AllL G F a
 |[],_,_=>trivial
 |_::_,_,h=>⟨h.1,AllL.left h.2⟩
theorem AllL.right {G:Glob}{F:Fx}:∀{a b:List (Nat×Code)},AllL G F (a++b)→AllL G F b
 |[],_,h=>h
 |_::_,_,h=>AllL.right h.2
def vdr:Code→Bool
 |.seq a b=>wii (vh7 b)&&(vdr a&&vdr b)
 |.cond _ a b=>vdr a&&vdr b
 |.block id (.loop b)=>!wii id&&vdr b
 |.block _ c=>vdr c
 |_=>true
theorem vb7 {G:Glob}{F:Fx}:∀(c:Code),vdr c=true→AllL G F (veb c)→vcw G F c
 |.seq a b,hl,h=>by
  simp only [vdr,Bool.and_eq_true]at hl
  refine⟨vb7 a hl.2.1 (AllL.left h.2),vb7 b hl.2.2 (AllL.right h.2),fun sp hsp=>?_⟩
  have:=h.1 sp hsp
  rw [hl.1]at this
  exact this
 |.cond _ a b,hl,h=>by
  simp only [vdr,Bool.and_eq_true]at hl
  exact⟨vb7 a hl.1 (AllL.left h),vb7 b hl.2 (AllL.right h)⟩
 |.block id (.loop b),hl,h=>by
  simp only [vdr,Bool.and_eq_true,Bool.not_eq_true']at hl
  refine⟨fun sp hsp=>?_,vb7 b hl.2 h.2⟩
  have:=h.1 sp hsp
  rw [hl.1]at this
  exact this
 |.block _ .skip,_,_=>trivial
 |.block _ (.region _ _ _),_,_=>trivial
 |.block _ (.seq a b),hl,h=>vb7 (.seq a b) hl h
 |.block _ (.cond c a b),hl,h=>vb7 (.cond c a b) hl h
 |.block _ (.block i a),hl,h=>vb7 (.block i a) hl h
 |.block _ (.rangeFunc _ _ _ _),_,_=>trivial
 |.block _ (.exit _),_,_=>trivial
 |.block _ (.scope _),_,_=>trivial
 |.block _ (.label _),_,_=>trivial
 |.block _ (.goto _),_,_=>trivial
 |.block _ .ret,_,_=>trivial
 |.block _ (.refuse _),_,_=>trivial
 |.skip,_,_=>trivial
 |.region _ _ _,_,_=>trivial
 |.loop _,_,_=>trivial
 |.rangeFunc _ _ _ _,_,_=>trivial
 |.exit _,_,_=>trivial
 |.scope _,_,_=>trivial
 |.label _,_,_=>trivial
 |.goto _,_,_=>trivial
 |.ret,_,_=>trivial
 |.refuse _,_,_=>trivial
def vrz (i:Nat):List (Nat×Code)→Nat
 |[]=>0
 |(j,_)::l=>bif Nat.beq j i then vrz i l+1 else vrz i l
def v4u (F:Fx)(ids:List Nat)(l:List (Nat×Code)):Bool:=
 l.all fun p=>match F.loops p.1 with
  |none=>true
  |some _=>ids.any (Nat.beq p.1)&&Nat.beq (vrz p.1 l) 1
theorem vm6:∀{l:List (Nat×Code)} {i:Nat} {b:Code},vrz i l=1→(i,b)∈l→vkq l i=b
 |(j,c)::l,i,b,hc,hm=>by
  simp only [vrz]at hc
  simp only [List.mem_cons,Prod.mk.injEq]at hm
  simp only [vkq]
  cases hj:Nat.beq j i with
  |true=>
   rw [hj]at hc
   simp only [cond_true]at hc ⊢
   rcases hm with⟨_,h⟩|hm
   ·exact h.symm
   ·exfalso
    have:∀(l:List (Nat×Code)),(i,b)∈l→vrz i l≠0:=by
     intro l
     induction l with
     |nil=>intro h;simp at h
     |cons p l ih=>
      intro h
      obtain⟨j',c'⟩:=p
      simp only [List.mem_cons,Prod.mk.injEq]at h
      simp only [vrz]
      rcases h with⟨h,_⟩|h
      ·subst h;simp
      ·have:=ih h
       cases Nat.beq j' i<;>simp [this]
    exact this l hm (by omega)
  |false=>
   rw [hj]at hc
   simp only [cond_false]at hc ⊢
   rcases hm with⟨h,_⟩|hm
   ·subst h;simp at hj
   ·exact vm6 hc hm
def AllAt (G:Glob)(F:Fx)(c:Code):List Nat→Prop
 |[]=>True
 |i::l=>OkAt G F i (vkq (veb c) i)∧AllAt G F c l
theorem AllAt.get {G:Glob}{F:Fx}{c:Code}:∀{l:List Nat},AllAt G F c l→∀i∈l,OkAt G F i (vkq (veb c) i)
 |a::l,h,i,hi=>by
  simp only [List.mem_cons]at hi
  rcases hi with rfl|hi
  ·exact h.1
  ·exact AllAt.get h.2 i hi
theorem vab {G:Glob}{F:Fx}{c:Code}{ids:List Nat}(h1:vdr c=true)(h2:v4u F ids (veb c)=true)(ha:AllAt G F c ids):vcw G F c:=by
 refine vb7 c h1 ?_
 have key:∀l:List (Nat×Code),(∀p∈l,p∈veb c)→AllL G F l:=by
  intro l
  induction l with
  |nil=>intro _;trivial
  |cons p l ih=>
   intro hp
   obtain⟨i,b⟩:=p
   refine⟨fun sp hsp=>?_,ih fun q hq=>hp q (by simp [hq])⟩
   have hmem:=hp (i,b) (by simp)
   have h3:=h2
   simp only [v4u,List.all_eq_true]at h3
   have h4:=h3 _ hmem
   simp only [hsp,Bool.and_eq_true,List.any_eq_true]at h4
   obtain⟨⟨j,hj1,hj2⟩,h5⟩:=h4
   have hj:i=j:=Nat.eq_of_beq_eq_true hj2
   subst hj
   have:=ha.get i hj1 sp hsp
   rw [vm6 (Nat.eq_of_beq_eq_true h5) hmem]at this
   exact this
 exact key _ fun p hp=>hp
theorem vmu {β γ:Type}{G:Glob}{F:Fx}{keep:List Nat}{wide:List (Option Ty)}{b:Code}{body:β→(γ→Option Res)→Option Res}(hb:∀x,Par (body x))(vals:β→List AV)(st:β→St)
  (ends:γ→Out×List AV×St)
  (hx:∀x,exec G F b (vku F keep wide) (vej (vds F.nt) keep (vals x)) (st x)=body x (fun z=>some ⟨(ends z).1,(ends z).2.1,(ends z).2.2⟩))
  (x:β) (K:γ→Option Res) (k:Out→List AV→St→Option Res) (r:Res) (hK:∀z,K z=k (ends z).1 (ends z).2.1 (ends z).2.2) (h:body x K=some r) :
   ∃o vs st',exec G F b (vku F keep wide) (vej (vds F.nt) keep (vals x)) (st x)=some ⟨o,vs,st'⟩∧k o vs st'=some r:=by
 obtain⟨y,h1,h2⟩:=hb x _ _ h
 exact⟨_,_,_,(hx x).trans (h2 _),(hK y)▸h1⟩
theorem vg2 {β γ:Type}{G:Glob}{F:Fx}{keep:List Nat}{wide:List (Option Ty)}{b:Code}{body:β→(β⊕γ→Option Res)→Option Res}(hb:∀x,Par (body x))(vals:β→List AV)(st:β→St)
  (ends:γ→Out×List AV×St) (hne:∀z,(ends z).1≠.norm)
  (hx:∀x,exec G F b (vku F keep wide) (vej (vds F.nt) keep (vals x)) (st x)=body x (Sum.elim (fun y=>some ⟨.norm,vals y,st y⟩) fun z=>some ⟨(ends z).1,(ends z).2.1,(ends z).2.2⟩))
  (n:Nat) (x:β) (K:γ→Option Res) (k:Out→List AV→St→Option Res) (r:Res) (hK:∀z,K z=k (ends z).1 (ends z).2.1 (ends z).2.2) (h:vac body n x K=some r) :
   ∃m o vs st',LoopRuns G F keep wide b m (vals x) (st x) o vs st'∧k o vs st'=some r:=
 vzq hb vals st ends hne hx n x k r (by rw [←h];congr;funext z;exact(hK z).symm)
def exZ {β:Type}(o:Out)(v:β→List AV)(s:β→St):β→Out×List AV×St:=fun z=>(o,v z,s z)
def onE {γ:Type}(E:γ→Out×List AV×St)(k:Out→List AV→St→Option Res):γ→Option Res:=fun z=>k (E z).1 (E z).2.1 (E z).2.2
noncomputable def lpS {β γ:Type}(keep:List Nat)(wide:List (Option Ty))(ps:List Pat)(rs:List RPat)(body:β→(β⊕γ→Option Res)→Option Res)(tup:vkv ps→vh8 rs→β)(K:(Out→List AV→St→Option Res)→γ→Option Res):LoopSpec:=
 ⟨keep,wide,fun vs s k=>vaf ps rs vs s (fun p q=>vac body Fuel (tup p q) (K k)) none⟩
def ctS {β γ:Type}(keep:List Nat)(wide:List (Option Ty))(ps:List Pat)(rs:List RPat)(body:β→(γ→Option Res)→Option Res)(tup:vkv ps→vh8 rs→β)(K:(Out→List AV→St→Option Res)→γ→Option Res):LoopSpec:=
 ⟨keep,wide,fun vs s k=>vaf ps rs vs s (fun p q=>body (tup p q) (K k)) none⟩
def LpAt (G:Glob)(F:Fx)(f:Func)(id:Nat):Prop:=∀sp,F.loops id=some sp→vzu G F sp (vc1 f id)
def CtAt (G:Glob)(F:Fx)(f:Func)(id:Nat):Prop:=∀sp,F.loops id=some sp→v8m G F sp (vc1 f id)
theorem vau {β γ:Type}{G:Glob}{F:Fx}{f:Func}{id:Nat}{keep:List Nat}{wide:List (Option Ty)}{ps:List Pat}{rs:List RPat}{body:β→(β⊕γ→Option Res)→Option Res}{tup:vkv ps→vh8 rs→β}{K:(Out→List AV→St→Option Res)→γ→Option Res}
  (hl:F.loops id=some (lpS keep wide ps rs body tup K)) (hb:∀x,Par (body x)) (vals:β→List AV) (st:β→St) (ends:γ→Out×List AV×St)
  (henc:∀p q,vdw ps p=vals (tup p q)∧vfq rs q=st (tup p q)) (hne:∀z,(ends z).1≠.norm) (hK:∀k z,K k z=k (ends z).1 (ends z).2.1 (ends z).2.2)
  (hx:∀x,exec G F (vc1 f id) (vku F keep wide) (vej (vds F.nt) keep (vals x)) (st x)=body x (Sum.elim (fun y=>some ⟨.norm,vals y,st y⟩) fun z=>some ⟨(ends z).1,(ends z).2.1,(ends z).2.2⟩)):LpAt G F f id:=by
 intro sp hsp vs s k r h
 rw [hl]at hsp
 cases hsp
 dsimp only [lpS]at h
 rcases vbw h with⟨p,q,rfl,rfl,h9⟩|h9
 ·obtain⟨h1,h2⟩:=henc p q
  rw [h1,h2]
  exact vg2 hb vals st ends hne hx Fuel (tup p q) _ k r (hK k) h9
 ·cases h9
theorem vin {β γ:Type}{G:Glob}{F:Fx}{f:Func}{id:Nat}{keep:List Nat}{wide:List (Option Ty)}{ps:List Pat}{rs:List RPat}{body:β→(γ→Option Res)→Option Res}{tup:vkv ps→vh8 rs→β}{K:(Out→List AV→St→Option Res)→γ→Option Res}
  (hl:F.loops id=some (ctS keep wide ps rs body tup K)) (hb:∀x,Par (body x)) (vals:β→List AV) (st:β→St) (ends:γ→Out×List AV×St)
  (henc:∀p q,vdw ps p=vals (tup p q)∧vfq rs q=st (tup p q)) (hK:∀k z,K k z=k (ends z).1 (ends z).2.1 (ends z).2.2)
  (hx:∀x,exec G F (vc1 f id) (vku F keep wide) (vej (vds F.nt) keep (vals x)) (st x)=body x (fun z=>some ⟨(ends z).1,(ends z).2.1,(ends z).2.2⟩)):CtAt G F f id:=by
 intro sp hsp vs s k r h
 rw [hl]at hsp
 cases hsp
 dsimp only [ctS]at h
 rcases vbw h with⟨p,q,rfl,rfl,h9⟩|h9
 ·obtain⟨h1,h2⟩:=henc p q
  rw [h1,h2]
  exact vmu hb vals st ends hx (tup p q) _ k r (hK k) h9
 ·cases h9
def wia:Ty→Bool
 |.int _=>true
 |.bool=>true
 |.str=>true
 |_=>false
def v66 (P:Program)(t:TypeId):Ty→Bool
 |.int k=>match P.underlying t with|some (.int k')=>k==k'|_=>false
 |.bool=>match P.underlying t with|some .bool=>true|_=>false
 |.str=>match P.underlying t with|some .string=>true|_=>false
 |_=>false
def vk6 (P:Program):List Field→Ty→Nat→Bool
 | [f], T, off => wia T && (f.name != "_") && (f.offset == off) && v66 P f.type T
 | f :: fs, .pair A B, off => wia A && (f.name != "_") && (f.offset == off) && v66 P f.type A && vk6 P fs B (off + 1)
 |_,_,_=>false
def v7q (P:Program)(t:TypeId)(T:Ty):Bool:=
 (!P.eqGuardType P.depth t)&&(!P.stoodInHeld t)&&(match P.underlying t with
  |some (.struct fs)=>vk6 P fs.toList T 0
  |_=>false)
theorem wf7 {P:Program}{w:World}{d:Nat}{f:Field}{A:Ty}{a b:A.D}{xs ys:Array Value}{pre prey post posty:List Value}(hb:wia A=true)(hu:v66 P f.type A=true)
  (hx:xs.toList=pre++(vff A a++post)) (hy:ys.toList=prey++(vff A b++posty)) (ho:f.offset=pre.length) (ho':f.offset=prey.length) :
  ∃u v,(part f.type xs f.offset).run P w = .ok u w∧(part f.type ys f.offset).run P w = .ok v w∧(Op.equalIn (d+1) f.type u v).run P w = .ok (A.eqB a b) w:=by
 have hxs:∀u,vff A a=[u]→xs[f.offset]? = some u:=fun u h=>by
  rw [←Array.getElem?_toList,hx,ho,h,List.getElem?_append_right (Nat.le_refl _)];simp
 have hys:∀u,vff A b=[u]→ys[f.offset]? = some u:=fun u h=>by
  rw [←Array.getElem?_toList,hy,ho',h,List.getElem?_append_right (Nat.le_refl _)];simp
 cases A with
 |int k=>
  simp only [v66]at hu
  split at hu
  ·rename_i k' hund
   simp only [beq_iff_eq]at hu
   subst hu
   exact⟨.int k a,.int k b,by simp [part,isAgg,run_underlying hund,hxs _ rfl],by simp [part,isAgg,run_underlying hund,hys _ rfl],run_equalIn_int w d f.type _ _ _ _ hund⟩
  ·cases hu
 |bool=>
  simp only [v66]at hu
  split at hu
  ·rename_i hund
   exact⟨.bool a,.bool b,by simp [part,isAgg,run_underlying hund,hxs _ rfl],by simp [part,isAgg,run_underlying hund,hys _ rfl],run_equalIn_bool' w d f.type _ _ hund⟩
  ·cases hu
 |str=>
  simp only [v66]at hu
  split at hu
  ·rename_i hund
   exact⟨.string a,.string b,by simp [part,isAgg,run_underlying hund,hxs _ rfl],by simp [part,isAgg,run_underlying hund,hys _ rfl],by rw [Ty.eqB,vmg];exact run_equalIn_string w d f.type _ _ hund⟩
  ·cases hu
 |pair _ _=>cases hb
 |slice _=>cases hb
theorem v07 {P:Program}{w:World}{d:Nat}:∀(fs:List Field) (T:Ty) (off:Nat) (x y:T.D) (xs ys:Array Value) (pre prey:List Value),vk6 P fs T off=true→
  xs.toList=pre++vff T x→ys.toList=prey++vff T y→pre.length=off→prey.length=off→(Op.eqFields (d+1) xs ys fs).run P w = .ok (T.eqB x y) w:=by
 intro fs
 induction fs with
 |nil=>intro T off x y xs ys pre prey h;simp [vk6]at h
 |cons f fs ih=>
  intro T off x y xs ys pre prey h hx hy hp hp'
  cases fs with
  |nil=>
   simp only [vk6,Bool.and_eq_true,beq_iff_eq,bne_iff_ne]at h
   obtain⟨⟨⟨h1,h2⟩,h3⟩,h4⟩:=h
   obtain⟨u,v,g1,g2,g3⟩:=wf7 (w:=w) (d:=d) (A:=T) (a:=x) (b:=y) (post:=[]) (posty:=[]) h1 h4 (by simpa using hx) (by simpa using hy) (by omega) (by omega)
   simp only [Op.eqFields,if_pos h2,Sem.run_bind,g1,g2,g3,Result.andThen_ok]
   cases T.eqB x y<;>simp
  |cons f' fs=>
   cases T with
   |pair A B=>
    simp only [vk6,Bool.and_eq_true,beq_iff_eq,bne_iff_ne]at h
    obtain⟨⟨⟨⟨h1,h2⟩,h3⟩,h4⟩,h5⟩:=h
    simp only [vff]at hx hy
    obtain⟨u,v,g1,g2,g3⟩:=wf7 (w:=w) (d:=d) (A:=A) (a:=x.1) (b:=y.1) h1 h4 hx hy (by omega) (by omega)
    have hone:∀z:A.D,(vff A z).length=1:=fun z=>by cases A<;>first|rfl|cases h1
    have hr:=ih B (off+1) x.2 y.2 xs ys (pre++vff A x.1) (prey++vff A y.1) h5 (by rw [hx,List.append_assoc]) (by rw [hy,List.append_assoc]) (by simp [hone,hp]) (by simp [hone,hp'])
    rw [Op.eqFields]
    simp only [if_pos h2,Sem.run_bind,g1,g2,g3,Result.andThen_ok,Ty.eqB]
    cases A.eqB x.1 y.1
    ·simp
    ·simpa using hr
   |int _=>simp [vk6]at h
   |bool=>simp [vk6]at h
   |str=>simp [vk6]at h
   |slice _=>simp [vk6]at h
theorem we1 {P:Program}{t:TypeId}{T:Ty}(h:v7q P t T=true):EqT P t T:=by
 simp only [v7q,Bool.and_eq_true,Bool.not_eq_true']at h
 obtain⟨⟨h1,h2⟩,h3⟩:=h
 split at h3
 ·rename_i fs hu
  refine⟨h1,fun w x y=>?_⟩
  have hf:P.fieldsOf t=fs:=by simp [Program.fieldsOf,hu]
  unfold Op.equal
  rw [show Op.maxDepth=9998+1+1 from rfl,run_equalIn_struct (P:=P) w (9998+1) t _ _ (by rw [hf];exact hu) h2,hf]
  exact v07 fs.toList T 0 x y _ _ [] [] h3 (by simp) (by simp) rfl rfl
 ·cases h3
def eqOf (eqs:List (Nat×Ty))(t:Nat):Bool:=
 match eqs with
 |[]=>false
 |(u,_)::l=>Nat.beq u t||eqOf l t
def memN (l:List Nat)(t:Nat):Bool:=
 match l with
 |[]=>false
 |u::l=>Nat.beq u t||memN l t
def wkj (tab:List TInfo)(eqs:List (Nat×Ty))(inp ones:List Nat):Glob:={ eqt:=eqOf eqs,ty:=vrm tab,fld:=vol tab,call:=fun _ _ _ _=>none,deep:=true,inPlace:=memN inp,one:=memN ones }
def vwl (P:Program)(t:TypeId):Bool:=
 (match P.underlying t with
  |some (.pointer _)=>true
  |some (.func _ _ _)=>true
  |_=>false)&&(match P.info? t with
  |some i=>(i.size==1)&&(match i.zero with
   |some .nilFunc=>true
   |some (.pointer none)=>true
   |_=>false)
  |none=>false)
theorem v6o {P:Program}{t:TypeId}(h:vwl P t=true):wa6 P t:=by
 simp only [vwl,Bool.and_eq_true]at h
 obtain⟨h1,h2⟩:=h
 split at h2
 ·rename_i i hi
  simp only [Bool.and_eq_true,beq_iff_eq]at h2
  obtain⟨h3,h4⟩:=h2
  refine⟨fun w=>?_,fun w=>by simp [sizeOf,typeInfo,hi,h3],?_⟩
  ·split at h1
   ·rename_i hu;simp [isAgg,run_underlying hu]
   ·rename_i hu;simp [isAgg,run_underlying hu]
   ·cases h1
  ·split at h4
   ·rename_i hz;exact⟨.nilFunc,rfl,fun w=>by simp [zeroValue,typeInfo,hi,hz]⟩
   ·rename_i hz;exact⟨.pointer none,rfl,fun w=>by simp [zeroValue,typeInfo,hi,hz]⟩
   ·cases h4
 ·cases h2
theorem v36:∀{l:List Nat} {t:Nat},memN l t=true→t∈l
 |[],_,h=>by cases h
 |u::l,t,h=>by
  simp only [memN,Bool.or_eq_true]at h
  rcases h with h|h
  ·rw [Nat.eq_of_beq_eq_true h];simp
  ·exact List.mem_cons_of_mem _ (v36 h)
def vy3 (tab:List TInfo):List (Nat×Ty)→Bool
 |[]=>true
 |(u,T)::l=>(match vrm tab u with
  |some (true,T')=>decide (T'=T)
  |_=>false)&&vy3 tab l
theorem v7x {P:Program}{tab:List TInfo}:∀{eqs:List (Nat×Ty)},eqs.all (fun p=>v7q P p.1 p.2)=true→vy3 tab eqs=true→∀t T,eqOf eqs t=true→vrm tab t=some (true,T)→EqT P t T
 |[],_,_,t,T,h,_=>by cases h
 |(u,U)::l,ha,hf,t,T,h,ht=>by
  simp only [List.all_cons,Bool.and_eq_true]at ha
  simp only [vy3,Bool.and_eq_true]at hf
  simp only [eqOf,Bool.or_eq_true]at h
  rcases h with h|h
  ·have:=Nat.eq_of_beq_eq_true h
   subst this
   rw [ht]at hf
   simp only [decide_eq_true_eq]at hf
   rw [hf.1]
   exact we1 ha.1
  ·exact v7x ha.2 hf.2 t T h ht
theorem wct {P:Program}{tab:List TInfo}{eqs:List (Nat×Ty)}{inp ones:List Nat}(h:tab.all (vx7 P)=true)(he:eqs.all (fun p=>v7q P p.1 p.2)=true)(hf:vy3 tab eqs=true)(ho:ones.all (vwl P)=true):GlobOk P (wkj tab eqs inp ones) where
 tys:=wjq h rfl rfl
 call:=fun _=>.inl fun _ _ _=>rfl
 eqs:=fun t T h1 h2 _=>v7x he hf t T h1 h2
 ones:=fun t ht=>v6o (List.all_eq_true.1 ho t (v36 ht))
end Go.VE
