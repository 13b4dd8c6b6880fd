/- Loops found in code; a loop told by a native body, once more. -/
import Derived.Test.YtaaoeehlfihjdaaGreatU24
import Derived.Laws.StructEq
namespace Go.VE
set_option linter.unusedVariables false
def vhs:Code→List (Nat×Code)
 |.seq a b=>(vmo b,b)::(vhs a++vhs b)
 |.cond _ a b=>vhs a++vhs b
 |.block id (.loop b)=>(id,b)::vhs b
 |.block _ c=>vhs c
 |_=>[]
def vow:List (Nat×Code)→Nat→Code
 |[],_=>.skip
 |(i,b)::l,j=>bif Nat.beq i j then b else vow l j
def vfk (fn:Func)(id:Nat):Code:=vow (vhs (fn.body.getD .skip)) id
def wxd (i:Nat):Bool:=Nat.ble 4000000 i
def OkAt (G:Glob)(F:Fx)(i:Nat)(b:Code):Prop:=
 ∀sp,F.loops i=some sp→match wxd i with
  |true=>wxl G F sp b
  |false=>vvj G F sp b
def AllL (G:Glob)(F:Fx):List (Nat×Code)→Prop
 |[]=>True
 |(i,b)::l=>OkAt G F i b∧AllL G F l
theorem AllL.left {G:Glob}{F:Fx}:∀{a b:List (Nat×Code)},AllL G F (a++b)→AllL G F a
 |[],_,_=>trivial
 |_::_,_,h=>⟨h.1,AllL.left h.2⟩
theorem AllL.right {G:Glob}{F:Fx}:∀{a b:List (Nat×Code)},AllL G F (a++b)→AllL G F b
 |[],_,h=>h
 |_::_,_,h=>AllL.right h.2
def vgd:Code→Bool
 |.seq a b=>wxd (vmo b)&&(vgd a&&vgd b)
 |.cond _ a b=>vgd a&&vgd b
 |.block id (.loop b)=>!wxd id&&vgd b
 |.block _ c=>vgd c
 |_=>true
theorem vd2 {G:Glob}{F:Fx}:∀(c:Code),vgd c=true→AllL G F (vhs c)→ve9 G F c
 |.seq a b,hl,h=>by
  simp only [vgd,Bool.and_eq_true]at hl
  refine⟨vd2 a hl.2.1 (AllL.left h.2),vd2 b hl.2.2 (AllL.right h.2),fun sp hsp=>?_⟩
  have:=h.1 sp hsp
  rw [hl.1]at this
  exact this
 |.cond _ a b,hl,h=>by
  simp only [vgd,Bool.and_eq_true]at hl
  exact⟨vd2 a hl.1 (AllL.left h),vd2 b hl.2 (AllL.right h)⟩
 |.block id (.loop b),hl,h=>by
  simp only [vgd,Bool.and_eq_true,Bool.not_eq_true']at hl
  refine⟨fun sp hsp=>?_,vd2 b hl.2 h.2⟩
  have:=h.1 sp hsp
  rw [hl.1]at this
  exact this
 |.block _ .skip,_,_=>trivial
 |.block _ (.region _ _ _),_,_=>trivial
 |.block _ (.seq a b),hl,h=>vd2 (.seq a b) hl h
 |.block _ (.cond c a b),hl,h=>vd2 (.cond c a b) hl h
 |.block _ (.block i a),hl,h=>vd2 (.block i a) hl h
 |.block _ (.rangeFunc _ _ _ _),_,_=>trivial
 |.block _ (.exit _),_,_=>trivial
 |.block _ (.scope _),_,_=>trivial
 |.block _ (.label _),_,_=>trivial
 |.block _ (.goto _),_,_=>trivial
 |.block _ .ret,_,_=>trivial
 |.block _ (.refuse _),_,_=>trivial
 |.skip,_,_=>trivial
 |.region _ _ _,_,_=>trivial
 |.loop _,_,_=>trivial
 |.rangeFunc _ _ _ _,_,_=>trivial
 |.exit _,_,_=>trivial
 |.scope _,_,_=>trivial
 |.label _,_,_=>trivial
 |.goto _,_,_=>trivial
 |.ret,_,_=>trivial
 |.refuse _,_,_=>trivial
def vu4 (i:Nat):List (Nat×Code)→Nat
 |[]=>0
 |(j,_)::l=>bif Nat.beq j i then vu4 i l+1 else vu4 i l
def wbv (F:Fx)(ids:List Nat)(l:List (Nat×Code)):Bool:=
 l.all fun p=>match F.loops p.1 with
  |none=>true
  |some _=>ids.any (Nat.beq p.1)&&Nat.beq (vu4 p.1 l) 1
theorem vro:∀{l:List (Nat×Code)} {i:Nat} {b:Code},vu4 i l=1→(i,b)∈l→vow l i=b
 |(j,c)::l,i,b,hc,hm=>by
  simp only [vu4]at hc
  simp only [List.mem_cons,Prod.mk.injEq]at hm
  simp only [vow]
  cases hj:Nat.beq j i with
  |true=>
   rw [hj]at hc
   simp only [cond_true]at hc ⊢
   rcases hm with⟨_,h⟩|hm
   ·exact h.symm
   ·exfalso
    have:∀(l:List (Nat×Code)),(i,b)∈l→vu4 i l≠0:=by
     intro l
     induction l with
     |nil=>intro h;simp at h
     |cons p l ih=>
      intro h
      obtain⟨j',c'⟩:=p
      simp only [List.mem_cons,Prod.mk.injEq]at h
      simp only [vu4]
      rcases h with⟨h,_⟩|h
      ·subst h;simp
      ·have:=ih h
       cases Nat.beq j' i<;>simp [this]
    exact this l hm (by omega)
  |false=>
   rw [hj]at hc
   simp only [cond_false]at hc ⊢
   rcases hm with⟨h,_⟩|hm
   ·subst h;simp at hj
   ·exact vro hc hm
def AllAt (G:Glob)(F:Fx)(c:Code):List Nat→Prop
 |[]=>True
 |i::l=>OkAt G F i (vow (vhs c) i)∧AllAt G F c l
theorem AllAt.get {G:Glob}{F:Fx}{c:Code}:∀{l:List Nat},AllAt G F c l→∀i∈l,OkAt G F i (vow (vhs c) i)
 |a::l,h,i,hi=>by
  simp only [List.mem_cons]at hi
  rcases hi with rfl|hi
  ·exact h.1
  ·exact AllAt.get h.2 i hi
theorem vaa {G:Glob}{F:Fx}{c:Code}{ids:List Nat}(h1:vgd c=true)(h2:wbv F ids (vhs c)=true)(ha:AllAt G F c ids):ve9 G F c:=by
 refine vd2 c h1 ?_
 have key:∀l:List (Nat×Code),(∀p∈l,p∈vhs c)→AllL G F l:=by
  intro l
  induction l with
  |nil=>intro _;trivial
  |cons p l ih=>
   intro hp
   obtain⟨i,b⟩:=p
   refine⟨fun sp hsp=>?_,ih fun q hq=>hp q (by simp [hq])⟩
   have hmem:=hp (i,b) (by simp)
   have h3:=h2
   simp only [wbv,List.all_eq_true]at h3
   have h4:=h3 _ hmem
   simp only [hsp,Bool.and_eq_true,List.any_eq_true]at h4
   obtain⟨⟨j,hj1,hj2⟩,h5⟩:=h4
   have hj:i=j:=Nat.eq_of_beq_eq_true hj2
   subst hj
   have:=ha.get i hj1 sp hsp
   rw [vro (Nat.eq_of_beq_eq_true h5) hmem]at this
   exact this
 exact key _ fun p hp=>hp
theorem wr0 {β γ:Type}{G:Glob}{F:Fx}{keep:List Nat}{wide:List (Option Ty)}{b:Code}{body:β→(γ→Option Res)→Option Res}(hb:∀x,Par (body x))(vals:β→List AV)(st:β→St)
  (ends:γ→Out×List AV×St)
  (hx:∀x,exec G F b (vo2 F keep wide) (vh2 (vgy F.nt) keep (vals x)) (st x)=body x (fun z=>some ⟨(ends z).1,(ends z).2.1,(ends z).2.2⟩))
  (x:β) (K:γ→Option Res) (k:Out→List AV→St→Option Res) (r:Res) (hK:∀z,K z=k (ends z).1 (ends z).2.1 (ends z).2.2) (h:body x K=some r) :
   ∃o vs st',exec G F b (vo2 F keep wide) (vh2 (vgy F.nt) keep (vals x)) (st x)=some ⟨o,vs,st'⟩∧k o vs st'=some r:=by
 obtain⟨y,h1,h2⟩:=hb x _ _ h
 exact⟨_,_,_,(hx x).trans (h2 _),(hK y)▸h1⟩
theorem veq {β γ:Type}{G:Glob}{F:Fx}{keep:List Nat}{wide:List (Option Ty)}{b:Code}{body:β→(β⊕γ→Option Res)→Option Res}(hb:∀x,Par (body x))(vals:β→List AV)(st:β→St)
  (ends:γ→Out×List AV×St) (hne:∀z,(ends z).1≠.norm)
  (hx:∀x,exec G F b (vo2 F keep wide) (vh2 (vgy F.nt) keep (vals x)) (st x)=body x (Sum.elim (fun y=>some ⟨.norm,vals y,st y⟩) fun z=>some ⟨(ends z).1,(ends z).2.1,(ends z).2.2⟩))
  (n:Nat) (x:β) (K:γ→Option Res) (k:Out→List AV→St→Option Res) (r:Res) (hK:∀z,K z=k (ends z).1 (ends z).2.1 (ends z).2.2) (h:vad body n x K=some r) :
   ∃m o vs st',LoopRuns G F keep wide b m (vals x) (st x) o vs st'∧k o vs st'=some r:=
 v7v hb vals st ends hne hx n x k r (by rw [←h];congr;funext z;exact(hK z).symm)
def exZ {β:Type}(o:Out)(v:β→List AV)(s:β→St):β→Out×List AV×St:=fun z=>(o,v z,s z)
def onE {γ:Type}(E:γ→Out×List AV×St)(k:Out→List AV→St→Option Res):γ→Option Res:=fun z=>k (E z).1 (E z).2.1 (E z).2.2
noncomputable def lpS {β γ:Type}(keep:List Nat)(wide:List (Option Ty))(ps:List Pat)(rs:List RPat)(body:β→(β⊕γ→Option Res)→Option Res)(tup:vo1 ps→vmp rs→β)(K:(Out→List AV→St→Option Res)→γ→Option Res):LoopSpec:=
 ⟨keep,wide,fun vs s k=>vae ps rs vs s (fun p q=>vad body Fuel (tup p q) (K k)) none⟩
def ctS {β γ:Type}(keep:List Nat)(wide:List (Option Ty))(ps:List Pat)(rs:List RPat)(body:β→(γ→Option Res)→Option Res)(tup:vo1 ps→vmp rs→β)(K:(Out→List AV→St→Option Res)→γ→Option Res):LoopSpec:=
 ⟨keep,wide,fun vs s k=>vae ps rs vs s (fun p q=>body (tup p q) (K k)) none⟩
def LpAt (G:Glob)(F:Fx)(f:Func)(id:Nat):Prop:=∀sp,F.loops id=some sp→vvj G F sp (vfk f id)
def CtAt (G:Glob)(F:Fx)(f:Func)(id:Nat):Prop:=∀sp,F.loops id=some sp→wxl G F sp (vfk f id)
theorem va2 {β γ:Type}{G:Glob}{F:Fx}{f:Func}{id:Nat}{keep:List Nat}{wide:List (Option Ty)}{ps:List Pat}{rs:List RPat}{body:β→(β⊕γ→Option Res)→Option Res}{tup:vo1 ps→vmp rs→β}{K:(Out→List AV→St→Option Res)→γ→Option Res}
  (hl:F.loops id=some (lpS keep wide ps rs body tup K)) (hb:∀x,Par (body x)) (vals:β→List AV) (st:β→St) (ends:γ→Out×List AV×St)
  (henc:∀p q,vg4 ps p=vals (tup p q)∧vjd rs q=st (tup p q)) (hne:∀z,(ends z).1≠.norm) (hK:∀k z,K k z=k (ends z).1 (ends z).2.1 (ends z).2.2)
  (hx:∀x,exec G F (vfk f id) (vo2 F keep wide) (vh2 (vgy F.nt) keep (vals x)) (st x)=body x (Sum.elim (fun y=>some ⟨.norm,vals y,st y⟩) fun z=>some ⟨(ends z).1,(ends z).2.1,(ends z).2.2⟩)):LpAt G F f id:=by
 intro sp hsp vs s k r h
 rw [hl]at hsp
 cases hsp
 dsimp only [lpS]at h
 rcases vc1 h with⟨p,q,rfl,rfl,h9⟩|h9
 ·obtain⟨h1,h2⟩:=henc p q
  rw [h1,h2]
  exact veq hb vals st ends hne hx Fuel (tup p q) _ k r (hK k) h9
 ·cases h9
theorem vgt {β γ:Type}{G:Glob}{F:Fx}{f:Func}{id:Nat}{keep:List Nat}{wide:List (Option Ty)}{ps:List Pat}{rs:List RPat}{body:β→(γ→Option Res)→Option Res}{tup:vo1 ps→vmp rs→β}{K:(Out→List AV→St→Option Res)→γ→Option Res}
  (hl:F.loops id=some (ctS keep wide ps rs body tup K)) (hb:∀x,Par (body x)) (vals:β→List AV) (st:β→St) (ends:γ→Out×List AV×St)
  (henc:∀p q,vg4 ps p=vals (tup p q)∧vjd rs q=st (tup p q)) (hK:∀k z,K k z=k (ends z).1 (ends z).2.1 (ends z).2.2)
  (hx:∀x,exec G F (vfk f id) (vo2 F keep wide) (vh2 (vgy F.nt) keep (vals x)) (st x)=body x (fun z=>some ⟨(ends z).1,(ends z).2.1,(ends z).2.2⟩)):CtAt G F f id:=by
 intro sp hsp vs s k r h
 rw [hl]at hsp
 cases hsp
 dsimp only [ctS]at h
 rcases vc1 h with⟨p,q,rfl,rfl,h9⟩|h9
 ·obtain⟨h1,h2⟩:=henc p q
  rw [h1,h2]
  exact wr0 hb vals st ends hx (tup p q) _ k r (hK k) h9
 ·cases h9
def wy1:Ty→Bool
 |.int _=>true
 |.bool=>true
 |.str=>true
 |_=>false
def wht (P:Program)(t:TypeId):Ty→Bool
 |.int k=>match P.underlying t with|some (.int k')=>k==k'|_=>false
 |.bool=>match P.underlying t with|some .bool=>true|_=>false
 |.str=>match P.underlying t with|some .string=>true|_=>false
 |_=>false
def vpb (P:Program):List Field→Ty→Nat→Bool
 | [f], T, off => wy1 T && (f.name != "_") && (f.offset == off) && wht P f.type T
 | f :: fs, .pair A B, off => wy1 A && (f.name != "_") && (f.offset == off) && wht P f.type A && vpb P fs B (off + 1)
 |_,_,_=>false
def wk6 (P:Program)(t:TypeId)(T:Ty):Bool:=
 (!P.eqGuardType P.depth t)&&(!P.stoodInHeld t)&&(match P.underlying t with
  |some (.struct fs)=>vpb P fs.toList T 0
  |_=>false)
theorem wuv {P:Program}{w:World}{d:Nat}{f:Field}{A:Ty}{a b:A.D}{xs ys:Array Value}{pre prey post posty:List Value}(hb:wy1 A=true)(hu:wht P f.type A=true)
  (hx:xs.toList=pre++(vi2 A a++post)) (hy:ys.toList=prey++(vi2 A b++posty)) (ho:f.offset=pre.length) (ho':f.offset=prey.length) :
  ∃u v,(part f.type xs f.offset).run P w = .ok u w∧(part f.type ys f.offset).run P w = .ok v w∧(Op.equalIn (d+1) f.type u v).run P w = .ok (A.eqB a b) w:=by
 have hxs:∀u,vi2 A a=[u]→xs[f.offset]? = some u:=fun u h=>by
  rw [←Array.getElem?_toList,hx,ho,h,List.getElem?_append_right (Nat.le_refl _)];simp
 have hys:∀u,vi2 A b=[u]→ys[f.offset]? = some u:=fun u h=>by
  rw [←Array.getElem?_toList,hy,ho',h,List.getElem?_append_right (Nat.le_refl _)];simp
 cases A with
 |int k=>
  simp only [wht]at hu
  split at hu
  ·rename_i k' hund
   simp only [beq_iff_eq]at hu
   subst hu
   exact⟨.int k a,.int k b,by simp [part,isAgg,run_underlying hund,hxs _ rfl],by simp [part,isAgg,run_underlying hund,hys _ rfl],run_equalIn_int w d f.type _ _ _ _ hund⟩
  ·cases hu
 |bool=>
  simp only [wht]at hu
  split at hu
  ·rename_i hund
   exact⟨.bool a,.bool b,by simp [part,isAgg,run_underlying hund,hxs _ rfl],by simp [part,isAgg,run_underlying hund,hys _ rfl],run_equalIn_bool' w d f.type _ _ hund⟩
  ·cases hu
 |str=>
  simp only [wht]at hu
  split at hu
  ·rename_i hund
   exact⟨.string a,.string b,by simp [part,isAgg,run_underlying hund,hxs _ rfl],by simp [part,isAgg,run_underlying hund,hys _ rfl],by rw [Ty.eqB,vh1];exact run_equalIn_string w d f.type _ _ hund⟩
  ·cases hu
 |pair _ _=>cases hb
 |slice _=>cases hb
theorem v8p {P:Program}{w:World}{d:Nat}:∀(fs:List Field) (T:Ty) (off:Nat) (x y:T.D) (xs ys:Array Value) (pre prey:List Value),vpb P fs T off=true→
  xs.toList=pre++vi2 T x→ys.toList=prey++vi2 T y→pre.length=off→prey.length=off→(Op.eqFields (d+1) xs ys fs).run P w = .ok (T.eqB x y) w:=by
 intro fs
 induction fs with
 |nil=>intro T off x y xs ys pre prey h;simp [vpb]at h
 |cons f fs ih=>
  intro T off x y xs ys pre prey h hx hy hp hp'
  cases fs with
  |nil=>
   simp only [vpb,Bool.and_eq_true,beq_iff_eq,bne_iff_ne]at h
   obtain⟨⟨⟨h1,h2⟩,h3⟩,h4⟩:=h
   obtain⟨u,v,g1,g2,g3⟩:=wuv (w:=w) (d:=d) (A:=T) (a:=x) (b:=y) (post:=[]) (posty:=[]) h1 h4 (by simpa using hx) (by simpa using hy) (by omega) (by omega)
   simp only [Op.eqFields,if_pos h2,Sem.run_bind,g1,g2,g3,Result.andThen_ok]
   cases T.eqB x y<;>simp
  |cons f' fs=>
   cases T with
   |pair A B=>
    simp only [vpb,Bool.and_eq_true,beq_iff_eq,bne_iff_ne]at h
    obtain⟨⟨⟨⟨h1,h2⟩,h3⟩,h4⟩,h5⟩:=h
    simp only [vi2]at hx hy
    obtain⟨u,v,g1,g2,g3⟩:=wuv (w:=w) (d:=d) (A:=A) (a:=x.1) (b:=y.1) h1 h4 hx hy (by omega) (by omega)
    have hone:∀z:A.D,(vi2 A z).length=1:=fun z=>by cases A<;>first|rfl|cases h1
    have hr:=ih B (off+1) x.2 y.2 xs ys (pre++vi2 A x.1) (prey++vi2 A y.1) h5 (by rw [hx,List.append_assoc]) (by rw [hy,List.append_assoc]) (by simp [hone,hp]) (by simp [hone,hp'])
    rw [Op.eqFields]
    simp only [if_pos h2,Sem.run_bind,g1,g2,g3,Result.andThen_ok,Ty.eqB]
    cases A.eqB x.1 y.1
    ·simp
    ·simpa using hr
   |int _=>simp [vpb]at h
   |bool=>simp [vpb]at h
   |str=>simp [vpb]at h
   |slice _=>simp [vpb]at h
theorem wrw {P:Program}{t:TypeId}{T:Ty}(h:wk6 P t T=true):EqT P t T:=by
 simp only [wk6,Bool.and_eq_true,Bool.not_eq_true']at h
 obtain⟨⟨h1,h2⟩,h3⟩:=h
 split at h3
 ·rename_i fs hu
  refine⟨h1,fun w x y=>?_⟩
  have hf:P.fieldsOf t=fs:=by simp [Program.fieldsOf,hu]
  unfold Op.equal
  rw [show Op.maxDepth=9998+1+1 from rfl,run_equalIn_struct (P:=P) w (9998+1) t _ _ (by rw [hf];exact hu) h2,hf]
  exact v8p fs.toList T 0 x y _ _ [] [] h3 (by simp) (by simp) rfl rfl
 ·cases h3
def eqOf (eqs:List (Nat×Ty))(t:Nat):Bool:=
 match eqs with
 |[]=>false
 |(u,_)::l=>Nat.beq u t||eqOf l t
def memN (l:List Nat)(t:Nat):Bool:=
 match l with
 |[]=>false
 |u::l=>Nat.beq u t||memN l t
def w0l (tab:List TInfo)(eqs:List (Nat×Ty))(inp ones:List Nat):Glob:={ eqt:=eqOf eqs,ty:=vwi tab,fld:=vt2 tab,call:=fun _ _ _ _=>none,deep:=true,inPlace:=memN inp,one:=memN ones }
def v4w (P:Program)(t:TypeId):Bool:=
 (match P.underlying t with
  |some (.pointer _)=>true
  |some (.func _ _ _)=>true
  |_=>false)&&(match P.info? t with
  |some i=>(i.size==1)&&(match i.zero with
   |some .nilFunc=>true
   |some (.pointer none)=>true
   |_=>false)
  |none=>false)
theorem whe {P:Program}{t:TypeId}(h:v4w P t=true):wjf P t:=by
 simp only [v4w,Bool.and_eq_true]at h
 obtain⟨h1,h2⟩:=h
 split at h2
 ·rename_i i hi
  simp only [Bool.and_eq_true,beq_iff_eq]at h2
  obtain⟨h3,h4⟩:=h2
  refine⟨fun w=>?_,fun w=>by simp [sizeOf,typeInfo,hi,h3],?_⟩
  ·split at h1
   ·rename_i hu;simp [isAgg,run_underlying hu]
   ·rename_i hu;simp [isAgg,run_underlying hu]
   ·cases h1
  ·split at h4
   ·rename_i hz;exact⟨.nilFunc,rfl,fun w=>by simp [zeroValue,typeInfo,hi,hz]⟩
   ·rename_i hz;exact⟨.pointer none,rfl,fun w=>by simp [zeroValue,typeInfo,hi,hz]⟩
   ·cases h4
 ·cases h2
theorem wcg:∀{l:List Nat} {t:Nat},memN l t=true→t∈l
 |[],_,h=>by cases h
 |u::l,t,h=>by
  simp only [memN,Bool.or_eq_true]at h
  rcases h with h|h
  ·rw [Nat.eq_of_beq_eq_true h];simp
  ·exact List.mem_cons_of_mem _ (wcg h)
def v6m (tab:List TInfo):List (Nat×Ty)→Bool
 |[]=>true
 |(u,T)::l=>(match vwi tab u with
  |some (true,T')=>decide (T'=T)
  |_=>false)&&v6m tab l
theorem wow {P:Program}{tab:List TInfo}:∀{eqs:List (Nat×Ty)},eqs.all (fun p=>wk6 P p.1 p.2)=true→v6m tab eqs=true→∀t T,eqOf eqs t=true→vwi tab t=some (true,T)→EqT P t T
 |[],_,_,t,T,h,_=>by cases h
 |(u,U)::l,ha,hf,t,T,h,ht=>by
  simp only [List.all_cons,Bool.and_eq_true]at ha
  simp only [v6m,Bool.and_eq_true]at hf
  simp only [eqOf,Bool.or_eq_true]at h
  rcases h with h|h
  ·have:=Nat.eq_of_beq_eq_true h
   subst this
   rw [ht]at hf
   simp only [decide_eq_true_eq]at hf
   rw [hf.1]
   exact wrw ha.1
  ·exact wow ha.2 hf.2 t T h ht
theorem wsq {P:Program}{tab:List TInfo}{eqs:List (Nat×Ty)}{inp ones:List Nat}(h:tab.all (v8a P)=true)(he:eqs.all (fun p=>wk6 P p.1 p.2)=true)(hf:v6m tab eqs=true)(ho:ones.all (v4w P)=true):GlobOk P (w0l tab eqs inp ones) where
 tys:=w0c h rfl rfl
 call:=fun _=>.inl fun _ _ _=>rfl
 eqs:=fun t T h1 h2 _=>wow he hf t T h1 h2
 ones:=fun t ht=>whe (List.all_eq_true.1 ho t (wcg ht))
end Go.VE
