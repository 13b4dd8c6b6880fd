/- Closed forms: native programs in passing style, and how a function is told by one. -/
import Derived.Test.YtaaoeehlfihjdaaGreatU23
namespace Go.VE
set_option linter.unusedVariables false
set_option linter.unusedSimpArgs false
inductive Pat where
 |int (k:IntKind)
 |bool
 |str
 |lst (T:Ty)
 |nilS
 |own (r:Nat)
 |bp (b o:Nat)
 |ep (r o:Nat)
 |win (r:Nat)
 |ip (T:Ty) (o:Nat)
 |dead
 |fn (f:Nat) (l:List Pat)
 |agg (l:List Pat)
 |tup (l:List Pat)
abbrev Pat.i:Pat:=.int .i64
abbrev Ty.i:Ty:=.int .i64
abbrev AV.i (n:Int):AV:=.int .i64 n
inductive RPat where
 |box (l:List Pat)
 |arr (T:Ty)
 |frz (T:Ty)
 |gone
 |dep (T:Ty) (n:Nat)
 |mov (T:Ty) (n:Nat)
mutual
@[reducible] def Pat.H:Pat→Type
 |.int _=>Int
 |.bool=>Bool
 |.str=>ByteArray
 |.lst T=>List T.D
 |.nilS=>Unit
 |.own _=>Unit
 |.bp _ _=>Unit
 |.ep _ _=>Nat
 |.win _=>Nat
 |.ip T _=>T.D
 |.dead=>Unit
 |.fn _ l=>vo1 l
 |.agg l=>vo1 l
 |.tup l=>vo1 l
@[reducible] def vo1:List Pat→Type
 |[]=>Unit
 |p::l=>p.H×vo1 l
end
@[reducible] def RPat.H:RPat→Type
 |.box l=>vo1 l
 |.arr T=>List T.D
 |.frz T=>List T.D
 |.gone=>Unit
 |.dep T _=>List T.D
 |.mov T _=>List T.D×List Nat
@[reducible] def vmp:List RPat→Type
 |[]=>Unit
 |p::l=>p.H×vmp l
mutual
def Pat.enc:(p:Pat)→p.H→AV
 |.int k,n=>.int k n
 |.bool,b=>.bool b
 |.str,b=>.str b
 |.lst T,xs=>.lst T xs
 |.nilS,_=>.nilS
 |.own r,_=>.own r
 |.bp b o,_=>.bp b o
 |.ep r o,i=>.ep r i o
 |.win r,i=>.win r i
 |.ip T o,x=>.ip T x o
 |.dead,_=>.dead
 |.fn f l,h=>.fn f (vg4 l h)
 |.agg l,h=>.agg (vg4 l h)
 |.tup l,h=>.tup (vg4 l h)
def vg4:(l:List Pat)→vo1 l→List AV
 |[],_=>[]
 |p::l,h=>p.enc h.1::vg4 l h.2
end
def RPat.enc:(p:RPat)→p.H→Rg
 |.box l,h=>.box (vg4 l h)
 |.arr T,xs=>.arr T xs
 |.frz T,xs=>.frz T xs
 |.gone,_=>.gone
 |.dep T n,xs=>.dep T xs n []
 |.mov T n,h=>.dep T h.1 n h.2
def vjd:(l:List RPat)→vmp l→St
 |[],_=>[]
 |p::l,h=>p.enc h.1::vjd l h.2
mutual
def Pat.dec:(p:Pat)→AV→Option p.H
 |.int k,.int k' n=>if k'=k then some n else none
 |.bool,.bool b=>some b
 |.str,.str b=>some b
 |.lst T,.lst T' xs=>if h:T'=T then some (vep h xs)else none
 |.nilS,.nilS=>some ()
 |.own r,.own r'=>bif Nat.beq r' r then some ()else none
 |.bp b o,.bp b' o'=>bif Nat.beq b' b&&Nat.beq o' o then some ()else none
 |.ep r o,.ep r' i o'=>bif Nat.beq r' r&&Nat.beq o' o then some i else none
 |.win r,.win r' i=>bif Nat.beq r' r then some i else none
 |.ip T o,.ip T' x o'=>if h:T'=T then bif Nat.beq o' o then some (h▸x)else none else none
 |.dead,.dead=>some ()
 |.fn f l,.fn f' c=>bif Nat.beq f' f then vk6 l c else none
 |.agg l,.agg c=>vk6 l c
 |.tup l,.tup c=>vk6 l c
 |_,_=>none
def vk6:(l:List Pat)→List AV→Option (vo1 l)
 |[],[]=>some ()
 |p::l,v::vs=>match p.dec v with
  |some x=>match vk6 l vs with
   |some y=>some (x,y)
   |none=>none
  |none=>none
 |_,_=>none
end
def RPat.dec:(p:RPat)→Rg→Option p.H
 |.box l,.box c=>vk6 l c
 |.arr T,.arr T' xs=>if h:T'=T then some (vep h xs)else none
 |.frz T,.frz T' xs=>if h:T'=T then some (vep h xs)else none
 |.gone,.gone=>some ()
 |.dep T n,.dep T' xs n' []=>if h:T'=T then bif Nat.beq n' n then some (vep h xs)else none else none
 |.mov T n,.dep T' xs n' dd=>if h:T'=T then bif Nat.beq n' n then some (vep h xs,dd)else none else none
 |_,_=>none
def voy:(l:List RPat)→St→Option (vmp l)
 |[],[]=>some ()
 |p::l,v::vs=>match p.dec v with
  |some x=>match voy l vs with
   |some y=>some (x,y)
   |none=>none
  |none=>none
 |_,_=>none
theorem vml {α:Type}{c:Bool}{x y:α}(h:(bif c then some x else none)=some y):c=true∧x=y:=by
 cases c
 ·cases h
 ·exact⟨rfl,by simpa using h⟩
mutual
theorem Pat.dec_enc:∀(p:Pat) (v:AV) (h:p.H),p.dec v=some h→v=p.enc h
 |.int k,v,h,hd=>by
  cases v<;>simp only [Pat.dec]at hd<;>first|(cases hd;done)|skip
  split at hd
  ·rename_i e;subst e;cases hd;rfl
  ·cases hd
 |.bool,v,h,hd=>by cases v<;>simp only [Pat.dec]at hd<;>first|(cases hd;rfl)|cases hd
 |.str,v,h,hd=>by cases v<;>simp only [Pat.dec]at hd<;>first|(cases hd;rfl)|cases hd
 |.lst T,v,h,hd=>by
  cases v<;>simp only [Pat.dec]at hd<;>first|(cases hd;done)|skip
  split at hd
  ·rename_i e;subst e;cases hd;rfl
  ·cases hd
 |.nilS,v,h,hd=>by cases v<;>simp only [Pat.dec]at hd<;>first|(cases hd;rfl)|cases hd
 |.dead,v,h,hd=>by cases v<;>simp only [Pat.dec]at hd<;>first|(cases hd;rfl)|cases hd
 |.own r,v,h,hd=>by
  cases v<;>simp only [Pat.dec]at hd<;>first|(cases hd;done)|skip
  obtain⟨h1,_⟩:=vml hd
  rw [Nat.eq_of_beq_eq_true h1];rfl
 |.bp b o,v,h,hd=>by
  cases v<;>simp only [Pat.dec]at hd<;>first|(cases hd;done)|skip
  obtain⟨h1,_⟩:=vml hd
  simp only [Bool.and_eq_true]at h1
  rw [Nat.eq_of_beq_eq_true h1.1,Nat.eq_of_beq_eq_true h1.2];rfl
 |.ep b o,v,h,hd=>by
  cases v<;>simp only [Pat.dec]at hd<;>first|(cases hd;done)|skip
  obtain⟨h1,h2⟩:=vml hd
  simp only [Bool.and_eq_true]at h1
  rw [Nat.eq_of_beq_eq_true h1.1,Nat.eq_of_beq_eq_true h1.2,h2];rfl
 |.win b,v,h,hd=>by
  cases v<;>simp only [Pat.dec]at hd<;>first|(cases hd;done)|skip
  obtain⟨h1,h2⟩:=vml hd
  rw [Nat.eq_of_beq_eq_true h1,h2];rfl
 |.ip T o,v,h,hd=>by
  cases v<;>simp only [Pat.dec]at hd<;>first|(cases hd;done)|skip
  split at hd
  ·rename_i e;subst e
   obtain⟨h1,h2⟩:=vml hd
   subst h2
   rw [Nat.eq_of_beq_eq_true h1];rfl
  ·cases hd
 |.fn f l,v,h,hd=>by
  cases v<;>simp only [Pat.dec]at hd<;>first|(cases hd;done)|skip
  rename_i f' c
  cases hb:Nat.beq f' f with
  |true=>
   rw [hb]at hd
   rw [Nat.eq_of_beq_eq_true hb,vft l c h hd];rfl
  |false=>rw [hb]at hd;cases hd
 |.agg l,v,h,hd=>by
  cases v<;>simp only [Pat.dec]at hd<;>first|(cases hd;done)|skip
  rw [vft l _ h hd];rfl
 |.tup l,v,h,hd=>by
  cases v<;>simp only [Pat.dec]at hd<;>first|(cases hd;done)|skip
  rw [vft l _ h hd];rfl
theorem vft:∀(l:List Pat) (vs:List AV) (h:vo1 l),vk6 l vs=some h→vs=vg4 l h
 |[],vs,h,hd=>by cases vs<;>simp only [vk6]at hd<;>first|rfl|cases hd
 |p::l,vs,h,hd=>by
  cases vs with
  |nil=>simp only [vk6]at hd;cases hd
  |cons v vs=>
   simp only [vk6]at hd
   split at hd
   ·rename_i x hx
    split at hd
    ·rename_i y hy
     cases hd
     rw [Pat.dec_enc p v x hx,vft l vs y hy];rfl
    ·cases hd
   ·cases hd
end
theorem RPat.dec_enc:∀(p:RPat) (v:Rg) (h:p.H),p.dec v=some h→v=p.enc h
 |.box l,v,h,hd=>by
  cases v<;>simp only [RPat.dec]at hd<;>first|(cases hd;done)|skip
  rw [vft l _ h hd];rfl
 |.arr T,v,h,hd=>by
  cases v<;>simp only [RPat.dec]at hd<;>first|(cases hd;done)|skip
  split at hd
  ·rename_i e;subst e;cases hd;rfl
  ·cases hd
 |.frz T,v,h,hd=>by
  cases v<;>simp only [RPat.dec]at hd<;>first|(cases hd;done)|skip
  split at hd
  ·rename_i e;subst e;cases hd;rfl
  ·cases hd
 |.gone,v,h,hd=>by cases v<;>simp only [RPat.dec]at hd<;>first|(cases hd;rfl)|cases hd
 |.dep T n,v,h,hd=>by
  cases v<;>first|(simp only [RPat.dec]at hd;cases hd;done)|skip
  rename_i dd
  cases dd<;>simp only [RPat.dec]at hd<;>first|(cases hd;done)|skip
  split at hd
  ·rename_i e;subst e
   obtain⟨h1,h2⟩:=vml hd
   rw [Nat.eq_of_beq_eq_true h1,←h2];rfl
  ·cases hd
 |.mov T n,v,h,hd=>by
  cases v<;>simp only [RPat.dec]at hd<;>first|(cases hd;done)|skip
  split at hd
  ·rename_i e;subst e
   obtain⟨h1,h2⟩:=vml hd
   rw [Nat.eq_of_beq_eq_true h1,←h2];rfl
  ·cases hd
theorem vog:∀(l:List RPat) (vs:St) (h:vmp l),voy l vs=some h→vs=vjd l h
 |[],vs,h,hd=>by cases vs<;>simp only [voy]at hd<;>first|rfl|cases hd
 |p::l,vs,h,hd=>by
  cases vs with
  |nil=>simp only [voy]at hd;cases hd
  |cons v vs=>
   simp only [voy]at hd
   split at hd
   ·rename_i x hx
    split at hd
    ·rename_i y hy
     cases hd
     rw [RPat.dec_enc p v x hx,vog l vs y hy];rfl
    ·cases hd
   ·cases hd
def vae (ps:List Pat)(rs:List RPat)(args:List AV)(st:St)(F:vo1 ps→vmp rs→Option Res)(e:Option Res):Option Res:=
 match vk6 ps args with
 |some h=>match voy rs st with
  |some g=>F h g
  |none=>e
 |none=>e
theorem vam {ps:List Pat}{rs:List RPat}{args:List AV}{st:St}{F:vo1 ps→vmp rs→Option Res}{e:Option Res}{r:Res}(h:vae ps rs args st F e=some r) :
  (∃p q,args=vg4 ps p∧st=vjd rs q)∨e=some r:=by
 unfold vae at h
 split at h
 ·rename_i p hp
  split at h
  ·rename_i q hq
   exact .inl ⟨p,q,vft _ _ _ hp,vog _ _ _ hq⟩
  ·exact .inr h
 ·exact .inr h
theorem vc1 {ps:List Pat}{rs:List RPat}{args:List AV}{st:St}{F:vo1 ps→vmp rs→Option Res}{e:Option Res}{r:Res}(h:vae ps rs args st F e=some r) :
  (∃p q,args=vg4 ps p∧st=vjd rs q∧F p q=some r)∨e=some r:=by
 unfold vae at h
 split at h
 ·rename_i p hp
  split at h
  ·rename_i q hq
   exact .inl ⟨p,q,vft _ _ _ hp,vog _ _ _ hq,h⟩
  ·exact .inr h
 ·exact .inr h
def Par {α:Type}(F:(α→Option Res)→Option Res):Prop:=∀k r,F k=some r→∃y,k y=some r∧∀k',F k'=k' y
section
variable {α β γ:Type}
theorem vag (y:α):Par fun k=>k y:=fun k r h=>⟨y,h,fun _=>rfl⟩
theorem va5:Par fun(_:α→Option Res)=>none:=fun k r h=>by cases h
theorem var {c:Bool}{F G:(α→Option Res)→Option Res}(hF:Par F)(hG:Par G):Par fun k=>bif c then F k else G k:=by
 cases c
 ·exact hG
 ·exact hF
theorem vc9 {c:Prop} [Decidable c]{F G:(α→Option Res)→Option Res}(hF:Par F)(hG:Par G):Par fun k=>if c then F k else G k:=by
 intro k r h
 by_cases hc:c
 ·simp only [hc,if_true]at h ⊢;exact hF k r h
 ·simp only [hc,if_false]at h ⊢;exact hG k r h
theorem Par.bind {F:(β→Option Res)→Option Res}(hF:Par F){H:β→(α→Option Res)→Option Res}(hH:∀v,Par (H v)):Par fun k=>F fun v=>H v k:=by
 intro k r h
 obtain⟨v,h1,h2⟩:=hF _ _ h
 obtain⟨y,h3,h4⟩:=hH v _ _ h1
 exact⟨y,h3,fun k'=>(h2 _).trans (h4 k')⟩
theorem Par.bind2 {F:(β⊕γ→Option Res)→Option Res}(hF:Par F){H:β→(α→Option Res)→Option Res}{H':γ→(α→Option Res)→Option Res}(hH:∀v,Par (H v))(hH':∀v,Par (H' v)) :
  Par fun k=>F (Sum.elim (fun v=>H v k) fun v=>H' v k):=by
 intro k r h
 obtain⟨v,h1,h2⟩:=hF _ _ h
 cases v with
 |inl v=>obtain⟨y,h3,h4⟩:=hH v _ _ h1;exact⟨y,h3,fun k'=>(h2 _).trans (h4 k')⟩
 |inr v=>obtain⟨y,h3,h4⟩:=hH' v _ _ h1;exact⟨y,h3,fun k'=>(h2 _).trans (h4 k')⟩
theorem Par.map {F:(β→Option Res)→Option Res}(hF:Par F)(f:β→α):Par fun k=>F fun v=>k (f v):=hF.bind fun v=>vag (f v)
theorem Par.map2 {F:(β⊕γ→Option Res)→Option Res}(hF:Par F)(f:β→α)(g:γ→α):Par fun k=>F (Sum.elim (fun v=>k (f v)) fun v=>k (g v)):=
 hF.bind2 (fun v=>vag (f v)) fun v=>vag (g v)
theorem wtf {H:β→(α→Option Res)→Option Res}{H':γ→(α→Option Res)→Option Res}(hH:∀v,Par (H v))(hH':∀v,Par (H' v))(s:β⊕γ) :
  Par fun k=>Sum.elim (fun v=>H v k) (fun v=>H' v k) s:=by
 cases s with
 |inl v=>exact hH v
 |inr v=>exact hH' v
def vad (body:β→(β⊕γ→Option Res)→Option Res):Nat→β→(γ→Option Res)→Option Res
 |0,_,_=>none
 |n+1,x,k=>body x (Sum.elim (fun y=>vad body n y k) k)
theorem vew {body:β→(β⊕γ→Option Res)→Option Res}(hb:∀x,Par (body x)):∀(n:Nat) (x:β),Par (vad body n x)
 |0,_=>va5
 |n+1,x=>(hb x).bind2 (fun y=>vew hb n y) (fun z=>vag z)
class ParC (F:(α→Option Res)→Option Res):Prop where
 p:Par F
instance (y:α):ParC fun k=>k y:=⟨vag y⟩
instance:ParC fun(_:α→Option Res)=>none:=⟨va5⟩
instance {c:Bool}{F G:(α→Option Res)→Option Res} [hF:ParC F] [hG:ParC G]:ParC fun k=>bif c then F k else G k:=⟨var hF.p hG.p⟩
instance {c:Prop} [Decidable c]{F G:(α→Option Res)→Option Res} [hF:ParC F] [hG:ParC G]:ParC fun k=>if c then F k else G k:=⟨vc9 hF.p hG.p⟩
instance {F:(β→Option Res)→Option Res} [hF:ParC F]{H:β→(α→Option Res)→Option Res} [hH:∀v,ParC (H v)]:ParC fun k=>F fun v=>H v k:=⟨hF.p.bind fun v=>(hH v).p⟩
instance (s:β⊕γ){H:β→(α→Option Res)→Option Res}{H':γ→(α→Option Res)→Option Res} [hH:∀v,ParC (H v)] [hH':∀v,ParC (H' v)]:ParC fun k=>Sum.elim (fun v=>H v k) (fun v=>H' v k) s:=⟨wtf (fun v=>(hH v).p) (fun v=>(hH' v).p) s⟩
instance {F:(β⊕γ→Option Res)→Option Res} [hF:ParC F]{H:β→(α→Option Res)→Option Res}{H':γ→(α→Option Res)→Option Res} [hH:∀v,ParC (H v)] [hH':∀v,ParC (H' v)]:ParC fun k=>F (Sum.elim (fun v=>H v k) fun v=>H' v k):=⟨hF.p.bind2 (fun v=>(hH v).p) fun v=>(hH' v).p⟩
instance {body:β→(β⊕γ→Option Res)→Option Res} [hb:∀x,ParC (body x)](n:Nat)(x:β):ParC (vad body n x):=⟨vew (fun x=>(hb x).p) n x⟩
theorem wnn:∃n:Nat,18446744073709551616≤n:=⟨_,Nat.le_refl _⟩
noncomputable def Fuel:Nat:=Classical.choose wnn
theorem vfl:18446744073709551616≤Fuel:=Classical.choose_spec wnn
theorem v7v {G:Glob}{F:Fx}{keep:List Nat}{wide:List (Option Ty)}{b:Code}{body:β→(β⊕γ→Option Res)→Option Res}(hb:∀x,Par (body x))(vals:β→List AV)(st:β→St)
  (ends:γ→Out×List AV×St) (hne:∀z,(ends z).1≠.norm)
  (hx:∀x,exec G F b (vo2 F keep wide) (vh2 (vgy F.nt) keep (vals x)) (st x)=body x (Sum.elim (fun y=>some ⟨.norm,vals y,st y⟩) fun z=>some ⟨(ends z).1,(ends z).2.1,(ends z).2.2⟩)) :
  ∀(n:Nat) (x:β) (k:Out→List AV→St→Option Res) (r:Res),vad body n x (fun z=>k (ends z).1 (ends z).2.1 (ends z).2.2)=some r→
   ∃m o vs st',LoopRuns G F keep wide b m (vals x) (st x) o vs st'∧k o vs st'=some r
 |0,x,k,r,h=>by cases h
 |n+1,x,k,r,h=>by
  obtain⟨y,h1,h2⟩:=hb x _ _ h
  have h3:=(hx x).trans (h2 _)
  cases y with
  |inl y=>
   obtain⟨m,o,vs,st',g1,g2⟩:=v7v hb vals st ends hne hx n y k r h1
   exact⟨m+1,o,vs,st',.more h3 g1,g2⟩
  |inr z=>exact⟨1,_,_,_,.stop h3 (hne z),h1⟩
def Glob.add (G:Glob)(f:Nat)(g:List AV→St→K1→Option Res):Glob:=
 { G with call:=fun f'=>bif Nat.beq f f' then g else G.call f' }
theorem GlobOk.add {P:Program}{G:Glob}(h:GlobOk P G){f:Nat}{g:List AV→St→K1→Option Res}(he:w1v P f)(hc:vab P f g):GlobOk P (G.add f g) where
 tys:=⟨h.tys.ty,h.tys.fld,h.tys.bld⟩
 call:=fun f'=>by
  simp only [Glob.add]
  cases hb:Nat.beq f f' with
  |true=>
   have:=Nat.eq_of_beq_eq_true hb
   subst this
   exact .inr ⟨he,hc⟩
  |false=>exact h.call f'
 eqs:=h.eqs
 ones:=h.ones
def Glob.shallow (G:Glob):Glob:={ G with deep:=false }
theorem GlobOk.shallow {P:Program}{G:Glob}(h:GlobOk P G):GlobOk P G.shallow where
 tys:=⟨h.tys.ty,h.tys.fld,h.tys.bld⟩
 call:=h.call
 eqs:=h.eqs
 ones:=h.ones
theorem told {P:Program}{G:Glob}(hG:GlobOk P G)(hm:P.follows .mixedOrders=true){f:FuncId}{fn:Func}{c:Code}(hf:P.funcs[f]? = some fn)(hb:fn.body=some c){g:List AV→St→K1→Option Res}
  (hg:∀args s k r,g args s k=some r→∃loops:Nat→Option LoopSpec,(Par fun k:AV×St→Option Res=>g args s fun v s'=>k (v,s'))∧
   v6h G loops fn args s=g args s (fun v s'=>some ⟨.ret,[v],s'⟩)∧ve9 G ⟨s.length,args.length+(fn.ntmps-args.length),loops⟩ c):vab P f g:=by
 refine v3w hG hm hf hb fun args s k r hk=>?_
 obtain⟨loops,h1,h2,h3⟩:=hg args s k r hk
 obtain⟨⟨v,s'⟩,h4,h5⟩:=h1 (fun p=>k p.1 p.2) r hk
 exact⟨loops,v,s',h4,h2.trans (h5 fun p=>some ⟨.ret,[p.1],p.2⟩),h3⟩
theorem vaz {P:Program}{G:Glob}(hG:GlobOk P G)(hm:P.follows .mixedOrders=true){f:FuncId}{fn:Func}(c:Code)(hf:P.funcs[f]? = some fn)(hb:fn.body=some c){ps:List Pat}{rs:List RPat}{F:vo1 ps→vmp rs→K1→Option Res}
  (hg:∀p q,∃loops:Nat→Option LoopSpec,(Par fun k:AV×St→Option Res=>F p q fun v s'=>k (v,s'))∧
   v6h G loops fn (vg4 ps p) (vjd rs q)=F p q (fun v s'=>some ⟨.ret,[v],s'⟩)∧ve9 G ⟨(vjd rs q).length,(vg4 ps p).length+(fn.ntmps-(vg4 ps p).length),loops⟩ c) :
  vab P f (fun args st k=>vae ps rs args st (fun p q=>F p q k) none):=by
 refine v3w hG hm hf hb fun args s k r hk=>?_
 rcases vc1 hk with⟨p,q,rfl,rfl,h⟩|h
 ·obtain⟨loops,h1,h2,h3⟩:=hg p q
  obtain⟨⟨v,s'⟩,h4,h5⟩:=h1 (fun p=>k p.1 p.2) r h
  exact⟨loops,v,s',h4,h2.trans (h5 fun p=>some ⟨.ret,[p.1],p.2⟩),h3⟩
 ·cases h
theorem vfc {P:Program}{G:Glob}(hG:GlobOk P G)(hm:P.follows .mixedOrders=true){f:FuncId}{fn:Func}{c:Code}(hf:P.funcs[f]? = some fn)(hb:fn.body=some c){g g0:List AV→St→K1→Option Res}(h0:vab P f g0)
  (hg:∀args s k r,g args s k=some r→(∃loops:Nat→Option LoopSpec,(Par fun k:AV×St→Option Res=>g args s fun v s'=>k (v,s'))∧
   v6h G loops fn args s=g args s (fun v s'=>some ⟨.ret,[v],s'⟩)∧ve9 G ⟨s.length,args.length+(fn.ntmps-args.length),loops⟩ c)∨g0 args s k=some r):vab P f g:=by
 intro args s k r hk
 rcases hg args s k r hk with⟨loops,h1,h2,h3⟩|hk0
 ·classical
  have hc:vab P f (fun args' s' k'=>if args'=args∧s'=s then g args s k' else none):=by
   refine v3w hG hm hf hb fun args' s' k' r' hk'=>?_
   by_cases he:args'=args∧s'=s
   ·rw [if_pos he]at hk'
    obtain⟨rfl,rfl⟩:=he
    obtain⟨⟨v,s'⟩,h4,h5⟩:=h1 (fun p=>k' p.1 p.2) r' hk'
    exact⟨loops,v,s',h4,h2.trans (h5 fun p=>some ⟨.ret,[p.1],p.2⟩),h3⟩
   ·rw [if_neg he]at hk';cases hk'
  exact hc args s k r (by show (if args=args∧s=s then g args s k else none)=some r;rw [if_pos ⟨rfl,rfl⟩];exact hk)
 ·exact h0 args s k r hk0
end
noncomputable def shut {α:Type}(a:α):α:=Classical.choose (⟨a,rfl⟩:∃g,g=a)
theorem vac {α:Type}(a:α):shut a=a:=Classical.choose_spec (⟨a,rfl⟩:∃g,g=a)
end Go.VE
