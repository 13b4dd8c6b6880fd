/- The abstract interpreter: regions, code, functions. -/
import Derived.Test.YtaaoeehlfihjdaaGreatU17
import Derived.OrdersHeld
import Derived.LoopN
namespace Go.VE
set_option linter.unusedVariables false
noncomputable section
def wd0:List Nat→List Nat→Bool
 |[],_=>true
 |r::l,m=>(idx r m).isSome&&wd0 l m
def w0w (s:St)(r:Nat):Bool:=
 match getR s r with
 |.box _=>true
 |_=>false
def wig (s:St)(r:Nat):Bool:=(getR s r).isDep
def wr3 (o:Op)(s:St)(tch:List Nat):Bool:=(!vsc o||tch.all (w0w s))&&(!wjs o||tch.all fun r=>!wig s r)
def wlk (wr:List Nat)(s s':St):Bool:=
 match wr with
 |[]=>true
 |_=>(List.range s.length).all (fun r=>(idx r wr).isSome||(!(getR s r).live||(getR s' r).live))&&(wr.all fun r=>Nat.ble (r+1) s.length||(Nat.ble s'.length r||(getR s' r).live))&&(List.range s.length).all (fun r=>(idx r wr).isSome||(!wig s r||wig s' r))
def op1 (G:Glob)(chk:Option (List Nat))(o:Op)(e:Env)(s:St)(k:K1):Option Res:=
 match chk with
 |some wr=>bif wd0 (vv0 G o e s) wr&&wr3 o s (vv0 G o e s)then v34 G o e s (fun v s'=>bif wlk wr s s' then k v s' else none)else none
 |none=>v34 G o e s k
def vl4:Nat→(Nat→Option Res)→Option Res
 |0,k=>k 0
 |n+1,k=>vl4 n fun m=>k (m+1)
mutual
def vgs:AV→(AV→Option Res)→Option Res
 |.int i n,k=>k (.int i n)
 |.bool b,k=>k (.bool b)
 |.str s,k=>k (.str s)
 |.lst e xs,k=>k (.lst e xs)
 |.nilS,k=>k .nilS
 |.own r,k=>vl4 r fun r=>k (.own r)
 |.bp b o,k=>vl4 b fun b=>vl4 o fun o=>k (.bp b o)
 |.ep r i o,k=>vl4 r fun r=>vl4 o fun o=>k (.ep r i o)
 |.win r lo,k=>vl4 r fun r=>k (.win r lo)
 |.dw r n i off,k=>vl4 r fun r=>vl4 n fun n=>k (.dw r n i off)
 |.ip T x o,k=>vl4 o fun o=>k (.ip T x o)
 |.fn f caps,k=>vln caps fun caps=>k (.fn f caps)
 |.agg cs,k=>vln cs fun cs=>k (.agg cs)
 |.tup vs,k=>vln vs fun vs=>k (.tup vs)
 |.dead,k=>k .dead
def vln:List AV→(List AV→Option Res)→Option Res
 |[],k=>k []
 |a::l,k=>vgs a fun a=>vln l fun l=>k (a::l)
end
def wth:Rg→(Rg→Option Res)→Option Res
 |.box cs,k=>vln cs fun cs=>k (.box cs)
 |.arr e xs,k=>k (.arr e xs)
 |.frz e xs,k=>k (.frz e xs)
 |.gone,k=>k .gone
 |.dep e xs n dd,k=>vl4 n fun n=>k (.dep e xs n dd)
def wdl:St→(St→Option Res)→Option Res
 |[],k=>k []
 |g::s,k=>wth g fun g=>wdl s fun s=>k (g::s)
theorem vgp:∀(n:Nat) (k:Nat→Option Res),vl4 n k=k n
 |0,k=>rfl
 |n+1,k=>by simp only [vl4,vgp n]
mutual
theorem wql:∀(v:AV) (k:AV→Option Res),vgs v k=k v
 |.int _ _,_=>by simp only [vgs]
 |.bool _,_=>by simp only [vgs]
 |.str _,_=>by simp only [vgs]
 |.lst _ _,_=>by simp only [vgs]
 |.nilS,_=>by simp only [vgs]
 |.own _,_=>by simp only [vgs,vgp]
 |.bp _ _,_=>by simp only [vgs,vgp]
 |.ep _ _ _,_=>by simp only [vgs,vgp]
 |.win _ _,_=>by simp only [vgs,vgp]
 |.dw _ _ _ _,_=>by simp only [vgs,vgp]
 |.ip _ _ _,_=>by simp only [vgs,vgp]
 |.fn _ caps,_=>by simp only [vgs,vd8 caps]
 |.agg cs,_=>by simp only [vgs,vd8 cs]
 |.tup vs,_=>by simp only [vgs,vd8 vs]
 |.dead,_=>by simp only [vgs]
theorem vd8:∀(l:List AV) (k:List AV→Option Res),vln l k=k l
 |[],_=>by simp only [vln]
 |a::l,_=>by simp only [vln,wql a,vd8 l]
end
theorem wu4 (g:Rg)(k:Rg→Option Res):wth g k=k g:=by
 cases g<;>simp only [wth,vd8,vgp]
theorem wew:∀(s:St) (k:St→Option Res),wdl s k=k s
 |[],_=>by simp only [wdl]
 |g::s,_=>by simp only [wdl,wu4 g,wew s]
def vvf (G:Glob)(chk:Option (List Nat))(all:List Oper)(o:Oper)(k:Env→St→Option Res)(e:Env)(s:St):Option Res:=
 match o.guard with
 |none=>op1 G chk o.op e s fun v s'=>k (put e o.dst v) s'
 |some (j,want)=>match vzz all j with
  |none=>none
  |some d=>match getE e d with
   |.bool b=>
    bif b then vln (setE e d (.bool true)) fun e=>
     (bif want then op1 G chk o.op e s fun v s'=>k (put e o.dst v) s'
     else k (put e o.dst (.tup [])) s)
    else vln (setE e d (.bool false)) fun e=>
     (bif want then k (put e o.dst (.tup [])) s
     else op1 G chk o.op e s fun v s'=>k (put e o.dst v) s')
   |.tup []=>k (put e o.dst (.tup [])) s
   |_=>none
def v9r (G:Glob)(all:List Oper):List Oper→(Env→St→Option Res)→Env→St→Option Res
 |[],k,e,s=>k e s
 |o::rest,k,e,s=>vvf G none all o (v9r G all rest k) e s
def vlm (G:Glob)(wr:List Nat)(ops:Array Oper)(all:List Oper)(listed:Array Bool)(e:Env)(s:St):List Nat→Option (Nat×Oper)
 |[]=>none
 |i::l=>match all[i]? with
  |some o=>bif vdx G o.op&&Region.free .any ops listed i&&qFar o.op e s wr then some (i,o)else vlm G wr ops all listed e s l
  |none=>vlm G wr ops all listed e s l
def v8r (o:Oper)(i:Nat):Bool:=o.after.toList.any fun e=>Region.binds .any e&&Nat.beq e.on i
def vqz (o:Oper)(j:Nat):Nat→List Oper→Bool
 |_,[]=>true
 |i,p::l=>(!isLd p.op||(Nat.beq i j||v8r o i))&&vqz o j (i+1) l
def vfe (G:Glob)(all:List Oper)(j:Nat):Bool:=
 match all[j]? with
 |some o=>!vdx G o.op&&vqz o j 0 all
 |none=>false
def wwo (G:Glob)(o:Oper):Option Nat:=
 match o.op,o.guard,o.dst with
 |.alloc t,none,some d=>bif (G.ty t).isSome then some d else none
 |_,_,_=>none
def ve1 (G:Glob)(all:List Oper)(i:Nat):Option Nat:=
 match all[i]? with
 |some o=>wwo G o
 |none=>none
def parts (G:Glob)(all:List Oper):List Nat→List (Nat×Nat)×List Nat
 |[]=>([],[])
 |i::l=>match ve1 G all i with
  |some d=>((i,d)::(parts G all l).1,(parts G all l).2)
  |none=>((parts G all l).1,i::(parts G all l).2)
def vi0 (listed:Array Bool):List (Nat×Nat)→Array Bool
 |[]=>listed
 |p::l=>vi0 (listed.setIfInBounds p.1 true) l
def vdw (e:Env):List (Nat×Nat)→Env
 |[]=>e
 |p::l=>vdw (setE e p.2 .dead) l
def v1k:List (Nat×Nat)→Bool
 |[]=>true
 |p::l=>!(l.any fun q=>Nat.beq p.2 q.2)&&v1k l
def w33 (d:Option Nat)(A:List (Nat×Nat)):Bool:=
 match d with
 |some d=>!(A.any fun q=>Nat.beq d q.2)
 |none=>true
def only (j:Nat):List Nat→Bool
 |[i]=>Nat.beq i j
 |_=>false
def wem (ops:Array Oper)(listed:Array Bool)(A:List (Nat×Nat))(j:Nat)(o:Oper):Bool:=
 match A with
 |[]=>true
 |_=>only j (Region.ready .any ops (vi0 listed A))&&v1k A&&w33 o.dst A
def wk7 (ops:Array Oper)(all:List Oper)(listed:Array Bool)(A:List (Nat×Nat)):Bool:=
 v1k A&&match A with
 |[_]=>true
 |_=>(Region.ready .any ops (vi0 listed A)).all fun q=>match all[q]? with
  |some o=>A.all fun p=>v8r o p.1
  |none=>false
def execAny (G:Glob)(wr:List Nat)(ops:Array Oper)(all:List Oper):Nat→Array Bool→(Env→St→Option Res)→Env→St→Option Res
 |0,listed,k,e,s=>match Region.ready .any ops listed with
  |[]=>k e s
  |_::_=>none
 |n+1,listed,k,e,s=>match Region.ready .any ops listed with
  |[]=>k e s
  |i::l=>match vlm G wr ops all listed e s (i::l)with
   |some (j,o)=>vvf G none all o (execAny G wr ops all n (listed.setIfInBounds j true) k) e s
   |none=>match parts G all (i::l)with
    |(A,[j])=>match all[j]? with
     |some o=>bif wem ops listed A j o then vvf G (bif vfe G all j then none else some wr) all o (execAny G wr ops all n (listed.setIfInBounds j true) k) (vdw e A) s else none
     |none=>none
    |(p::A,[])=>match all[p.1]? with
     |some o=>bif wk7 ops all listed (p::A)then vvf G none all o (execAny G wr ops all n (listed.setIfInBounds p.1 true) k) (vdw e (p::A)) s else none
     |none=>none
    |_=>none
def vrx:List Bool→(List Bool→Bool)→Bool
 |[],k=>k []
 |true::l,k=>vrx l fun l=>k (true::l)
 |false::l,k=>vrx l fun l=>k (false::l)
theorem vhq:∀(l:List Bool) (k:List Bool→Bool),vrx l k=k l
 |[],_=>rfl
 |true::l,_=>by simp only [vrx,vhq l]
 |false::l,_=>by simp only [vrx,vhq l]
def vmy (G:Glob)(ops:Array Oper)(all:List Oper):Nat→List Bool→List Nat→Bool
 |0,l,cs=>match Region.ready .any ops l.toArray,cs with
  |[],[]=>true
  |_,_=>false
 |n+1,l,cs=>match Region.ready .any ops l.toArray with
  |[]=>match cs with
   |[]=>true
   |_=>false
  |i::r=>match vlm G [] ops all l.toArray [] [] (i::r)with
   |some (j,_)=>match cs with
    |c::cs=>Nat.beq c (2*j)&&vrx (l.set j true) fun l=>vmy G ops all n l cs
    |[]=>false
   |none=>match parts G all (i::r)with
    |([],[j])=>match cs with
     |c::cs=>Nat.beq c (bif vfe G all j then 2*j else 2*j+1)&&vrx (l.set j true) fun l=>vmy G ops all n l cs
     |[]=>false
    |_=>false
def vhb (G:Glob)(all:List Oper):List Nat→(Env→St→Option Res)→Env→St→Option Res
 |[],k,e,s=>k e s
 |c::cs,k,e,s=>match all[c / 2]? with
  |some o=>vvf G (bif Nat.beq (c % 2) 0 then none else some []) all o (vhb G all cs k) e s
  |none=>none
theorem v2o (G:Glob)(ops:Array Oper)(all:List Oper)(listed:Array Bool)(e:Env)(s:St):∀l,vlm G [] ops all listed e s l=vlm G [] ops all listed [] [] l
 |[]=>rfl
 |i::l=>by
  simp only [vlm]
  rw [v2o G ops all listed e s l]
  cases all[i]? with
  |none=>rfl
  |some o=>rfl
theorem v19 {G:Glob}{wr:List Nat}{ops:Array Oper}{all:List Oper}{listed:Array Bool}{e:Env}{s:St}:∀{l j o},vlm G wr ops all listed e s l=some (j,o)→all[j]? = some o
 |[],_,_,h=>by simp [vlm]at h
 |i::l,j,o,h=>by
  simp only [vlm]at h
  split at h
  ·rename_i o' ho
   cases hb:(vdx G o'.op&&Region.free .any ops listed i&&qFar o'.op e s wr)with
   |true=>rw [hb]at h;cases h;exact ho
   |false=>rw [hb]at h;exact v19 h
  ·exact v19 h
theorem vpc {G:Glob}{ops:Array Oper}{k:Env→St→Option Res}:∀(n:Nat) (l:List Bool) (cs:List Nat),vmy G ops ops.toList n l cs=true→
  execAny G [] ops ops.toList n l.toArray k=vhb G ops.toList cs k
 |0,l,cs,h=>by
  funext e s
  simp only [vmy]at h
  split at h
  ·rename_i h1
   simp only [execAny,h1,vhb]
  ·cases h
 |n+1,l,cs,h=>by
  funext e s
  simp only [vmy]at h
  split at h
  ·rename_i h1
   split at h
   ·simp only [execAny,h1,vhb]
   ·cases h
  ·rename_i i r h1
   simp only [execAny,h1]
   split at h
   ·rename_i j o hp
    split at h
    ·rename_i c cs'
     simp only [Bool.and_eq_true,vhq]at h
     obtain⟨h2,h3⟩:=h
     have hc:=Nat.eq_of_beq_eq_true h2
     subst hc
     have ih:=vpc (k:=k) n _ _ h3
     rw [v2o,hp]
     have ho:=v19 hp
     simp only [vhb]
     rw [show 2*j / 2=j by omega,ho,show 2*j % 2=0 by omega]
     simp only [Nat.beq_refl,cond_true]
     rw [←ih]
     simp
    ·cases h
   ·rename_i hp
    split at h
    ·rename_i j hj
     split at h
     ·rename_i c cs'
      simp only [Bool.and_eq_true,vhq]at h
      obtain⟨h2,h3⟩:=h
      have hc:=Nat.eq_of_beq_eq_true h2
      subst hc
      have ih:=vpc (k:=k) n _ _ h3
      rw [v2o,hp,hj]
      simp only [vhb]
      cases hx:vfe G ops.toList j with
      |true=>
       simp only [cond_true]
       rw [show 2*j / 2=j by omega,show 2*j % 2=0 by omega]
       cases ho:ops.toList[j]? with
       |none=>rfl
       |some o=>
        simp only [wem,cond_true,vdw,Nat.beq_refl]
        rw [←ih]
        simp
      |false=>
       simp only [cond_false]
       rw [show (2*j+1) / 2=j by omega,show (2*j+1) % 2=1 by omega]
       cases ho:ops.toList[j]? with
       |none=>rfl
       |some o=>
        simp only [wem,cond_true,vdw,show Nat.beq 1 0=false from rfl,cond_false]
        rw [←ih]
        simp
     ·cases h
    ·cases h
def w82 (d:Nat):Option Tmp→Bool
 |some t=>Nat.beq t d
 |none=>false
def vwe (cur:Option (Nat×Nat×Bool))(dst:Option Tmp):Option (Nat×Nat×Bool):=
 match cur with
 |none=>none
 |some (j,d,v)=>bif w82 d dst then none else some (j,d,v)
def wdh (cur:Option (Nat×Nat×Bool))(j:Nat):Option Bool:=
 match cur with
 |none=>none
 |some (j',_,v)=>bif Nat.beq j j' then some v else none
def vcx (G:Glob)(all:List Oper):List Nat→Option (Nat×Nat×Bool)→(Env→St→Option Res)→Env→St→Option Res
 |[],_,k,e,s=>k e s
 |c::cs,cur,k,e,s=>match all[c / 2]? with
  |some o=>match o.guard with
   |none=>op1 G (bif Nat.beq (c % 2) 0 then none else some []) o.op e s fun v s'=>vcx G all cs (vwe cur o.dst) k (put e o.dst v) s'
   |some (j,want)=>match wdh cur j with
    |some true=>bif want then op1 G (bif Nat.beq (c % 2) 0 then none else some []) o.op e s fun v s'=>vcx G all cs (vwe cur o.dst) k (put e o.dst v) s'
     else vcx G all cs (vwe cur o.dst) k (put e o.dst (.tup [])) s
    |some false=>bif want then vcx G all cs (vwe cur o.dst) k (put e o.dst (.tup [])) s
     else op1 G (bif Nat.beq (c % 2) 0 then none else some []) o.op e s fun v s'=>vcx G all cs (vwe cur o.dst) k (put e o.dst v) s'
    |none=>match vzz all j with
     |none=>none
     |some d=>match getE e d with
      |.bool b=>
       bif b then vln (setE e d (.bool true)) fun e=>
        (bif want then op1 G (bif Nat.beq (c % 2) 0 then none else some []) o.op e s fun v s'=>vcx G all cs (vwe (some (j,d,true)) o.dst) k (put e o.dst v) s'
        else vcx G all cs (vwe (some (j,d,true)) o.dst) k (put e o.dst (.tup [])) s)
       else vln (setE e d (.bool false)) fun e=>
        (bif want then vcx G all cs (vwe (some (j,d,false)) o.dst) k (put e o.dst (.tup [])) s
        else op1 G (bif Nat.beq (c % 2) 0 then none else some []) o.op e s fun v s'=>vcx G all cs (vwe (some (j,d,false)) o.dst) k (put e o.dst v) s')
      |.tup []=>vcx G all cs (vwe cur o.dst) k (put e o.dst (.tup [])) s
      |_=>none
  |none=>none
def CurOk (all:List Oper)(e:Env):Option (Nat×Nat×Bool)→Prop
 |none=>True
 |some (j,d,v)=>vzz all j=some d∧getE e d = .bool v
theorem we2:∀{e:Env} {d:Nat} {v:Bool},getE e d = .bool v→d<e.length
 |[],_,_,h=>by cases h
 |_::_,0,_,_=>by simp
 |_::l,d+1,v,h=>by
  have:=we2 (e:=l) (d:=d) (v:=v) h
  simp;omega
theorem ws5:∀{e:Env} {d:Nat} {v:AV},d<e.length→getE e d=v→setE e d v=e
 |[],_,_,h,_=>by simp at h
 |a::l,0,v,_,h=>by simp only [getE]at h;subst h;rfl
 |a::l,d+1,v,hl,h=>by simp only [setE,ws5 (e:=l) (d:=d) (v:=v) (by simpa using hl) h]
theorem v7q:∀(e:Env) (d t:Nat) (v:AV),t≠d→getE (setE e t v) d=getE e d
 |[],_,_,_,_=>rfl
 |a::l,0,0,_,h=>absurd rfl h
 |a::l,0,t+1,_,_=>rfl
 |a::l,d+1,0,_,_=>rfl
 |a::l,d+1,t+1,v,h=>v7q l d t v (by omega)
theorem v58:∀(e:Env) (d:Nat) (v:AV),d<e.length→getE (setE e d v) d=v
 |[],_,_,h=>by simp at h
 |a::l,0,_,_=>rfl
 |a::l,d+1,v,h=>v58 l d v (by simpa using h)
theorem CurOk.on {all:List Oper}{e:Env}{cur:Option (Nat×Nat×Bool)}(h:CurOk all e cur)(dst:Option Tmp)(v:AV):CurOk all (put e dst v) (vwe cur dst):=by
 cases cur with
 |none=>trivial
 |some p=>
  obtain⟨j,d,b⟩:=p
  simp only [vwe]
  cases hs:w82 d dst with
  |true=>trivial
  |false=>
   refine⟨h.1,?_⟩
   cases dst with
   |none=>exact h.2
   |some t=>
    simp only [put]
    rw [v7q _ _ _ _ (by intro e;subst e;simp [w82]at hs)]
    exact h.2
theorem vw1 {G:Glob}{all:List Oper}{k:Env→St→Option Res}:∀(cs:List Nat) (cur:Option (Nat×Nat×Bool)) (e:Env) (s:St),CurOk all e cur→vcx G all cs cur k e s=vhb G all cs k e s
 |[],_,_,_,_=>rfl
 |c::cs,cur,e,s,h=>by
  have ih:=fun cur' e' s'=>vw1 (G:=G) (all:=all) (k:=k) cs cur' e' s'
  have hon:∀(e:Env) (cur:Option (Nat×Nat×Bool)) (dst:Option Tmp),CurOk all e cur→(fun v s'=>vcx G all cs (vwe cur dst) k (put e dst v) s')=fun v s'=>vhb G all cs k (put e dst v) s':=fun e cur dst hc=>by
   funext v s'
   exact ih _ _ _ (hc.on dst v)
  simp only [vcx,vhb,vvf]
  cases ho:all[c / 2]? with
  |none=>rfl
  |some o=>
   simp only
   cases hg:o.guard with
   |none=>simp only [hon e cur o.dst h]
   |some p=>
    obtain⟨j,want⟩:=p
    simp only
    cases hkn:wdh cur j with
    |some b=>
     have hcur:∃d,vzz all j=some d∧getE e d = .bool b:=by
      cases cur with
      |none=>simp [wdh]at hkn
      |some q=>
       obtain⟨j',d,v⟩:=q
       simp only [wdh]at hkn
       cases hb:Nat.beq j j' with
       |false=>rw [hb]at hkn;cases hkn
       |true=>
        rw [hb]at hkn
        simp only [cond_true,Option.some.injEq]at hkn
        have:=Nat.eq_of_beq_eq_true hb
        subst this;subst hkn
        exact⟨d,h⟩
     obtain⟨d,h1,h2⟩:=hcur
     have h3:=ws5 (we2 h2) h2
     simp only [h1,h2]
     cases b with
     |true=>
      simp only [cond_true,vd8,h3,hon e cur o.dst h]
      rw [ih _ _ _ (h.on o.dst (.tup []))]
     |false=>
      simp only [cond_false,vd8,h3,hon e cur o.dst h]
      rw [ih _ _ _ (h.on o.dst (.tup []))]
    |none=>
     simp only
     cases hd:vzz all j with
     |none=>rfl
     |some d=>
      simp only
      cases hv:getE e d with
      |bool b=>
       have hl:=we2 hv
       simp only [vd8]
       have ht:∀v,CurOk all (setE e d (.bool v)) (some (j,d,v)):=fun v=>⟨hd,v58 _ _ _ hl⟩
       simp only [hon _ _ o.dst (ht true),hon _ _ o.dst (ht false),ih _ _ _ ((ht true).on o.dst (.tup [])),ih _ _ _ ((ht false).on o.dst (.tup []))]
      |tup l=>
       cases l with
       |nil=>exact ih _ _ _ (h.on o.dst (.tup []))
       |cons _ _=>rfl
      |int _ _=>rfl
      |str _=>rfl
      |lst _ _=>rfl
      |nilS=>rfl
      |own _=>rfl
      |bp _ _=>rfl
      |ep _ _ _=>rfl
      |win _ _=>rfl
      |dw _ _ _ _=>rfl
      |ip _ _ _=>rfl
      |fn _ _=>rfl
      |agg _=>rfl
      |dead=>rfl
structure Inf where
 dep:Nat
 dst:Nat
 looks:Nat
 q:Bool
 ex:Bool
def vxy (m i:Nat):Nat:=m ||| (1 <<< i)
def depM:List Edge→Nat→Nat
 |[],m=>m
 |e::l,m=>depM l (bif Region.binds .any e then vxy m e.on else m)
def v7i:List Nat→Nat→Nat
 |[],m=>m
 |i::l,m=>v7i l (vxy m i)
def v6l (m:Nat)(k:Nat→Bool):Bool:=
 match m with
 |0=>k 0
 |n+1=>k (n+1)
theorem vy9 (m:Nat)(k:Nat→Bool):v6l m k=k m:=by cases m<;>rfl
theorem vlz (m i j:Nat):(vxy m i).testBit j=(m.testBit j||decide (i=j)):=by
 unfold vxy
 rw [Nat.testBit_or,Nat.one_shiftLeft,Nat.testBit_two_pow]
theorem v2h:∀(l:List Edge) (m j:Nat),(depM l m).testBit j=(m.testBit j||l.any fun e=>Region.binds .any e&&e.on==j)
 |[],m,j=>by simp [depM]
 |e::l,m,j=>by
  rw [depM,v2h l]
  cases hb:Region.binds .any e with
  |true=>simp [vlz,hb,Bool.or_assoc];congr 1
  |false=>simp [hb]
theorem v0g:∀(l:List Nat) (m j:Nat),(v7i l m).testBit j=(m.testBit j||l.contains j)
 |[],m,j=>by simp [v7i]
 |i::l,m,j=>by
  rw [v7i,v0g l,vlz]
  simp only [List.contains_cons,Bool.or_assoc]
  congr 1
  congr 1
  by_cases h:i=j
  ·subst h;simp
  ·simp [h,Ne.symm h]
def vnw (G:Glob)(ops:Array Oper)(all:List Oper)(o:Oper)(i:Nat):Inf:=
 ⟨depM o.after.toList 0,(match o.dst with|some d=>vxy 0 d|none=>0),v7i (o.looksAt ops) 0,vdx G o.op,vfe G all i⟩
def vll (G:Glob)(ops:Array Oper)(all:List Oper):List Oper→Nat→List Inf
 |[],_=>[]
 |o::l,i=>vnw G ops all o i::vll G ops all l (i+1)
def v2w:List Inf→(List Inf→Bool)→Bool
 |[],k=>k []
 |x::l,k=>v6l x.dep fun a=>v6l x.dst fun b=>v6l x.looks fun c=>(bif x.q then(bif x.ex then v2w l fun l=>k (⟨a,b,c,true,true⟩::l)else v2w l fun l=>k (⟨a,b,c,true,false⟩::l))
   else(bif x.ex then v2w l fun l=>k (⟨a,b,c,false,true⟩::l)else v2w l fun l=>k (⟨a,b,c,false,false⟩::l)))
theorem wed:∀(l:List Inf) (k:List Inf→Bool),v2w l k=k l
 |[],_=>rfl
 |⟨a,b,c,q,e⟩::l,k=>by
  simp only [v2w,vy9]
  cases q<;>cases e<;>simp only [cond_true,cond_false,wed l]
def v0a (L:Nat):List Inf→Nat→List Nat
 |[],_=>[]
 |x::l,i=>bif !L.testBit i&&Nat.beq (x.dep &&& L) x.dep then i::v0a L l (i+1)else v0a L l (i+1)
def wnn (L:Nat)(x:Inf)(i:Nat):List Inf→Nat→Bool
 |[],_=>true
 |y::l,j=>(Nat.beq j i||L.testBit j||y.dep.testBit i||(Nat.beq (x.dst &&& y.looks) 0&&Nat.beq (x.dst &&& y.dst) 0&&Nat.beq (y.dst &&& x.looks) 0))&&wnn L x i l (j+1)
def nthI:List Inf→Nat→Option Inf
 |[],_=>none
 |x::_,0=>some x
 |_::l,n+1=>nthI l n
def wr9 (L:Nat)(infs:List Inf):List Nat→Option Nat
 |[]=>none
 |i::l=>match nthI infs i with
  |some x=>bif x.q&&wnn L x i infs 0 then some i else wr9 L infs l
  |none=>wr9 L infs l
structure LM (ops:Array Oper) (listed:Array Bool) (L:Nat):Prop where
 size:listed.size=ops.size
 bit:∀j,listed.getD j false=L.testBit j
theorem LM.on {ops:Array Oper}{listed:Array Bool}{L j:Nat}(h:LM ops listed L)(hj:j<ops.size):listed.getD j true=L.testBit j:=by
 rw [←h.bit j]
 have:j<listed.size:=by rw [h.size];exact hj
 simp [this]
theorem LM.set {ops:Array Oper}{listed:Array Bool}{L j:Nat}(h:LM ops listed L)(hj:j<ops.size):LM ops (listed.setIfInBounds j true) (vxy L j) where
 size:=by rw [Array.size_setIfInBounds];exact h.size
 bit:=fun i=>by
  rw [vlz,←h.bit i]
  have hj':j<listed.size:=by rw [h.size];exact hj
  by_cases e:j=i
  ·subst e;simp [hj']
  ·simp [Array.getElem?_setIfInBounds,e]
theorem wn6 {m L:Nat}:Nat.beq (m &&& L) m=true↔∀j,m.testBit j=true→L.testBit j=true:=by
 constructor
 ·intro h j hj
  have h1:=Nat.eq_of_beq_eq_true h
  have h2:(m &&& L).testBit j=m.testBit j:=by rw [h1]
  rw [Nat.testBit_and,hj]at h2
  simpa using h2
 ·intro h
  have:m &&& L=m:=by
   apply Nat.eq_of_testBit_eq
   intro j
   rw [Nat.testBit_and]
   cases hm:m.testBit j with
   |false=>rfl
   |true=>simp [h j hm]
  rw [this];exact Nat.beq_refl m
theorem vxm {a b:Nat}:Nat.beq (a &&& b) 0=true↔∀j,¬(a.testBit j=true∧b.testBit j=true):=by
 constructor
 ·rintro h j ⟨h1,h2⟩
  have h3:=Nat.eq_of_beq_eq_true h
  have h4:(a &&& b).testBit j=(0:Nat).testBit j:=by rw [h3]
  rw [Nat.testBit_and,h1,h2]at h4
  simp at h4
 ·intro h
  have:a &&& b=0:=by
   apply Nat.eq_of_testBit_eq
   intro j
   rw [Nat.testBit_and]
   cases h1:a.testBit j with
   |false=>simp
   |true=>
    cases h2:b.testBit j with
    |false=>simp
    |true=>exact absurd ⟨h1,h2⟩ (h j)
  rw [this];rfl
theorem xcb {o:Oper}{listed:Array Bool}{L:Nat}(h:∀j,listed.getD j false=L.testBit j) :
  Nat.beq (depM o.after.toList 0 &&& L) (depM o.after.toList 0)=o.after.all fun e=>!Region.binds .any e||listed.getD e.on false:=by
 rw [Bool.eq_iff_iff,wn6,Array.all_eq_true']
 simp only [v2h,Nat.zero_testBit,Bool.false_or,List.any_eq_true,Bool.and_eq_true,beq_iff_eq,Bool.or_eq_true,Bool.not_eq_true',Array.mem_toList_iff]
 constructor
 ·intro h1 e he
  cases hb:Region.binds .any e with
  |false=>exact .inl rfl
  |true=>exact .inr (by rw [h];exact h1 e.on ⟨e,he,hb,rfl⟩)
 ·rintro h1 j ⟨e,he,hb,rfl⟩
  rcases h1 e he with h2|h2
  ·rw [hb]at h2;cases h2
  ·rw [←h];exact h2
theorem weq {G:Glob}{ops:Array Oper}{listed:Array Bool}{L:Nat}(h:LM ops listed L):∀(l:List Oper) (i:Nat),(∀j o,l[j]? = some o→ops[i+j]? = some o)→i+l.length=ops.size→
  v0a L (vll G ops ops.toList l i) i=(List.range' i l.length).filter fun i=>!listed.getD i true&&(Option.map (fun x=>x.after.all fun e=>!Region.binds .any e||listed.getD e.on false) ops[i]?).getD false
 |[],i,_,_=>rfl
 |o::l,i,hl,hn=>by
  simp only [List.length_cons]at hn
  have ho:=hl 0 o rfl
  rw [Nat.add_zero]at ho
  have ih:=weq (G:=G) h l (i+1) (fun j o' hj=>by have:=hl (j+1) o' (by simpa using hj);rwa [show i+(j+1)=i+1+j by omega]at this) (by omega)
  simp only [vll,v0a,List.length_cons,List.range'_succ,List.filter_cons,ih]
  have hc:(!L.testBit i&&Nat.beq ((vnw G ops ops.toList o i).dep &&& L) (vnw G ops ops.toList o i).dep)=(!listed.getD i true&&(Option.map (fun x=>x.after.all fun e=>!Region.binds .any e||listed.getD e.on false) ops[i]?).getD false):=by
   rw [h.on (by omega),ho]
   simp only [Option.map_some,Option.getD_some,vnw,xcb h.bit]
  rw [hc]
  cases (!listed.getD i true&&(Option.map (fun x=>x.after.all fun e=>!Region.binds .any e||listed.getD e.on false) ops[i]?).getD false)<;>rfl
theorem vyf {G:Glob}{ops:Array Oper}{listed:Array Bool}{L:Nat}(h:LM ops listed L):Region.ready .any ops listed=v0a L (vll G ops ops.toList ops.toList 0) 0:=by
 rw [weq h ops.toList 0 (fun j o hj=>by rw [Nat.zero_add,←Array.getElem?_toList];exact hj) (by simp)]
 unfold Region.ready
 rw [List.range_eq_range',Array.length_toList]
theorem w2k {G:Glob}{ops:Array Oper}{all:List Oper}{x y:Oper}{i j:Nat} :
  (Nat.beq ((vnw G ops all x i).dst &&& (vnw G ops all y j).looks) 0&&Nat.beq ((vnw G ops all x i).dst &&& (vnw G ops all y j).dst) 0&&Nat.beq ((vnw G ops all y j).dst &&& (vnw G ops all x i).looks) 0)=Oper.apart ops x y:=by
 have hb:∀(d:Nat) (l:List Nat),Nat.beq (vxy 0 d &&& v7i l 0) 0 = !l.contains d:=by
  intro d l
  rw [Bool.eq_iff_iff,vxm]
  simp only [vlz,v0g,Nat.zero_testBit,Bool.false_or,decide_eq_true_eq,Bool.not_eq_true']
  constructor
  ·intro h1
   cases hc:l.contains d with
   |false=>rfl
   |true=>exact absurd ⟨rfl,hc⟩ (h1 d)
  ·rintro h1 j ⟨rfl,h2⟩
   rw [h1]at h2;cases h2
 have hd:∀(d d':Nat),Nat.beq (vxy 0 d &&& vxy 0 d') 0=(some d' != some d):=by
  intro d d'
  rw [Bool.eq_iff_iff,vxm]
  simp only [vlz,Nat.zero_testBit,Bool.false_or,decide_eq_true_eq,bne_iff_ne,ne_eq,Option.some.injEq]
  constructor
  ·rintro h1 rfl
   exact h1 _ ⟨rfl,rfl⟩
  ·rintro h1 j ⟨rfl,h2⟩
   exact h1 h2
 have hz:∀m:Nat,Nat.beq (0 &&& m) 0=true:=fun m=>by rw [Nat.zero_and];rfl
 have hz':∀m:Nat,Nat.beq (m &&& 0) 0=true:=fun m=>by rw [Nat.and_zero];rfl
 unfold vnw Oper.apart
 cases hx:x.dst with
 |none=>
  cases hy:y.dst with
  |none=>simp only [hz,hz',Bool.and_self]
  |some d'=>simp only [hz,hz',hb,Bool.true_and]
 |some d=>
  cases hy:y.dst with
  |none=>simp only [hz,hz',hb,Bool.and_true];simp
  |some d'=>simp only [hb,hd]
theorem w1q {o:Oper}{i:Nat}:(depM o.after.toList 0).testBit i=o.after.any fun e=>Region.binds .any e&&e.on==i:=by
 rw [v2h,Nat.zero_testBit,Bool.false_or,←Array.any_toList]
theorem wkd {G:Glob}{ops:Array Oper}{listed:Array Bool}{L:Nat}(h:LM ops listed L){oi:Oper}{i:Nat}:∀(l:List Oper) (n:Nat),(∀j o,l[j]? = some o→ops[n+j]? = some o)→n+l.length=ops.size→
  wnn L (vnw G ops ops.toList oi i) i (vll G ops ops.toList l n) n=(List.range' n l.length).all fun j=>j==i||listed.getD j true||match ops[j]? with
    |some oj=>(oj.after.any fun e=>Region.binds .any e&&e.on==i)||Oper.apart ops oi oj
    |none=>true
 |[],n,_,_=>rfl
 |o::l,n,hl,hn=>by
  simp only [List.length_cons]at hn
  have ho:=hl 0 o rfl
  rw [Nat.add_zero]at ho
  have ih:=wkd (G:=G) (oi:=oi) (i:=i) h l (n+1) (fun j o' hj=>by have:=hl (j+1) o' (by simpa using hj);rwa [show n+(j+1)=n+1+j by omega]at this) (by omega)
  simp only [vll,wnn,List.length_cons,List.range'_succ,List.all_cons,ih]
  rw [w2k,h.on (by omega),ho]
  have e1:(vnw G ops ops.toList o n).dep.testBit i=o.after.any fun e=>Region.binds .any e&&e.on==i:=w1q
  rw [e1]
  have e2:Nat.beq n i=(n==i):=by rw [Bool.eq_iff_iff,Nat.beq_eq,beq_iff_eq]
  rw [e2]
  simp only [Bool.or_assoc]
theorem w6m {G:Glob}{ops:Array Oper}{listed:Array Bool}{L:Nat}(h:LM ops listed L){oi:Oper}{i:Nat}(hi:ops[i]? = some oi) :
  Region.free .any ops listed i=wnn L (vnw G ops ops.toList oi i) i (vll G ops ops.toList ops.toList 0) 0:=by
 rw [wkd h ops.toList 0 (fun j o hj=>by rw [Nat.zero_add,←Array.getElem?_toList];exact hj) (by simp)]
 unfold Region.free
 rw [hi,List.range_eq_range',Array.length_toList]
 rfl
theorem wje {G:Glob}{ops:Array Oper}{all:List Oper}:∀(l:List Oper) (n i:Nat),nthI (vll G ops all l n) i=(l[i]?).map fun o=>vnw G ops all o (n+i)
 |[],_,_=>rfl
 |o::l,n,0=>rfl
 |o::l,n,i+1=>by
  simp only [vll,nthI,wje l,List.getElem?_cons_succ]
  rw [show n+1+i=n+(i+1) by omega]
theorem wl8 {G:Glob}{ops:Array Oper}{listed:Array Bool}{L:Nat}(h:LM ops listed L):∀l:List Nat,
  (vlm G [] ops ops.toList listed [] [] l).map (·.1)=wr9 L (vll G ops ops.toList ops.toList 0) l
 |[]=>rfl
 |i::l=>by
  have ih:=wl8 (G:=G) h l
  simp only [vlm,wr9,wje,Nat.zero_add]
  cases ho:ops.toList[i]? with
  |none=>simpa using ih
  |some o=>
   simp only [Option.map_some]
   rw [w6m (G:=G) h (by rw [←Array.getElem?_toList];exact ho)]
   have hq:qFar o.op ([]:Env) ([]:St) []=true:=rfl
   rw [hq,Bool.and_true]
   have e1:(vnw G ops ops.toList o i).q=vdx G o.op:=rfl
   rw [e1]
   cases (vdx G o.op&&wnn L (vnw G ops ops.toList o i) i (vll G ops ops.toList ops.toList 0) 0)with
   |true=>rfl
   |false=>simpa using ih
def chkI (G:Glob)(all:List Oper)(infs:List Inf):Nat→Nat→List Nat→Bool
 |0,L,cs=>match v0a L infs 0,cs with
  |[],[]=>true
  |_,_=>false
 |n+1,L,cs=>match v0a L infs 0 with
  |[]=>match cs with
   |[]=>true
   |_=>false
  |i::r=>match cs with
   |[]=>false
   |c::cs=>match wr9 L infs (i::r)with
    |some j=>Nat.beq c (2*j)&&v6l (vxy L j) fun L=>chkI G all infs n L cs
    |none=>match r with
     |[]=>match nthI infs i with
      |some x=>(ve1 G all i).isNone&&(Nat.beq c (bif x.ex then 2*i else 2*i+1)&&v6l (vxy L i) fun L=>chkI G all infs n L cs)
      |none=>false
     |_=>false
theorem wlb {ops:Array Oper}{listed:Array Bool}{i:Nat}(h:i∈Region.ready .any ops listed):i<ops.size:=by
 unfold Region.ready at h
 simp only [List.mem_filter,List.mem_range]at h
 exact h.1
theorem v8q {G:Glob}{wr:List Nat}{ops:Array Oper}{all:List Oper}{listed:Array Bool}{e:Env}{s:St}:∀{l j o},vlm G wr ops all listed e s l=some (j,o)→j∈l
 |[],_,_,h=>by simp [vlm]at h
 |i::l,j,o,h=>by
  simp only [vlm]at h
  split at h
  ·rename_i o' ho
   cases hb:(vdx G o'.op&&Region.free .any ops listed i&&qFar o'.op e s wr)with
   |true=>rw [hb]at h;cases h;simp
   |false=>rw [hb]at h;exact List.mem_cons_of_mem _ (v8q h)
  ·exact List.mem_cons_of_mem _ (v8q h)
theorem v3k {G:Glob}{ops:Array Oper}:∀(n:Nat) (l:List Bool) (L:Nat) (cs:List Nat),LM ops l.toArray L→chkI G ops.toList (vll G ops ops.toList ops.toList 0) n L cs=true→vmy G ops ops.toList n l cs=true
 |0,l,L,cs,hL,h=>by
  simp only [chkI]at h
  simp only [vmy,vyf (G:=G) hL]
  exact h
 |n+1,l,L,cs,hL,h=>by
  simp only [chkI]at h
  simp only [vmy,vyf (G:=G) hL]
  split at h
  ·rename_i h1
   (try simp only [h1])
   exact h
  ·rename_i i r h1
   (try simp only [h1])
   split at h
   ·cases h
   ·rename_i c cs'
    have hp:=wl8 (G:=G) hL (i::r)
    have hset:∀j,j<ops.size→LM ops (l.set j true).toArray (vxy L j):=fun j hj=>by
     have:=hL.set hj
     simpa using this
    split at h
    ·rename_i j hj
     rw [hj]at hp
     cases hq:vlm G [] ops ops.toList l.toArray [] [] (i::r)with
     |none=>rw [hq]at hp;cases hp
     |some p=>
      obtain⟨j',o⟩:=p
      rw [hq]at hp
      simp only [Option.map_some,Option.some.injEq]at hp
      subst hp
      simp only [Bool.and_eq_true,vy9]at h
      have hlt:j'<ops.size:=wlb (listed:=l.toArray) (by rw [vyf (G:=G) hL,h1];exact v8q hq)
      simp only [h.1,Bool.true_and,vhq]
      exact v3k n _ _ _ (hset j' hlt) h.2
    ·rename_i hj
     rw [hj]at hp
     cases hq:vlm G [] ops ops.toList l.toArray [] [] (i::r)with
     |some p=>rw [hq]at hp;cases hp
     |none=>
      split at h
      ·split at h
       ·rename_i x hx
        simp only [Bool.and_eq_true,vy9,Option.isNone_iff_eq_none]at h
        obtain⟨h2,h3,h4⟩:=h
        have hlt:i<ops.size:=wlb (listed:=l.toArray) (by rw [vyf (G:=G) hL,h1];simp)
        have hpa:parts G ops.toList [i]=([],[i]):=by simp [parts,h2]
        rw [hpa]
        rw [wje]at hx
        cases ho:ops.toList[i]? with
        |none=>rw [ho]at hx;cases hx
        |some o=>
         rw [ho]at hx
         simp only [Option.map_some,Option.some.injEq]at hx
         subst hx
         have e1:(vnw G ops ops.toList o (0+i)).ex=vfe G ops.toList i:=by rw [Nat.zero_add];rfl
         rw [e1]at h3
         simp only [h3,Bool.true_and,vhq]
         exact v3k n _ _ _ (hset i hlt) h4
       ·cases h
      ·cases h
def wbj (G:Glob)(ops:Array Oper)(cs:List Nat):Bool:=
 v2w (vll G ops ops.toList ops.toList 0) fun infs=>chkI G ops.toList infs ops.size 0 cs
theorem wo4 {G:Glob}{ops:Array Oper}{cs:List Nat}(h:wbj G ops cs=true):vmy G ops ops.toList ops.size (List.replicate ops.size false) cs=true:=by
 unfold wbj at h
 rw [wed]at h
 refine v3k _ _ 0 _ ⟨by simp,fun j=>?_⟩ h
 rw [Nat.zero_testBit]
 simp only [List.toArray_replicate,Array.getD_eq_getD_getElem?,Array.getElem?_replicate]
 split<;>rfl
def xad (F:Fx)(id:Nat):List Nat:=
 match F.loops (1000000+id)with
 |some sp=>sp.keep
 |none=>[]
def vq6 (F:Fx)(keep:List Nat)(wide:List (Option Ty)):Out→Env→St→Option Res:=fun o e s=>
 match vv6 wide F.n (v4k e keep) s with
 |(vs,s)=>some ⟨o,vs,s⟩
def wku (F:Fx):List (Option Ty):=
 match F.loops 3000000 with
 |some sp=>sp.wide
 |none=>[]
def vnm:Code→Nat
 |.region id _ _=>5000000+id
 |.block id _=>6000000+id
 |.cond _ x y=>bif Nat.beq (vnm x) 4000000 then(bif Nat.beq (vnm y) 4000000 then 4000000 else 20000000+vnm y)else 10000000+vnm x
 |.seq a b=>bif Nat.beq (vnm a) 4000000 then(bif Nat.beq (vnm b) 4000000 then 4000000 else 30000000+vnm b)else vnm a
 |_=>4000000
def exec (G:Glob)(F:Fx):Code→(Out→Env→St→Option Res)→Env→St→Option Res
 |.skip,k,e,s=>k .norm e s
 |.region id ops draw,k,e,s=>bif draw then
   (match F.loops (2000000+id)with
   |some sp=>bif Region.noSelect ops&&wbj G ops sp.keep then vcx G ops.toList sp.keep none (fun e s=>k .norm e s) e s else none
   |none=>bif Region.noSelect ops then execAny G (xad F id) ops ops.toList ops.size (Array.replicate ops.size false) (fun e s=>k .norm e s) e s else none)
  else v9r G ops.toList ops.toList (fun e s=>k .norm e s) e s
 |.seq a b,k,e,s=>match F.loops (vnm b)with
  |none=>exec G F a (fun o e s=>match o with
   |.norm=>vln e fun e=>wdl s fun s=>exec G F b k e s
   |o=>k o e s) e s
  |some sp=>exec G F a (fun o e s=>match o with
   |.norm=>match vv6 sp.wide F.n (v4k e sp.keep) s with
    |(vs,s)=>sp.L vs s fun o vs s=>k o (vhe (vf6 F.nt) sp.keep vs) s
   |o=>k o e s) e s
 |.cond c x y,k,e,s=>match ev e c with
  |.bool b=>bif b then exec G F x k e s else exec G F y k e s
  |_=>none
 |.block id (.loop _),k,e,s=>match F.loops id with
  |none=>none
  |some sp=>
   match vv6 sp.wide F.n (v4k e sp.keep) s with
   |(vs,s)=>sp.L vs s fun o vs s=>match o with
    |.norm=>none
    |.exit j=>bif j==id then k .norm (vhe (vf6 F.nt) sp.keep vs) s else k (.exit j) (vhe (vf6 F.nt) sp.keep vs) s
    |.ret=>k .ret (vhe (vf6 F.nt) sp.keep vs) s
 |.block id c,k,e,s=>exec G F c (fun o e s=>match o with
  |.exit j=>bif j==id then k .norm e s else k (.exit j) e s
  |o=>k o e s) e s
 |.scope c,k,e,s=>none
 |.exit id,k,e,s=>k (.exit id) e s
 |.ret,k,e,s=>k .ret e s
 |_,_,_,_=>none
def resA (G:Glob)(e:Env)(s:St):ResultVar→Option AV
 |.tmp t=>some (getE e t)
 |.cell a t=>match G.ty t with
  |some (ag,T)=>bif vrm s (getE e a)then none else match vg3 s (getE e a) T.size with
   |some cs=>vem ag cs
   |none=>none
  |none=>none
def resL (G:Glob)(e:Env)(s:St):List ResultVar→Option (List AV)
 |[]=>some []
 |r::l=>match resA G e s r with
  |some v=>match resL G e s l with
   |some vs=>some (v::vs)
   |none=>none
  |none=>none
def one:List AV→AV
 |[v]=>v
 |vs=>.tup vs
def endK (G:Glob)(F:Fx)(rs:List ResultVar):Out→Env→St→Option Res:=fun o e s=>
 match o with
 |.exit _=>none
 |_=>match resL G e s rs with
  |some vs=>
   match vv6 (wku F) F.n [one vs] s with
   |(vs,s)=>some ⟨.ret,vs,s⟩
  |none=>none
def wc7 (G:Glob)(loops:Nat→Option LoopSpec)(fn:Func)(args:List AV)(s:St):Option Res:=
 match fn.body with
 |none=>none
 |some c=>
  let F:Fx:=⟨s.length,args.length+(fn.ntmps-args.length),loops⟩
  bif vw7 s then exec G F c (endK G F fn.results.toList) (args++vf6 (fn.ntmps-args.length)) s else none
end
end Go.VE
