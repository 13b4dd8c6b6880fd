/- The abstract interpreter: its values, its state, its steps. Nothing here speaks of a program. -/
import Derived.Calls
namespace Go.VE
noncomputable section
theorem v06:∃f:ByteArray→ByteArray→Bool,∀x y,f x y=Op.bytesLess x.toList y.toList:=⟨fun x y=>Op.bytesLess x.toList y.toList,fun _ _=>rfl⟩
def vaf:ByteArray→ByteArray→Bool:=Classical.choose v06
theorem vf2 (x y:ByteArray):vaf x y=Op.bytesLess x.toList y.toList:=Classical.choose_spec v06 x y
theorem wc2:∃f:ByteArray→ByteArray→Bool,∀x y,f x y=(x.toList==y.toList):=⟨fun x y=>x.toList==y.toList,fun _ _=>rfl⟩
def va3:ByteArray→ByteArray→Bool:=Classical.choose wc2
theorem vh1 (x y:ByteArray):va3 x y=(x.toList==y.toList):=Classical.choose_spec wc2 x y
inductive Ty where
 |int (k:IntKind)
 |bool
 |str
 |pair (a b:Ty)
 |slice (e:Ty)
 deriving DecidableEq
@[reducible] def Ty.D:Ty→Type
 |.int _=>Int
 |.bool=>Bool
 |.str=>ByteArray
 |.pair a b=>a.D×b.D
 |.slice e=>List e.D
def Ty.size:Ty→Nat
 |.pair a b=>a.size+b.size
 |_=>1
def Ty.isPair:Ty→Bool
 |.pair _ _=>true
 |_=>false
def Ty.flat:Ty→Bool
 |.pair a b=>a.flat&&b.flat
 |.slice _=>false
 |_=>true
def Ty.deepIn:Ty→Bool
 |.pair a b=>a.deepIn&&b.deepIn
 |.slice e=>e.flat
 |_=>true
def Ty.isSl:Ty→Nat→Bool
 |.pair a b,p=>bif Nat.blt p a.size then a.isSl p else b.isSl (p-a.size)
 |.slice _,p=>Nat.beq p 0
 |_,_=>false
def Ty.deep (e:Ty):Bool:=e.isPair && !e.flat&&e.deepIn
def Ty.zero:(T:Ty)→T.D
 |.int _=>(0:Int)
 |.bool=>false
 |.str=>(⟨#[]⟩:ByteArray)
 |.pair a b=>(a.zero,b.zero)
 |.slice _=>[]
inductive AV where
 |int (k:IntKind) (n:Int)
 |bool (b:Bool)
 |str (s:ByteArray)
 |lst (e:Ty) (xs:List e.D)
 |nilS
 |own (r:Nat)
 |bp (b off:Nat)
 |ep (r i off:Nat)
 |win (r lo:Nat)
 |dw (r n i off:Nat)
 |ip (T:Ty) (x:T.D) (off:Nat)
 |fn (f:Nat) (caps:List AV)
 |agg (cs:List AV)
 |tup (vs:List AV)
 |dead
inductive Rg where
 |box (cs:List AV)
 |arr (e:Ty) (xs:List e.D)
 |frz (e:Ty) (xs:List e.D)
 |gone
 |dep (e:Ty) (xs:List e.D) (n:Nat) (dd:List Nat)
abbrev St:=List Rg
def hasD:List Nat→Nat→Bool
 |[],_=>false
 |a::l,i=>Nat.beq a i||hasD l i
def delD (i:Nat):List Nat→List Nat
 |[]=>[]
 |a::l=>bif Nat.beq a i then delD i l else a::delD i l
def loD (lo:Nat):List Nat→List Nat
 |[]=>[]
 |a::l=>bif Nat.blt a lo then a::loD lo l else loD lo l
def geD (n:Nat):List Nat→Bool
 |[]=>true
 |a::l=>Nat.ble n a&&geD n l
def mvD (i j:Nat)(dd:List Nat):List Nat:=bif Nat.beq i j then dd else j::delD i dd
abbrev Env:=List AV
inductive Out where
 |norm
 |exit (id:Nat)
 |ret
structure Res where
 o:Out
 vs:List AV
 st:St
abbrev K1:=AV→St→Option Res
def getE:Env→Nat→AV
 |[],_=>.dead
 |a::_,0=>a
 |_::l,n+1=>getE l n
def setE:Env→Nat→AV→Env
 |[],_,_=>[]
 |_::l,0,v=>v::l
 |a::l,n+1,v=>a::setE l n v
def getR:St→Nat→Rg
 |[],_=>.gone
 |a::_,0=>a
 |_::l,n+1=>getR l n
def setR:St→Nat→Rg→St
 |[],_,_=>[]
 |_::l,0,v=>v::l
 |a::l,n+1,v=>a::setR l n v
def Ty.cells:(T:Ty)→T.D→List AV
 |.int k,n=>[.int k n]
 |.bool,b=>[.bool b]
 |.str,s=>[.str s]
 |.pair a b,x=>a.cells x.1++b.cells x.2
 |.slice e,xs=>[.lst e xs]
def Ty.zcells:Ty→List AV
 |.int k=>[.int k 0]
 |.bool=>[.bool false]
 |.str=>[.str ⟨#[]⟩]
 |.pair a b=>a.zcells++b.zcells
 |.slice _=>[.nilS]
def vep {e e':Ty}(h:e'=e)(xs:List e'.D):List e.D:=h▸xs
def wsk (e e1:Ty)(off:Nat)(x:e1.D):Option (List e.D):=
 match getE (e1.cells x) off with
 |.lst e' ys=>if h:e'=e then some (vep h ys)else none
 |_=>none
def vb3 (s:St)(e:Ty):AV→Option (List e.D)
 |.lst e' xs=>if h:e'=e then some (vep h xs)else none
 |.nilS=>some []
 |.own r=>match getR s r with
  |.arr e' xs=>if h:e'=e then some (vep h xs)else none
  |.frz e' xs=>if h:e'=e then some (vep h xs)else none
  |.dep e' xs _ []=>if h:e'=e then some (vep h xs)else none
  |_=>none
 |.win r lo=>match getR s r with
  |.arr e' xs=>if h:e'=e then some (vep h (xs.drop lo))else none
  |_=>none
 |.dw r n i off=>match getR s r with
  |.dep e1 xs m _=>bif Nat.beq m n then wsk e e1 off (xs.getD i e1.zero)else none
  |_=>none
 |_=>none
def Ty.take (s:St):(T:Ty)→List AV→Option (T.D×List AV)
 |.int k,.int k' n::r=>if k'=k then some (n,r)else none
 |.bool,.bool b::r=>some (b,r)
 |.str,.str t::r=>some (t,r)
 |.pair a b,l=>match a.take s l with
  |some (x,r)=>match b.take s r with
   |some (y,r')=>some ((x,y),r')
   |none=>none
  |none=>none
 |.slice e,v::r=>match vb3 s e v with
  |some xs=>some (xs,r)
  |none=>none
 |_,_=>none
def Ty.data (s:St)(T:Ty)(cs:List AV):Option T.D:=
 match T.take s cs with
 |some (x,[])=>some x
 |_=>none
def AV.cells:AV→List AV
 |.agg cs=>cs
 |v=>[v]
def AV.okCell:AV→Bool
 |.agg _=>false
 |.tup _=>false
 |.dead=>false
 |_=>true
def vn0:List AV→Bool
 |[]=>true
 |a::l=>a.okCell&&vn0 l
def AV.cells? : AV→Option (List AV)
 |.agg cs=>bif vn0 cs then some cs else none
 |.tup _=>none
 |.dead=>none
 |v=>some [v]
def vfa (agg:Bool)(cs:List AV):Option AV:=
 match agg,cs with
 |true,cs=>some (.agg cs)
 |false,[c]=>some c
 |_,_=>none
@[reducible] def Ty.toAV (agg:Bool)(T:Ty)(x:T.D):AV:=
 match agg,T.cells x with
 |true,cs=>.agg cs
 |false,[c]=>c
 |false,_=>.dead
mutual
def AV.refs:AV→List Nat
 |.own r=>[r]
 |.bp b _=>[b]
 |.ep r _ _=>[r]
 |.win r _=>[r]
 |.dw r _ _ _=>[r]
 |.fn _ caps=>vsq caps
 |.agg cs=>vsq cs
 |.tup vs=>vsq vs
 |_=>[]
def vsq:List AV→List Nat
 |[]=>[]
 |a::l=>a.refs++vsq l
end
def vc3:List AV→List Nat
 |[]=>[]
 |.own r::l=>r::vc3 l
 |.win r _::l=>r::vc3 l
 |.dw r _ _ _::l=>r::vc3 l
 |_::l=>vc3 l
def vgc (s:St)(r:Nat):St:=
 match getR s r with
 |.arr e xs=>setR s r (.frz e xs)
 |.dep e xs _ []=>setR s r (.frz e xs)
 |.dep _ _ _ (_::_)=>setR s r .gone
 |_=>s
def vei (s:St):List Nat→St
 |[]=>s
 |r::l=>vei (vgc s r) l
mutual
def AV.hasLst:AV→Bool
 |.lst _ _=>true
 |.ip _ _ _=>true
 |.fn _ caps=>vmx caps
 |.agg cs=>vmx cs
 |.tup vs=>vmx vs
 |_=>false
def vmx:List AV→Bool
 |[]=>false
 |a::l=>a.hasLst||vmx l
end
def Rg.hasLst:Rg→Bool
 |.box cs=>vmx cs
 |.frz _ _=>true
 |.arr e _=>!e.flat
 |.gone=>false
 |.dep _ _ _ _=>false
def idx (r:Nat):List Nat→Option Nat
 |[]=>none
 |a::l=>if a=r then some 0 else match idx r l with
  |some n=>some (n+1)
  |none=>none
def vgf (s:St):Nat→List Nat→List Nat→List Nat
 |0,_,acc=>acc
 |_,[],acc=>acc
 |n+1,r::w,acc=>
  match idx r acc with
  |some _=>vgf s n w acc
  |none=>match getR s r with
   |.box cs=>vgf s n (w++vsq cs) (acc++[r])
   |.arr _ _=>vgf s n w (acc++[r])
   |.dep _ _ _ _=>vgf s n w (acc++[r])
   |_=>vgf s n w acc
mutual
def AV.ren (s:St)(ids:List Nat):AV→AV
 |.own r=>match getR s r with
  |.frz e xs=>.lst e xs
  |_=>match idx r ids with
   |some j=>.own j
   |none=>.dead
 |.bp b off=>match idx b ids with
  |some j=>.bp j off
  |none=>.dead
 |.ep r i off=>match idx r ids with
  |some j=>.ep j i off
  |none=>.dead
 |.win r lo=>match idx r ids with
  |some j=>.win j lo
  |none=>.dead
 |.dw _ _ _ _=>.dead
 |.fn f caps=>.fn f (renL s ids caps)
 |.agg cs=>.agg (renL s ids cs)
 |.tup vs=>.tup (renL s ids vs)
 |v=>v
def renL (s:St)(ids:List Nat):List AV→List AV
 |[]=>[]
 |a::l=>a.ren s ids::renL s ids l
end
def Rg.ren (s:St)(ids:List Nat):Rg→Rg
 |.box cs=>.box (renL s ids cs)
 |g=>g
def vb4 (s:St)(ids all:List Nat):St:=
 match ids with
 |[]=>[]
 |r::l=>(getR s r).ren s all::vb4 s l all
def back (ids:List Nat)(n:Nat):Nat→Nat:=fun j=>
 match ids,j with
 |[],j=>n+j
 |r::_,0=>r
 |_::l,j+1=>back l n j
mutual
def AV.ren2 (f:Nat→Nat):AV→AV
 |.own r=>.own (f r)
 |.bp b off=>.bp (f b) off
 |.ep r i off=>.ep (f r) i off
 |.win r lo=>.win (f r) lo
 |.dw r n i off=>.dw (f r) n i off
 |.fn g caps=>.fn g (v78 f caps)
 |.agg cs=>.agg (v78 f cs)
 |.tup vs=>.tup (v78 f vs)
 |v=>v
def v78 (f:Nat→Nat):List AV→List AV
 |[]=>[]
 |a::l=>a.ren2 f::v78 f l
end
def Rg.ren2 (f:Nat→Nat):Rg→Rg
 |.box cs=>.box (v78 f cs)
 |g=>g
def vmc (s:St)(f:Nat→Nat):List Nat→St→St
 |[],sub=>s++sub.map (Rg.ren2 f)
 |r::l,g::sub=>vmc (setR s r (g.ren2 f)) f l sub
 |_::_,[]=>s
structure Glob where
 eqt:Nat→Bool
 ty:Nat→Option (Bool×Ty)
 fld:Nat→Nat→Option (Nat×Bool×Ty)
 call:Nat→List AV→St→K1→Option Res
 inPlace:Nat→Bool
 one:Nat→Bool
 deep:Bool
structure LoopSpec where
 keep:List Nat
 wide:List (Option Ty)
 L:List AV→St→(Out→List AV→St→Option Res)→Option Res
def v5b (ty:Nat→Option (Bool×Ty))(s:St)(t:Nat)(v:AV):Option (AV×List Nat):=
 match ty t with
 |none=>some (v,[])
 |some (true,T)=>match v with
  |.agg cs=>match T.data s cs with
   |some x=>some (.agg (T.cells x),vc3 cs)
   |none=>none
  |_=>none
 |some (false,T)=>match v with
  |.agg _=>none
  |v=>match T.data s [v]with
   |some x=>match T.cells x with
    |[c]=>some (c,vc3 [v])
    |_=>none
   |none=>none
def vfb (ty:Nat→Option (Bool×Ty))(s:St):List Nat→List AV→Option (List AV×List Nat)
 |[],[]=>some ([],[])
 |t::ts,v::vs=>match v5b ty s t v with
  |none=>none
  |some (a,l)=>match vfb ty s ts vs with
   |none=>none
   |some (as,l')=>some (a::as,l++l')
 |_,_=>none
def vl4 (s:St):List Nat→List Nat
 |[]=>[]
 |r::l=>match getR s r with
  |.arr _ _=>r::vl4 s l
  |.dep _ _ _ _=>r::vl4 s l
  |_=>vl4 s l
def v94:List Nat→List Nat→Bool
 |[],_=>false
 |r::l,m=>(idx r m).isSome||v94 l m
def vq3:St→Bool
 |[]=>false
 |g::s=>g.hasLst||vq3 s
def vom (G:Glob)(f:Nat)(args:List AV)(seen:List Nat)(s:St)(k:K1):Option Res:=
 let ids:=vgf s 64 (vsq args) []
 bif v94 seen ids then none else
 G.call f (renL s ids args) (vb4 s ids ids) fun v sub=>
  let b:=back ids s.length
  let s1:=vmc s b ids sub
  match seen with
  |[]=>k (v.ren2 b) s1
  |_=>bif v.hasLst||vq3 sub then k (v.ren2 b) (vei s1 seen)else k (v.ren2 b) s1
def AV.plain:AV→Bool
 |.int _ _=>true
 |.bool _=>true
 |.str _=>true
 |_=>false
def vdt:List AV→Bool
 |[]=>true
 |a::l=>a.plain&&vdt l
def wis (e:Ty)(off:Nat)(e1:Ty)(ys:List e1.D)(x:e.D):Option e.D:=
 e.data [] (setE (e.cells x) off (.lst e1 ys))
def wde (G:Glob)(f r n i off:Nat)(rest:List AV)(s:St)(k:K1):Option Res:=
 match getR s r with
 |.dep e xs m dd=>bif Nat.beq m n&&vdt rest then
   match getE (e.cells (xs.getD i e.zero)) off with
   |.lst e1 ys=>G.call f (.own 0::rest) [.arr e1 ys] fun v sub=>
     match sub with
     |[.arr e2 ys2]=>if h:e2=e1 then
       match wis e off e1 (vep h ys2) (xs.getD i e.zero)with
       |some x'=>bif v.plain then k v (setR s r (.dep e (xs.set i x') m dd))else none
       |none=>none
      else none
     |_=>none
   |_=>none
  else none
 |_=>none
def vrz (G:Glob)(f:Nat)(ts:List Nat)(args caps:List AV)(s:St)(k:K1):Option Res:=
 bif G.inPlace f then
  (match args,caps with
  |.dw r n i off::rest,[]=>wde G f r n i off rest s k
  |args,caps=>vom G f (args++caps) [] s k)else
 match vfb G.ty s ts args with
 |none=>none
 |some (as,seen)=>vom G f (as++caps) (vl4 s seen) s k
def vc6:Value→AV
 |.int k n=>.int k n
 |.bool b=>.bool b
 |.string s=>.str s
 |.slice none 0 0=>.nilS
 |_=>.dead
def wbg:Value→AV
 |.agg cs=>.agg (cs.toList.map vc6)
 |v=>vc6 v
def ev (e:Env):Operand→AV
 |.tmp t=>getE e t
 |.const v=>wbg v
 |.func f=>.fn f []
 |.global _=>.dead
def evs (e:Env):List Operand→List AV
 |[]=>[]
 |x::l=>ev e x::evs e l
def cut (off n:Nat)(cs:List AV):Option (List AV):=
 if off+n≤cs.length then some ((cs.drop off).take n)else none
def val (r m i:Nat):Nat→List AV→List AV
 |_,[]=>[]
 |off,.lst _ _::l=>.dw r m i off::val r m i (off+1) l
 |off,c::l=>c::val r m i (off+1) l
def van (s:St)(r m i:Nat):Nat→List AV→Option (List Nat×Bool)
 |_,[]=>some ([],false)
 |off,.dw r' m' _ off'::l=>bif Nat.beq r' r&&Nat.beq m' m&&Nat.beq off' off then van s r m i (off+1) l else none
 |off,.own q::l=>match getR s q with
  |.arr e _=>bif e.flat then
    (match van s r m i (off+1) l with
    |some (ids,_)=>match idx q ids with
     |some _=>none
     |none=>some (q::ids,true)
    |none=>none)else none
  |_=>none
 |off,.nilS::l=>match van s r m i (off+1) l with
  |some (ids,_)=>some (ids,true)
  |none=>none
 |off,.int _ _::l=>van s r m i (off+1) l
 |off,.bool _::l=>van s r m i (off+1) l
 |off,.str _::l=>van s r m i (off+1) l
 |_,_=>none
def vq5:List AV→Option (Nat×Nat)
 |[]=>none
 |.dw r _ i _::_=>some (r,i)
 |_::l=>vq5 l
def dwOf:List AV→List Nat
 |[]=>[]
 |.dw _ _ i _::l=>i::dwOf l
 |_::l=>dwOf l
def vbd (s:St):List Nat→St
 |[]=>s
 |r::l=>vbd (setR s r .gone) l
def vht (s:St)(a:AV)(n:Nat):Option (List AV):=
 match a with
 |.bp b off=>match getR s b with
  |.box cs=>cut off n cs
  |_=>none
 |.ep r i off=>match getR s r with
  |.arr e xs=>cut off n (e.cells (xs.getD i e.zero))
  |.dep e xs m _=>cut off n (val r m i 0 (e.cells (xs.getD i e.zero)))
  |_=>none
 |.ip T x off=>cut off n (T.cells x)
 |_=>none
def vo5 (s:St):AV→Bool
 |.ep r i _=>match getR s r with
  |.dep _ _ _ dd=>hasD dd i
  |_=>false
 |_=>false
def vpg (s:St)(a:AV)(new:List AV):Bool:=
 match a with
 |.ep r i _=>match getR s r with
  |.dep _ _ _ dd=>bif vdt new then hasD dd i else match van s s.length 0 0 0 new with
   |some _=>hasD dd i
   |none=>false
  |_=>false
 |_=>false
def vlo (off:Nat)(new cs:List AV):Option (List AV):=
 if off+new.length≤cs.length then some (cs.take off++new++cs.drop (off+new.length))else none
def vin (s:St)(a:AV)(new:List AV):Option St:=
 match a with
 |.bp b off=>match getR s b with
  |.box cs=>match vlo off new cs with
   |some cs'=>some (setR s b (.box cs'))
   |none=>none
  |_=>none
 |.ep r i off=>match getR s r with
  |.arr e xs=>match vlo off new (e.cells (xs.getD i e.zero))with
   |some cs'=>match idx r (vc3 new)with
    |some _=>none
    |none=>match e.data s cs' with
     |some x=>some (setR (vei s (vc3 new)) r (.arr e (xs.set i x)))
     |none=>none
   |none=>none
  |.dep e xs m dd=>bif vdt new then
    match vlo off new (e.cells (xs.getD i e.zero))with
    |some cs1=>match e.data [] cs1 with
     |some x=>some (setR s r (.dep e (xs.set i x) m dd))
     |none=>none
    |none=>none
   else bif Nat.beq off 0&&Nat.beq new.length e.size then
    match van s s.length 0 0 0 new with
    |some (ids,_)=>match e.data s new with
     |some x=>some (setR (vbd s ids) r (.dep e (xs.set i x) (m+1) dd))
     |none=>none
    |none=>match vq5 new with
     |some (r',j)=>match van s r m j 0 new with
       |some (ids,_)=>match e.data s new with
        |some x=>bif Nat.beq r' r then some (setR (vbd s ids) r (.dep e (xs.set i x) (m+1) (dwOf new++delD i dd)))else none
        |none=>none
       |none=>none
     |none=>none
   else none
  |_=>none
 |_=>none
def wyy (op:BinOp)(k:IntKind)(a b:Int)(K:AV→Option Res):Option Res:=
 match op with
 |.add=>K (.int k (k.wrap (a+b)))
 |.sub=>K (.int k (k.wrap (a-b)))
 |.mul=>K (.int k (k.wrap (a*b)))
 |.quo=>if b=0 then none else K (.int k (k.wrap (a.tdiv b)))
 |.rem=>if b=0 then none else K (.int k (a.tmod b))
 |.and=>K (.int k (k.wrap (BitVec.ofInt k.bits a &&& BitVec.ofInt k.bits b).toNat))
 |.or=>K (.int k (k.wrap (BitVec.ofInt k.bits a ||| BitVec.ofInt k.bits b).toNat))
 |.xor=>K (.int k (k.wrap (BitVec.ofInt k.bits a ^^^ BitVec.ofInt k.bits b).toNat))
 |.eql=>K (.bool (a==b))
 |.neq=>K (.bool (a != b))
 |.lss=>K (.bool (decide (a<b)))
 |.leq=>K (.bool (decide (a≤b)))
 |.gtr=>K (.bool (decide (a>b)))
 |.geq=>K (.bool (decide (a≥b)))
 |_=>none
def v4r (op:BinOp)(k:IntKind)(a b:Int)(K:AV→Option Res):Option Res:=
 match op with
 |.shl=>if b<0 then none else K (.int k (k.wrap (a*2^(min b.toNat k.bits))))
 |.shr=>if b<0 then none else K (.int k (a.fdiv (2^(min b.toNat k.bits))))
 |_=>none
def ww1 (op:BinOp)(x y:ByteArray)(K:AV→Option Res):Option Res:=
 match op with
 |.add=>if x.size+y.size≤1099511627776 then K (.str (x++y))else none
 |.eql=>K (.bool (va3 x y))
 |.neq=>K (.bool !(va3 x y))
 |.lss=>K (.bool (vaf x y))
 |.leq=>K (.bool (vaf x y||va3 x y))
 |.gtr=>K (.bool !(vaf x y||va3 x y))
 |.geq=>K (.bool !(vaf x y))
 |_=>none
def Ty.eqB:(T:Ty)→T.D→T.D→Bool
 |.int _,a,b=>a==b
 |.bool,a,b=>a==b
 |.str,a,b=>va3 a b
 |.pair a b,x,y=>a.eqB x.1 y.1&&b.eqB x.2 y.2
 |.slice _,_,_=>false
def eqA (op:BinOp)(T:Ty)(s:St)(x y:AV)(K:AV→Option Res):Option Res:=
 match x,y with
 |.agg l,.agg m=>match T.data s l,T.data s m with
  |some a,some b=>match op with
   |.eql=>K (.bool (T.eqB a b))
   |.neq=>K (.bool !(T.eqB a b))
   |_=>none
  |_,_=>none
 |_,_=>none
def binA (isB:Bool)(op:BinOp)(x y:AV)(K:AV→Option Res):Option Res:=
 match x,y with
 |.int k a,.int k' b=>match op with
  |.shl=>v4r op k a b K
  |.shr=>v4r op k a b K
  |_=>if k=k' then wyy op k a b K else none
 |.str a,.str b=>ww1 op a b K
 |.bool a,.bool b=>match isB,op with
  |true,.eql=>K (.bool (a==b))
  |true,.neq=>K (.bool !(a==b))
  |_,_=>none
 |_,_=>none
def v45:List Int→ByteArray
 |l=>l.foldl (fun s n=>s.push (UInt8.ofNat n.toNat)) .empty
def vea (s:ByteArray):List Int:=s.data.toList.map fun b=>(b.toNat:Int)
def wq8 (s:St)(e:Ty)(v:AV):Option (List e.D):=
 match v with
 |.str t=>if h:Ty.int .u8=e then some (vep h (vea t))else none
 |.own r=>match getR s r with
  |.dep _ _ _ _=>none
  |_=>vb3 s e (.own r)
 |v=>vb3 s e v
def maxLen:Nat:=4294967296
def vv3 (s:St)(r:Nat):St:=
 match getR s r with
 |.dep e xs _ []=>setR s r (.arr e xs)
 |_=>s
def vku (s:St)(e:Ty)(d x:AV)(k:K1):Option Res:=
 match d with
 |.nilS=>match wq8 s e x with
  |some ys=>if ys.length≤maxLen then k (.own s.length) (s++[.arr e ys])else none
  |none=>none
 |.own r=>match getR s r with
  |.arr e' xs=>if h:e'=e then match idx r x.refs with
    |some _=>none
    |none=>match wq8 s e x with
     |some ys=>if xs.length+ys.length≤maxLen then k (.own s.length) (setR s r .gone++[.arr e (vep h xs++ys)])else none
     |none=>none
   else none
  |_=>none
 |_=>none
def v89 (s:St)(e:Ty)(d:AV)(q:Nat)(ys:List e.D)(k:K1):Option Res:=
 match d with
 |.nilS=>if ys.length≤maxLen then k (.own s.length) (setR s q .gone++[.dep e ys 0 []])else none
 |.own r=>match getR s r with
  |.dep e' xs _ []=>if h:e'=e then bif Nat.beq r q then none else
    if xs.length+ys.length≤maxLen then k (.own s.length) (setR (setR s r .gone) q .gone++[.dep e (vep h xs++ys) 0 []])else none
   else none
  |_=>vku (vv3 s q) e d (.own q) k
 |_=>none
def v26 (s:St)(e:Ty)(d x:AV)(k:K1):Option Res:=
 bif e.deep then
  match x with
  |.own q=>match getR s q with
   |.dep e' ys _ []=>if h:e'=e then v89 s e d q (vep h ys) k else none
   |_=>match d with
    |.own r=>vku (vv3 s r) e d x k
    |d=>vku s e d x k
  |x=>match d with
   |.own r=>vku (vv3 s r) e d x k
   |d=>vku s e d x k
 else vku s e d x k
def vx6:List (Nat×AV)→(Nat→Option (Nat×Nat))→List AV→Option (List AV)
 |[],_,cs=>some cs
 |(i,v)::l,pl,cs=>match pl i,v.cells? with
  |some (off,n),some vc=>if vc.length=n then match vlo off vc cs with
    |some cs'=>vx6 l pl cs'
    |none=>none
   else none
  |_,_=>none
def vel:Nat→List AV→List AV
 |0,_=>[]
 |n+1,cs=>cs++vel n cs
def vo3 (s:St)(e:Ty):Nat→List AV→Option (List e.D)
 |0,[]=>some []
 |0,_=>none
 |n+1,cs=>match e.take s cs with
  |some (x,r)=>match vo3 s e n r with
   |some xs=>some (x::xs)
   |none=>none
  |none=>none
def sliceA (T:Ty)(s:St)(x:AV)(lo hi:Option AV)(k:K1):Option Res:=
 match (match lo with|none=>some (0:Int)|some (.int _ n)=>some n|_=>none)with
 |none=>none
 |some l=>match T,x with
  |.str,.str t=>
   match (match hi with|none=>some (t.size:Int)|some (.int _ n)=>some n|_=>none)with
   |none=>none
   |some h=>if 0≤l∧l≤h∧h≤(t.size:Int)then k (.str (t.extract l.toNat h.toNat)) s else none
  |.slice T',.lst e xs=>
   if e.size=T'.size then
   match (match hi with|none=>some (xs.length:Int)|some (.int _ n)=>some n|_=>none)with
   |none=>none
   |some h=>if 0≤l∧l≤h∧h≤(xs.length:Int)then k (.lst e ((xs.take h.toNat).drop l.toNat)) s else none
   else none
  |.slice T',.own r=>match getR s r with
   |.arr e xs=>
    if e.size=T'.size then
    match lo,hi with
    |some _,none=>if 0≤l∧l≤(xs.length:Int)then k (.win r l.toNat) s else none
    |none,some (.int _ h)=>if 0≤h∧h≤(xs.length:Int)then k (.own s.length) (setR s r .gone++[.arr e (xs.take h.toNat)])else none
    |_,_=>match (match hi with|none=>some (xs.length:Int)|some (.int _ n)=>some n|_=>none)with
    |none=>none
    |some h=>if 0≤l∧l≤h∧h≤(xs.length:Int)then k (.lst e ((xs.take h.toNat).drop l.toNat)) (setR s r (.frz e xs))else none
    else none
   |.dep e xs _ dd=>
    if e.size=T'.size then
    match lo,hi with
    |some _,none=>if 0≤l∧l≤(xs.length:Int)then k (.win r l.toNat) s else none
    |none,some (.int _ h)=>if 0≤h∧h≤(xs.length:Int)then(bif geD h.toNat dd then k (.own s.length) (setR s r .gone++[.dep e (xs.take h.toNat) 0 []])else none)else none
    |_,_=>none
    else none
   |.frz e xs=>
    if e.size=T'.size then
    match (match hi with|none=>some (xs.length:Int)|some (.int _ n)=>some n|_=>none)with
    |none=>none
    |some h=>if 0≤l∧l≤h∧h≤(xs.length:Int)then k (.lst e ((xs.take h.toNat).drop l.toNat)) s else none
    else none
   |_=>none
  |.slice _,.nilS=>
   match (match hi with|none=>some (0:Int)|some (.int _ n)=>some n|_=>none)with
   |none=>none
   |some h=>if 0≤l∧l≤h∧h≤0 then k .nilS s else none
  |_,_=>none
def bt (s:ByteArray)(i:Int):Int:=((s.data.getD i.toNat 0).toNat:Int)
def rd {α:Type}(d:α)(xs:List α)(i:Int):α:=xs.getD i.toNat d
def vs0 (T:Ty)(s:St)(x i:AV)(k:K1):Option Res:=
 match i with
 |.int _ n=>match x with
  |.lst e xs=>if e.size=T.size then(if 0≤n∧n<(xs.length:Int)then k (.ip e (rd e.zero xs n) 0) s else none)else none
  |.own r=>match getR s r with
   |.arr e xs=>if e.size=T.size then(if 0≤n∧n<(xs.length:Int)then k (.ep r n.toNat 0) s else none)else none
   |.dep e xs _ _=>if e.size=T.size then(if 0≤n∧n<(xs.length:Int)then k (.ep r n.toNat 0) s else none)else none
   |.frz e xs=>if e.size=T.size then(if 0≤n∧n<(xs.length:Int)then k (.ip e (rd e.zero xs n) 0) s else none)else none
   |_=>none
  |.win r lo=>match getR s r with
   |.arr e xs=>if e.size=T.size then(if 0≤n∧n<(xs.length:Int)-(lo:Int)then k (.ep r (lo+n.toNat) 0) s else none)else none
   |_=>none
  |_=>none
 |_=>none
def lenA (s:St)(x:AV):Option Int:=
 match x with
 |.str t=>some (t.size:Int)
 |.lst _ xs=>some (xs.length:Int)
 |.nilS=>some 0
 |.own r=>match getR s r with
  |.arr _ xs=>some (xs.length:Int)
  |.frz _ xs=>some (xs.length:Int)
  |.dep _ xs _ _=>some (xs.length:Int)
  |_=>none
 |.win r lo=>match getR s r with
  |.arr _ xs=>some ((xs.length:Int)-(lo:Int))
  |_=>none
 |_=>none
def minA:List AV→Option AV
 |[.int k a,.int k' b]=>if k=k' then some (.int k (if b<a then b else a))else none
 |_=>none
def maxA:List AV→Option AV
 |[.int k a,.int k' b]=>if k=k' then some (.int k (if b>a then b else a))else none
 |_=>none
def wnl (s:St)(e:Ty)(d x:AV)(k:K1):Option Res:=
 match d,x with
 |.nilS,.int _ n=>if 0≤n∧n≤(maxLen:Int)then k (.own s.length) (s++[.arr e (List.replicate n.toNat e.zero)])else none
 |_,_=>none
def wnt (s:St)(T:Ty)(x:AV)(k:K1):Option Res:=
 match x with
 |.nilS=>k .dead s
 |.win r lo=>match getR s r with
  |.arr e xs=>if e=T then k .dead (setR s r (.arr e (xs.take lo++List.replicate (xs.length-lo) e.zero)))else none
  |.dep e xs m dd=>if e=T then(bif e.deepIn then k .dead (setR s r (.dep e (xs.take lo++List.replicate (xs.length-lo) e.zero) (m+1) (loD lo dd)))else none)else none
  |_=>none
 |_=>none
def v4d (G:Glob)(b:Builtin)(ts:List Nat)(args:List AV)(s:St)(k:K1):Option Res:=
 match b,ts,args with
 |.len,[t],[x]=>match G.ty t,lenA s x with
  |some (false,.str),some n=>match x with
   |.str _=>k (.int .i64 n) s
   |_=>none
  |some (false,.slice _),some n=>match x with
   |.str _=>none
   |_=>k (.int .i64 n) s
  |_,_=>none
 |.append,[t,t'],[d,x]=>match G.ty t with
  |some (false,.slice e)=>match G.ty t' with
   |some (false,.int _)=>wnl s e d x k
   |some (true,.int _)=>none
   |none=>none
   |_=>v26 s e d x k
  |_=>none
 |.cap,[t],[.nilS]=>match G.ty t with
  |some (false,.slice _)=>k (.int .i64 0) s
  |_=>none
 |.clear,[t],[x]=>match G.ty t with
  |some (false,.slice e)=>wnt s e x k
  |_=>none
 |.min,_,args=>match minA args with
  |some v=>k v s
  |none=>none
 |.max,_,args=>match maxA args with
  |some v=>k v s
  |none=>none
 |_,_,_=>none
def v49 (G:Glob)(src dst:Nat)(x:AV)(s:St)(k:K1):Option Res:=
 match G.ty src with
 |none=>none
 |some (sa,S)=>match G.ty dst with
 |some (false,.int kd)=>match x with
  |.int _ n=>k (.int kd (kd.wrap n)) s
  |_=>none
 |some (false,.str)=>match x with
  |.str t=>k (.str t) s
  |.int _ _=>none
  |x=>match sa,S with
   |false,.slice (.int .u8)=>match vb3 s (.int .u8) x with
    |some xs=>k (.str (v45 xs)) s
    |none=>none
   |_,_=>none
 |_=>none
def vxa (G:Glob)(o:Op)(e:Env)(s:St)(k:K1):Option Res:=
 match o with
 |.move x=>k (ev e x) s
 |.assign x=>k (ev e x) s
 |.pick c a b=>match ev e c with
  |.bool t=>bif t then k (ev e a) s else k (ev e b) s
  |_=>none
 |.alloc t=>match G.ty t with
  |some (_,T)=>k (.bp s.length 0) (s++[.box T.zcells])
  |none=>bif G.one t then k (.bp s.length 0) (s++[.box [.dead]])else none
 |.box _ v=>match (ev e v).cells? with
  |some cs=>k (.bp s.length 0) (s++[.box cs])
  |none=>none
 |.build t parts=>match G.ty t with
  |some (true,T)=>match vx6 (parts.toList.map fun p=>(p.1,ev e p.2)) (fun i=>match G.fld t i with|some (off,_,T)=>some (off,T.size)|none=>none) T.zcells with
   |some cs=>k (.agg cs) s
   |none=>none
  |_=>none
 |.buildSlice t n parts=>match G.ty t with
  |some (false,.slice el)=>match vx6 (parts.toList.map fun p=>(p.1,ev e p.2)) (fun i=>some (i*el.size,el.size)) (vel n el.zcells)with
   |some cs=>match vo3 s el n cs with
    |some xs=>if n*el.size≤16777216 then
      (bif G.deep&&el.deep then
       match van s s.length 0 0 0 cs with
       |some (ids,_)=>k (.own s.length) (vbd s ids++[.dep el xs 0 []])
       |none=>match vq5 cs with
        |some (r,j)=>(match getR s r with
         |.dep e ys m dd=>bif Nat.beq n 1 then
           (match van s r m j 0 cs with
           |some (ids,_)=>k (.own s.length) (setR (vbd s ids) r (.dep e ys (m+1) (dwOf cs++dd))++[.dep el xs 0 []])
           |none=>k (.own s.length) (vei s (vc3 cs)++[.arr el xs]))
          else k (.own s.length) (vei s (vc3 cs)++[.arr el xs])
         |_=>k (.own s.length) (vei s (vc3 cs)++[.arr el xs]))
        |none=>k (.own s.length) (vei s (vc3 cs)++[.arr el xs])
      else k (.own s.length) (vei s (vc3 cs)++[.arr el xs]))else none
    |none=>none
   |none=>none
  |_=>none
 |.load t a=>match G.ty t with
  |some (ag,T)=>bif vo5 s (ev e a)then none else match vht s (ev e a) T.size with
   |some cs=>match vfa ag cs with
    |some v=>k v s
    |none=>none
   |none=>none
  |none=>bif G.one t then(bif vo5 s (ev e a)then none else match vht s (ev e a) 1 with
   |some [c]=>k c s
   |_=>none)else none
 |.store t a v=>match G.ty t with
  |some (_,T)=>match (ev e v).cells? with
   |some cs=>if cs.length=T.size then(bif vpg s (ev e a) cs then none else match vin s (ev e a) cs with
    |some s'=>k .dead s'
    |none=>none)
    else none
   |none=>none
  |none=>bif G.one t then(match (ev e v).cells? with
   |some [c]=>bif vpg s (ev e a) [c]then none else match vin s (ev e a) [c]with
    |some s'=>k .dead s'
    |none=>none
   |_=>none)else none
 |.nilCheck x=>match ev e x with
  |.bp b o=>k (.bp b o) s
  |.ep r i o=>match getR s r with
   |.arr _ _=>k (.ep r i o) s
   |.dep _ _ _ _=>k (.ep r i o) s
   |_=>none
  |.ip T x o=>k (.ip T x o) s
  |.fn f c=>k (.fn f c) s
  |_=>none
 |.binOp op t x y _=>match G.ty t with
  |none=>none
  |some (true,T)=>bif G.eqt t&&T.flat then eqA op T s (ev e x) (ev e y) (fun v=>k v s)else none
  |some (false,.bool)=>match ev e x with
   |.agg _=>none
   |_=>binA true op (ev e x) (ev e y) fun v=>k v s
  |some (false,.pair _ _)=>none
  |some (false,.slice _)=>none
  |some (false,_)=>match ev e x with
   |.agg _=>none
   |_=>binA false op (ev e x) (ev e y) fun v=>k v s
 |.unOp op _ x=>match op,ev e x with
  |.not,.bool b=>k (.bool !b) s
  |.neg,.int kd n=>k (.int kd (kd.wrap (0-n))) s
  |_,_=>none
 |.convert src dst x=>v49 G src dst (ev e x) s k
 |.makeFunc fn first caps=>match fn,first.toList with
  |.func f,[]=>k (.fn f (evs e caps.toList)) s
  |_,_=>none
 |.makeSlice t l c=>match G.ty t,ev e l,ev e c with
  |some (false,.slice el),.int .i64 n,.int .i64 m=>if 0≤n∧n≤m∧m≤(maxLen:Int)then
    (bif G.deep&&el.deep then k (.own s.length) (s++[.dep el (List.replicate n.toNat el.zero) 0 []])
    else k (.own s.length) (s++[.arr el (List.replicate n.toNat el.zero)]))else none
  |_,_,_=>none
 |.slice t x lo hi mx=>match G.ty t,mx with
  |some (false,T),none=>sliceA T s (ev e x) (lo.map (ev e)) (hi.map (ev e)) k
  |_,_=>none
 |.fieldAddr t x f=>match G.fld t f with
  |some (off,_,_)=>match ev e x with
   |.bp b o=>k (.bp b (o+off)) s
   |.ep r i o=>match getR s r with
    |.arr _ _=>k (.ep r i (o+off)) s
    |.dep _ _ _ _=>k (.ep r i (o+off)) s
    |_=>none
   |.ip T x o=>k (.ip T x (o+off)) s
   |_=>none
  |none=>none
 |.field t x f=>match G.fld t f with
  |some (off,ag,T)=>match ev e x with
   |.agg cs=>match cut off T.size cs with
    |some c=>match vfa ag c with
     |some v=>k v s
     |none=>none
    |none=>none
   |_=>none
  |none=>none
 |.indexAddr t x i=>match G.ty t with
  |some (false,.slice T)=>vs0 T s (ev e x) (ev e i) k
  |_=>none
 |.index t x i=>match G.ty t with
  |some (false,.str)=>match ev e x,ev e i with
   |.str t,.int _ n=>if 0≤n∧n<(t.size:Int)then k (.int .u8 (bt t n)) s else none
   |_,_=>none
  |_=>none
 |.extract x i=>match ev e x with
  |.tup vs=>if i<vs.length then k (getE vs i) s else none
  |_=>none
 |.call c=>match c.callee with
  |.builtin b=>v4d G b c.argTypes.toList (evs e c.args.toList) s k
  |.value f=>match ev e f with
   |.fn g caps=>vrz G g c.argTypes.toList (evs e c.args.toList) caps s k
   |_=>none
  |_=>none
 |_=>none
def vyt (ops:List Oper)(j:Nat):Option Tmp:=
 match ops,j with
 |[],_=>none
 |o::_,0=>o.dst
 |_::l,j+1=>vyt l j
def put (e:Env)(d:Option Tmp)(v:AV):Env:=
 match d with
 |some t=>setE e t v
 |none=>e
def iota:Nat→Nat→List Nat
 |_,0=>[]
 |a,n+1=>a::iota (a+1) n
def v4q (s:St):List Nat→List Nat
 |[]=>[]
 |r::l=>(match getR s r with | .box cs=>vsq cs|_=>[])++v4q s l
def vt4:St→Bool
 |[]=>true
 |.dep _ _ m _::l=>Nat.beq m 0&&vt4 l
 |_::l=>vt4 l
def ved:Nat→St→St
 |_,[]=>[]
 |0,.dep e xs _ dd::l=>.dep e xs 0 dd::ved 0 l
 |0,g::l=>g::ved 0 l
 |n+1,.dep e xs m dd::l=>.dep e xs (bif Nat.beq m 0 then 0 else 1) dd::ved n l
 |n+1,g::l=>g::ved n l
def pack (n:Nat)(vs:List AV)(s:St):List AV×St:=
 let ids:=vgf s 64 (v4q s (iota 0 n)++vsq vs) (iota 0 n)
 (renL s ids vs,ved n (vb4 s ids ids))
mutual
def AV.wide (n:Nat):AV→List (Option Ty)→AV×List (Option Ty)×List Ty
 |.nilS,some e::ws=>(.own n,ws,[e])
 |.lst _ _,some _::ws=>(.dead,ws,[])
 |.agg cs,ws=>match vhq n cs ws with
  |(cs',r)=>(.agg cs',r)
 |.tup cs,ws=>match vhq n cs ws with
  |(cs',r)=>(.tup cs',r)
 |v,ws=>(v,ws.tail,[])
def vhq (n:Nat):List AV→List (Option Ty)→List AV×List (Option Ty)×List Ty
 |[],ws=>([],ws,[])
 |v::l,ws=>match v.wide n ws with
  |(v',ws',ts)=>match vhq (n+ts.length) l ws' with
   |(l',ws2,ts2)=>(v'::l',ws2,ts++ts2)
end
def vle (n:Nat):St→List (Option Ty)→St×List Ty
 |[],_=>([],[])
 |.box cs::l,ws=>match vhq n cs ws with
  |(cs',ws',ts)=>match vle (n+ts.length) l ws' with
   |(l',ts2)=>(.box cs'::l',ts++ts2)
 |g::l,ws=>match vle n l ws with
  |(l',ts)=>(g::l',ts)
def vl5 (e:Ty):Rg:=bif e.deep then .dep e [] 0 []else .arr e []
def vjy:List Ty→St
 |[]=>[]
 |e::l=>vl5 e::vjy l
def v7q (ws:List (Option Ty))(vs:List AV)(s:St):List AV×St:=
 match ws with
 |[]=>(vs,s)
 |_=>match vhq s.length vs ws with
  |(vs',ws',ts)=>match vle (s.length+ts.length) s ws' with
   |(s',ts2)=>(vs',s'++vjy (ts++ts2))
def vtb (ws:List (Option Ty))(n:Nat)(vs:List AV)(s:St):List AV×St:=
 match ws with
 |[]=>pack n vs s
 |w::ws=>match pack n vs s with
  |(vs',s')=>match v7q (w::ws) vs' s' with
   |(v2,s2)=>pack n v2 s2
def vy7 (e:Env):List Nat→List AV
 |[]=>[]
 |t::l=>getE e t::vy7 e l
def vh2 (e:Env):List Nat→List AV→Env
 |t::l,v::vs=>vh2 (setE e t v) l vs
 |_,_=>e
def vgy:Nat→Env
 |0=>[]
 |n+1=>.dead::vgy n
structure Fx where
 n:Nat
 nt:Nat
 loops:Nat→Option LoopSpec
end
end Go.VE
