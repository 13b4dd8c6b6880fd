/- Native programs of the functions, written by gen.py. -/
import Derived.Test.YtaaoeehlfihjdaaGreatFnBothN1
namespace Go.VE
noncomputable section
set_option linter.unusedVariables false
set_option linter.unusedSimpArgs false
set_option maxRecDepth 100000
def vd5 (x:q74T)(k:q43T→OR):OR:=
 let xh:=x.2.2.2.2
 let xi:=xh.2.2.2.2
 bif (x.1==(1:Int))then
 bif (x.2.1==(2:Int))then
 bif (x.2.2.1==(0:Int))then
 bif (x.2.2.2.1==(5:Int))then
 vuc ((xh.2.2.1,(xh.2.2.2.1,(xi.1,(xh.1,xh.2.1)))),xi.2) (fun y17=>
 k (y17,x.1,x.2.1,x.2.2.1,x.2.2.2.1,xh.1,xh.2.1,xh.2.2.1,xh.2.2.2.1,xi.1,xi.2))
 else
 k (false,x.1,x.2.1,x.2.2.1,x.2.2.2.1,xh.1,xh.2.1,xh.2.2.1,xh.2.2.2.1,xi.1,xi.2)
 else
 k (false,x.1,x.2.1,x.2.2.1,x.2.2.2.1,xh.1,xh.2.1,xh.2.2.1,xh.2.2.2.1,xi.1,xi.2)
 else
 k (false,x.1,x.2.1,x.2.2.1,x.2.2.2.1,xh.1,xh.2.1,xh.2.2.1,xh.2.2.2.1,xi.1,xi.2)
 else
 k (false,x.1,x.2.1,x.2.2.1,x.2.2.2.1,xh.1,xh.2.1,xh.2.2.1,xh.2.2.2.1,xi.1,xi.2)
instance n88n_jp5000023 (x:q74T):ParC (vd5 x):=by unfold vd5;(try dsimp only);infer_instance
def vd0 (x:q62T)(k:q42T→OR):OR:=
 let xh:=x.2.2.2.2
 let t0:=(IntKind.wrap .i64 ((1:Int)-x.2.2.1))
 let t1:=((xh.2.2.2.2.1,(xh.2.2.2.2.2.1,(xh.2.2.2.2.2.2.1,(xh.2.1,xh.2.2.1)))),xh.2.2.2.2.2.2.2)
 if 0≤(2:Int)∧(2:Int)<(xh.1.length:Int)then
 bif (((xh.1.getD (2:Int).toNat (Ty.zero (.i))).tmod (2:Int))==(0:Int))then
 if 0≤t0∧t0<(xh.2.2.2.1.length:Int)then
 vpd t1 (xh.2.2.2.1.getD t0.toNat (Ty.zero (.i))) (⟨#[113]⟩:ByteArray) (fun y13=>
 let y13h:=y13.2.2.2.2
 let y13i:=y13h.2.2.2.2
 let y13j:=y13i.2.2.2.2
 vd5 (x.1,x.2.1,x.2.2.2.1,y13j.2.1,y13.1,y13.2.1,y13j.2.2.1,y13j.2.2.2.1,y13j.2.2.2.2.1,y13j.2.2.2.2.2.1) (fun z14=>
 let z14h:=z14.2.2.2.2
 k (z14.1,z14.2.1,z14.2.2.1,z14.2.2.2.1,z14h.2.1,z14h.2.2.1,z14h.2.2.2.1,z14h.2.2.2.2.1,z14h.2.2.2.2.2.1,z14h.2.2.2.2.2.2)))
 else none
 else
 if 0≤t0∧t0<(xh.2.2.2.1.length:Int)then
 vr4 t1 (xh.2.2.2.1.getD t0.toNat (Ty.zero (.i))) (fun y15=>
 let y15h:=y15.2.2.2.2
 let y15i:=y15h.2.2.2.2
 let y15j:=y15i.2.2.2.2
 vd5 (x.1,x.2.1,x.2.2.2.1,y15j.2.1,y15.1,y15.2.1,y15j.2.2.1,y15j.2.2.2.1,y15j.2.2.2.2.1,y15j.2.2.2.2.2.1) (fun z16=>
 let z16h:=z16.2.2.2.2
 k (z16.1,z16.2.1,z16.2.2.1,z16.2.2.2.1,z16h.2.1,z16h.2.2.1,z16h.2.2.2.1,z16h.2.2.2.2.1,z16h.2.2.2.2.2.1,z16h.2.2.2.2.2.2)))
 else none
 else none
instance n88n_jp5000019 (x:q62T):ParC (vd0 x):=by unfold vd0;(try dsimp only);infer_instance
def vnh (x:q59T)(k:q59T⊕q59T→OR):OR:=
 let xh:=x.2.2.2.2
 let xi:=xh.2.2.2.2
 let t0:=(IntKind.wrap .i64 ((1:Int)-x.2.2.1))
 bif (decide (x.2.2.1<2))then
 if 0≤x.2.2.1∧x.2.2.1<(xh.2.2.1.length:Int)then
 if 0≤t0∧t0<(xh.2.2.2.1.length:Int)then
 vqn ((xi.1,(xi.2.1,(xi.2.2.1,(xh.1,xh.2.1)))),xi.2.2.2) (xh.2.2.1.getD x.2.2.1.toNat (Ty.zero (.i))) (xh.2.2.2.1.getD t0.toNat (Ty.zero .str)) (fun y11=>
 if 0≤x.2.2.1∧x.2.2.1<(xh.2.2.1.length:Int)then
 if 0≤x.2.2.1∧x.2.2.1<(xh.2.2.2.1.length:Int)then
 vqo ((y11.2.2.2.2.2.1,(y11.2.2.2.2.2.2.1,(y11.2.2.2.2.2.2.2.1,(y11.1,y11.2.1)))),y11.2.2.2.2.2.2.2.2) (xh.2.2.1.getD x.2.2.1.toNat (Ty.zero (.i))) ((xh.2.2.2.1.getD x.2.2.1.toNat (Ty.zero .str)),((⟨#[118]⟩:ByteArray),false)) (fun y12=>
 k (.inl (x.1,x.2.1,(IntKind.wrap .i64 (x.2.2.1+1)),x.2.2.2.1,y12.1,y12.2.1,xh.2.2.1,xh.2.2.2.1,y12.2.2.2.1,y12.2.2.2.2.1,y12.2.2.2.2.2.1,y12.2.2.2.2.2.2)))
 else none
 else none)
 else none
 else none
 else
 k (.inr (x.1,x.2.1,x.2.2.1,x.2.2.2.1,xh.1,xh.2.1,xh.2.2.1,xh.2.2.2.1,xi.1,xi.2.1,xi.2.2.1,xi.2.2.2))
instance n88n_bp0 (x:q59T):ParC (vnh x):=by unfold vnh;(try dsimp only);infer_instance
def wfh (a0:(List Int))(k:Bool→OR):OR:=
 v76 a0 (fun y1=>
 bif y1 then
 k true
 else
 vwu a0 (fun y2=>
 v7r  (fun y3=>
 vub ((([]:List vak),(([]:List dTxn),(([]:List dTxn),y3))),([]:List dTxn)) (fun y4=>
 vub ((y4.2.2.2.2.1,(y4.2.2.2.2.2.1,(y4.2.2.2.2.2.2.1,(y4.1,y4.2.1)))),y4.2.2.2.2.2.2.2) (fun y5=>
 vad vnh Fuel (y4.2.2.1,y5.2.2.1,(0:Int),y2,y5.1,y5.2.1,[y4.2.2.1,y5.2.2.1],[(⟨#[97]⟩:ByteArray),(⟨#[98]⟩:ByteArray)],y5.2.2.2.2.1,y5.2.2.2.2.2.1,y5.2.2.2.2.2.2.1,y5.2.2.2.2.2.2.2) (fun z6=>
 let z6h:=z6.2.2.2.2
 let z6i:=z6h.2.2.2.2
 if 0≤(0:Int)∧(0:Int)<(z6.2.2.2.1.length:Int)then
 if 0≤(1:Int)∧(1:Int)<(z6.2.2.2.1.length:Int)then
 bif (((z6.2.2.2.1.getD (1:Int).toNat (Ty.zero (.i))).tmod (2:Int))==(0:Int))then
 if 0≤((z6.2.2.2.1.getD (0:Int).toNat (Ty.zero (.i))).tmod (2:Int))∧((z6.2.2.2.1.getD (0:Int).toNat (Ty.zero (.i))).tmod (2:Int))<(z6h.2.2.1.length:Int)then
 vpd ((z6i.1,(z6i.2.1,(z6i.2.2.1,(z6h.1,z6h.2.1)))),z6i.2.2.2) (z6h.2.2.1.getD ((z6.2.2.2.1.getD (0:Int).toNat (Ty.zero (.i))).tmod (2:Int)).toNat (Ty.zero (.i))) (⟨#[112]⟩:ByteArray) (fun y7=>
 let y7h:=y7.2.2.2.2
 let y7i:=y7h.2.2.2.2
 let y7j:=y7i.2.2.2.2
 vd0 (z6.1,z6.2.1,((z6.2.2.2.1.getD (0:Int).toNat (Ty.zero (.i))).tmod (2:Int)),y7j.2.1,z6.2.2.2.1,y7.1,y7.2.1,z6h.2.2.1,y7j.2.2.1,y7j.2.2.2.1,y7j.2.2.2.2.1,y7j.2.2.2.2.2.1) (fun z8=>
 k z8.1))
 else none
 else
 if 0≤((z6.2.2.2.1.getD (0:Int).toNat (Ty.zero (.i))).tmod (2:Int))∧((z6.2.2.2.1.getD (0:Int).toNat (Ty.zero (.i))).tmod (2:Int))<(z6h.2.2.1.length:Int)then
 vr4 ((z6i.1,(z6i.2.1,(z6i.2.2.1,(z6h.1,z6h.2.1)))),z6i.2.2.2) (z6h.2.2.1.getD ((z6.2.2.2.1.getD (0:Int).toNat (Ty.zero (.i))).tmod (2:Int)).toNat (Ty.zero (.i))) (fun y9=>
 let y9h:=y9.2.2.2.2
 let y9i:=y9h.2.2.2.2
 let y9j:=y9i.2.2.2.2
 vd0 (z6.1,z6.2.1,((z6.2.2.2.1.getD (0:Int).toNat (Ty.zero (.i))).tmod (2:Int)),y9j.2.1,z6.2.2.2.1,y9.1,y9.2.1,z6h.2.2.1,y9j.2.2.1,y9j.2.2.2.1,y9j.2.2.2.2.1,y9j.2.2.2.2.2.1) (fun z10=>
 k z10.1))
 else none
 else none
 else none))))))
def wfb:=shut wfh
theorem wje:wfb=wfh:=vac _
instance n88n_p (a0:(List Int)):ParC (wfb a0):=by rw [wje];unfold wfh;(try dsimp only);exact⟨((n89n_p _).p.bind fun _=>(var (vag _) ((n126n_p _).p.bind fun _=>(n17n_p.p.bind fun _=>((n07n_p _).p.bind fun _=>((n07n_p _).p.bind fun _=>((vew (fun x=>(n88n_bp0 x).p) _ _).bind fun _=>(vc9 (vc9 (var (vc9 ((n34n_p ..).p.bind fun _=>((n88n_jp5000019 _).p.bind fun _=>(vag _))) va5) (vc9 ((n12n_p ..).p.bind fun _=>((n88n_jp5000019 _).p.bind fun _=>(vag _))) va5)) va5) va5))))))))⟩
def wur (args:List AV)(st:St)(k:K1):OR:=
 vae [.lst (.int .u8)] [] args st (fun p q=>v76 p.1 (fun(y:Bool)=>k (.bool y) []))
 (none)
def wn8 (args:List AV)(st:St)(k:K1):OR:=
 vae [.lst (.int .u8)] [] args st (fun p q=>vyl p.1 (fun(y:((List Int)×Int×Int))=>k (.bp 0 0) [.box [.lst (.int .u8) y.1,.i y.2.1,.i y.2.2]]))
 (none)
def wkq (args:List AV)(st:St)(k:K1):OR:=
 vae [.bp 0 0] [.box [.lst (.int .u8),.i,.i]] args st (fun p q=>vkm q.1.1 q.1.2.1 q.1.2.2.1 (fun(y:(Int×(List Int)×Int×Int))=>k (.i y.1) [.box [.lst (.int .u8) y.2.1,.i y.2.2.1,.i y.2.2.2]]))
 (none)
def wpd (args:List AV)(st:St)(k:K1):OR:=
 vae [.bp 0 0,.i] [.box [.lst (.int .u8),.i,.i]] args st (fun p q=>vvh p.2.1 q.1.1 q.1.2.1 q.1.2.2.1 (fun(y:(Int×(List Int)×Int×Int))=>k (.i y.1) [.box [.lst (.int .u8) y.2.1,.i y.2.2.1,.i y.2.2.2]]))
 (none)
def wj2 (args:List AV)(st:St)(k:K1):OR:=
 vae [.lst (.int .u8)] [] args st (fun p q=>vwu p.1 (fun(y:(List Int))=>k (.own 0) [.arr (.i) y]))
 (none)
def wuo (args:List AV)(st:St)(k:K1):OR:=
 vae [] [] args st (fun p q=>v68  (fun(y:(Int×Int))=>k (.agg [.nilS,.nilS,.nilS,.i y.1,.i y.2]) []))
 (none)
def wtx (args:List AV)(st:St)(k:K1):OR:=
 vae [] [] args st (fun p q=>v7r  (fun(y:(Int×Int))=>k (.agg [.nilS,.nilS,.nilS,.i y.1,.i y.2,.nilS]) []))
 (none)
def wuz (args:List AV)(st:St)(k:K1):OR:=
 vae [.agg [.i,.i,.i,.i,.lst tRange,.lst tWrite,.bool,.str]] [] args st (fun p q=>vhc (p.1.1,(p.1.2.1,(p.1.2.2.1,(p.1.2.2.2.1,(p.1.2.2.2.2.1,(p.1.2.2.2.2.2.1,(p.1.2.2.2.2.2.2.1,p.1.2.2.2.2.2.2.2.1))))))) (fun(y:q64T)=>k (.agg [.i y.1,.i y.2.1,.i y.2.2.1,.i y.2.2.2.1,.own 0,.own 1,.bool y.2.2.2.2.1,.str y.2.2.2.2.2.1]) [.arr tRange y.2.2.2.2.2.2.1,.arr tWrite y.2.2.2.2.2.2.2]))
 (none)
def wu0 (args:List AV)(st:St)(k:K1):OR:=
 vae [.lst tTxn] [] args st (fun p q=>vtx p.1 (fun(y:TL)=>k (.own 0) [.dep tTxn y 0 []]))
 (none)
def wvv (args:List AV)(st:St)(k:K1):OR:=
 vae [.agg [.lst tVersion,.lst tTxn,.lst tTxn,.i,.i]] [] args st (fun p q=>vqj (p.1.1,(p.1.2.1,(p.1.2.2.1,(p.1.2.2.2.1,p.1.2.2.2.2.1)))) (fun(y:q57T)=>k (.agg [.own 0,.own 1,.own 2,.i y.1,.i y.2.1]) [.arr tVersion y.2.2.1,.dep tTxn y.2.2.2.1 0 [],.dep tTxn y.2.2.2.2 0 []]))
 (none)
def wu6 (args:List AV)(st:St)(k:K1):OR:=
 vae [.agg [.lst tVersion,.lst tTxn,.lst tTxn,.i,.i,.lst tTxn]] [] args st (fun p q=>vm7 ((p.1.1,(p.1.2.1,(p.1.2.2.1,(p.1.2.2.2.1,p.1.2.2.2.2.1)))),p.1.2.2.2.2.2.1) (fun(y:q54T)=>k (.agg [.own 0,.own 1,.own 2,.i y.1,.i y.2.1,.own 3]) [.arr tVersion y.2.2.1,.dep tTxn y.2.2.2.1 0 [],.dep tTxn y.2.2.2.2.1 0 [],.dep tTxn y.2.2.2.2.2 0 []]))
 (none)
def wv2 (args:List AV)(st:St)(k:K1):OR:=
 vae [.i,.i,.i] [] args st (fun p q=>ve4 p.1 p.2.1 p.2.2.1 (fun(y:Bool)=>k (.bool y) []))
 (none)
def wtn (args:List AV)(st:St)(k:K1):OR:=
 vae [.str] [] args st (fun p q=>vj1 p.1 (fun(y:Bool)=>k (.bool y) []))
 (none)
def wtw (args:List AV)(st:St)(k:K1):OR:=
 vae [.str] [] args st (fun p q=>v6v p.1 (fun(y:Bool)=>k (.bool y) []))
 (none)
def wuu (args:List AV)(st:St)(k:K1):OR:=
 vae [.str,.str] [] args st (fun p q=>v7x p.1 p.2.1 (fun(y:Int)=>k (.i y) []))
 (none)
def wuk (args:List AV)(st:St)(k:K1):OR:=
 vae [.i] [] args st (fun p q=>v6g p.1 (fun(y:Bool)=>k (.bool y) []))
 (none)
def wtt (args:List AV)(st:St)(k:K1):OR:=
 vae [.i,.i] [] args st (fun p q=>v6j p.1 p.2.1 (fun(y:Int)=>k (.i y) []))
 (none)
def wvc (args:List AV)(st:St)(k:K1):OR:=
 vae [.agg [.str,.str,.bool,.i],.agg [.str,.str,.bool,.i]] [] args st (fun p q=>vqx (p.1.1,(p.1.2.1,(p.1.2.2.1,p.1.2.2.2.1))) (p.2.1.1,(p.2.1.2.1,(p.2.1.2.2.1,p.2.1.2.2.2.1))) (fun(y:Int)=>k (.i y) []))
 (none)
def wtq (args:List AV)(st:St)(k:K1):OR:=
 vae [.lst tVersion] [] args st (fun p q=>vw3 p.1 (fun(y:Bool)=>k (.bool y) []))
 (none)
def wuf (args:List AV)(st:St)(k:K1):OR:=
 vae [.agg [.str,.str]] [] args st (fun p q=>vtz (p.1.1,p.1.2.1) (fun(y:Bool)=>k (.bool y) []))
 (none)
def wuj (args:List AV)(st:St)(k:K1):OR:=
 vae [.agg [.str,.str,.bool]] [] args st (fun p q=>vru (p.1.1,(p.1.2.1,p.1.2.2.1)) (fun(y:Bool)=>k (.bool y) []))
 (none)
def wun (args:List AV)(st:St)(k:K1):OR:=
 vae [.lst tWrite] [] args st (fun p q=>vwh p.1 (fun(y:Bool)=>k (.bool y) []))
 (none)
def wvz (args:List AV)(st:St)(k:K1):OR:=
 vae [.agg [.i,.i,.i,.i,.lst tRange,.lst tWrite,.bool,.str]] [] args st (fun p q=>vhk (p.1.1,(p.1.2.1,(p.1.2.2.1,(p.1.2.2.2.1,(p.1.2.2.2.2.1,(p.1.2.2.2.2.2.1,(p.1.2.2.2.2.2.2.1,p.1.2.2.2.2.2.2.2.1))))))) (fun(y:Bool)=>k (.bool y) []))
 (none)
def wt0 (args:List AV)(st:St)(k:K1):OR:=
 vae [.agg [.i,.i,.i,.i,.lst tRange,.lst tWrite,.bool,.str]] [] args st (fun p q=>vo4 (p.1.1,(p.1.2.1,(p.1.2.2.1,(p.1.2.2.2.1,(p.1.2.2.2.2.1,(p.1.2.2.2.2.2.1,(p.1.2.2.2.2.2.2.1,p.1.2.2.2.2.2.2.2.1))))))) (fun(y:Bool)=>k (.bool y) []))
 (none)
def wvt (args:List AV)(st:St)(k:K1):OR:=
 vae [.agg [.i,.i,.i,.i,.lst tRange,.lst tWrite,.bool,.str]] [] args st (fun p q=>vla (p.1.1,(p.1.2.1,(p.1.2.2.1,(p.1.2.2.2.1,(p.1.2.2.2.2.1,(p.1.2.2.2.2.2.1,(p.1.2.2.2.2.2.2.1,p.1.2.2.2.2.2.2.2.1))))))) (fun(y:Bool)=>k (.bool y) []))
 (none)
def vld (args:List AV)(st:St)(k:K1):OR:=
 vae [.nilS,.i] [] args st (fun p q=>vsy p.2.1 (Sum.elim (fun(y:TL)=>k (.own 0) [.arr tTxn y]) (fun(y:TL)=>k (.own 0) [.dep tTxn y 0 []])))
 (none)
def wvg (args:List AV)(st:St)(k:K1):OR:=
 vae [.lst (.slice tTxn)] [] args st (fun p q=>vmn p.1 (Sum.elim (fun(y:TL)=>k (.own 0) [.arr tTxn y]) (fun(y:TL)=>k (.own 0) [.dep tTxn y 0 []])))
 (none)
def wty (args:List AV)(st:St)(k:K1):OR:=
 vae [.agg [.i,.i,.i,.i,.lst tRange,.lst tWrite,.bool,.str],.bp 0 0] [.box [.i,.i,.i,.i,.lst tRange,.lst tWrite,.bool,.str]] args st (fun p q=>v0x (p.1.1,(p.1.2.1,(p.1.2.2.1,(p.1.2.2.2.1,(p.1.2.2.2.2.1,(p.1.2.2.2.2.2.1,(p.1.2.2.2.2.2.2.1,p.1.2.2.2.2.2.2.2.1))))))) q.1.1 q.1.2.1 q.1.2.2.1 q.1.2.2.2.1 q.1.2.2.2.2.1 q.1.2.2.2.2.2.1 q.1.2.2.2.2.2.2.1 q.1.2.2.2.2.2.2.2.1 (fun(y:q40T)=>k (.bool y.1) [.box [.i y.2.1,.i y.2.2.1,.i y.2.2.2.1,.i y.2.2.2.2.1,.lst tRange y.2.2.2.2.2.1,.lst tWrite y.2.2.2.2.2.2.1,.bool y.2.2.2.2.2.2.2.1,.str y.2.2.2.2.2.2.2.2]]))
 (none)
def vee (args:List AV)(st:St)(k:K1):OR:=
 vae [.lst tTxn,.fn 163 [.bp 0 0]] [.box [.i,.i,.i,.i,.lst tRange,.lst tWrite,.bool,.str]] args st (fun p q=>vu3 p.1 q.1.1 q.1.2.1 q.1.2.2.1 q.1.2.2.2.1 q.1.2.2.2.2.1 q.1.2.2.2.2.2.1 q.1.2.2.2.2.2.2.1 q.1.2.2.2.2.2.2.2.1 (fun(y:q71T)=>k (.i y.1) [.box [.i y.2.1,.i y.2.2.1,.i y.2.2.2.1,.i y.2.2.2.2.1,.lst tRange y.2.2.2.2.2.1,.lst tWrite y.2.2.2.2.2.2.1,.bool y.2.2.2.2.2.2.2.1,.str y.2.2.2.2.2.2.2.2]]))
 (none)
def vdr (args:List AV)(st:St)(k:K1):OR:=
 vae [.lst tTxn,.fn 163 [.bp 0 0]] [.box [.i,.i,.i,.i,.lst tRange,.lst tWrite,.bool,.str]] args st (fun p q=>v4f p.1 q.1.1 q.1.2.1 q.1.2.2.1 q.1.2.2.2.1 q.1.2.2.2.2.1 q.1.2.2.2.2.2.1 q.1.2.2.2.2.2.2.1 q.1.2.2.2.2.2.2.2.1 (fun(y:q40T)=>k (.bool y.1) [.box [.i y.2.1,.i y.2.2.1,.i y.2.2.2.1,.i y.2.2.2.2.1,.lst tRange y.2.2.2.2.2.1,.lst tWrite y.2.2.2.2.2.2.1,.bool y.2.2.2.2.2.2.2.1,.str y.2.2.2.2.2.2.2.2]]))
 (none)
def vpj (args:List AV)(st:St)(k:K1):OR:=
 vae [.lst tTxn,.fn 163 [.bp 0 0]] [.box [.i,.i,.i,.i,.lst tRange,.lst tWrite,.bool,.str]] args st (fun p q=>v2m p.1 q.1.1 q.1.2.1 q.1.2.2.1 q.1.2.2.2.1 q.1.2.2.2.2.1 q.1.2.2.2.2.2.1 q.1.2.2.2.2.2.2.1 q.1.2.2.2.2.2.2.2.1 (fun(y:q40T)=>k (.bool y.1) [.box [.i y.2.1,.i y.2.2.1,.i y.2.2.2.1,.i y.2.2.2.2.1,.lst tRange y.2.2.2.2.2.1,.lst tWrite y.2.2.2.2.2.2.1,.bool y.2.2.2.2.2.2.2.1,.str y.2.2.2.2.2.2.2.2]]))
 (none)
def wuh (args:List AV)(st:St)(k:K1):OR:=
 vae [.lst tTxn,.i] [] args st (fun p q=>vlj p.1 p.2.1 (fun(y:Bool)=>k (.bool y) []))
 (none)
def wut (args:List AV)(st:St)(k:K1):OR:=
 vae [.agg [.lst tVersion,.lst tTxn,.lst tTxn,.i,.i]] [] args st (fun p q=>vv5 (p.1.1,(p.1.2.1,(p.1.2.2.1,(p.1.2.2.2.1,p.1.2.2.2.2.1)))) (fun(y:Bool)=>k (.bool y) []))
 (none)
def wto (args:List AV)(st:St)(k:K1):OR:=
 vae [.agg [.lst tVersion,.lst tTxn,.lst tTxn,.i,.i,.lst tTxn]] [] args st (fun p q=>vuc ((p.1.1,(p.1.2.1,(p.1.2.2.1,(p.1.2.2.2.1,p.1.2.2.2.2.1)))),p.1.2.2.2.2.2.1) (fun(y:Bool)=>k (.bool y) []))
 (none)
def wvp (args:List AV)(st:St)(k:K1):OR:=
 vae [.agg [.lst tVersion,.lst tTxn,.lst tTxn,.i,.i,.lst tTxn]] [] args st (fun p q=>vub ((p.1.1,(p.1.2.1,(p.1.2.2.1,(p.1.2.2.2.1,p.1.2.2.2.2.1)))),p.1.2.2.2.2.2.1) (fun(y:q63T)=>k (.tup [.agg [.own 0,.own 1,.own 2,.i y.1,.i y.2.1,.own 3],.i y.2.2.1,.i y.2.2.2.1]) [.arr tVersion y.2.2.2.2.1,.dep tTxn y.2.2.2.2.2.1 0 [],.dep tTxn y.2.2.2.2.2.2.1 0 [],.dep tTxn y.2.2.2.2.2.2.2 0 []]))
 (none)
def wts (args:List AV)(st:St)(k:K1):OR:=
 vae [.agg [.i,.i,.i,.i,.lst tRange,.lst tWrite,.bool,.str],.bp 0 0] [.box [.i]] args st (fun p q=>v2b (p.1.1,(p.1.2.1,(p.1.2.2.1,(p.1.2.2.2.1,(p.1.2.2.2.2.1,(p.1.2.2.2.2.2.1,(p.1.2.2.2.2.2.2.1,p.1.2.2.2.2.2.2.2.1))))))) q.1.1 (fun(y:(Bool×Int))=>k (.bool y.1) [.box [.i y.2]]))
 (none)
def vcn (args:List AV)(st:St)(k:K1):OR:=
 vae [.lst tTxn,.fn 152 [.bp 0 0]] [.box [.i]] args st (fun p q=>vve p.1 q.1.1 (fun(y:(Int×Int))=>k (.i y.1) [.box [.i y.2]]))
 (vee args st k)
def wvx (args:List AV)(st:St)(k:K1):OR:=
 vae [.agg [.lst tVersion,.lst tTxn,.lst tTxn,.i,.i,.lst tTxn],.i] [] args st (fun p q=>vo9 ((p.1.1,(p.1.2.1,(p.1.2.2.1,(p.1.2.2.2.1,p.1.2.2.2.2.1)))),p.1.2.2.2.2.2.1) p.2.1 (fun(y:Int)=>k (.i y) []))
 (none)
def wnw (args:List AV)(st:St)(k:K1):OR:=
 vae [.lst tRange,.agg [.str,.str]] [] args st (fun p q=>vyh p.1 (p.2.1.1,p.2.1.2.1) (fun(y:Int)=>k (.i y) []))
 (none)
def wov (args:List AV)(st:St)(k:K1):OR:=
 vae [.lst tRange,.agg [.str,.str]] [] args st (fun p q=>vsm p.1 (p.2.1.1,p.2.1.2.1) (fun(y:Bool)=>k (.bool y) []))
 (none)
def wtk (args:List AV)(st:St)(k:K1):OR:=
 vae [.agg [.i,.i,.i,.i,.lst tRange,.lst tWrite,.bool,.str],.agg [.str,.str]] [] args st (fun p q=>v0v (p.1.1,(p.1.2.1,(p.1.2.2.1,(p.1.2.2.2.1,(p.1.2.2.2.2.1,(p.1.2.2.2.2.2.1,(p.1.2.2.2.2.2.2.1,p.1.2.2.2.2.2.2.2.1))))))) (p.2.1.1,p.2.1.2.1) (fun(y:q66T)=>k (.tup [.agg [.i y.1,.i y.2.1,.i y.2.2.1,.i y.2.2.2.1,.own 0,.own 1,.bool y.2.2.2.2.1,.str y.2.2.2.2.2.1],.bool y.2.2.2.2.2.2.1]) [.arr tRange y.2.2.2.2.2.2.2.1,.arr tWrite y.2.2.2.2.2.2.2.2]))
 (none)
def wt1 (args:List AV)(st:St)(k:K1):OR:=
 vae [.agg [.lst tVersion,.lst tTxn,.lst tTxn,.i,.i,.lst tTxn],.i,.agg [.str,.str],.bool] [] args st (fun p q=>wfi ((p.1.1,(p.1.2.1,(p.1.2.2.1,(p.1.2.2.2.1,p.1.2.2.2.2.1)))),p.1.2.2.2.2.2.1) p.2.1 (p.2.2.1.1,p.2.2.1.2.1) p.2.2.2.1 (fun(y:q63T)=>k (.tup [.agg [.own 0,.own 1,.own 2,.i y.1,.i y.2.1,.own 3],.i y.2.2.1,.i y.2.2.2.1]) [.arr tVersion y.2.2.2.2.1,.dep tTxn y.2.2.2.2.2.1 0 [],.dep tTxn y.2.2.2.2.2.2.1 0 [],.dep tTxn y.2.2.2.2.2.2.2 0 []]))
 (none)
def wtz (args:List AV)(st:St)(k:K1):OR:=
 vae [.agg [.str,.str,.bool],.bp 0 0] [.box [.str]] args st (fun p q=>v2d (p.1.1,(p.1.2.1,p.1.2.2.1)) q.1.1 (fun(y:(Bool×ByteArray))=>k (.bool y.1) [.box [.str y.2]]))
 (none)
def vfy (args:List AV)(st:St)(k:K1):OR:=
 vae [.lst tWrite,.fn 196 [.bp 0 0]] [.box [.str]] args st (fun p q=>vyi p.1 q.1.1 (fun(y:(Int×ByteArray))=>k (.i y.1) [.box [.str y.2]]))
 (none)
def wtl (args:List AV)(st:St)(k:K1):OR:=
 vae [.agg [.i,.i,.i,.i,.lst tRange,.lst tWrite,.bool,.str],.str] [] args st (fun p q=>wcj (p.1.1,(p.1.2.1,(p.1.2.2.1,(p.1.2.2.2.1,(p.1.2.2.2.2.1,(p.1.2.2.2.2.2.1,(p.1.2.2.2.2.2.2.1,p.1.2.2.2.2.2.2.2.1))))))) p.2.1 (fun(y:Int)=>k (.i y) []))
 (none)
def wu5 (args:List AV)(st:St)(k:K1):OR:=
 vae [.lst tVersion,.str,.i] [] args st (fun p q=>vtm p.1 p.2.1 p.2.2.1 (fun(y:Int)=>k (.i y) []))
 (none)
def wus (args:List AV)(st:St)(k:K1):OR:=
 vae [.lst tVersion,.str,.i] [] args st (fun p q=>v7z p.1 p.2.1 p.2.2.1 (fun(y:(ByteArray×Bool))=>k (.tup [.str y.1,.bool y.2]) []))
 (none)
def wui (args:List AV)(st:St)(k:K1):OR:=
 vae [.agg [.i,.i,.i,.i,.lst tRange,.lst tWrite,.bool,.str],.lst tVersion,.str] [] args st (fun p q=>v6p (p.1.1,(p.1.2.1,(p.1.2.2.1,(p.1.2.2.2.1,(p.1.2.2.2.2.1,(p.1.2.2.2.2.2.1,(p.1.2.2.2.2.2.2.1,p.1.2.2.2.2.2.2.2.1))))))) p.2.1 p.2.2.1 (fun(y:(ByteArray×Bool))=>k (.tup [.str y.1,.bool y.2]) []))
 (none)
def wua (args:List AV)(st:St)(k:K1):OR:=
 vae [.agg [.lst tVersion,.lst tTxn,.lst tTxn,.i,.i,.lst tTxn],.i,.str] [] args st (fun p q=>vqn ((p.1.1,(p.1.2.1,(p.1.2.2.1,(p.1.2.2.2.1,p.1.2.2.2.2.1)))),p.1.2.2.2.2.2.1) p.2.1 p.2.2.1 (fun(y:q58T)=>k (.tup [.agg [.own 0,.own 1,.own 2,.i y.1,.i y.2.1,.own 3],.str y.2.2.1,.bool y.2.2.2.1,.i y.2.2.2.2.1]) [.arr tVersion y.2.2.2.2.2.1,.dep tTxn y.2.2.2.2.2.2.1 0 [],.dep tTxn y.2.2.2.2.2.2.2.1 0 [],.dep tTxn y.2.2.2.2.2.2.2.2 0 []]))
 (none)
def veo (args:List AV)(st:St)(k:K1):OR:=
 vae [.own 0,.i,.own 1] [.arr tWrite,.arr tWrite] args st (fun p q=>vxi p.2.1 q.1 q.2.1 (fun(y:(WL×WL))=>k (.own 2) [.gone,.arr tWrite y.1,.arr tWrite y.2]))
 (none)
def wub (args:List AV)(st:St)(k:K1):OR:=
 vae [.lst tWrite,.agg [.str,.str,.bool]] [] args st (fun p q=>v1s p.1 (p.2.1.1,(p.2.1.2.1,p.2.1.2.2.1)) (fun(y:WL)=>k (.own 0) [.arr tWrite y]))
 (none)
def wvo (args:List AV)(st:St)(k:K1):OR:=
 vae [.agg [.i,.i,.i,.i,.lst tRange,.lst tWrite,.bool,.str],.agg [.str,.str,.bool]] [] args st (fun p q=>v1e (p.1.1,(p.1.2.1,(p.1.2.2.1,(p.1.2.2.2.1,(p.1.2.2.2.2.1,(p.1.2.2.2.2.2.1,(p.1.2.2.2.2.2.2.1,p.1.2.2.2.2.2.2.2.1))))))) (p.2.1.1,(p.2.1.2.1,p.2.1.2.2.1)) (fun(y:q66T)=>k (.tup [.agg [.i y.1,.i y.2.1,.i y.2.2.1,.i y.2.2.2.1,.own 0,.own 1,.bool y.2.2.2.2.1,.str y.2.2.2.2.2.1],.bool y.2.2.2.2.2.2.1]) [.arr tRange y.2.2.2.2.2.2.2.1,.arr tWrite y.2.2.2.2.2.2.2.2]))
 (none)
def wum (args:List AV)(st:St)(k:K1):OR:=
 vae [.agg [.lst tVersion,.lst tTxn,.lst tTxn,.i,.i,.lst tTxn],.i,.agg [.str,.str,.bool]] [] args st (fun p q=>vqo ((p.1.1,(p.1.2.1,(p.1.2.2.1,(p.1.2.2.2.1,p.1.2.2.2.2.1)))),p.1.2.2.2.2.2.1) p.2.1 (p.2.2.1.1,(p.2.2.1.2.1,p.2.2.1.2.2.1)) (fun(y:q60T)=>k (.tup [.agg [.own 0,.own 1,.own 2,.i y.1,.i y.2.1,.own 3],.i y.2.2.1]) [.arr tVersion y.2.2.2.1,.dep tTxn y.2.2.2.2.1 0 [],.dep tTxn y.2.2.2.2.2.1 0 [],.dep tTxn y.2.2.2.2.2.2 0 []]))
 (none)
def wvi (args:List AV)(st:St)(k:K1):OR:=
 vae [.agg [.i,.i,.i,.i,.lst tRange,.lst tWrite,.bool,.str],.bp 0 0] [.box [.str]] args st (fun p q=>v2f (p.1.1,(p.1.2.1,(p.1.2.2.1,(p.1.2.2.2.1,(p.1.2.2.2.2.1,(p.1.2.2.2.2.2.1,(p.1.2.2.2.2.2.2.1,p.1.2.2.2.2.2.2.2.1))))))) q.1.1 (fun(y:(Bool×ByteArray))=>k (.bool y.1) [.box [.str y.2]]))
 (none)
def vcq (args:List AV)(st:St)(k:K1):OR:=
 vae [.lst tTxn,.fn 100 [.bp 0 0]] [.box [.str]] args st (fun p q=>vxz p.1 q.1.1 (fun(y:(Int×ByteArray))=>k (.i y.1) [.box [.str y.2]]))
 (vcn args st k)
def wtm (args:List AV)(st:St)(k:K1):OR:=
 vae [.agg [.lst tVersion,.lst tTxn,.lst tTxn,.i,.i],.str] [] args st (fun p q=>vtj (p.1.1,(p.1.2.1,(p.1.2.2.1,(p.1.2.2.2.1,p.1.2.2.2.2.1)))) p.2.1 (fun(y:Int)=>k (.i y) []))
 (none)
def wu4 (args:List AV)(st:St)(k:K1):OR:=
 vae [.agg [.lst tVersion,.lst tTxn,.lst tTxn,.i,.i,.lst tTxn]] [] args st (fun p q=>vt1 ((p.1.1,(p.1.2.1,(p.1.2.2.1,(p.1.2.2.2.1,p.1.2.2.2.2.1)))),p.1.2.2.2.2.2.1) (Sum.elim (fun(y:TL)=>k (.own 0) [.arr tTxn y]) (fun(y:TL)=>k (.own 0) [.dep tTxn y 0 []])))
 (none)
def wvy (args:List AV)(st:St)(k:K1):OR:=
 vae [.lst tWrite,.lst tWrite] [] args st (fun p q=>vxq p.1 p.2.1 (fun(y:Bool)=>k (.bool y) []))
 (none)
def wt5 (args:List AV)(st:St)(k:K1):OR:=
 vae [.agg [.i,.i,.i,.i,.lst tRange,.lst tWrite,.bool,.str],.bp 0 0] [.box [.i,.i,.i,.i,.lst tRange,.lst tWrite,.bool,.str]] args st (fun p q=>v0m (p.1.1,(p.1.2.1,(p.1.2.2.1,(p.1.2.2.2.1,(p.1.2.2.2.2.1,(p.1.2.2.2.2.2.1,(p.1.2.2.2.2.2.2.1,p.1.2.2.2.2.2.2.2.1))))))) q.1.1 q.1.2.1 q.1.2.2.1 q.1.2.2.2.1 q.1.2.2.2.2.1 q.1.2.2.2.2.2.1 q.1.2.2.2.2.2.2.1 q.1.2.2.2.2.2.2.2.1 (fun(y:q40T)=>k (.bool y.1) [.box [.i y.2.1,.i y.2.2.1,.i y.2.2.2.1,.i y.2.2.2.2.1,.lst tRange y.2.2.2.2.2.1,.lst tWrite y.2.2.2.2.2.2.1,.bool y.2.2.2.2.2.2.2.1,.str y.2.2.2.2.2.2.2.2]]))
 (none)
def vcr (args:List AV)(st:St)(k:K1):OR:=
 vae [.lst tTxn,.fn 198 [.bp 0 0]] [.box [.i,.i,.i,.i,.lst tRange,.lst tWrite,.bool,.str]] args st (fun p q=>vux p.1 q.1.1 q.1.2.1 q.1.2.2.1 q.1.2.2.2.1 q.1.2.2.2.2.1 q.1.2.2.2.2.2.1 q.1.2.2.2.2.2.2.1 q.1.2.2.2.2.2.2.2.1 (fun(y:q71T)=>k (.i y.1) [.box [.i y.2.1,.i y.2.2.1,.i y.2.2.2.1,.i y.2.2.2.2.1,.lst tRange y.2.2.2.2.2.1,.lst tWrite y.2.2.2.2.2.2.1,.bool y.2.2.2.2.2.2.2.1,.str y.2.2.2.2.2.2.2.2]]))
 (vcq args st k)
def vby (args:List AV)(st:St)(k:K1):OR:=
 vae [.lst tTxn,.fn 198 [.bp 0 0]] [.box [.i,.i,.i,.i,.lst tRange,.lst tWrite,.bool,.str]] args st (fun p q=>wfl p.1 q.1.1 q.1.2.1 q.1.2.2.1 q.1.2.2.2.1 q.1.2.2.2.2.1 q.1.2.2.2.2.2.1 q.1.2.2.2.2.2.2.1 q.1.2.2.2.2.2.2.2.1 (fun(y:q40T)=>k (.bool y.1) [.box [.i y.2.1,.i y.2.2.1,.i y.2.2.2.1,.i y.2.2.2.2.1,.lst tRange y.2.2.2.2.2.1,.lst tWrite y.2.2.2.2.2.2.1,.bool y.2.2.2.2.2.2.2.1,.str y.2.2.2.2.2.2.2.2]]))
 (vdr args st k)
def vha (args:List AV)(st:St)(k:K1):OR:=
 vae [.lst tTxn,.fn 198 [.bp 0 0]] [.box [.i,.i,.i,.i,.lst tRange,.lst tWrite,.bool,.str]] args st (fun p q=>wc0 p.1 q.1.1 q.1.2.1 q.1.2.2.1 q.1.2.2.2.1 q.1.2.2.2.2.1 q.1.2.2.2.2.2.1 q.1.2.2.2.2.2.2.1 q.1.2.2.2.2.2.2.2.1 (fun(y:q40T)=>k (.bool y.1) [.box [.i y.2.1,.i y.2.2.1,.i y.2.2.2.1,.i y.2.2.2.2.1,.lst tRange y.2.2.2.2.2.1,.lst tWrite y.2.2.2.2.2.2.1,.bool y.2.2.2.2.2.2.2.1,.str y.2.2.2.2.2.2.2.2]]))
 (vpj args st k)
def wu1 (args:List AV)(st:St)(k:K1):OR:=
 vae [.agg [.i,.i,.i,.i,.lst tRange,.lst tWrite,.bool,.str],.lst tTxn] [] args st (fun p q=>v0s (p.1.1,(p.1.2.1,(p.1.2.2.1,(p.1.2.2.2.1,(p.1.2.2.2.2.1,(p.1.2.2.2.2.2.1,(p.1.2.2.2.2.2.2.1,p.1.2.2.2.2.2.2.2.1))))))) p.2.1 (fun(y:Bool)=>k (.bool y) []))
 (none)
def wv1 (args:List AV)(st:St)(k:K1):OR:=
 vae [.agg [.i,.i,.i,.i,.lst tRange,.lst tWrite,.bool,.str],.agg [.i,.i,.i,.i,.lst tRange,.lst tWrite,.bool,.str]] [] args st (fun p q=>v0y (p.1.1,(p.1.2.1,(p.1.2.2.1,(p.1.2.2.2.1,(p.1.2.2.2.2.1,(p.1.2.2.2.2.2.1,(p.1.2.2.2.2.2.2.1,p.1.2.2.2.2.2.2.2.1))))))) (p.2.1.1,(p.2.1.2.1,(p.2.1.2.2.1,(p.2.1.2.2.2.1,(p.2.1.2.2.2.2.1,(p.2.1.2.2.2.2.2.1,(p.2.1.2.2.2.2.2.2.1,p.2.1.2.2.2.2.2.2.2.1))))))) (fun(y:Bool)=>k (.bool y) []))
 (none)
def wuc (args:List AV)(st:St)(k:K1):OR:=
 vae [.agg [.i,.i,.i,.i,.lst tRange,.lst tWrite,.bool,.str],.agg [.i,.i,.i,.i,.lst tRange,.lst tWrite,.bool,.str]] [] args st (fun p q=>v58 (p.1.1,(p.1.2.1,(p.1.2.2.1,(p.1.2.2.2.1,(p.1.2.2.2.2.1,(p.1.2.2.2.2.2.1,(p.1.2.2.2.2.2.2.1,p.1.2.2.2.2.2.2.2.1))))))) (p.2.1.1,(p.2.1.2.1,(p.2.1.2.2.1,(p.2.1.2.2.2.1,(p.2.1.2.2.2.2.1,(p.2.1.2.2.2.2.2.1,(p.2.1.2.2.2.2.2.2.1,p.2.1.2.2.2.2.2.2.2.1))))))) (fun(y:Bool)=>k (.bool y) []))
 (none)
def wvm (args:List AV)(st:St)(k:K1):OR:=
 vae [.agg [.str,.str],.str] [] args st (fun p q=>v1i (p.1.1,p.1.2.1) p.2.1 (fun(y:Bool)=>k (.bool y) []))
 (none)
def wu3 (args:List AV)(st:St)(k:K1):OR:=
 vae [.lst tRange,.lst tWrite] [] args st (fun p q=>v2i p.1 p.2.1 (fun(y:Bool)=>k (.bool y) []))
 (none)
def wup (args:List AV)(st:St)(k:K1):OR:=
 vae [.agg [.i,.i,.i,.i,.lst tRange,.lst tWrite,.bool,.str],.agg [.i,.i,.i,.i,.lst tRange,.lst tWrite,.bool,.str]] [] args st (fun p q=>vio (p.1.1,(p.1.2.1,(p.1.2.2.1,(p.1.2.2.2.1,(p.1.2.2.2.2.1,(p.1.2.2.2.2.2.1,(p.1.2.2.2.2.2.2.1,p.1.2.2.2.2.2.2.2.1))))))) (p.2.1.1,(p.2.1.2.1,(p.2.1.2.2.1,(p.2.1.2.2.2.1,(p.2.1.2.2.2.2.1,(p.2.1.2.2.2.2.2.1,(p.2.1.2.2.2.2.2.2.1,p.2.1.2.2.2.2.2.2.2.1))))))) (fun(y:Bool)=>k (.bool y) []))
 (none)
def wvw (args:List AV)(st:St)(k:K1):OR:=
 vae [.agg [.i,.i,.i,.i,.lst tRange,.lst tWrite,.bool,.str],.bp 0 0] [.box [.i,.i,.i,.i,.lst tRange,.lst tWrite,.bool,.str]] args st (fun p q=>v2l (p.1.1,(p.1.2.1,(p.1.2.2.1,(p.1.2.2.2.1,(p.1.2.2.2.2.1,(p.1.2.2.2.2.2.1,(p.1.2.2.2.2.2.2.1,p.1.2.2.2.2.2.2.2.1))))))) q.1.1 q.1.2.1 q.1.2.2.1 q.1.2.2.2.1 q.1.2.2.2.2.1 q.1.2.2.2.2.2.1 q.1.2.2.2.2.2.2.1 q.1.2.2.2.2.2.2.2.1 (fun(y:q40T)=>k (.bool y.1) [.box [.i y.2.1,.i y.2.2.1,.i y.2.2.2.1,.i y.2.2.2.2.1,.lst tRange y.2.2.2.2.2.1,.lst tWrite y.2.2.2.2.2.2.1,.bool y.2.2.2.2.2.2.2.1,.str y.2.2.2.2.2.2.2.2]]))
 (none)
def vco (args:List AV)(st:St)(k:K1):OR:=
 vae [.lst tTxn,.fn 203 [.bp 0 0]] [.box [.i,.i,.i,.i,.lst tRange,.lst tWrite,.bool,.str]] args st (fun p q=>vu5 p.1 q.1.1 q.1.2.1 q.1.2.2.1 q.1.2.2.2.1 q.1.2.2.2.2.1 q.1.2.2.2.2.2.1 q.1.2.2.2.2.2.2.1 q.1.2.2.2.2.2.2.2.1 (fun(y:q71T)=>k (.i y.1) [.box [.i y.2.1,.i y.2.2.1,.i y.2.2.2.1,.i y.2.2.2.2.1,.lst tRange y.2.2.2.2.2.1,.lst tWrite y.2.2.2.2.2.2.1,.bool y.2.2.2.2.2.2.2.1,.str y.2.2.2.2.2.2.2.2]]))
 (vcr args st k)
def vb1 (args:List AV)(st:St)(k:K1):OR:=
 vae [.lst tTxn,.fn 203 [.bp 0 0]] [.box [.i,.i,.i,.i,.lst tRange,.lst tWrite,.bool,.str]] args st (fun p q=>we5 p.1 q.1.1 q.1.2.1 q.1.2.2.1 q.1.2.2.2.1 q.1.2.2.2.2.1 q.1.2.2.2.2.2.1 q.1.2.2.2.2.2.2.1 q.1.2.2.2.2.2.2.2.1 (fun(y:q40T)=>k (.bool y.1) [.box [.i y.2.1,.i y.2.2.1,.i y.2.2.2.1,.i y.2.2.2.2.1,.lst tRange y.2.2.2.2.2.1,.lst tWrite y.2.2.2.2.2.2.1,.bool y.2.2.2.2.2.2.2.1,.str y.2.2.2.2.2.2.2.2]]))
 (vby args st k)
def vhm (args:List AV)(st:St)(k:K1):OR:=
 vae [.lst tTxn,.fn 203 [.bp 0 0]] [.box [.i,.i,.i,.i,.lst tRange,.lst tWrite,.bool,.str]] args st (fun p q=>wch p.1 q.1.1 q.1.2.1 q.1.2.2.1 q.1.2.2.2.1 q.1.2.2.2.2.1 q.1.2.2.2.2.2.1 q.1.2.2.2.2.2.2.1 q.1.2.2.2.2.2.2.2.1 (fun(y:q40T)=>k (.bool y.1) [.box [.i y.2.1,.i y.2.2.1,.i y.2.2.2.1,.i y.2.2.2.2.1,.lst tRange y.2.2.2.2.2.1,.lst tWrite y.2.2.2.2.2.2.1,.bool y.2.2.2.2.2.2.2.1,.str y.2.2.2.2.2.2.2.2]]))
 (vha args st k)
def wvf (args:List AV)(st:St)(k:K1):OR:=
 vae [.agg [.i,.i,.i,.i,.lst tRange,.lst tWrite,.bool,.str],.lst tTxn] [] args st (fun p q=>v0w (p.1.1,(p.1.2.1,(p.1.2.2.1,(p.1.2.2.2.1,(p.1.2.2.2.2.1,(p.1.2.2.2.2.2.1,(p.1.2.2.2.2.2.2.1,p.1.2.2.2.2.2.2.2.1))))))) p.2.1 (fun(y:Bool)=>k (.bool y) []))
 (none)
def wtr (args:List AV)(st:St)(k:K1):OR:=
 vae [.agg [.i,.i,.i,.i,.lst tRange,.lst tWrite,.bool,.str],.bp 0 0] [.box [.i,.i,.i,.i,.lst tRange,.lst tWrite,.bool,.str]] args st (fun p q=>v1l (p.1.1,(p.1.2.1,(p.1.2.2.1,(p.1.2.2.2.1,(p.1.2.2.2.2.1,(p.1.2.2.2.2.2.1,(p.1.2.2.2.2.2.2.1,p.1.2.2.2.2.2.2.2.1))))))) q.1.1 q.1.2.1 q.1.2.2.1 q.1.2.2.2.1 q.1.2.2.2.2.1 q.1.2.2.2.2.2.1 q.1.2.2.2.2.2.2.1 q.1.2.2.2.2.2.2.2.1 (fun(y:q40T)=>k (.bool y.1) [.box [.i y.2.1,.i y.2.2.1,.i y.2.2.2.1,.i y.2.2.2.2.1,.lst tRange y.2.2.2.2.2.1,.lst tWrite y.2.2.2.2.2.2.1,.bool y.2.2.2.2.2.2.2.1,.str y.2.2.2.2.2.2.2.2]]))
 (none)
def vcw (args:List AV)(st:St)(k:K1):OR:=
 vae [.lst tTxn,.fn 170 [.bp 0 0]] [.box [.i,.i,.i,.i,.lst tRange,.lst tWrite,.bool,.str]] args st (fun p q=>vw1 p.1 q.1.1 q.1.2.1 q.1.2.2.1 q.1.2.2.2.1 q.1.2.2.2.2.1 q.1.2.2.2.2.2.1 q.1.2.2.2.2.2.2.1 q.1.2.2.2.2.2.2.2.1 (fun(y:q71T)=>k (.i y.1) [.box [.i y.2.1,.i y.2.2.1,.i y.2.2.2.1,.i y.2.2.2.2.1,.lst tRange y.2.2.2.2.2.1,.lst tWrite y.2.2.2.2.2.2.1,.bool y.2.2.2.2.2.2.2.1,.str y.2.2.2.2.2.2.2.2]]))
 (vco args st k)
def vbz (args:List AV)(st:St)(k:K1):OR:=
 vae [.lst tTxn,.fn 170 [.bp 0 0]] [.box [.i,.i,.i,.i,.lst tRange,.lst tWrite,.bool,.str]] args st (fun p q=>wet p.1 q.1.1 q.1.2.1 q.1.2.2.1 q.1.2.2.2.1 q.1.2.2.2.2.1 q.1.2.2.2.2.2.1 q.1.2.2.2.2.2.2.1 q.1.2.2.2.2.2.2.2.1 (fun(y:q40T)=>k (.bool y.1) [.box [.i y.2.1,.i y.2.2.1,.i y.2.2.2.1,.i y.2.2.2.2.1,.lst tRange y.2.2.2.2.2.1,.lst tWrite y.2.2.2.2.2.2.1,.bool y.2.2.2.2.2.2.2.1,.str y.2.2.2.2.2.2.2.2]]))
 (vb1 args st k)
def vhn (args:List AV)(st:St)(k:K1):OR:=
 vae [.lst tTxn,.fn 170 [.bp 0 0]] [.box [.i,.i,.i,.i,.lst tRange,.lst tWrite,.bool,.str]] args st (fun p q=>we7 p.1 q.1.1 q.1.2.1 q.1.2.2.1 q.1.2.2.2.1 q.1.2.2.2.2.1 q.1.2.2.2.2.2.1 q.1.2.2.2.2.2.2.1 q.1.2.2.2.2.2.2.2.1 (fun(y:q40T)=>k (.bool y.1) [.box [.i y.2.1,.i y.2.2.1,.i y.2.2.2.1,.i y.2.2.2.2.1,.lst tRange y.2.2.2.2.2.1,.lst tWrite y.2.2.2.2.2.2.1,.bool y.2.2.2.2.2.2.2.1,.str y.2.2.2.2.2.2.2.2]]))
 (vhm args st k)
def wvq (args:List AV)(st:St)(k:K1):OR:=
 vae [.agg [.i,.i,.i,.i,.lst tRange,.lst tWrite,.bool,.str],.lst tTxn] [] args st (fun p q=>vte (p.1.1,(p.1.2.1,(p.1.2.2.1,(p.1.2.2.2.1,(p.1.2.2.2.2.1,(p.1.2.2.2.2.2.1,(p.1.2.2.2.2.2.2.1,p.1.2.2.2.2.2.2.2.1))))))) p.2.1 (fun(y:Bool)=>k (.bool y) []))
 (none)
def wvu (args:List AV)(st:St)(k:K1):OR:=
 vae [.agg [.i,.i,.i,.i,.lst tRange,.lst tWrite,.bool,.str],.bp 0 0] [.box [.i,.i,.i,.i,.lst tRange,.lst tWrite,.bool,.str]] args st (fun p q=>v01 (p.1.1,(p.1.2.1,(p.1.2.2.1,(p.1.2.2.2.1,(p.1.2.2.2.2.1,(p.1.2.2.2.2.2.1,(p.1.2.2.2.2.2.2.1,p.1.2.2.2.2.2.2.2.1))))))) q.1.1 q.1.2.1 q.1.2.2.1 q.1.2.2.2.1 q.1.2.2.2.2.1 q.1.2.2.2.2.2.1 q.1.2.2.2.2.2.2.1 q.1.2.2.2.2.2.2.2.1 (fun(y:q40T)=>k (.bool y.1) [.box [.i y.2.1,.i y.2.2.1,.i y.2.2.2.1,.i y.2.2.2.2.1,.lst tRange y.2.2.2.2.2.1,.lst tWrite y.2.2.2.2.2.2.1,.bool y.2.2.2.2.2.2.2.1,.str y.2.2.2.2.2.2.2.2]]))
 (none)
def vcx (args:List AV)(st:St)(k:K1):OR:=
 vae [.lst tTxn,.fn 200 [.bp 0 0]] [.box [.i,.i,.i,.i,.lst tRange,.lst tWrite,.bool,.str]] args st (fun p q=>vw8 p.1 q.1.1 q.1.2.1 q.1.2.2.1 q.1.2.2.2.1 q.1.2.2.2.2.1 q.1.2.2.2.2.2.1 q.1.2.2.2.2.2.2.1 q.1.2.2.2.2.2.2.2.1 (fun(y:q71T)=>k (.i y.1) [.box [.i y.2.1,.i y.2.2.1,.i y.2.2.2.1,.i y.2.2.2.2.1,.lst tRange y.2.2.2.2.2.1,.lst tWrite y.2.2.2.2.2.2.1,.bool y.2.2.2.2.2.2.2.1,.str y.2.2.2.2.2.2.2.2]]))
 (vcw args st k)
def vbw (args:List AV)(st:St)(k:K1):OR:=
 vae [.lst tTxn,.fn 200 [.bp 0 0]] [.box [.i,.i,.i,.i,.lst tRange,.lst tWrite,.bool,.str]] args st (fun p q=>wfe p.1 q.1.1 q.1.2.1 q.1.2.2.1 q.1.2.2.2.1 q.1.2.2.2.2.1 q.1.2.2.2.2.2.1 q.1.2.2.2.2.2.2.1 q.1.2.2.2.2.2.2.2.1 (fun(y:q40T)=>k (.bool y.1) [.box [.i y.2.1,.i y.2.2.1,.i y.2.2.2.1,.i y.2.2.2.2.1,.lst tRange y.2.2.2.2.2.1,.lst tWrite y.2.2.2.2.2.2.1,.bool y.2.2.2.2.2.2.2.1,.str y.2.2.2.2.2.2.2.2]]))
 (vbz args st k)
def vhi (args:List AV)(st:St)(k:K1):OR:=
 vae [.lst tTxn,.fn 200 [.bp 0 0]] [.box [.i,.i,.i,.i,.lst tRange,.lst tWrite,.bool,.str]] args st (fun p q=>v6k p.1 q.1.1 q.1.2.1 q.1.2.2.1 q.1.2.2.2.1 q.1.2.2.2.2.1 q.1.2.2.2.2.2.1 q.1.2.2.2.2.2.2.1 q.1.2.2.2.2.2.2.2.1 (fun(y:q40T)=>k (.bool y.1) [.box [.i y.2.1,.i y.2.2.1,.i y.2.2.2.1,.i y.2.2.2.2.1,.lst tRange y.2.2.2.2.2.1,.lst tWrite y.2.2.2.2.2.2.1,.bool y.2.2.2.2.2.2.2.1,.str y.2.2.2.2.2.2.2.2]]))
 (vhn args st k)
def wvd (args:List AV)(st:St)(k:K1):OR:=
 vae [.agg [.i,.i,.i,.i,.lst tRange,.lst tWrite,.bool,.str],.bp 0 0] [.box [.i,.i,.i,.i,.lst tRange,.lst tWrite,.bool,.str]] args st (fun p q=>v0b (p.1.1,(p.1.2.1,(p.1.2.2.1,(p.1.2.2.2.1,(p.1.2.2.2.2.1,(p.1.2.2.2.2.2.1,(p.1.2.2.2.2.2.2.1,p.1.2.2.2.2.2.2.2.1))))))) q.1.1 q.1.2.1 q.1.2.2.1 q.1.2.2.2.1 q.1.2.2.2.2.1 q.1.2.2.2.2.2.1 q.1.2.2.2.2.2.2.1 q.1.2.2.2.2.2.2.2.1 (fun(y:q40T)=>k (.bool y.1) [.box [.i y.2.1,.i y.2.2.1,.i y.2.2.2.1,.i y.2.2.2.2.1,.lst tRange y.2.2.2.2.2.1,.lst tWrite y.2.2.2.2.2.2.1,.bool y.2.2.2.2.2.2.2.1,.str y.2.2.2.2.2.2.2.2]]))
 (none)
def vct (args:List AV)(st:St)(k:K1):OR:=
 vae [.lst tTxn,.fn 202 [.bp 0 0]] [.box [.i,.i,.i,.i,.lst tRange,.lst tWrite,.bool,.str]] args st (fun p q=>vyo p.1 q.1.1 q.1.2.1 q.1.2.2.1 q.1.2.2.2.1 q.1.2.2.2.2.1 q.1.2.2.2.2.2.1 q.1.2.2.2.2.2.2.1 q.1.2.2.2.2.2.2.2.1 (fun(y:q71T)=>k (.i y.1) [.box [.i y.2.1,.i y.2.2.1,.i y.2.2.2.1,.i y.2.2.2.2.1,.lst tRange y.2.2.2.2.2.1,.lst tWrite y.2.2.2.2.2.2.1,.bool y.2.2.2.2.2.2.2.1,.str y.2.2.2.2.2.2.2.2]]))
 (vcx args st k)
def vbv (args:List AV)(st:St)(k:K1):OR:=
 vae [.lst tTxn,.fn 202 [.bp 0 0]] [.box [.i,.i,.i,.i,.lst tRange,.lst tWrite,.bool,.str]] args st (fun p q=>wfm p.1 q.1.1 q.1.2.1 q.1.2.2.1 q.1.2.2.2.1 q.1.2.2.2.2.1 q.1.2.2.2.2.2.1 q.1.2.2.2.2.2.2.1 q.1.2.2.2.2.2.2.2.1 (fun(y:q40T)=>k (.bool y.1) [.box [.i y.2.1,.i y.2.2.1,.i y.2.2.2.1,.i y.2.2.2.2.1,.lst tRange y.2.2.2.2.2.1,.lst tWrite y.2.2.2.2.2.2.1,.bool y.2.2.2.2.2.2.2.1,.str y.2.2.2.2.2.2.2.2]]))
 (vbw args st k)
def vhh (args:List AV)(st:St)(k:K1):OR:=
 vae [.lst tTxn,.fn 202 [.bp 0 0]] [.box [.i,.i,.i,.i,.lst tRange,.lst tWrite,.bool,.str]] args st (fun p q=>v7o p.1 q.1.1 q.1.2.1 q.1.2.2.1 q.1.2.2.2.1 q.1.2.2.2.2.1 q.1.2.2.2.2.2.1 q.1.2.2.2.2.2.2.1 q.1.2.2.2.2.2.2.2.1 (fun(y:q40T)=>k (.bool y.1) [.box [.i y.2.1,.i y.2.2.1,.i y.2.2.2.1,.i y.2.2.2.2.1,.lst tRange y.2.2.2.2.2.1,.lst tWrite y.2.2.2.2.2.2.1,.bool y.2.2.2.2.2.2.2.1,.str y.2.2.2.2.2.2.2.2]]))
 (vhi args st k)
def wux (args:List AV)(st:St)(k:K1):OR:=
 vae [.agg [.i,.i,.i,.i,.lst tRange,.lst tWrite,.bool,.str],.bp 0 0,.bp 1 0] [.box [.i,.i,.i,.i,.lst tRange,.lst tWrite,.bool,.str],.box [.lst tTxn]] args st (fun p q=>v1j (p.1.1,(p.1.2.1,(p.1.2.2.1,(p.1.2.2.2.1,(p.1.2.2.2.2.1,(p.1.2.2.2.2.2.1,(p.1.2.2.2.2.2.2.1,p.1.2.2.2.2.2.2.2.1))))))) q.1.1 q.1.2.1 q.1.2.2.1 q.1.2.2.2.1 q.1.2.2.2.2.1 q.1.2.2.2.2.2.1 q.1.2.2.2.2.2.2.1 q.1.2.2.2.2.2.2.2.1 q.2.1.1 (fun(y:q34T)=>k (.bool y.1) [.box [.i y.2.1,.i y.2.2.1,.i y.2.2.2.1,.i y.2.2.2.2.1,.lst tRange y.2.2.2.2.2.1,.lst tWrite y.2.2.2.2.2.2.1,.bool y.2.2.2.2.2.2.2.1,.str y.2.2.2.2.2.2.2.2.1],.box [.lst tTxn y.2.2.2.2.2.2.2.2.2]]))
 (none)
def vcu (args:List AV)(st:St)(k:K1):OR:=
 vae [.lst tTxn,.fn 201 [.bp 0 0,.bp 1 0]] [.box [.i,.i,.i,.i,.lst tRange,.lst tWrite,.bool,.str],.box [.lst tTxn]] args st (fun p q=>vx4 p.1 q.1.1 q.1.2.1 q.1.2.2.1 q.1.2.2.2.1 q.1.2.2.2.2.1 q.1.2.2.2.2.2.1 q.1.2.2.2.2.2.2.1 q.1.2.2.2.2.2.2.2.1 q.2.1.1 (fun(y:q69T)=>k (.i y.1) [.box [.i y.2.1,.i y.2.2.1,.i y.2.2.2.1,.i y.2.2.2.2.1,.lst tRange y.2.2.2.2.2.1,.lst tWrite y.2.2.2.2.2.2.1,.bool y.2.2.2.2.2.2.2.1,.str y.2.2.2.2.2.2.2.2.1],.box [.lst tTxn y.2.2.2.2.2.2.2.2.2]]))
 (vct args st k)
def vb0 (args:List AV)(st:St)(k:K1):OR:=
 vae [.lst tTxn,.fn 201 [.bp 0 0,.bp 1 0]] [.box [.i,.i,.i,.i,.lst tRange,.lst tWrite,.bool,.str],.box [.lst tTxn]] args st (fun p q=>wd6 p.1 q.1.1 q.1.2.1 q.1.2.2.1 q.1.2.2.2.1 q.1.2.2.2.2.1 q.1.2.2.2.2.2.1 q.1.2.2.2.2.2.2.1 q.1.2.2.2.2.2.2.2.1 q.2.1.1 (fun(y:q34T)=>k (.bool y.1) [.box [.i y.2.1,.i y.2.2.1,.i y.2.2.2.1,.i y.2.2.2.2.1,.lst tRange y.2.2.2.2.2.1,.lst tWrite y.2.2.2.2.2.2.1,.bool y.2.2.2.2.2.2.2.1,.str y.2.2.2.2.2.2.2.2.1],.box [.lst tTxn y.2.2.2.2.2.2.2.2.2]]))
 (vbv args st k)
def vhg (args:List AV)(st:St)(k:K1):OR:=
 vae [.lst tTxn,.fn 201 [.bp 0 0,.bp 1 0]] [.box [.i,.i,.i,.i,.lst tRange,.lst tWrite,.bool,.str],.box [.lst tTxn]] args st (fun p q=>v7k p.1 q.1.1 q.1.2.1 q.1.2.2.1 q.1.2.2.2.1 q.1.2.2.2.2.1 q.1.2.2.2.2.2.1 q.1.2.2.2.2.2.2.1 q.1.2.2.2.2.2.2.2.1 q.2.1.1 (fun(y:q34T)=>k (.bool y.1) [.box [.i y.2.1,.i y.2.2.1,.i y.2.2.2.1,.i y.2.2.2.2.1,.lst tRange y.2.2.2.2.2.1,.lst tWrite y.2.2.2.2.2.2.1,.bool y.2.2.2.2.2.2.2.1,.str y.2.2.2.2.2.2.2.2.1],.box [.lst tTxn y.2.2.2.2.2.2.2.2.2]]))
 (vhh args st k)
def wu9 (args:List AV)(st:St)(k:K1):OR:=
 vae [.agg [.i,.i,.i,.i,.lst tRange,.lst tWrite,.bool,.str],.lst tTxn] [] args st (fun p q=>vq7 (p.1.1,(p.1.2.1,(p.1.2.2.1,(p.1.2.2.2.1,(p.1.2.2.2.2.1,(p.1.2.2.2.2.2.1,(p.1.2.2.2.2.2.2.1,p.1.2.2.2.2.2.2.2.1))))))) p.2.1 (fun(y:Bool)=>k (.bool y) []))
 (none)
def wue (args:List AV)(st:St)(k:K1):OR:=
 vae [.agg [.lst tVersion,.lst tTxn,.lst tTxn,.i,.i]] [] args st (fun p q=>vtl (p.1.1,(p.1.2.1,(p.1.2.2.1,(p.1.2.2.2.1,p.1.2.2.2.2.1)))) (fun(y:Bool)=>k (.bool y) []))
 (none)
def wt2 (args:List AV)(st:St)(k:K1):OR:=
 vae [.agg [.lst tVersion,.lst tTxn,.lst tTxn,.i,.i,.lst tTxn],.i] [] args st (fun p q=>v1x ((p.1.1,(p.1.2.1,(p.1.2.2.1,(p.1.2.2.2.1,p.1.2.2.2.2.1)))),p.1.2.2.2.2.2.1) p.2.1 (fun(y:Int)=>k (.i y) []))
 (none)
def wv0 (args:List AV)(st:St)(k:K1):OR:=
 vae [.agg [.i,.i,.i,.i,.lst tRange,.lst tWrite,.bool,.str],.bp 0 0] [.box [.i,.i,.i,.i,.lst tRange,.lst tWrite,.bool,.str]] args st (fun p q=>vxn (p.1.1,(p.1.2.1,(p.1.2.2.1,(p.1.2.2.2.1,(p.1.2.2.2.2.1,(p.1.2.2.2.2.2.1,(p.1.2.2.2.2.2.2.1,p.1.2.2.2.2.2.2.2.1))))))) q.1.1 q.1.2.1 q.1.2.2.1 q.1.2.2.2.1 q.1.2.2.2.2.1 q.1.2.2.2.2.2.1 q.1.2.2.2.2.2.2.1 q.1.2.2.2.2.2.2.2.1 (fun(y:q40T)=>k (.bool y.1) [.box [.i y.2.1,.i y.2.2.1,.i y.2.2.2.1,.i y.2.2.2.2.1,.lst tRange y.2.2.2.2.2.1,.lst tWrite y.2.2.2.2.2.2.1,.bool y.2.2.2.2.2.2.2.1,.str y.2.2.2.2.2.2.2.2]]))
 (none)
def vck (args:List AV)(st:St)(k:K1):OR:=
 vae [.lst tTxn,.fn 157 [.bp 0 0]] [.box [.i,.i,.i,.i,.lst tRange,.lst tWrite,.bool,.str]] args st (fun p q=>vvi p.1 q.1.1 q.1.2.1 q.1.2.2.1 q.1.2.2.2.1 q.1.2.2.2.2.1 q.1.2.2.2.2.2.1 q.1.2.2.2.2.2.2.1 q.1.2.2.2.2.2.2.2.1 (fun(y:q71T)=>k (.i y.1) [.box [.i y.2.1,.i y.2.2.1,.i y.2.2.2.1,.i y.2.2.2.2.1,.lst tRange y.2.2.2.2.2.1,.lst tWrite y.2.2.2.2.2.2.1,.bool y.2.2.2.2.2.2.2.1,.str y.2.2.2.2.2.2.2.2]]))
 (vcu args st k)
def vbu (args:List AV)(st:St)(k:K1):OR:=
 vae [.lst tTxn,.fn 157 [.bp 0 0]] [.box [.i,.i,.i,.i,.lst tRange,.lst tWrite,.bool,.str]] args st (fun p q=>wdy p.1 q.1.1 q.1.2.1 q.1.2.2.1 q.1.2.2.2.1 q.1.2.2.2.2.1 q.1.2.2.2.2.2.1 q.1.2.2.2.2.2.2.1 q.1.2.2.2.2.2.2.2.1 (fun(y:q40T)=>k (.bool y.1) [.box [.i y.2.1,.i y.2.2.1,.i y.2.2.2.1,.i y.2.2.2.2.1,.lst tRange y.2.2.2.2.2.1,.lst tWrite y.2.2.2.2.2.2.1,.bool y.2.2.2.2.2.2.2.1,.str y.2.2.2.2.2.2.2.2]]))
 (vb0 args st k)
def vhe (args:List AV)(st:St)(k:K1):OR:=
 vae [.lst tTxn,.fn 157 [.bp 0 0]] [.box [.i,.i,.i,.i,.lst tRange,.lst tWrite,.bool,.str]] args st (fun p q=>v60 p.1 q.1.1 q.1.2.1 q.1.2.2.1 q.1.2.2.2.1 q.1.2.2.2.2.1 q.1.2.2.2.2.2.1 q.1.2.2.2.2.2.2.1 q.1.2.2.2.2.2.2.2.1 (fun(y:q40T)=>k (.bool y.1) [.box [.i y.2.1,.i y.2.2.1,.i y.2.2.2.1,.i y.2.2.2.2.1,.lst tRange y.2.2.2.2.2.1,.lst tWrite y.2.2.2.2.2.2.1,.bool y.2.2.2.2.2.2.2.1,.str y.2.2.2.2.2.2.2.2]]))
 (vhg args st k)
def wve (args:List AV)(st:St)(k:K1):OR:=
 vae [.agg [.i,.i,.i,.i,.lst tRange,.lst tWrite,.bool,.str],.bp 0 0,.bp 1 0] [.box [.i,.i,.i,.i,.lst tRange,.lst tWrite,.bool,.str],.box [.i,.i,.i,.i,.lst tRange,.lst tWrite,.bool,.str]] args st (fun p q=>v0j (p.1.1,(p.1.2.1,(p.1.2.2.1,(p.1.2.2.2.1,(p.1.2.2.2.2.1,(p.1.2.2.2.2.2.1,(p.1.2.2.2.2.2.2.1,p.1.2.2.2.2.2.2.2.1))))))) q.1.1 q.1.2.1 q.1.2.2.1 q.1.2.2.2.1 q.1.2.2.2.2.1 q.1.2.2.2.2.2.1 q.1.2.2.2.2.2.2.1 q.1.2.2.2.2.2.2.2.1 q.2.1.1 q.2.1.2.1 q.2.1.2.2.1 q.2.1.2.2.2.1 q.2.1.2.2.2.2.1 q.2.1.2.2.2.2.2.1 q.2.1.2.2.2.2.2.2.1 q.2.1.2.2.2.2.2.2.2.1 (fun(y:q39T)=>k (.bool y.1) [.box [.i y.2.1,.i y.2.2.1,.i y.2.2.2.1,.i y.2.2.2.2.1,.lst tRange y.2.2.2.2.2.1,.lst tWrite y.2.2.2.2.2.2.1,.bool y.2.2.2.2.2.2.2.1,.str y.2.2.2.2.2.2.2.2.1],.box [.i y.2.2.2.2.2.2.2.2.2.1,.i y.2.2.2.2.2.2.2.2.2.2.1,.i y.2.2.2.2.2.2.2.2.2.2.2.1,.i y.2.2.2.2.2.2.2.2.2.2.2.2.1,.lst tRange y.2.2.2.2.2.2.2.2.2.2.2.2.2.1,.lst tWrite y.2.2.2.2.2.2.2.2.2.2.2.2.2.2.1,.bool y.2.2.2.2.2.2.2.2.2.2.2.2.2.2.2.1,.str y.2.2.2.2.2.2.2.2.2.2.2.2.2.2.2.2]]))
 (none)
def vce (args:List AV)(st:St)(k:K1):OR:=
 vae [.lst tTxn,.fn 161 [.bp 0 0,.bp 1 0]] [.box [.i,.i,.i,.i,.lst tRange,.lst tWrite,.bool,.str],.box [.i,.i,.i,.i,.lst tRange,.lst tWrite,.bool,.str]] args st (fun p q=>vys p.1 q.1.1 q.1.2.1 q.1.2.2.1 q.1.2.2.2.1 q.1.2.2.2.2.1 q.1.2.2.2.2.2.1 q.1.2.2.2.2.2.2.1 q.1.2.2.2.2.2.2.2.1 q.2.1.1 q.2.1.2.1 q.2.1.2.2.1 q.2.1.2.2.2.1 q.2.1.2.2.2.2.1 q.2.1.2.2.2.2.2.1 q.2.1.2.2.2.2.2.2.1 q.2.1.2.2.2.2.2.2.2.1 (fun(y:q70T)=>k (.i y.1) [.box [.i y.2.1,.i y.2.2.1,.i y.2.2.2.1,.i y.2.2.2.2.1,.lst tRange y.2.2.2.2.2.1,.lst tWrite y.2.2.2.2.2.2.1,.bool y.2.2.2.2.2.2.2.1,.str y.2.2.2.2.2.2.2.2.1],.box [.i y.2.2.2.2.2.2.2.2.2.1,.i y.2.2.2.2.2.2.2.2.2.2.1,.i y.2.2.2.2.2.2.2.2.2.2.2.1,.i y.2.2.2.2.2.2.2.2.2.2.2.2.1,.lst tRange y.2.2.2.2.2.2.2.2.2.2.2.2.2.1,.lst tWrite y.2.2.2.2.2.2.2.2.2.2.2.2.2.2.1,.bool y.2.2.2.2.2.2.2.2.2.2.2.2.2.2.2.1,.str y.2.2.2.2.2.2.2.2.2.2.2.2.2.2.2.2]]))
 (vck args st k)
def vbx (args:List AV)(st:St)(k:K1):OR:=
 vae [.lst tTxn,.fn 161 [.bp 0 0,.bp 1 0]] [.box [.i,.i,.i,.i,.lst tRange,.lst tWrite,.bool,.str],.box [.i,.i,.i,.i,.lst tRange,.lst tWrite,.bool,.str]] args st (fun p q=>wb3 p.1 q.1.1 q.1.2.1 q.1.2.2.1 q.1.2.2.2.1 q.1.2.2.2.2.1 q.1.2.2.2.2.2.1 q.1.2.2.2.2.2.2.1 q.1.2.2.2.2.2.2.2.1 q.2.1.1 q.2.1.2.1 q.2.1.2.2.1 q.2.1.2.2.2.1 q.2.1.2.2.2.2.1 q.2.1.2.2.2.2.2.1 q.2.1.2.2.2.2.2.2.1 q.2.1.2.2.2.2.2.2.2.1 (fun(y:q39T)=>k (.bool y.1) [.box [.i y.2.1,.i y.2.2.1,.i y.2.2.2.1,.i y.2.2.2.2.1,.lst tRange y.2.2.2.2.2.1,.lst tWrite y.2.2.2.2.2.2.1,.bool y.2.2.2.2.2.2.2.1,.str y.2.2.2.2.2.2.2.2.1],.box [.i y.2.2.2.2.2.2.2.2.2.1,.i y.2.2.2.2.2.2.2.2.2.2.1,.i y.2.2.2.2.2.2.2.2.2.2.2.1,.i y.2.2.2.2.2.2.2.2.2.2.2.2.1,.lst tRange y.2.2.2.2.2.2.2.2.2.2.2.2.2.1,.lst tWrite y.2.2.2.2.2.2.2.2.2.2.2.2.2.2.1,.bool y.2.2.2.2.2.2.2.2.2.2.2.2.2.2.2.1,.str y.2.2.2.2.2.2.2.2.2.2.2.2.2.2.2.2]]))
 (vbu args st k)
def vhj (args:List AV)(st:St)(k:K1):OR:=
 vae [.lst tTxn,.fn 161 [.bp 0 0,.bp 1 0]] [.box [.i,.i,.i,.i,.lst tRange,.lst tWrite,.bool,.str],.box [.i,.i,.i,.i,.lst tRange,.lst tWrite,.bool,.str]] args st (fun p q=>v7l p.1 q.1.1 q.1.2.1 q.1.2.2.1 q.1.2.2.2.1 q.1.2.2.2.2.1 q.1.2.2.2.2.2.1 q.1.2.2.2.2.2.2.1 q.1.2.2.2.2.2.2.2.1 q.2.1.1 q.2.1.2.1 q.2.1.2.2.1 q.2.1.2.2.2.1 q.2.1.2.2.2.2.1 q.2.1.2.2.2.2.2.1 q.2.1.2.2.2.2.2.2.1 q.2.1.2.2.2.2.2.2.2.1 (fun(y:q39T)=>k (.bool y.1) [.box [.i y.2.1,.i y.2.2.1,.i y.2.2.2.1,.i y.2.2.2.2.1,.lst tRange y.2.2.2.2.2.1,.lst tWrite y.2.2.2.2.2.2.1,.bool y.2.2.2.2.2.2.2.1,.str y.2.2.2.2.2.2.2.2.1],.box [.i y.2.2.2.2.2.2.2.2.2.1,.i y.2.2.2.2.2.2.2.2.2.2.1,.i y.2.2.2.2.2.2.2.2.2.2.2.1,.i y.2.2.2.2.2.2.2.2.2.2.2.2.1,.lst tRange y.2.2.2.2.2.2.2.2.2.2.2.2.2.1,.lst tWrite y.2.2.2.2.2.2.2.2.2.2.2.2.2.2.1,.bool y.2.2.2.2.2.2.2.2.2.2.2.2.2.2.2.1,.str y.2.2.2.2.2.2.2.2.2.2.2.2.2.2.2.2]]))
 (vhe args st k)
def wt4 (args:List AV)(st:St)(k:K1):OR:=
 vae [.agg [.i,.i,.i,.i,.lst tRange,.lst tWrite,.bool,.str],.bp 0 0,.bp 1 0,.bp 2 0] [.box [.fn 157 [.bp 2 0]],.box [.lst tTxn],.box [.i,.i,.i,.i,.lst tRange,.lst tWrite,.bool,.str]] args st (fun p q=>v16 (p.1.1,(p.1.2.1,(p.1.2.2.1,(p.1.2.2.2.1,(p.1.2.2.2.2.1,(p.1.2.2.2.2.2.1,(p.1.2.2.2.2.2.2.1,p.1.2.2.2.2.2.2.2.1))))))) q.2.1.1 q.2.2.1.1 q.2.2.1.2.1 q.2.2.1.2.2.1 q.2.2.1.2.2.2.1 q.2.2.1.2.2.2.2.1 q.2.2.1.2.2.2.2.2.1 q.2.2.1.2.2.2.2.2.2.1 q.2.2.1.2.2.2.2.2.2.2.1 (fun(y:q28T)=>k (.bool y.1) [.box [.fn 157 [.bp 2 0]],.box [.lst tTxn y.2.1],.box [.i y.2.2.1,.i y.2.2.2.1,.i y.2.2.2.2.1,.i y.2.2.2.2.2.1,.lst tRange y.2.2.2.2.2.2.1,.lst tWrite y.2.2.2.2.2.2.2.1,.bool y.2.2.2.2.2.2.2.2.1,.str y.2.2.2.2.2.2.2.2.2]]))
 (none)
def vcd (args:List AV)(st:St)(k:K1):OR:=
 vae [.lst tTxn,.fn 160 [.bp 0 0,.bp 1 0,.bp 2 0]] [.box [.fn 157 [.bp 2 0]],.box [.lst tTxn],.box [.i,.i,.i,.i,.lst tRange,.lst tWrite,.bool,.str]] args st (fun p q=>vwg p.1 q.2.1.1 q.2.2.1.1 q.2.2.1.2.1 q.2.2.1.2.2.1 q.2.2.1.2.2.2.1 q.2.2.1.2.2.2.2.1 q.2.2.1.2.2.2.2.2.1 q.2.2.1.2.2.2.2.2.2.1 q.2.2.1.2.2.2.2.2.2.2.1 (fun(y:q48T)=>k (.i y.1) [.box [.fn 157 [.bp 2 0]],.box [.lst tTxn y.2.1],.box [.i y.2.2.1,.i y.2.2.2.1,.i y.2.2.2.2.1,.i y.2.2.2.2.2.1,.lst tRange y.2.2.2.2.2.2.1,.lst tWrite y.2.2.2.2.2.2.2.1,.bool y.2.2.2.2.2.2.2.2.1,.str y.2.2.2.2.2.2.2.2.2]]))
 (vce args st k)
def vcv (args:List AV)(st:St)(k:K1):OR:=
 vae [.lst tTxn,.fn 160 [.bp 0 0,.bp 1 0,.bp 2 0]] [.box [.fn 157 [.bp 2 0]],.box [.lst tTxn],.box [.i,.i,.i,.i,.lst tRange,.lst tWrite,.bool,.str]] args st (fun p q=>wdq p.1 q.2.1.1 q.2.2.1.1 q.2.2.1.2.1 q.2.2.1.2.2.1 q.2.2.1.2.2.2.1 q.2.2.1.2.2.2.2.1 q.2.2.1.2.2.2.2.2.1 q.2.2.1.2.2.2.2.2.2.1 q.2.2.1.2.2.2.2.2.2.2.1 (fun(y:q28T)=>k (.bool y.1) [.box [.fn 157 [.bp 2 0]],.box [.lst tTxn y.2.1],.box [.i y.2.2.1,.i y.2.2.2.1,.i y.2.2.2.2.1,.i y.2.2.2.2.2.1,.lst tRange y.2.2.2.2.2.2.1,.lst tWrite y.2.2.2.2.2.2.2.1,.bool y.2.2.2.2.2.2.2.2.1,.str y.2.2.2.2.2.2.2.2.2]]))
 (vbx args st k)
def vh5 (args:List AV)(st:St)(k:K1):OR:=
 vae [.lst tTxn,.fn 160 [.bp 0 0,.bp 1 0,.bp 2 0]] [.box [.fn 157 [.bp 2 0]],.box [.lst tTxn],.box [.i,.i,.i,.i,.lst tRange,.lst tWrite,.bool,.str]] args st (fun p q=>v0d p.1 q.2.1.1 q.2.2.1.1 q.2.2.1.2.1 q.2.2.1.2.2.1 q.2.2.1.2.2.2.1 q.2.2.1.2.2.2.2.1 q.2.2.1.2.2.2.2.2.1 q.2.2.1.2.2.2.2.2.2.1 q.2.2.1.2.2.2.2.2.2.2.1 (fun(y:q28T)=>k (.bool y.1) [.box [.fn 157 [.bp 2 0]],.box [.lst tTxn y.2.1],.box [.i y.2.2.1,.i y.2.2.2.1,.i y.2.2.2.2.1,.i y.2.2.2.2.2.1,.lst tRange y.2.2.2.2.2.2.1,.lst tWrite y.2.2.2.2.2.2.2.1,.bool y.2.2.2.2.2.2.2.2.1,.str y.2.2.2.2.2.2.2.2.2]]))
 (vhj args st k)
def wuw (args:List AV)(st:St)(k:K1):OR:=
 vae [.agg [.i,.i,.i,.i,.lst tRange,.lst tWrite,.bool,.str],.lst tTxn] [] args st (fun p q=>v2a (p.1.1,(p.1.2.1,(p.1.2.2.1,(p.1.2.2.2.1,(p.1.2.2.2.2.1,(p.1.2.2.2.2.2.1,(p.1.2.2.2.2.2.2.1,p.1.2.2.2.2.2.2.2.1))))))) p.2.1 (fun(y:Bool)=>k (.bool y) []))
 (none)
def wtp (args:List AV)(st:St)(k:K1):OR:=
 vae [.agg [.i,.i,.i,.i,.lst tRange,.lst tWrite,.bool,.str],.bp 0 0] [.box [.i]] args st (fun p q=>vtt (p.1.1,(p.1.2.1,(p.1.2.2.1,(p.1.2.2.2.1,(p.1.2.2.2.2.1,(p.1.2.2.2.2.2.1,(p.1.2.2.2.2.2.2.1,p.1.2.2.2.2.2.2.2.1))))))) q.1.1 (fun(y:(Bool×Int))=>k (.bool y.1) [.box [.i y.2]]))
 (none)
def vcg (args:List AV)(st:St)(k:K1):OR:=
 vae [.lst tTxn,.fn 162 [.bp 0 0]] [.box [.i]] args st (fun p q=>vpq p.1 q.1.1 (fun(y:(Int×Int))=>k (.i y.1) [.box [.i y.2]]))
 (vcd args st k)
def wvn (args:List AV)(st:St)(k:K1):OR:=
 vae [.agg [.i,.i,.i,.i,.lst tRange,.lst tWrite,.bool,.str],.bp 0 0] [.box [.i]] args st (fun p q=>vt8 (p.1.1,(p.1.2.1,(p.1.2.2.1,(p.1.2.2.2.1,(p.1.2.2.2.2.1,(p.1.2.2.2.2.2.1,(p.1.2.2.2.2.2.2.1,p.1.2.2.2.2.2.2.2.1))))))) q.1.1 (fun(y:(Bool×Int))=>k (.bool y.1) [.box [.i y.2]]))
 (none)
def vch (args:List AV)(st:St)(k:K1):OR:=
 vae [.lst tTxn,.fn 110 [.bp 0 0]] [.box [.i]] args st (fun p q=>vp1 p.1 q.1.1 (fun(y:(Int×Int))=>k (.i y.1) [.box [.i y.2]]))
 (vcg args st k)
def wvh (args:List AV)(st:St)(k:K1):OR:=
 vae [.agg [.i,.i,.i,.i,.lst tRange,.lst tWrite,.bool,.str],.bp 0 0] [.box [.i,.i,.i,.i,.dead,.dead,.bool,.str]] args st (fun p q=>vt6 (p.1.1,(p.1.2.1,(p.1.2.2.1,(p.1.2.2.2.1,(p.1.2.2.2.2.1,(p.1.2.2.2.2.2.1,(p.1.2.2.2.2.2.2.1,p.1.2.2.2.2.2.2.2.1))))))) q.1.1 q.1.2.1 q.1.2.2.1 q.1.2.2.2.1 q.1.2.2.2.2.2.2.1 q.1.2.2.2.2.2.2.2.1 (fun(y:q41T)=>k (.bool y.1) [.box [.i y.2.1,.i y.2.2.1,.i y.2.2.2.1,.i y.2.2.2.2.1,.dead,.dead,.bool y.2.2.2.2.2.1,.str y.2.2.2.2.2.2]]))
 (none)
def vdb (args:List AV)(st:St)(k:K1):OR:=
 vae [.lst tTxn,.fn 122 [.bp 0 0]] [.box [.i,.i,.i,.i,.dead,.dead,.bool,.str]] args st (fun p q=>vpo p.1 q.1.1 q.1.2.1 q.1.2.2.1 q.1.2.2.2.1 q.1.2.2.2.2.2.2.1 q.1.2.2.2.2.2.2.2.1 (fun(y:q72T)=>k (.i y.1) [.box [.i y.2.1,.i y.2.2.1,.i y.2.2.2.1,.i y.2.2.2.2.1,.dead,.dead,.bool y.2.2.2.2.2.1,.str y.2.2.2.2.2.2]]))
 (vch args st k)
def vbq (args:List AV)(st:St)(k:K1):OR:=
 vae [.own 0,.fn 162 [.bp 1 0]] [.dep tTxn 0,.box [.i]] args st (fun p q=>vs8 q.1 q.2.1.1 (Sum.elim (fun(y:(TL×Int))=>k (.own 0) [.dep tTxn y.1 0 [],.box [.i y.2]]) (fun(y:(Int×TL))=>k (.own 2) [.gone,.box [.i y.1],.dep tTxn y.2 0 []])))
 (vae [.own 0,.fn 110 [.bp 1 0]] [.dep tTxn 0,.box [.i]] args st (fun p q=>vs6 q.1 q.2.1.1 (Sum.elim (fun(y:(TL×Int))=>k (.own 0) [.dep tTxn y.1 0 [],.box [.i y.2]]) (fun(y:(Int×TL))=>k (.own 2) [.gone,.box [.i y.1],.dep tTxn y.2 0 []])))
 (vae [.own 0,.fn 122 [.bp 1 0]] [.dep tTxn 0,.box [.i,.i,.i,.i,.dead,.dead,.bool,.str]] args st (fun p q=>vs4 q.1 q.2.1.1 q.2.1.2.1 q.2.1.2.2.1 q.2.1.2.2.2.1 q.2.1.2.2.2.2.2.2.1 q.2.1.2.2.2.2.2.2.2.1 (Sum.elim (fun(y:q7T)=>k (.own 0) [.dep tTxn y.1 0 [],.box [.i y.2.1,.i y.2.2.1,.i y.2.2.2.1,.i y.2.2.2.2.1,.dead,.dead,.bool y.2.2.2.2.2.1,.str y.2.2.2.2.2.2]]) (fun(y:q65T)=>k (.own 2) [.gone,.box [.i y.1,.i y.2.1,.i y.2.2.1,.i y.2.2.2.1,.dead,.dead,.bool y.2.2.2.2.1,.str y.2.2.2.2.2.1],.dep tTxn y.2.2.2.2.2.2 0 []])))
 (none)))
def wt9 (args:List AV)(st:St)(k:K1):OR:=
 vae [.agg [.lst tVersion,.lst tTxn,.lst tTxn,.i,.i,.lst tTxn],.i] [] args st (fun p q=>vv9 ((p.1.1,(p.1.2.1,(p.1.2.2.1,(p.1.2.2.2.1,p.1.2.2.2.2.1)))),p.1.2.2.2.2.2.1) p.2.1 (fun(y:q54T)=>k (.agg [.own 0,.own 1,.own 2,.i y.1,.i y.2.1,.own 3]) [.arr tVersion y.2.2.1,.dep tTxn y.2.2.2.1 0 [],.dep tTxn y.2.2.2.2.1 0 [],.dep tTxn y.2.2.2.2.2 0 []]))
 (none)
def wtu (args:List AV)(st:St)(k:K1):OR:=
 vae [.agg [.lst tVersion,.lst tTxn,.lst tTxn,.i,.i],.lst tTxn] [] args st (fun p q=>v0e (p.1.1,(p.1.2.1,(p.1.2.2.1,(p.1.2.2.2.1,p.1.2.2.2.2.1)))) p.2.1 (fun(y:Int)=>k (.i y) []))
 (none)
def wuq (args:List AV)(st:St)(k:K1):OR:=
 vae [.str,.bp 0 0] [.box [.own 1],.arr tVersion] args st (fun p q=>v0n p.1 q.2.1 (fun(y:(Int×VL))=>k (.i y.1) [.box [.own 1],.arr tVersion y.2]))
 (none)
def wt7 (args:List AV)(st:St)(k:K1):OR:=
 vae [.lst tVersion,.i] [] args st (fun p q=>vyn p.1 p.2.1 (fun(y:VL)=>k (.own 0) [.arr tVersion y]))
 (none)
def wu8 (args:List AV)(st:St)(k:K1):OR:=
 vae [.agg [.lst tVersion,.lst tTxn,.lst tTxn,.i,.i],.lst tTxn] [] args st (fun p q=>vtp (p.1.1,(p.1.2.1,(p.1.2.2.1,(p.1.2.2.2.1,p.1.2.2.2.2.1)))) p.2.1 (fun(y:q57T)=>k (.agg [.own 0,.own 1,.own 2,.i y.1,.i y.2.1]) [.arr tVersion y.2.2.1,.dep tTxn y.2.2.2.1 0 [],.dep tTxn y.2.2.2.2 0 []]))
 (none)
def wug (args:List AV)(st:St)(k:K1):OR:=
 vae [.agg [.lst tVersion,.lst tTxn,.lst tTxn,.i,.i,.lst tTxn],.i] [] args st (fun p q=>vz9 ((p.1.1,(p.1.2.1,(p.1.2.2.1,(p.1.2.2.2.1,p.1.2.2.2.2.1)))),p.1.2.2.2.2.2.1) p.2.1 (fun(y:q60T)=>k (.tup [.agg [.own 0,.own 1,.own 2,.i y.1,.i y.2.1,.own 3],.i y.2.2.1]) [.arr tVersion y.2.2.2.1,.dep tTxn y.2.2.2.2.1 0 [],.dep tTxn y.2.2.2.2.2.1 0 [],.dep tTxn y.2.2.2.2.2.2 0 []]))
 (none)
def wva (args:List AV)(st:St)(k:K1):OR:=
 vae [.agg [.lst tVersion,.lst tTxn,.lst tTxn,.i,.i],.agg [.i,.i,.i,.i,.lst tRange,.lst tWrite,.bool,.str],.str] [] args st (fun p q=>v00 (p.1.1,(p.1.2.1,(p.1.2.2.1,(p.1.2.2.2.1,p.1.2.2.2.2.1)))) (p.2.1.1,(p.2.1.2.1,(p.2.1.2.2.1,(p.2.1.2.2.2.1,(p.2.1.2.2.2.2.1,(p.2.1.2.2.2.2.2.1,(p.2.1.2.2.2.2.2.2.1,p.2.1.2.2.2.2.2.2.2.1))))))) p.2.2.1 (fun(y:q57T)=>k (.agg [.own 0,.own 1,.own 2,.i y.1,.i y.2.1]) [.arr tVersion y.2.2.1,.dep tTxn y.2.2.2.1 0 [],.dep tTxn y.2.2.2.2 0 []]))
 (none)
def wvr (args:List AV)(st:St)(k:K1):OR:=
 vae [.agg [.lst tVersion,.lst tTxn,.lst tTxn,.i,.i,.lst tTxn],.i,.str] [] args st (fun p q=>vpd ((p.1.1,(p.1.2.1,(p.1.2.2.1,(p.1.2.2.2.1,p.1.2.2.2.2.1)))),p.1.2.2.2.2.2.1) p.2.1 p.2.2.1 (fun(y:q76T)=>k (.tup [.agg [.own 0,.own 1,.own 2,.i y.1,.i y.2.1,.own 3],.agg [.i y.2.2.1,.i y.2.2.2.1,.i y.2.2.2.2.1,.i y.2.2.2.2.2.1,.i y.2.2.2.2.2.2.1,.own 4,.own 5,.bool y.2.2.2.2.2.2.2.1,.str y.2.2.2.2.2.2.2.2.1,.str y.2.2.2.2.2.2.2.2.2.1,.bool y.2.2.2.2.2.2.2.2.2.2.1,.nilS,.nilS,.nilS,.i y.2.2.2.2.2.2.2.2.2.2.2.1,.i y.2.2.2.2.2.2.2.2.2.2.2.2.1],.i y.2.2.2.2.2.2.2.2.2.2.2.2.2.1]) [.arr tVersion y.2.2.2.2.2.2.2.2.2.2.2.2.2.2.1,.dep tTxn y.2.2.2.2.2.2.2.2.2.2.2.2.2.2.2.1 0 [],.dep tTxn y.2.2.2.2.2.2.2.2.2.2.2.2.2.2.2.2.1 0 [],.dep tTxn y.2.2.2.2.2.2.2.2.2.2.2.2.2.2.2.2.2.1 0 [],.arr tRange y.2.2.2.2.2.2.2.2.2.2.2.2.2.2.2.2.2.2.1,.arr tWrite y.2.2.2.2.2.2.2.2.2.2.2.2.2.2.2.2.2.2.2]))
 (none)
def wu2 (args:List AV)(st:St)(k:K1):OR:=
 vae [.agg [.str,.str,.bool,.i],.bp 0 0] [.box [.str,.str,.bool,.i]] args st (fun p q=>v7c (p.1.1,(p.1.2.1,(p.1.2.2.1,p.1.2.2.2.1))) q.1.1 q.1.2.1 q.1.2.2.1 q.1.2.2.2.1 (fun(y:q32T)=>k (.bool y.1) [.box [.str y.2.1,.str y.2.2.1,.bool y.2.2.2.1,.i y.2.2.2.2]]))
 (none)
def ve8 (args:List AV)(st:St)(k:K1):OR:=
 vae [.lst tVersion,.fn 183 [.bp 0 0]] [.box [.str,.str,.bool,.i]] args st (fun p q=>vr9 p.1 q.1.1 q.1.2.1 q.1.2.2.1 q.1.2.2.2.1 (fun(y:q52T)=>k (.i y.1) [.box [.str y.2.1,.str y.2.2.1,.bool y.2.2.2.1,.i y.2.2.2.2]]))
 (none)
def vd6 (args:List AV)(st:St)(k:K1):OR:=
 vae [.own 0,.i,.own 1] [.arr tVersion,.arr tVersion] args st (fun p q=>vn5 p.2.1 q.1 q.2.1 (fun(y:q14T)=>k (.own 2) [.gone,.arr tVersion y.1,.arr tVersion y.2]))
 (none)
def wud (args:List AV)(st:St)(k:K1):OR:=
 vae [.lst tVersion,.lst tWrite,.i] [] args st (fun p q=>v1v p.1 p.2.1 p.2.2.1 (fun(y:VL)=>k (.own 0) [.arr tVersion y]))
 (none)
def wu7 (args:List AV)(st:St)(k:K1):OR:=
 vae [.agg [.lst tVersion,.lst tTxn,.lst tTxn,.i,.i],.agg [.i,.i,.i,.i,.lst tRange,.lst tWrite,.bool,.str]] [] args st (fun p q=>v59 (p.1.1,(p.1.2.1,(p.1.2.2.1,(p.1.2.2.2.1,p.1.2.2.2.2.1)))) (p.2.1.1,(p.2.1.2.1,(p.2.1.2.2.1,(p.2.1.2.2.2.1,(p.2.1.2.2.2.2.1,(p.2.1.2.2.2.2.2.1,(p.2.1.2.2.2.2.2.2.1,p.2.1.2.2.2.2.2.2.2.1))))))) (fun(y:q57T)=>k (.agg [.own 0,.own 1,.own 2,.i y.1,.i y.2.1]) [.arr tVersion y.2.2.1,.dep tTxn y.2.2.2.1 0 [],.dep tTxn y.2.2.2.2 0 []]))
 (none)
def wvs (args:List AV)(st:St)(k:K1):OR:=
 vae [.agg [.lst tVersion,.lst tTxn,.lst tTxn,.i,.i,.lst tTxn],.i] [] args st (fun p q=>vr4 ((p.1.1,(p.1.2.1,(p.1.2.2.1,(p.1.2.2.2.1,p.1.2.2.2.2.1)))),p.1.2.2.2.2.2.1) p.2.1 (fun(y:q76T)=>k (.tup [.agg [.own 0,.own 1,.own 2,.i y.1,.i y.2.1,.own 3],.agg [.i y.2.2.1,.i y.2.2.2.1,.i y.2.2.2.2.1,.i y.2.2.2.2.2.1,.i y.2.2.2.2.2.2.1,.own 4,.own 5,.bool y.2.2.2.2.2.2.2.1,.str y.2.2.2.2.2.2.2.2.1,.str y.2.2.2.2.2.2.2.2.2.1,.bool y.2.2.2.2.2.2.2.2.2.2.1,.nilS,.nilS,.nilS,.i y.2.2.2.2.2.2.2.2.2.2.2.1,.i y.2.2.2.2.2.2.2.2.2.2.2.2.1],.i y.2.2.2.2.2.2.2.2.2.2.2.2.2.1]) [.arr tVersion y.2.2.2.2.2.2.2.2.2.2.2.2.2.2.1,.dep tTxn y.2.2.2.2.2.2.2.2.2.2.2.2.2.2.2.1 0 [],.dep tTxn y.2.2.2.2.2.2.2.2.2.2.2.2.2.2.2.2.1 0 [],.dep tTxn y.2.2.2.2.2.2.2.2.2.2.2.2.2.2.2.2.2.1 0 [],.arr tRange y.2.2.2.2.2.2.2.2.2.2.2.2.2.2.2.2.2.2.1,.arr tWrite y.2.2.2.2.2.2.2.2.2.2.2.2.2.2.2.2.2.2.2]))
 (none)
def wo7 (args:List AV)(st:St)(k:K1):OR:=
 vae [.lst (.int .u8)] [] args st (fun p q=>wfb p.1 (fun(y:Bool)=>k (.bool y) []))
 (none)
end
end Go.VE
