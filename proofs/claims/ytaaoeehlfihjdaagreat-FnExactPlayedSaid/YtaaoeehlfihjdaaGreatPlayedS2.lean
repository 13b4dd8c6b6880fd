/- Each function told by its native program; written by gen.py. -/
import Derived.Test.YtaaoeehlfihjdaaGreatPlayedS1
namespace Go.VE
open Go.Proofs Go.Proofs.Tryz
noncomputable section
set_option linter.unusedVariables false
set_option linter.unusedSimpArgs false
set_option maxRecDepth 100000
def wom:Nat→Option LoopSpec
 |_=>none
theorem v03:vad prog 16 vo5:=
 vap G119_ok follows (f16.body.getD .skip) func16 (by kernel_rfl) fun p q=>⟨wom,(n64n_p ..).p.map _,by rw [wua];kernel_rfl,vaa (ids:=[]) (by kernel_rfl) (by kernel_rfl) trivial⟩
def G120:Glob:=G119.add 16 vo5
theorem G120_ok:GlobOk prog G120:=G119_ok.add ⟨f16,func16,by kernel_rfl,by kernel_rfl⟩ v03
def wpv:Nat→Option LoopSpec
 |_=>none
theorem v49:vad prog 74 vrp:=
 vap G120_ok follows (f74.body.getD .skip) func74 (by kernel_rfl) fun p q=>⟨wpv,(n69n_p ..).p.map _,by rw [wun];kernel_rfl,vaa (ids:=[]) (by kernel_rfl) (by kernel_rfl) trivial⟩
def G121:Glob:=G120.add 74 vrp
theorem G121_ok:GlobOk prog G121:=G120_ok.add ⟨f74,func74,by kernel_rfl,by kernel_rfl⟩ v49
def wnq:Nat→Option LoopSpec
 |_=>none
theorem vwu:vad prog 17 vlv:=
 vap G121_ok follows (f17.body.getD .skip) func17 (by kernel_rfl) fun p q=>⟨wnq,(n66n_p ..).p.map _,by rw [wtf];kernel_rfl,vaa (ids:=[]) (by kernel_rfl) (by kernel_rfl) trivial⟩
def G122:Glob:=G121.add 17 vlv
theorem G122_ok:GlobOk prog G122:=G121_ok.add ⟨f17,func17,by kernel_rfl,by kernel_rfl⟩ vwu
def v1v:q34T→List AV:=fun x=>[.lst tVersion x.1,.i x.2.1,.i x.2.2.1,.i x.2.2.2]
def v14:q34T→St:=fun x=>[]
def v66:Nat→Option LoopSpec
 |0=>some (lpS [0,1,4,5] [] [.lst tVersion,.i,.i,.i] [] vpy (fun p q=>(p.1,p.2.1,p.2.2.1,p.2.2.2.1)) (fun k=>(Sum.elim (onE (exZ .ret v1v v14) k) (onE (exZ (.exit 0) v1v v14) k))))
 |2000004=>some ⟨[0,2,4,6,8,10,13,14],[],fun _ _ _=>none⟩
 |2000007=>some ⟨[0,2,4,6,8,10,13,14],[],fun _ _ _=>none⟩
 |_=>none
theorem wy1:LpAt G122 ⟨0,53,v66⟩ f75 0:=
 val rfl (fun x=>(n62n_bp0 x).p) v1v v14 (Sum.elim ((exZ .ret v1v v14)) ((exZ (.exit 0) v1v v14))) (fun _ _=>⟨rfl,rfl⟩) (fun z=>by rcases z with z|z<;>(intro h;cases h)) (fun k z=>by rcases z with z|z<;>rfl) (fun x=>by kernel_rfl)
theorem xbe:vad prog 75 w58:=
 vap G122_ok follows (f75.body.getD .skip) func75 (by kernel_rfl) fun p q=>⟨v66,(n62n_p ..).p.map _,by rw [wsf];kernel_rfl,vaa (ids:=[0]) (by kernel_rfl) (by kernel_rfl) ⟨wy1,trivial⟩⟩
def G123:Glob:=G122.add 75 w58
theorem G123_ok:GlobOk prog G123:=G122_ok.add ⟨f75,func75,by kernel_rfl,by kernel_rfl⟩ xbe
def vzo:q6T→List AV:=fun x=>[.lst tRange x.1,.i x.2.1,.i x.2.2.1,.i x.2.2.2]
def v0k:q6T→St:=fun x=>[]
def v6b:Nat→Option LoopSpec
 |0=>some (lpS [0,1,4,5] [] [.lst tRange,.i,.i,.i] [] vpt (fun p q=>(p.1,p.2.1,p.2.2.1,p.2.2.2.1)) (fun k=>(Sum.elim (onE (exZ .ret vzo v0k) k) (onE (exZ (.exit 0) vzo v0k) k))))
 |2000004=>some ⟨[0,2,4,6,8,10,13,14],[],fun _ _ _=>none⟩
 |2000007=>some ⟨[0,2,4,6,8,10,13,14],[],fun _ _ _=>none⟩
 |_=>none
theorem w02:LpAt G123 ⟨0,33,v6b⟩ f147 0:=
 val rfl (fun x=>(n60n_bp0 x).p) vzo v0k (Sum.elim ((exZ .ret vzo v0k)) ((exZ (.exit 0) vzo v0k))) (fun _ _=>⟨rfl,rfl⟩) (fun z=>by rcases z with z|z<;>(intro h;cases h)) (fun k z=>by rcases z with z|z<;>rfl) (fun x=>by kernel_rfl)
theorem xbw:vad prog 147 w5i:=
 vap G123_ok follows (f147.body.getD .skip) func147 (by kernel_rfl) fun p q=>⟨v6b,(n60n_p ..).p.map _,by rw [ws1];kernel_rfl,vaa (ids:=[0]) (by kernel_rfl) (by kernel_rfl) ⟨w02,trivial⟩⟩
def G124:Glob:=G123.add 147 w5i
theorem G124_ok:GlobOk prog G124:=G123_ok.add ⟨f147,func147,by kernel_rfl,by kernel_rfl⟩ xbw
def v3g:q42T→List AV:=fun x=>[.lst tWrite x.1,.i x.2.1,.i x.2.2.1,.i x.2.2.2]
def v2g:q42T→St:=fun x=>[]
def v8b:Nat→Option LoopSpec
 |0=>some (lpS [0,1,4,5] [] [.lst tWrite,.i,.i,.i] [] voi (fun p q=>(p.1,p.2.1,p.2.2.1,p.2.2.2.1)) (fun k=>(Sum.elim (onE (exZ .ret v3g v2g) k) (onE (exZ (.exit 0) v3g v2g) k))))
 |2000004=>some ⟨[0,2,4,6,8,10,13,14],[],fun _ _ _=>none⟩
 |2000007=>some ⟨[0,2,4,6,8,10,13,14],[],fun _ _ _=>none⟩
 |_=>none
theorem w0z:LpAt G124 ⟨0,44,v8b⟩ f148 0:=
 val rfl (fun x=>(n63n_bp0 x).p) v3g v2g (Sum.elim ((exZ .ret v3g v2g)) ((exZ (.exit 0) v3g v2g))) (fun _ _=>⟨rfl,rfl⟩) (fun z=>by rcases z with z|z<;>(intro h;cases h)) (fun k z=>by rcases z with z|z<;>rfl) (fun x=>by kernel_rfl)
theorem w9n:vad prog 148 w4c:=
 vap G124_ok follows (f148.body.getD .skip) func148 (by kernel_rfl) fun p q=>⟨v8b,(n63n_p ..).p.map _,by rw [wxd];kernel_rfl,vaa (ids:=[0]) (by kernel_rfl) (by kernel_rfl) ⟨w0z,trivial⟩⟩
def G125:Glob:=G124.add 148 w4c
theorem G125_ok:GlobOk prog G125:=G124_ok.add ⟨f148,func148,by kernel_rfl,by kernel_rfl⟩ w9n
def v1g:q17T→List AV:=fun x=>[.lst tTxn x.1,.i x.2.1,.i x.2.2.1,.i x.2.2.2]
def v16:q17T→St:=fun x=>[]
def v5s:Nat→Option LoopSpec
 |0=>some (lpS [0,1,4,5] [] [.lst tTxn,.i,.i,.i] [] vos (fun p q=>(p.1,p.2.1,p.2.2.1,p.2.2.2.1)) (fun k=>(Sum.elim (onE (exZ .ret v1g v16) k) (onE (exZ (.exit 0) v1g v16) k))))
 |2000025=>some ⟨[0,2,4,6,8,10,13,14],[],fun _ _ _=>none⟩
 |_=>none
theorem w20:LpAt G125 ⟨0,88,v5s⟩ f76 0:=
 val rfl (fun x=>(n61n_bp0 x).p) v1g v16 (Sum.elim ((exZ .ret v1g v16)) ((exZ (.exit 0) v1g v16))) (fun _ _=>⟨rfl,rfl⟩) (fun z=>by rcases z with z|z<;>(intro h;cases h)) (fun k z=>by rcases z with z|z<;>rfl) (fun x=>by kernel_rfl)
theorem xak:vad prog 76 w5y:=
 vap G125_ok follows (f76.body.getD .skip) func76 (by kernel_rfl) fun p q=>⟨v5s,(n61n_p ..).p.map _,by rw [wxx];kernel_rfl,vaa (ids:=[0]) (by kernel_rfl) (by kernel_rfl) ⟨w20,trivial⟩⟩
def G126:Glob:=G125.add 76 w5y
theorem G126_ok:GlobOk prog G126:=G125_ok.add ⟨f76,func76,by kernel_rfl,by kernel_rfl⟩ xak
def wp0:Nat→Option LoopSpec
 |_=>none
theorem w94:vad prog 18 w30:=
 vap G126_ok follows (f18.body.getD .skip) func18 (by kernel_rfl) fun p q=>⟨wp0,(n59n_p ..).p.map _,by rw [wwz];kernel_rfl,vaa (ids:=[]) (by kernel_rfl) (by kernel_rfl) trivial⟩
def G127:Glob:=G126.add 18 w30
theorem G127_ok:GlobOk prog G127:=G126_ok.add ⟨f18,func18,by kernel_rfl,by kernel_rfl⟩ w94
def vla:q61T→List AV:=fun x=>[.bool x.1,.bp 0 0,.i x.2.1]
def vkm:q61T→St:=fun x=>[.box [.own 1,.own 2,.own 3,.i x.2.2.1,.i x.2.2.2.1],.arr tVersion x.2.2.2.2.1,.dep tTxn x.2.2.2.2.2.1 0 [],.dep tTxn x.2.2.2.2.2.2 0 []]
def vk7:q52T→List AV:=fun x=>[.bp 0 0,.bp 1 0,.bool x.1,.bp 2 0,.bool x.2.1,.bp 3 0]
def vkx:q52T→St:=fun x=>let xh:=x.2.2.2.2;let xi:=xh.2.2.2.2;let xj:=xi.2.2.2.2;let xk:=xj.2.2.2.2;let xl:=xk.2.2.2.2;let xm:=xl.2.2.2.2;let xn:=xm.2.2.2.2;[.box [.lst tVersion x.2.2.1,.lst tTxn x.2.2.2.1,.lst tTxn xh.1,.i xh.2.1,.i xh.2.2.1],.box [.i xh.2.2.2.1,.i xi.1,.i xi.2.1,.i xi.2.2.1,.i xi.2.2.2.1,.lst tRange xj.1,.lst tWrite xj.2.1,.bool xj.2.2.1,.str xj.2.2.2.1,.str xk.1,.bool xk.2.1,.lst tVersion xk.2.2.1,.lst tTxn xk.2.2.2.1,.lst tTxn xl.1,.i xl.2.1,.i xl.2.2.1],.box [.own 4,.own 5,.own 6,.i xl.2.2.2.1,.i xm.1],.box [.own 7,.own 8,.own 9,.i xm.2.1,.i xm.2.2.1],.arr tVersion xm.2.2.2.1,.arr tTxn xn.1,.arr tTxn xn.2.1,.arr tVersion xn.2.2.1,.dep tTxn xn.2.2.2.1 0 [],.dep tTxn xn.2.2.2.2 0 []]
def vo9:q60T→Out×List AV×St:=fun z=>(.ret,[.dead,.dead,.bool z.1,.dead,.dead,.bp 0 0],[.box [.own 1,.own 2,.own 3,.i z.2.1,.i z.2.2.1],.arr tVersion z.2.2.2.1,.dep tTxn z.2.2.2.2.1 0 [],.dep tTxn z.2.2.2.2.2 0 []])
def vku:q53T→List AV:=fun x=>[.bp 0 0,.bp 1 0,.bool x.1,.bp 2 0,.bool x.2.1,.bp 3 0,.bp 4 0,.bp 5 0,.bool x.2.2.1]
def vkl:q53T→St:=fun x=>let xh:=x.2.2.2.2;let xi:=xh.2.2.2.2;let xj:=xi.2.2.2.2;let xk:=xj.2.2.2.2;let xl:=xk.2.2.2.2;let xm:=xl.2.2.2.2;let xn:=xm.2.2.2.2;let xo:=xn.2.2.2.2;let xp:=xo.2.2.2.2;let xq:=xp.2.2.2.2;let xr:=xq.2.2.2.2;let xs:=xr.2.2.2.2;[.box [.lst tVersion x.2.2.2.1,.lst tTxn xh.1,.lst tTxn xh.2.1,.i xh.2.2.1,.i xh.2.2.2.1],.box [.i xi.1,.i xi.2.1,.i xi.2.2.1,.i xi.2.2.2.1,.i xj.1,.lst tRange xj.2.1,.lst tWrite xj.2.2.1,.bool xj.2.2.2.1,.str xk.1,.str xk.2.1,.bool xk.2.2.1,.lst tVersion xk.2.2.2.1,.lst tTxn xl.1,.lst tTxn xl.2.1,.i xl.2.2.1,.i xl.2.2.2.1],.box [.own 6,.own 7,.own 8,.i xm.1,.i xm.2.1],.box [.own 9,.own 10,.own 11,.i xm.2.2.1,.i xm.2.2.2.1],.box [.i xn.1,.i xn.2.1,.i xn.2.2.1,.i xn.2.2.2.1,.i xo.1,.own 12,.own 13,.bool xo.2.1,.str xo.2.2.1,.str xo.2.2.2.1,.bool xp.1,.own 14,.own 15,.own 16,.i xp.2.1,.i xp.2.2.1],.box [.own 17,.own 18,.own 19,.i xp.2.2.2.1,.i xq.1],.arr tVersion xq.2.1,.arr tTxn xq.2.2.1,.arr tTxn xq.2.2.2.1,.arr tVersion xr.1,.dep tTxn xr.2.1 0 [],.dep tTxn xr.2.2.1 0 [],.arr tRange xr.2.2.2.1,.arr tWrite xs.1,.arr tVersion xs.2.1,.dep tTxn xs.2.2.1 0 [],.dep tTxn xs.2.2.2.1 0 [],.arr tVersion xs.2.2.2.2.1,.dep tTxn xs.2.2.2.2.2.1 0 [],.dep tTxn xs.2.2.2.2.2.2 0 []]
def voo:q52T→Out×List AV×St:=fun z=>let zh:=z.2.2.2.2;let zi:=zh.2.2.2.2;let zj:=zi.2.2.2.2;let zk:=zj.2.2.2.2;let zl:=zk.2.2.2.2;let zm:=zl.2.2.2.2;let zn:=zm.2.2.2.2;(.ret,[.bp 0 0,.bp 1 0,.bool z.1,.bp 2 0,.bool z.2.1,.dead,.dead,.bp 3 0,.dead],[.box [.lst tVersion z.2.2.1,.lst tTxn z.2.2.2.1,.lst tTxn zh.1,.i zh.2.1,.i zh.2.2.1],.box [.i zh.2.2.2.1,.i zi.1,.i zi.2.1,.i zi.2.2.1,.i zi.2.2.2.1,.lst tRange zj.1,.lst tWrite zj.2.1,.bool zj.2.2.1,.str zj.2.2.2.1,.str zk.1,.bool zk.2.1,.lst tVersion zk.2.2.1,.lst tTxn zk.2.2.2.1,.lst tTxn zl.1,.i zl.2.1,.i zl.2.2.1],.box [.own 4,.own 5,.own 6,.i zl.2.2.2.1,.i zm.1],.box [.own 7,.own 8,.own 9,.i zm.2.1,.i zm.2.2.1],.arr tVersion zm.2.2.2.1,.arr tTxn zn.1,.arr tTxn zn.2.1,.arr tVersion zn.2.2.1,.dep tTxn zn.2.2.2.1 0 [],.dep tTxn zn.2.2.2.2 0 []])
def vo3:q60T→Out×List AV×St:=fun z=>(.ret,[.dead,.dead,.bool z.1,.dead,.dead,.dead,.dead,.bp 0 0,.dead],[.box [.own 1,.own 2,.own 3,.i z.2.1,.i z.2.2.1],.arr tVersion z.2.2.2.1,.dep tTxn z.2.2.2.2.1 0 [],.dep tTxn z.2.2.2.2.2 0 []])
def vqo:Nat→Option LoopSpec
 |5000034=>some (ctS [4,10,13] [] [.bool,.bp 0 0,.i] [.box [.own 1,.own 2,.own 3,.i,.i],.arr tVersion,.dep tTxn 0,.dep tTxn 0] vfw (fun p q=>(p.1,p.2.2.1,q.1.2.2.2.1,q.1.2.2.2.2.1,q.2.1,q.2.2.1,q.2.2.2.1)) (fun k=>(onE (exZ .ret vla vkm) k)))
 |5000023=>some (ctS [2,3,4,6,7,10] [] [.bp 0 0,.bp 1 0,.bool,.bp 2 0,.bool,.bp 3 0] [.box [.lst tVersion,.lst tTxn,.lst tTxn,.i,.i],.box [.i,.i,.i,.i,.i,.lst tRange,.lst tWrite,.bool,.str,.str,.bool,.lst tVersion,.lst tTxn,.lst tTxn,.i,.i],.box [.own 4,.own 5,.own 6,.i,.i],.box [.own 7,.own 8,.own 9,.i,.i],.arr tVersion,.arr tTxn,.arr tTxn,.arr tVersion,.dep tTxn 0,.dep tTxn 0] vfi (fun p q=>(p.2.2.1,p.2.2.2.2.1,q.1.1,q.1.2.1,q.1.2.2.1,q.1.2.2.2.1,q.1.2.2.2.2.1,q.2.1.1,q.2.1.2.1,q.2.1.2.2.1,q.2.1.2.2.2.1,q.2.1.2.2.2.2.1,q.2.1.2.2.2.2.2.1,q.2.1.2.2.2.2.2.2.1,q.2.1.2.2.2.2.2.2.2.1,q.2.1.2.2.2.2.2.2.2.2.1,q.2.1.2.2.2.2.2.2.2.2.2.1,q.2.1.2.2.2.2.2.2.2.2.2.2.1,q.2.1.2.2.2.2.2.2.2.2.2.2.2.1,q.2.1.2.2.2.2.2.2.2.2.2.2.2.2.1,q.2.1.2.2.2.2.2.2.2.2.2.2.2.2.2.1,q.2.1.2.2.2.2.2.2.2.2.2.2.2.2.2.2.1,q.2.1.2.2.2.2.2.2.2.2.2.2.2.2.2.2.2.1,q.2.2.1.2.2.2.1,q.2.2.1.2.2.2.2.1,q.2.2.2.1.2.2.2.1,q.2.2.2.1.2.2.2.2.1,q.2.2.2.2.1,q.2.2.2.2.2.1,q.2.2.2.2.2.2.1,q.2.2.2.2.2.2.2.1,q.2.2.2.2.2.2.2.2.1,q.2.2.2.2.2.2.2.2.2.1)) (fun k=>(Sum.elim (onE (exZ .ret vk7 vkx) k) (onE vo9 k))))
 |5000014=>some (ctS [2,3,4,6,7,8,9,10,11] [] [.bp 0 0,.bp 1 0,.bool,.bp 2 0,.bool,.bp 3 0,.bp 4 0,.bp 5 0,.bool] [.box [.lst tVersion,.lst tTxn,.lst tTxn,.i,.i],.box [.i,.i,.i,.i,.i,.lst tRange,.lst tWrite,.bool,.str,.str,.bool,.lst tVersion,.lst tTxn,.lst tTxn,.i,.i],.box [.own 6,.own 7,.own 8,.i,.i],.box [.own 9,.own 10,.own 11,.i,.i],.box [.i,.i,.i,.i,.i,.own 12,.own 13,.bool,.str,.str,.bool,.own 14,.own 15,.own 16,.i,.i],.box [.own 17,.own 18,.own 19,.i,.i],.arr tVersion,.arr tTxn,.arr tTxn,.arr tVersion,.dep tTxn 0,.dep tTxn 0,.arr tRange,.arr tWrite,.arr tVersion,.dep tTxn 0,.dep tTxn 0,.arr tVersion,.dep tTxn 0,.dep tTxn 0] vfg (fun p q=>(p.2.2.1,p.2.2.2.2.1,p.2.2.2.2.2.2.2.2.1,q.1.1,q.1.2.1,q.1.2.2.1,q.1.2.2.2.1,q.1.2.2.2.2.1,q.2.1.1,q.2.1.2.1,q.2.1.2.2.1,q.2.1.2.2.2.1,q.2.1.2.2.2.2.1,q.2.1.2.2.2.2.2.1,q.2.1.2.2.2.2.2.2.1,q.2.1.2.2.2.2.2.2.2.1,q.2.1.2.2.2.2.2.2.2.2.1,q.2.1.2.2.2.2.2.2.2.2.2.1,q.2.1.2.2.2.2.2.2.2.2.2.2.1,q.2.1.2.2.2.2.2.2.2.2.2.2.2.1,q.2.1.2.2.2.2.2.2.2.2.2.2.2.2.1,q.2.1.2.2.2.2.2.2.2.2.2.2.2.2.2.1,q.2.1.2.2.2.2.2.2.2.2.2.2.2.2.2.2.1,q.2.1.2.2.2.2.2.2.2.2.2.2.2.2.2.2.2.1,q.2.2.1.2.2.2.1,q.2.2.1.2.2.2.2.1,q.2.2.2.1.2.2.2.1,q.2.2.2.1.2.2.2.2.1,q.2.2.2.2.1.1,q.2.2.2.2.1.2.1,q.2.2.2.2.1.2.2.1,q.2.2.2.2.1.2.2.2.1,q.2.2.2.2.1.2.2.2.2.1,q.2.2.2.2.1.2.2.2.2.2.2.2.1,q.2.2.2.2.1.2.2.2.2.2.2.2.2.1,q.2.2.2.2.1.2.2.2.2.2.2.2.2.2.1,q.2.2.2.2.1.2.2.2.2.2.2.2.2.2.2.1,q.2.2.2.2.1.2.2.2.2.2.2.2.2.2.2.2.2.2.2.1,q.2.2.2.2.1.2.2.2.2.2.2.2.2.2.2.2.2.2.2.2.1,q.2.2.2.2.2.1.2.2.2.1,q.2.2.2.2.2.1.2.2.2.2.1,q.2.2.2.2.2.2.1,q.2.2.2.2.2.2.2.1,q.2.2.2.2.2.2.2.2.1,q.2.2.2.2.2.2.2.2.2.1,q.2.2.2.2.2.2.2.2.2.2.1,q.2.2.2.2.2.2.2.2.2.2.2.1,q.2.2.2.2.2.2.2.2.2.2.2.2.1,q.2.2.2.2.2.2.2.2.2.2.2.2.2.1,q.2.2.2.2.2.2.2.2.2.2.2.2.2.2.1,q.2.2.2.2.2.2.2.2.2.2.2.2.2.2.2.1,q.2.2.2.2.2.2.2.2.2.2.2.2.2.2.2.2.1,q.2.2.2.2.2.2.2.2.2.2.2.2.2.2.2.2.2.1,q.2.2.2.2.2.2.2.2.2.2.2.2.2.2.2.2.2.2.1,q.2.2.2.2.2.2.2.2.2.2.2.2.2.2.2.2.2.2.2.1)) (fun k=>(Sum.elim (onE (exZ .ret vku vkl) k) (Sum.elim (onE voo k) (onE vo3 k)))))
 |_=>none
theorem v4f:CtAt G127 ⟨0,119,vqo⟩ f3 5000034:=
 vby rfl (fun x=>(n48n_jp5000034 x).p) vla vkm (exZ .ret vla vkm) (fun _ _=>⟨rfl,rfl⟩) (fun _ _=>rfl) (fun x=>by kernel_rfl)
theorem v4o:CtAt G127 ⟨0,119,vqo⟩ f3 5000023:=
 vby rfl (fun x=>(n48n_jp5000023 x).p) vk7 vkx (Sum.elim ((exZ .ret vk7 vkx)) (vo9)) (fun _ _=>⟨rfl,rfl⟩) (fun k z=>by rcases z with z|z<;>rfl) (fun x=>by kernel_rfl)
theorem v4s:CtAt G127 ⟨0,119,vqo⟩ f3 5000014:=
 vby rfl (fun x=>(n48n_jp5000014 x).p) vku vkl (Sum.elim ((exZ .ret vku vkl)) (Sum.elim (voo) (vo3))) (fun _ _=>⟨rfl,rfl⟩) (fun k z=>by rcases z with z|z|z<;>rfl) (fun x=>by kernel_rfl)
theorem w4v:vad prog 3 wyp:=
 vap G127_ok follows (f3.body.getD .skip) func3 (by kernel_rfl) fun p q=>⟨vqo,(n48n_p ..).p.map _,by rw [wxz];kernel_rfl,vaa (ids:=[5000034,5000023,5000014]) (by kernel_rfl) (by kernel_rfl) ⟨v4f,⟨v4o,⟨v4s,trivial⟩⟩⟩⟩
def G128:Glob:=G127.add 3 wyp
theorem xc5:GlobOk prog G128:=G127_ok.add ⟨f3,func3,by kernel_rfl,by kernel_rfl⟩ w4v
end
end Go.VE
