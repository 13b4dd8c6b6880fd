/- Native programs of the functions, written by gen.py. -/
import Derived.Test.YtpmahbmokfaflaaReadBaseN1
namespace Go.VE
noncomputable section
set_option linter.unusedVariables false
set_option linter.unusedSimpArgs false
set_option maxRecDepth 100000
def wji (args : List AV) (st : St) (k : K1) : Option Res :=
 vaj [.str, .int .i64] [] args st (fun p q => v2b p.1 p.2.1 (fun (y : q56T) => k (.tup [.agg [.int .i64 y.1, .int .i64 y.2.1, .int .i64 y.2.2.1, .int .i64 y.2.2.2.1, .own 0, .own 1, .bool y.2.2.2.2.1, .str y.2.2.2.2.2.1], .int .i64 y.2.2.2.2.2.2.1, .bool y.2.2.2.2.2.2.2.1]) [.arr tRange y.2.2.2.2.2.2.2.2.1, .arr tWrite y.2.2.2.2.2.2.2.2.2]))
 (none)
def wi3 (args : List AV) (st : St) (k : K1) : Option Res :=
 vaj [.bp 0 0, .int .i64] [.box [.str, .int .i64, .bool]] args st (fun p q => vuv p.2.1 q.1.1 q.1.2.1 q.1.2.2.1 (fun (y : q28T) => k (.own 1) [.box [.str y.1, .int .i64 y.2.1, .bool y.2.2.1], .arr tTxn y.2.2.2]))
 (none)
def wlq (args : List AV) (st : St) (k : K1) : Option Res :=
 vaj [.lst tVersion] [] args st (fun p q => vvg p.1 (fun (y : Bool) => k (.bool y) []))
 (none)
def wmb (args : List AV) (st : St) (k : K1) : Option Res :=
 vaj [.agg [.lst tVersion, .lst tTxn, .lst tTxn, .int .i64, .int .i64]] [] args st (fun p q => vxd (p.1.1, (p.1.2.1, (p.1.2.2.1, (p.1.2.2.2.1, p.1.2.2.2.2.1)))) (fun (y : Bool) => k (.bool y) []))
 (none)
def wjq (args : List AV) (st : St) (k : K1) : Option Res :=
 vaj [.str, .int .i64] [] args st (fun p q => vx9 p.1 p.2.1 (Sum.elim (fun (y : q50T) => k (.tup [.agg [.own 0, .own 1, .own 2, .int .i64 y.1, .int .i64 y.2.1], .int .i64 y.2.2.1, .bool y.2.2.2.1]) [.arr tVersion y.2.2.2.2.1, .dep tTxn y.2.2.2.2.2.1 0, .dep tTxn y.2.2.2.2.2.2 0]) (fun (y : q50T) => k (.tup [.agg [.own 0, .own 1, .own 2, .int .i64 y.1, .int .i64 y.2.1], .int .i64 y.2.2.1, .bool y.2.2.2.1]) [.arr tVersion y.2.2.2.2.1, .arr tTxn y.2.2.2.2.2.1, .arr tTxn y.2.2.2.2.2.2])))
 (none)
def wkb (args : List AV) (st : St) (k : K1) : Option Res :=
 vaj [.int .i64, .int .i64, .int .i64] [] args st (fun p q => vdb p.1 p.2.1 p.2.2.1 (fun (y : Bool) => k (.bool y) []))
 (none)
def wl5 (args : List AV) (st : St) (k : K1) : Option Res :=
 vaj [.int .i64] [] args st (fun p q => v19 p.1 (fun (y : (ByteArray × Bool)) => k (.tup [.str y.1, .bool y.2]) []))
 (none)
def whr (args : List AV) (st : St) (k : K1) : Option Res :=
 vaj [.str, .int .i64] [] args st (fun p q => vv8 p.1 p.2.1 (fun (y : (Int × Int × Bool)) => k (.tup [.int .i64 y.1, .int .i64 y.2.1, .bool y.2.2]) []))
 (none)
def wij (args : List AV) (st : St) (k : K1) : Option Res :=
 vaj [.bp 0 0] [.box [.str, .int .i64, .bool]] args st (fun p q => vfs q.1.1 q.1.2.1 q.1.2.2.1 (fun (y : (Int × ByteArray × Int × Bool)) => k (.int .i64 y.1) [.box [.str y.2.1, .int .i64 y.2.2.1, .bool y.2.2.2]]))
 (none)
def wh2 (args : List AV) (st : St) (k : K1) : Option Res :=
 vaj [.str, .int .i64] [] args st (fun p q => v01 p.1 p.2.1 (fun (y : (ByteArray × Int × Bool)) => k (.tup [.str y.1, .int .i64 y.2.1, .bool y.2.2]) []))
 (none)
def wl3 (args : List AV) (st : St) (k : K1) : Option Res :=
 vaj [.bp 0 0] [.box [.str, .int .i64, .bool]] args st (fun p q => vfq q.1.1 q.1.2.1 q.1.2.2.1 (fun (y : q27T) => k (.str y.1) [.box [.str y.2.1, .int .i64 y.2.2.1, .bool y.2.2.2]]))
 (none)
def wlb (args : List AV) (st : St) (k : K1) : Option Res :=
 vaj [.bp 0 0] [.box [.str, .int .i64, .bool]] args st (fun p q => vod q.1.1 q.1.2.1 q.1.2.2.1 (fun (y : q19T) => k (.bool y.1) [.box [.str y.2.1, .int .i64 y.2.2.1, .bool y.2.2.2]]))
 (none)
def wia (args : List AV) (st : St) (k : K1) : Option Res :=
 vaj [.bp 0 0, .bp 1 0] [.box [.bp 2 0], .box [.nilS, .nilS, .nilS, .int .i64, .int .i64], .box [.str, .int .i64, .bool]] args st (fun p q => wd0 q.2.1.2.2.2.1 q.2.1.2.2.2.2.1 q.2.2.1.1 q.2.2.1.2.1 q.2.2.1.2.2.1 (fun (y : q43T) => k (.tup []) [.box [.bp 2 0], .box [.own 3, .nilS, .nilS, .int .i64 y.1, .int .i64 y.2.1], .box [.str y.2.2.1, .int .i64 y.2.2.2.1, .bool y.2.2.2.2.1], .arr tVersion y.2.2.2.2.2]))
 (vaj [.bp 0 0, .bp 1 0] [.box [.bp 2 0], .box [.own 3, .nilS, .nilS, .int .i64, .int .i64], .box [.str, .int .i64, .bool], .arr tVersion] args st (fun p q => v7f q.2.1.2.2.2.1 q.2.1.2.2.2.2.1 q.2.2.1.1 q.2.2.1.2.1 q.2.2.1.2.2.1 q.2.2.2.1 (fun (y : q43T) => k (.tup []) [.box [.bp 2 0], .box [.own 4, .nilS, .nilS, .int .i64 y.1, .int .i64 y.2.1], .box [.str y.2.2.1, .int .i64 y.2.2.2.1, .bool y.2.2.2.2.1], .gone, .arr tVersion y.2.2.2.2.2]))
 (none))
def vdy (args : List AV) (st : St) (k : K1) : Option Res :=
 vaj [.bp 0 0, .fn 221 [.bp 1 0, .bp 2 0]] [.box [.str, .int .i64, .bool], .box [.bp 0 0], .box [.nilS, .nilS, .nilS, .int .i64, .int .i64]] args st (fun p q => v10 q.1.1 q.1.2.1 q.1.2.2.1 q.2.2.1.2.2.2.1 q.2.2.1.2.2.2.2.1 (fun (y : q32T) => k (.tup []) [.box [.str y.1, .int .i64 y.2.1, .bool y.2.2.1], .box [.bp 0 0], .box [.own 3, .nilS, .nilS, .int .i64 y.2.2.2.1, .int .i64 y.2.2.2.2.1], .arr tVersion y.2.2.2.2.2]))
 (none)
def wkm (args : List AV) (st : St) (k : K1) : Option Res :=
 vaj [.bp 0 0, .bp 1 0] [.box [.int .i64, .int .i64, .int .i64, .int .i64, .nilS, .nilS, .bool, .str], .box [.bp 2 0], .box [.str, .int .i64, .bool]] args st (fun p q => wcj q.1.1 q.1.2.1 q.1.2.2.1 q.1.2.2.2.1 q.1.2.2.2.2.2.2.1 q.1.2.2.2.2.2.2.2.1 q.2.2.1.1 q.2.2.1.2.1 q.2.2.1.2.2.1 (fun (y : q54T) => k (.tup []) [.box [.int .i64 y.1, .int .i64 y.2.1, .int .i64 y.2.2.1, .int .i64 y.2.2.2.1, .own 3, .nilS, .bool y.2.2.2.2.1, .str y.2.2.2.2.2.1], .box [.bp 2 0], .box [.str y.2.2.2.2.2.2.1, .int .i64 y.2.2.2.2.2.2.2.1, .bool y.2.2.2.2.2.2.2.2.1], .arr tRange y.2.2.2.2.2.2.2.2.2]))
 (vaj [.bp 0 0, .bp 1 0] [.box [.int .i64, .int .i64, .int .i64, .int .i64, .own 2, .nilS, .bool, .str], .box [.bp 3 0], .arr tRange, .box [.str, .int .i64, .bool]] args st (fun p q => v6s q.1.1 q.1.2.1 q.1.2.2.1 q.1.2.2.2.1 q.1.2.2.2.2.2.2.1 q.1.2.2.2.2.2.2.2.1 q.2.2.1 q.2.2.2.1.1 q.2.2.2.1.2.1 q.2.2.2.1.2.2.1 (fun (y : q54T) => k (.tup []) [.box [.int .i64 y.1, .int .i64 y.2.1, .int .i64 y.2.2.1, .int .i64 y.2.2.2.1, .own 4, .nilS, .bool y.2.2.2.2.1, .str y.2.2.2.2.2.1], .box [.bp 3 0], .gone, .box [.str y.2.2.2.2.2.2.1, .int .i64 y.2.2.2.2.2.2.2.1, .bool y.2.2.2.2.2.2.2.2.1], .arr tRange y.2.2.2.2.2.2.2.2.2]))
 (none))
def vdn (args : List AV) (st : St) (k : K1) : Option Res :=
 vaj [.bp 0 0, .fn 260 [.bp 1 0, .bp 2 0]] [.box [.str, .int .i64, .bool], .box [.int .i64, .int .i64, .int .i64, .int .i64, .nilS, .nilS, .bool, .str], .box [.bp 0 0]] args st (fun p q => v1t q.1.1 q.1.2.1 q.1.2.2.1 q.2.1.1 q.2.1.2.1 q.2.1.2.2.1 q.2.1.2.2.2.1 q.2.1.2.2.2.2.2.2.1 q.2.1.2.2.2.2.2.2.2.1 (fun (y : q34T) => k (.tup []) [.box [.str y.1, .int .i64 y.2.1, .bool y.2.2.1], .box [.int .i64 y.2.2.2.1, .int .i64 y.2.2.2.2.1, .int .i64 y.2.2.2.2.2.1, .int .i64 y.2.2.2.2.2.2.1, .own 3, .nilS, .bool y.2.2.2.2.2.2.2.1, .str y.2.2.2.2.2.2.2.2.1], .box [.bp 0 0], .arr tRange y.2.2.2.2.2.2.2.2.2]))
 (vdy args st k)
def wh8 (args : List AV) (st : St) (k : K1) : Option Res :=
 vaj [.bp 0 0, .bp 1 0] [.box [.bp 2 0], .box [.int .i64, .int .i64, .int .i64, .int .i64, .own 3, .nilS, .bool, .str], .box [.str, .int .i64, .bool], .arr tRange] args st (fun p q => wds q.2.1.1 q.2.1.2.1 q.2.1.2.2.1 q.2.1.2.2.2.1 q.2.1.2.2.2.2.2.2.1 q.2.1.2.2.2.2.2.2.2.1 q.2.2.1.1 q.2.2.1.2.1 q.2.2.1.2.2.1 q.2.2.2.1 (fun (y : q53T) => k (.tup []) [.box [.bp 2 0], .box [.int .i64 y.1, .int .i64 y.2.1, .int .i64 y.2.2.1, .int .i64 y.2.2.2.1, .own 3, .own 4, .bool y.2.2.2.2.1, .str y.2.2.2.2.2.1], .box [.str y.2.2.2.2.2.2.1, .int .i64 y.2.2.2.2.2.2.2.1, .bool y.2.2.2.2.2.2.2.2.1], .arr tRange y.2.2.2.2.2.2.2.2.2.1, .arr tWrite y.2.2.2.2.2.2.2.2.2.2]))
 (vaj [.bp 0 0, .bp 1 0] [.box [.bp 2 0], .box [.int .i64, .int .i64, .int .i64, .int .i64, .own 3, .own 4, .bool, .str], .box [.str, .int .i64, .bool], .arr tRange, .arr tWrite] args st (fun p q => v6z q.2.1.1 q.2.1.2.1 q.2.1.2.2.1 q.2.1.2.2.2.1 q.2.1.2.2.2.2.2.2.1 q.2.1.2.2.2.2.2.2.2.1 q.2.2.1.1 q.2.2.1.2.1 q.2.2.1.2.2.1 q.2.2.2.1 q.2.2.2.2.1 (fun (y : q53T) => k (.tup []) [.box [.bp 2 0], .box [.int .i64 y.1, .int .i64 y.2.1, .int .i64 y.2.2.1, .int .i64 y.2.2.2.1, .own 3, .own 5, .bool y.2.2.2.2.1, .str y.2.2.2.2.2.1], .box [.str y.2.2.2.2.2.2.1, .int .i64 y.2.2.2.2.2.2.2.1, .bool y.2.2.2.2.2.2.2.2.1], .arr tRange y.2.2.2.2.2.2.2.2.2.1, .gone, .arr tWrite y.2.2.2.2.2.2.2.2.2.2]))
 (none))
def vde (args : List AV) (st : St) (k : K1) : Option Res :=
 vaj [.bp 0 0, .fn 261 [.bp 1 0, .bp 2 0]] [.box [.str, .int .i64, .bool], .box [.bp 0 0], .box [.int .i64, .int .i64, .int .i64, .int .i64, .own 3, .nilS, .bool, .str], .arr tRange] args st (fun p q => v1v q.1.1 q.1.2.1 q.1.2.2.1 q.2.2.1.1 q.2.2.1.2.1 q.2.2.1.2.2.1 q.2.2.1.2.2.2.1 q.2.2.1.2.2.2.2.2.2.1 q.2.2.1.2.2.2.2.2.2.2.1 q.2.2.2.1 (fun (y : q33T) => k (.tup []) [.box [.str y.1, .int .i64 y.2.1, .bool y.2.2.1], .box [.bp 0 0], .box [.int .i64 y.2.2.2.1, .int .i64 y.2.2.2.2.1, .int .i64 y.2.2.2.2.2.1, .int .i64 y.2.2.2.2.2.2.1, .own 3, .own 4, .bool y.2.2.2.2.2.2.2.1, .str y.2.2.2.2.2.2.2.2.1], .arr tRange y.2.2.2.2.2.2.2.2.2.1, .arr tWrite y.2.2.2.2.2.2.2.2.2.2]))
 (vdn args st k)
def wnl (args : List AV) (st : St) (k : K1) : Option Res :=
 vaj [.str] [] args st (fun p q => vjw p.1 (fun (y : Bool) => k (.bool y) []))
 (none)
def wln (args : List AV) (st : St) (k : K1) : Option Res :=
 vaj [.agg [.str, .str]] [] args st (fun p q => vw3 (p.1.1, p.1.2.1) (fun (y : Bool) => k (.bool y) []))
 (none)
def wii (args : List AV) (st : St) (k : K1) : Option Res :=
 vaj [.agg [.str, .str, .bool]] [] args st (fun p q => vw9 (p.1.1, (p.1.2.1, p.1.2.2.1)) (fun (y : Bool) => k (.bool y) []))
 (none)
def wll (args : List AV) (st : St) (k : K1) : Option Res :=
 vaj [.lst tWrite] [] args st (fun p q => vuo p.1 (fun (y : Bool) => k (.bool y) []))
 (none)
def wnf (args : List AV) (st : St) (k : K1) : Option Res :=
 vaj [.agg [.int .i64, .int .i64, .int .i64, .int .i64, .lst tRange, .lst tWrite, .bool, .str]] [] args st (fun p q => vnm (p.1.1, (p.1.2.1, (p.1.2.2.1, (p.1.2.2.2.1, (p.1.2.2.2.2.1, (p.1.2.2.2.2.2.1, (p.1.2.2.2.2.2.2.1, p.1.2.2.2.2.2.2.2.1))))))) (fun (y : Bool) => k (.bool y) []))
 (none)
def whd (args : List AV) (st : St) (k : K1) : Option Res :=
 vaj [.bp 0 0] [.box [.str, .int .i64, .bool]] args st (fun p q => vof q.1.1 q.1.2.1 q.1.2.2.1 (fun (y : q53T) => k (.agg [.int .i64 y.1, .int .i64 y.2.1, .int .i64 y.2.2.1, .int .i64 y.2.2.2.1, .own 1, .own 2, .bool y.2.2.2.2.1, .str y.2.2.2.2.2.1]) [.box [.str y.2.2.2.2.2.2.1, .int .i64 y.2.2.2.2.2.2.2.1, .bool y.2.2.2.2.2.2.2.2.1], .arr tRange y.2.2.2.2.2.2.2.2.2.1, .arr tWrite y.2.2.2.2.2.2.2.2.2.2]))
 (none)
def wf9 (args : List AV) (st : St) (k : K1) : Option Res :=
 vaj [.bp 0 0, .bp 1 0] [.box [.own 2, .nilS, .nilS, .int .i64, .int .i64], .box [.bp 3 0], .arr tVersion, .box [.str, .int .i64, .bool]] args st (fun p q => wfn q.1.2.2.2.1 q.1.2.2.2.2.1 q.2.2.1 q.2.2.2.1.1 q.2.2.2.1.2.1 q.2.2.2.1.2.2.1 (fun (y : q41T) => k (.tup []) [.box [.own 2, .own 4, .nilS, .int .i64 y.1, .int .i64 y.2.1], .box [.bp 3 0], .arr tVersion y.2.2.1, .box [.str y.2.2.2.1, .int .i64 y.2.2.2.2.1, .bool y.2.2.2.2.2.1], .dep tTxn y.2.2.2.2.2.2 0]))
 (none)
def wau (args : List AV) (st : St) (k : K1) : Option Res :=
 vaj [.bp 0 0, .bp 1 0] [.box [.own 2, .own 3, .nilS, .int .i64, .int .i64], .box [.bp 4 0], .arr tVersion, .dep tTxn 0, .box [.str, .int .i64, .bool]] args st (fun p q => v6x q.1.2.2.2.1 q.1.2.2.2.2.1 q.2.2.1 q.2.2.2.1 q.2.2.2.2.1.1 q.2.2.2.2.1.2.1 q.2.2.2.2.1.2.2.1 (fun (y : q41T) => k (.tup []) [.box [.own 2, .own 5, .nilS, .int .i64 y.1, .int .i64 y.2.1], .box [.bp 4 0], .arr tVersion y.2.2.1, .gone, .box [.str y.2.2.2.1, .int .i64 y.2.2.2.2.1, .bool y.2.2.2.2.2.1], .dep tTxn y.2.2.2.2.2.2 0]))
 (wf9 args st k)
def vdj (args : List AV) (st : St) (k : K1) : Option Res :=
 vaj [.bp 0 0, .fn 224 [.bp 1 0, .bp 2 0]] [.box [.str, .int .i64, .bool], .box [.own 3, .nilS, .nilS, .int .i64, .int .i64], .box [.bp 0 0], .arr tVersion] args st (fun p q => vxh q.1.1 q.1.2.1 q.1.2.2.1 q.2.1.2.2.2.1 q.2.1.2.2.2.2.1 q.2.2.2.1 (fun (y : q31T) => k (.tup []) [.box [.str y.1, .int .i64 y.2.1, .bool y.2.2.1], .box [.own 3, .own 4, .nilS, .int .i64 y.2.2.2.1, .int .i64 y.2.2.2.2.1], .box [.bp 0 0], .arr tVersion y.2.2.2.2.2.1, .dep tTxn y.2.2.2.2.2.2 0]))
 (vde args st k)
def wdy (args : List AV) (st : St) (k : K1) : Option Res :=
 vaj [.bp 0 0, .bp 1 0] [.box [.own 2, .own 3, .nilS, .int .i64, .int .i64], .box [.bp 4 0], .arr tVersion, .dep tTxn 0, .box [.str, .int .i64, .bool]] args st (fun p q => wcb q.1.2.2.2.1 q.1.2.2.2.2.1 q.2.2.1 q.2.2.2.1 q.2.2.2.2.1.1 q.2.2.2.2.1.2.1 q.2.2.2.2.1.2.2.1 (fun (y : q40T) => k (.tup []) [.box [.own 2, .own 3, .own 5, .int .i64 y.1, .int .i64 y.2.1], .box [.bp 4 0], .arr tVersion y.2.2.1, .dep tTxn y.2.2.2.1 0, .box [.str y.2.2.2.2.1, .int .i64 y.2.2.2.2.2.1, .bool y.2.2.2.2.2.2.1], .dep tTxn y.2.2.2.2.2.2.2 0]))
 (none)
def wbg (args : List AV) (st : St) (k : K1) : Option Res :=
 vaj [.bp 0 0, .bp 1 0] [.box [.own 2, .own 3, .own 4, .int .i64, .int .i64], .box [.bp 5 0], .arr tVersion, .dep tTxn 0, .dep tTxn 0, .box [.str, .int .i64, .bool]] args st (fun p q => v6p q.1.2.2.2.1 q.1.2.2.2.2.1 q.2.2.1 q.2.2.2.1 q.2.2.2.2.1 q.2.2.2.2.2.1.1 q.2.2.2.2.2.1.2.1 q.2.2.2.2.2.1.2.2.1 (fun (y : q40T) => k (.tup []) [.box [.own 2, .own 3, .own 6, .int .i64 y.1, .int .i64 y.2.1], .box [.bp 5 0], .arr tVersion y.2.2.1, .dep tTxn y.2.2.2.1 0, .gone, .box [.str y.2.2.2.2.1, .int .i64 y.2.2.2.2.2.1, .bool y.2.2.2.2.2.2.1], .dep tTxn y.2.2.2.2.2.2.2 0]))
 (wdy args st k)
def ve6 (args : List AV) (st : St) (k : K1) : Option Res :=
 vaj [.bp 0 0, .fn 226 [.bp 1 0, .bp 2 0]] [.box [.str, .int .i64, .bool], .box [.own 3, .own 4, .nilS, .int .i64, .int .i64], .box [.bp 0 0], .arr tVersion, .dep tTxn 0] args st (fun p q => vv7 q.1.1 q.1.2.1 q.1.2.2.1 q.2.1.2.2.2.1 q.2.1.2.2.2.2.1 q.2.2.2.1 q.2.2.2.2.1 (fun (y : q30T) => k (.tup []) [.box [.str y.1, .int .i64 y.2.1, .bool y.2.2.1], .box [.own 3, .own 4, .own 5, .int .i64 y.2.2.2.1, .int .i64 y.2.2.2.2.1], .box [.bp 0 0], .arr tVersion y.2.2.2.2.2.1, .dep tTxn y.2.2.2.2.2.2.1 0, .dep tTxn y.2.2.2.2.2.2.2 0]))
 (vdj args st k)
def whz (args : List AV) (st : St) (k : K1) : Option Res :=
 vaj [.str] [] args st (fun p q => v1g p.1 (fun (y : Bool) => k (.bool y) []))
 (none)
def whn (args : List AV) (st : St) (k : K1) : Option Res :=
 vaj [.str, .str] [] args st (fun p q => v1u p.1 p.2.1 (fun (y : Int) => k (.int .i64 y) []))
 (none)
def wju (args : List AV) (st : St) (k : K1) : Option Res :=
 vaj [.int .i64] [] args st (fun p q => v0s p.1 (fun (y : Bool) => k (.bool y) []))
 (none)
def wnn (args : List AV) (st : St) (k : K1) : Option Res :=
 vaj [.int .i64, .int .i64] [] args st (fun p q => v1j p.1 p.2.1 (fun (y : Int) => k (.int .i64 y) []))
 (none)
def wjc (args : List AV) (st : St) (k : K1) : Option Res :=
 vaj [.agg [.str, .str, .bool, .int .i64], .agg [.str, .str, .bool, .int .i64]] [] args st (fun p q => vru (p.1.1, (p.1.2.1, (p.1.2.2.1, p.1.2.2.2.1))) (p.2.1.1, (p.2.1.2.1, (p.2.1.2.2.1, p.2.1.2.2.2.1))) (fun (y : Int) => k (.int .i64 y) []))
 (none)
def wlk (args : List AV) (st : St) (k : K1) : Option Res :=
 vaj [.lst tVersion] [] args st (fun p q => vu7 p.1 (fun (y : Bool) => k (.bool y) []))
 (none)
def wle (args : List AV) (st : St) (k : K1) : Option Res :=
 vaj [.agg [.int .i64, .int .i64, .int .i64, .int .i64, .lst tRange, .lst tWrite, .bool, .str]] [] args st (fun p q => vwd (p.1.1, (p.1.2.1, (p.1.2.2.1, (p.1.2.2.2.1, (p.1.2.2.2.2.1, (p.1.2.2.2.2.2.1, (p.1.2.2.2.2.2.2.1, p.1.2.2.2.2.2.2.2.1))))))) (fun (y : Bool) => k (.bool y) []))
 (none)
def wmc (args : List AV) (st : St) (k : K1) : Option Res :=
 vaj [.agg [.int .i64, .int .i64, .int .i64, .int .i64, .lst tRange, .lst tWrite, .bool, .str]] [] args st (fun p q => vw2 (p.1.1, (p.1.2.1, (p.1.2.2.1, (p.1.2.2.2.1, (p.1.2.2.2.2.1, (p.1.2.2.2.2.2.1, (p.1.2.2.2.2.2.2.1, p.1.2.2.2.2.2.2.2.1))))))) (fun (y : Bool) => k (.bool y) []))
 (none)
def vf9 (args : List AV) (st : St) (k : K1) : Option Res :=
 vaj [.nilS, .int .i64] [] args st (fun p q => vwe p.2.1 (Sum.elim (fun (y : (List dTxn)) => k (.own 0) [.arr tTxn y]) (fun (y : (List dTxn)) => k (.own 0) [.dep tTxn y 0])))
 (none)
def wk2 (args : List AV) (st : St) (k : K1) : Option Res :=
 vaj [.lst (.slice tTxn)] [] args st (fun p q => vry p.1 (Sum.elim (fun (y : (List dTxn)) => k (.own 0) [.arr tTxn y]) (fun (y : (List dTxn)) => k (.own 0) [.dep tTxn y 0])))
 (none)
def wjm (args : List AV) (st : St) (k : K1) : Option Res :=
 vaj [.agg [.int .i64, .int .i64, .int .i64, .int .i64, .lst tRange, .lst tWrite, .bool, .str], .bp 0 0] [.box [.int .i64, .int .i64, .int .i64, .int .i64, .lst tRange, .lst tWrite, .bool, .str]] args st (fun p q => vwk (p.1.1, (p.1.2.1, (p.1.2.2.1, (p.1.2.2.2.1, (p.1.2.2.2.2.1, (p.1.2.2.2.2.2.1, (p.1.2.2.2.2.2.2.1, p.1.2.2.2.2.2.2.2.1))))))) q.1.1 q.1.2.1 q.1.2.2.1 q.1.2.2.2.1 q.1.2.2.2.2.1 q.1.2.2.2.2.2.1 q.1.2.2.2.2.2.2.1 q.1.2.2.2.2.2.2.2.1 (fun (y : q25T) => k (.bool y.1) [.box [.int .i64 y.2.1, .int .i64 y.2.2.1, .int .i64 y.2.2.2.1, .int .i64 y.2.2.2.2.1, .lst tRange y.2.2.2.2.2.1, .lst tWrite y.2.2.2.2.2.2.1, .bool y.2.2.2.2.2.2.2.1, .str y.2.2.2.2.2.2.2.2]]))
 (none)
def vdu (args : List AV) (st : St) (k : K1) : Option Res :=
 vaj [.lst tTxn, .fn 168 [.bp 0 0]] [.box [.int .i64, .int .i64, .int .i64, .int .i64, .lst tRange, .lst tWrite, .bool, .str]] args st (fun p q => v1y p.1 q.1.1 q.1.2.1 q.1.2.2.1 q.1.2.2.2.1 q.1.2.2.2.2.1 q.1.2.2.2.2.2.1 q.1.2.2.2.2.2.2.1 q.1.2.2.2.2.2.2.2.1 (fun (y : q58T) => k (.int .i64 y.1) [.box [.int .i64 y.2.1, .int .i64 y.2.2.1, .int .i64 y.2.2.2.1, .int .i64 y.2.2.2.2.1, .lst tRange y.2.2.2.2.2.1, .lst tWrite y.2.2.2.2.2.2.1, .bool y.2.2.2.2.2.2.2.1, .str y.2.2.2.2.2.2.2.2]]))
 (none)
def vct (args : List AV) (st : St) (k : K1) : Option Res :=
 vaj [.lst tTxn, .fn 168 [.bp 0 0]] [.box [.int .i64, .int .i64, .int .i64, .int .i64, .lst tRange, .lst tWrite, .bool, .str]] args st (fun p q => v7u p.1 q.1.1 q.1.2.1 q.1.2.2.1 q.1.2.2.2.1 q.1.2.2.2.2.1 q.1.2.2.2.2.2.1 q.1.2.2.2.2.2.2.1 q.1.2.2.2.2.2.2.2.1 (fun (y : q25T) => k (.bool y.1) [.box [.int .i64 y.2.1, .int .i64 y.2.2.1, .int .i64 y.2.2.2.1, .int .i64 y.2.2.2.2.1, .lst tRange y.2.2.2.2.2.1, .lst tWrite y.2.2.2.2.2.2.1, .bool y.2.2.2.2.2.2.2.1, .str y.2.2.2.2.2.2.2.2]]))
 (none)
def vrl (args : List AV) (st : St) (k : K1) : Option Res :=
 vaj [.lst tTxn, .fn 168 [.bp 0 0]] [.box [.int .i64, .int .i64, .int .i64, .int .i64, .lst tRange, .lst tWrite, .bool, .str]] args st (fun p q => vxp p.1 q.1.1 q.1.2.1 q.1.2.2.1 q.1.2.2.2.1 q.1.2.2.2.2.1 q.1.2.2.2.2.2.1 q.1.2.2.2.2.2.2.1 q.1.2.2.2.2.2.2.2.1 (fun (y : q25T) => k (.bool y.1) [.box [.int .i64 y.2.1, .int .i64 y.2.2.1, .int .i64 y.2.2.2.1, .int .i64 y.2.2.2.2.1, .lst tRange y.2.2.2.2.2.1, .lst tWrite y.2.2.2.2.2.2.1, .bool y.2.2.2.2.2.2.2.1, .str y.2.2.2.2.2.2.2.2]]))
 (none)
def wix (args : List AV) (st : St) (k : K1) : Option Res :=
 vaj [.lst tTxn, .int .i64] [] args st (fun p q => vog p.1 p.2.1 (fun (y : Bool) => k (.bool y) []))
 (none)
def wl2 (args : List AV) (st : St) (k : K1) : Option Res :=
 vaj [.agg [.lst tVersion, .lst tTxn, .lst tTxn, .int .i64, .int .i64]] [] args st (fun p q => vw7 (p.1.1, (p.1.2.1, (p.1.2.2.1, (p.1.2.2.2.1, p.1.2.2.2.2.1)))) (fun (y : Bool) => k (.bool y) []))
 (none)
def wmu (args : List AV) (st : St) (k : K1) : Option Res :=
 vaj [.bp 0 0] [.box [.str, .int .i64, .bool]] args st (fun p q => v6a q.1.1 q.1.2.1 q.1.2.2.1 (fun (y : q42T) => k (.agg [.own 1, .own 2, .own 3, .int .i64 y.1, .int .i64 y.2.1]) [.box [.str y.2.2.1, .int .i64 y.2.2.2.1, .bool y.2.2.2.2.1], .arr tVersion y.2.2.2.2.2.1, .dep tTxn y.2.2.2.2.2.2.1 0, .dep tTxn y.2.2.2.2.2.2.2 0]))
 (none)
def wif (args : List AV) (st : St) (k : K1) : Option Res :=
 vaj [.str, .int .i64] [] args st (fun p q => vnq p.1 p.2.1 (fun (y : q50T) => k (.tup [.agg [.own 0, .own 1, .own 2, .int .i64 y.1, .int .i64 y.2.1], .int .i64 y.2.2.1, .bool y.2.2.2.1]) [.arr tVersion y.2.2.2.2.1, .dep tTxn y.2.2.2.2.2.1 0, .dep tTxn y.2.2.2.2.2.2 0]))
 (none)
def wg9 (args : List AV) (st : St) (k : K1) : Option Res :=
 vaj [.agg [.str, .str, .bool, .int .i64], .agg [.str, .str, .bool, .int .i64]] [] args st (fun p q => vxi (p.1.1, (p.1.2.1, (p.1.2.2.1, p.1.2.2.2.1))) (p.2.1.1, (p.2.1.2.1, (p.2.1.2.2.1, p.2.1.2.2.2.1))) (fun (y : Bool) => k (.bool y) []))
 (none)
def wi8 (args : List AV) (st : St) (k : K1) : Option Res :=
 vaj [.lst tVersion, .lst tVersion] [] args st (fun p q => vwi p.1 p.2.1 (fun (y : Bool) => k (.bool y) []))
 (none)
def wie (args : List AV) (st : St) (k : K1) : Option Res :=
 vaj [.agg [.str, .str], .agg [.str, .str]] [] args st (fun p q => vw1 (p.1.1, p.1.2.1) (p.2.1.1, p.2.1.2.1) (fun (y : Bool) => k (.bool y) []))
 (none)
def wic (args : List AV) (st : St) (k : K1) : Option Res :=
 vaj [.lst tRange, .lst tRange] [] args st (fun p q => vwu p.1 p.2.1 (fun (y : Bool) => k (.bool y) []))
 (none)
def wnh (args : List AV) (st : St) (k : K1) : Option Res :=
 vaj [.agg [.str, .str, .bool], .agg [.str, .str, .bool]] [] args st (fun p q => vwb (p.1.1, (p.1.2.1, p.1.2.2.1)) (p.2.1.1, (p.2.1.2.1, p.2.1.2.2.1)) (fun (y : Bool) => k (.bool y) []))
 (none)
def wky (args : List AV) (st : St) (k : K1) : Option Res :=
 vaj [.lst tWrite, .lst tWrite] [] args st (fun p q => vv9 p.1 p.2.1 (fun (y : Bool) => k (.bool y) []))
 (none)
def wj7 (args : List AV) (st : St) (k : K1) : Option Res :=
 vaj [.agg [.int .i64, .int .i64, .int .i64, .int .i64, .lst tRange, .lst tWrite, .bool, .str], .agg [.int .i64, .int .i64, .int .i64, .int .i64, .lst tRange, .lst tWrite, .bool, .str]] [] args st (fun p q => vux (p.1.1, (p.1.2.1, (p.1.2.2.1, (p.1.2.2.2.1, (p.1.2.2.2.2.1, (p.1.2.2.2.2.2.1, (p.1.2.2.2.2.2.2.1, p.1.2.2.2.2.2.2.2.1))))))) (p.2.1.1, (p.2.1.2.1, (p.2.1.2.2.1, (p.2.1.2.2.2.1, (p.2.1.2.2.2.2.1, (p.2.1.2.2.2.2.2.1, (p.2.1.2.2.2.2.2.2.1, p.2.1.2.2.2.2.2.2.2.1))))))) (fun (y : Bool) => k (.bool y) []))
 (none)
def wnq (args : List AV) (st : St) (k : K1) : Option Res :=
 vaj [.lst tTxn, .lst tTxn] [] args st (fun p q => vut p.1 p.2.1 (fun (y : Bool) => k (.bool y) []))
 (none)
def wlu (args : List AV) (st : St) (k : K1) : Option Res :=
 vaj [.agg [.lst tVersion, .lst tTxn, .lst tTxn, .int .i64, .int .i64], .agg [.lst tVersion, .lst tTxn, .lst tTxn, .int .i64, .int .i64]] [] args st (fun p q => vl5 (p.1.1, (p.1.2.1, (p.1.2.2.1, (p.1.2.2.2.1, p.1.2.2.2.2.1)))) (p.2.1.1, (p.2.1.2.1, (p.2.1.2.2.1, (p.2.1.2.2.2.1, p.2.1.2.2.2.2.1)))) (fun (y : Bool) => k (.bool y) []))
 (none)
def whj (args : List AV) (st : St) (k : K1) : Option Res :=
 vaj [.int .i64] [] args st (fun p q => vcp p.1 (fun (y : ByteArray) => k (.str y) []))
 (none)
def ve9 (args : List AV) (st : St) (k : K1) : Option Res :=
 vaj [.own 0, .int .i64] [.arr tVersion] args st (fun p q => v1o p.2.1 q.1 (fun (y : (Int × (List vac))) => k (.int .i64 y.1) [.arr tVersion y.2]))
 (none)
def vgb (args : List AV) (st : St) (k : K1) : Option Res :=
 vaj [.own 0, .int .i64] [.arr tRange] args st (fun p q => v1x p.2.1 q.1 (fun (y : (Int × (List van))) => k (.int .i64 y.1) [.arr tRange y.2]))
 (none)
def vf0 (args : List AV) (st : St) (k : K1) : Option Res :=
 vaj [.own 0, .int .i64] [.arr tWrite] args st (fun p q => v14 p.2.1 q.1 (fun (y : (Int × (List vam))) => k (.int .i64 y.1) [.arr tWrite y.2]))
 (none)
def vir (args : List AV) (st : St) (k : K1) : Option Res :=
 vaj [.own 0, .int .i64] [.dep tTxn 0] args st (fun p q => vwa p.2.1 q.1 (fun (y : (Int × (List dTxn))) => k (.int .i64 y.1) [.dep tTxn y.2 0]))
 (none)
def vij (args : List AV) (st : St) (k : K1) : Option Res :=
 vaj [.agg [.own 0, .own 1, .own 2, .int .i64, .int .i64], .int .i64] [.arr tVersion, .dep tTxn 0, .dep tTxn 0] args st (fun p q => vu3 p.1.2.2.2.1 p.1.2.2.2.2.1 p.2.1 q.1 q.2.1 q.2.2.1 (fun (y : q37T) => k (.int .i64 y.1) [.arr tVersion y.2.1, .dep tTxn y.2.2.1 0, .dep tTxn y.2.2.2 0]))
 (none)
def wks (args : List AV) (st : St) (k : K1) : Option Res :=
 vaj [.lst tVersion, .int .i64] [] args st (fun p q => vwf p.1 p.2.1 (fun (y : Int) => k (.int .i64 y) []))
 (none)
def wjd (args : List AV) (st : St) (k : K1) : Option Res :=
 vaj [.lst tRange, .int .i64] [] args st (fun p q => vvl p.1 p.2.1 (fun (y : Int) => k (.int .i64 y) []))
 (none)
def wh3 (args : List AV) (st : St) (k : K1) : Option Res :=
 vaj [.lst tWrite, .int .i64] [] args st (fun p q => vvk p.1 p.2.1 (fun (y : Int) => k (.int .i64 y) []))
 (none)
def wik (args : List AV) (st : St) (k : K1) : Option Res :=
 vaj [.lst tTxn, .int .i64] [] args st (fun p q => vuz p.1 p.2.1 (fun (y : Int) => k (.int .i64 y) []))
 (none)
def wj9 (args : List AV) (st : St) (k : K1) : Option Res :=
 vaj [.agg [.lst tVersion, .lst tTxn, .lst tTxn, .int .i64, .int .i64], .int .i64] [] args st (fun p q => vr3 (p.1.1, (p.1.2.1, (p.1.2.2.1, (p.1.2.2.2.1, p.1.2.2.2.2.1)))) p.2.1 (fun (y : Int) => k (.int .i64 y) []))
 (none)
def wen (args : List AV) (st : St) (k : K1) : Option Res :=
 vaj [.str, .int .i64] [] args st (fun p q => v0t p.1 p.2.1 (fun (y : Bool) => k (.bool y) []))
 (none)
end
end Go.VE
