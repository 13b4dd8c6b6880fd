/- Native programs of the functions, written by gen.py. -/
import Derived.Test.YteolgjmeigifbaaBeginN1
namespace Go.VE
noncomputable section
set_option linter.unusedVariables false
set_option linter.unusedSimpArgs false
set_option maxRecDepth 100000
def wkd (args : List AV) (st : St) (k : K1) : Option Res :=
 vam [.agg [.lst tVersion, .lst tTxn, .lst tTxn, .int .i64, .int .i64, .lst tTxn]] [] args st (fun p q => vrd ((p.1.1, (p.1.2.1, (p.1.2.2.1, (p.1.2.2.2.1, p.1.2.2.2.2.1)))), p.1.2.2.2.2.2.1) (fun (y : q46T) => k (.tup [.agg [.own 0, .own 1, .own 2, .int .i64 y.1, .int .i64 y.2.1, .own 3], .int .i64 y.2.2.1, .int .i64 y.2.2.2.1]) [.arr tVersion y.2.2.2.2.1, .dep tTxn y.2.2.2.2.2.1 0, .dep tTxn y.2.2.2.2.2.2.1 0, .dep tTxn y.2.2.2.2.2.2.2 0]))
 (none)
def whz (args : List AV) (st : St) (k : K1) : Option Res :=
 vam [.agg [.str, .str, .bool, .int .i64], .agg [.str, .str, .bool, .int .i64]] [] args st (fun p q => vwy (p.1.1, (p.1.2.1, (p.1.2.2.1, p.1.2.2.2.1))) (p.2.1.1, (p.2.1.2.1, (p.2.1.2.2.1, p.2.1.2.2.2.1))) (fun (y : Bool) => k (.bool y) []))
 (none)
def wjd (args : List AV) (st : St) (k : K1) : Option Res :=
 vam [.lst tVersion, .lst tVersion] [] args st (fun p q => vw3 p.1 p.2.1 (fun (y : Bool) => k (.bool y) []))
 (none)
def wla (args : List AV) (st : St) (k : K1) : Option Res :=
 vam [.agg [.str, .str], .agg [.str, .str]] [] args st (fun p q => vxb (p.1.1, p.1.2.1) (p.2.1.1, p.2.1.2.1) (fun (y : Bool) => k (.bool y) []))
 (none)
def whn (args : List AV) (st : St) (k : K1) : Option Res :=
 vam [.lst tRange, .lst tRange] [] args st (fun p q => vwm p.1 p.2.1 (fun (y : Bool) => k (.bool y) []))
 (none)
def wjz (args : List AV) (st : St) (k : K1) : Option Res :=
 vam [.agg [.str, .str, .bool], .agg [.str, .str, .bool]] [] args st (fun p q => vuw (p.1.1, (p.1.2.1, p.1.2.2.1)) (p.2.1.1, (p.2.1.2.1, p.2.1.2.2.1)) (fun (y : Bool) => k (.bool y) []))
 (none)
def wi5 (args : List AV) (st : St) (k : K1) : Option Res :=
 vam [.lst tWrite, .lst tWrite] [] args st (fun p q => vvj p.1 p.2.1 (fun (y : Bool) => k (.bool y) []))
 (none)
def wk8 (args : List AV) (st : St) (k : K1) : Option Res :=
 vam [.agg [.int .i64, .int .i64, .int .i64, .int .i64, .lst tRange, .lst tWrite, .bool, .str], .agg [.int .i64, .int .i64, .int .i64, .int .i64, .lst tRange, .lst tWrite, .bool, .str]] [] args st (fun p q => vtb (p.1.1, (p.1.2.1, (p.1.2.2.1, (p.1.2.2.2.1, (p.1.2.2.2.2.1, (p.1.2.2.2.2.2.1, (p.1.2.2.2.2.2.2.1, p.1.2.2.2.2.2.2.2.1))))))) (p.2.1.1, (p.2.1.2.1, (p.2.1.2.2.1, (p.2.1.2.2.2.1, (p.2.1.2.2.2.2.1, (p.2.1.2.2.2.2.2.1, (p.2.1.2.2.2.2.2.2.1, p.2.1.2.2.2.2.2.2.2.1))))))) (fun (y : Bool) => k (.bool y) []))
 (none)
def wi8 (args : List AV) (st : St) (k : K1) : Option Res :=
 vam [.lst tTxn, .lst tTxn] [] args st (fun p q => vo6 p.1 p.2.1 (fun (y : Bool) => k (.bool y) []))
 (none)
def wgc (args : List AV) (st : St) (k : K1) : Option Res :=
 vam [.agg [.lst tVersion, .lst tTxn, .lst tTxn, .int .i64, .int .i64], .agg [.lst tVersion, .lst tTxn, .lst tTxn, .int .i64, .int .i64]] [] args st (fun p q => vvm (p.1.1, (p.1.2.1, (p.1.2.2.1, (p.1.2.2.2.1, p.1.2.2.2.2.1)))) (p.2.1.1, (p.2.1.2.1, (p.2.1.2.2.1, (p.2.1.2.2.2.1, p.2.1.2.2.2.2.1)))) (fun (y : Bool) => k (.bool y) []))
 (none)
def wmk (args : List AV) (st : St) (k : K1) : Option Res :=
 vam [.agg [.lst tVersion, .lst tTxn, .lst tTxn, .int .i64, .int .i64, .lst tTxn], .agg [.lst tVersion, .lst tTxn, .lst tTxn, .int .i64, .int .i64, .lst tTxn]] [] args st (fun p q => vhq ((p.1.1, (p.1.2.1, (p.1.2.2.1, (p.1.2.2.2.1, p.1.2.2.2.2.1)))), p.1.2.2.2.2.2.1) ((p.2.1.1, (p.2.1.2.1, (p.2.1.2.2.1, (p.2.1.2.2.2.1, p.2.1.2.2.2.2.1)))), p.2.1.2.2.2.2.2.1) (fun (y : Bool) => k (.bool y) []))
 (none)
def whq (args : List AV) (st : St) (k : K1) : Option Res :=
 vam [.int .i64] [] args st (fun p q => vck p.1 (fun (y : ByteArray) => k (.str y) []))
 (none)
def vec (args : List AV) (st : St) (k : K1) : Option Res :=
 vam [.own 0, .int .i64] [.arr tVersion] args st (fun p q => vzv p.2.1 q.1 (fun (y : (Int × (List vac))) => k (.int .i64 y.1) [.arr tVersion y.2]))
 (none)
def vfe (args : List AV) (st : St) (k : K1) : Option Res :=
 vam [.own 0, .int .i64] [.arr tRange] args st (fun p q => vy8 p.2.1 q.1 (fun (y : (Int × (List van))) => k (.int .i64 y.1) [.arr tRange y.2]))
 (none)
def vfv (args : List AV) (st : St) (k : K1) : Option Res :=
 vam [.own 0, .int .i64] [.arr tWrite] args st (fun p q => vzu p.2.1 q.1 (fun (y : (Int × (List vaj))) => k (.int .i64 y.1) [.arr tWrite y.2]))
 (none)
def vhz (args : List AV) (st : St) (k : K1) : Option Res :=
 vam [.own 0, .int .i64] [.dep tTxn 0] args st (fun p q => vtq p.2.1 q.1 (fun (y : (Int × (List dTxn))) => k (.int .i64 y.1) [.dep tTxn y.2 0]))
 (none)
def vh1 (args : List AV) (st : St) (k : K1) : Option Res :=
 vam [.agg [.own 0, .own 1, .own 2, .int .i64, .int .i64], .int .i64] [.arr tVersion, .dep tTxn 0, .dep tTxn 0] args st (fun p q => vzj p.1.2.2.2.1 p.1.2.2.2.2.1 p.2.1 q.1 q.2.1 q.2.2.1 (fun (y : q41T) => k (.int .i64 y.1) [.arr tVersion y.2.1, .dep tTxn y.2.2.1 0, .dep tTxn y.2.2.2 0]))
 (none)
def vfp (args : List AV) (st : St) (k : K1) : Option Res :=
 vam [.agg [.own 0, .own 1, .own 2, .int .i64, .int .i64, .own 3], .int .i64] [.arr tVersion, .dep tTxn 0, .dep tTxn 0, .dep tTxn 0] args st (fun p q => vn3 p.1.2.2.2.1 p.1.2.2.2.2.1 p.2.1 q.1 q.2.1 q.2.2.1 q.2.2.2.1 (fun (y : q40T) => k (.int .i64 y.1) [.arr tVersion y.2.1, .dep tTxn y.2.2.1 0, .dep tTxn y.2.2.2.1 0, .dep tTxn y.2.2.2.2 0]))
 (none)
def wjg (args : List AV) (st : St) (k : K1) : Option Res :=
 vam [.lst tVersion, .int .i64] [] args st (fun p q => vvt p.1 p.2.1 (fun (y : Int) => k (.int .i64 y) []))
 (none)
def whr (args : List AV) (st : St) (k : K1) : Option Res :=
 vam [.lst tRange, .int .i64] [] args st (fun p q => vtr p.1 p.2.1 (fun (y : Int) => k (.int .i64 y) []))
 (none)
def wjs (args : List AV) (st : St) (k : K1) : Option Res :=
 vam [.lst tWrite, .int .i64] [] args st (fun p q => vtm p.1 p.2.1 (fun (y : Int) => k (.int .i64 y) []))
 (none)
def wl2 (args : List AV) (st : St) (k : K1) : Option Res :=
 vam [.lst tTxn, .int .i64] [] args st (fun p q => vre p.1 p.2.1 (fun (y : Int) => k (.int .i64 y) []))
 (none)
def wg7 (args : List AV) (st : St) (k : K1) : Option Res :=
 vam [.agg [.lst tVersion, .lst tTxn, .lst tTxn, .int .i64, .int .i64], .int .i64] [] args st (fun p q => v0o (p.1.1, (p.1.2.1, (p.1.2.2.1, (p.1.2.2.2.1, p.1.2.2.2.2.1)))) p.2.1 (fun (y : Int) => k (.int .i64 y) []))
 (none)
def wmq (args : List AV) (st : St) (k : K1) : Option Res :=
 vam [.agg [.lst tVersion, .lst tTxn, .lst tTxn, .int .i64, .int .i64, .lst tTxn], .int .i64] [] args st (fun p q => vom ((p.1.1, (p.1.2.1, (p.1.2.2.1, (p.1.2.2.2.1, p.1.2.2.2.2.1)))), p.1.2.2.2.2.2.1) p.2.1 (fun (y : Int) => k (.int .i64 y) []))
 (none)
def wcz (args : List AV) (st : St) (k : K1) : Option Res :=
 vam [.agg [.lst tVersion, .lst tTxn, .lst tTxn, .int .i64, .int .i64, .lst tTxn]] [] args st (fun p q => v0j ((p.1.1, (p.1.2.1, (p.1.2.2.1, (p.1.2.2.2.1, p.1.2.2.2.2.1)))), p.1.2.2.2.2.2.1) (fun (y : Bool) => k (.bool y) []))
 (none)
end
end Go.VE
