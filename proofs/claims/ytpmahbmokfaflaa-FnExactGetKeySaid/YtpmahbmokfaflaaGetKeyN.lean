/- Native programs of the functions, written by gen.py. -/

import Derived.Test.YtpmahbmokfaflaaGetKeyN1

namespace Go.VE

noncomputable section

set_option linter.unusedVariables false
set_option linter.unusedSimpArgs false
set_option maxRecDepth 100000


def n61n_g (args : List AV) (st : St) (k : K1) : Option Res :=
  onPats [.lst tVersion] [] args st (fun p q => n61n_k p.1 (fun (y : (List dVersion)) => k (.own 0) [.arr tVersion y]))
    (none)

theorem n61n_q (a0 : (List dVersion)) : Par (fun k : AV × St → Option Res => n61n_g [.lst tVersion a0] [] (fun v s => k (v, s))) :=
  (n61n_p a0).bind (H := fun (y : (List dVersion)) (k : AV × St → Option Res) => (fun (y : (List dVersion)) => k ((.own 0 : AV), ([.arr tVersion y] : St))) y) (fun y => par_ret _)

def n56n_g (args : List AV) (st : St) (k : K1) : Option Res :=
  onPats [.agg [.str, .str]] [] args st (fun p q => n56n_k (p.1.1, p.1.2.1) (fun (y : (ByteArray × ByteArray)) => k (.agg [.str y.1, .str y.2]) []))
    (none)

theorem n56n_q (a0 : ByteArray) (a1 : ByteArray) : Par (fun k : AV × St → Option Res => n56n_g [.agg [.str a0, .str a1]] [] (fun v s => k (v, s))) :=
  (n56n_p (a0, a1)).bind (H := fun (y : (ByteArray × ByteArray)) (k : AV × St → Option Res) => (fun (y : (ByteArray × ByteArray)) => k ((.agg [.str y.1, .str y.2] : AV), ([] : St))) y) (fun y => par_ret _)

def n57n_g (args : List AV) (st : St) (k : K1) : Option Res :=
  onPats [.lst tRange] [] args st (fun p q => n57n_k p.1 (fun (y : (List dRange)) => k (.own 0) [.arr tRange y]))
    (none)

theorem n57n_q (a0 : (List dRange)) : Par (fun k : AV × St → Option Res => n57n_g [.lst tRange a0] [] (fun v s => k (v, s))) :=
  (n57n_p a0).bind (H := fun (y : (List dRange)) (k : AV × St → Option Res) => (fun (y : (List dRange)) => k ((.own 0 : AV), ([.arr tRange y] : St))) y) (fun y => par_ret _)

def n62n_g (args : List AV) (st : St) (k : K1) : Option Res :=
  onPats [.agg [.str, .str, .bool]] [] args st (fun p q => n62n_k (p.1.1, (p.1.2.1, p.1.2.2.1)) (fun (y : (ByteArray × ByteArray × Bool)) => k (.agg [.str y.1, .str y.2.1, .bool y.2.2]) []))
    (none)

theorem n62n_q (a0 : ByteArray) (a1 : ByteArray) (a2 : Bool) : Par (fun k : AV × St → Option Res => n62n_g [.agg [.str a0, .str a1, .bool a2]] [] (fun v s => k (v, s))) :=
  (n62n_p (a0, (a1, a2))).bind (H := fun (y : (ByteArray × ByteArray × Bool)) (k : AV × St → Option Res) => (fun (y : (ByteArray × ByteArray × Bool)) => k ((.agg [.str y.1, .str y.2.1, .bool y.2.2] : AV), ([] : St))) y) (fun y => par_ret _)

def n63n_g (args : List AV) (st : St) (k : K1) : Option Res :=
  onPats [.lst tWrite] [] args st (fun p q => n63n_k p.1 (fun (y : (List dWrite)) => k (.own 0) [.arr tWrite y]))
    (none)

theorem n63n_q (a0 : (List dWrite)) : Par (fun k : AV × St → Option Res => n63n_g [.lst tWrite a0] [] (fun v s => k (v, s))) :=
  (n63n_p a0).bind (H := fun (y : (List dWrite)) (k : AV × St → Option Res) => (fun (y : (List dWrite)) => k ((.own 0 : AV), ([.arr tWrite y] : St))) y) (fun y => par_ret _)

def n58n_g (args : List AV) (st : St) (k : K1) : Option Res :=
  onPats [.agg [.int .i64, .int .i64, .int .i64, .int .i64, .lst tRange, .lst tWrite, .bool, .str]] [] args st (fun p q => n58n_k (p.1.1, (p.1.2.1, (p.1.2.2.1, (p.1.2.2.2.1, (p.1.2.2.2.2.1, (p.1.2.2.2.2.2.1, (p.1.2.2.2.2.2.2.1, p.1.2.2.2.2.2.2.2.1))))))) (fun (y : q40T) => k (.agg [.int .i64 y.1, .int .i64 y.2.1, .int .i64 y.2.2.1, .int .i64 y.2.2.2.1, .own 0, .own 1, .bool y.2.2.2.2.1, .str y.2.2.2.2.2.1]) [.arr tRange y.2.2.2.2.2.2.1, .arr tWrite y.2.2.2.2.2.2.2]))
    (none)

theorem n58n_q (a0 : Int) (a1 : Int) (a2 : Int) (a3 : Int) (a4 : (List dRange)) (a5 : (List dWrite)) (a6 : Bool) (a7 : ByteArray) : Par (fun k : AV × St → Option Res => n58n_g [.agg [.int .i64 a0, .int .i64 a1, .int .i64 a2, .int .i64 a3, .lst tRange a4, .lst tWrite a5, .bool a6, .str a7]] [] (fun v s => k (v, s))) :=
  (n58n_p (a0, (a1, (a2, (a3, (a4, (a5, (a6, a7)))))))).bind (H := fun (y : q40T) (k : AV × St → Option Res) => (fun (y : q40T) => k ((.agg [.int .i64 y.1, .int .i64 y.2.1, .int .i64 y.2.2.1, .int .i64 y.2.2.2.1, .own 0, .own 1, .bool y.2.2.2.2.1, .str y.2.2.2.2.2.1] : AV), ([.arr tRange y.2.2.2.2.2.2.1, .arr tWrite y.2.2.2.2.2.2.2] : St))) y) (fun y => par_ret _)

def n59n_g (args : List AV) (st : St) (k : K1) : Option Res :=
  onPats [.lst tTxn] [] args st (fun p q => n59n_k p.1 (fun (y : (List dTxn)) => k (.own 0) [.dep tTxn y 0]))
    (none)

theorem n59n_q (a0 : (List dTxn)) : Par (fun k : AV × St → Option Res => n59n_g [.lst tTxn a0] [] (fun v s => k (v, s))) :=
  (n59n_p a0).bind (H := fun (y : (List dTxn)) (k : AV × St → Option Res) => (fun (y : (List dTxn)) => k ((.own 0 : AV), ([.dep tTxn y 0] : St))) y) (fun y => par_ret _)

def n54n_g (args : List AV) (st : St) (k : K1) : Option Res :=
  onPats [.agg [.lst tVersion, .lst tTxn, .lst tTxn, .int .i64, .int .i64]] [] args st (fun p q => n54n_k (p.1.1, (p.1.2.1, (p.1.2.2.1, (p.1.2.2.2.1, p.1.2.2.2.2.1)))) (fun (y : q36T) => k (.agg [.own 0, .own 1, .own 2, .int .i64 y.1, .int .i64 y.2.1]) [.arr tVersion y.2.2.1, .dep tTxn y.2.2.2.1 0, .dep tTxn y.2.2.2.2 0]))
    (none)

theorem n54n_q (a0 : (List dVersion)) (a1 : (List dTxn)) (a2 : (List dTxn)) (a3 : Int) (a4 : Int) : Par (fun k : AV × St → Option Res => n54n_g [.agg [.lst tVersion a0, .lst tTxn a1, .lst tTxn a2, .int .i64 a3, .int .i64 a4]] [] (fun v s => k (v, s))) :=
  (n54n_p (a0, (a1, (a2, (a3, a4))))).bind (H := fun (y : q36T) (k : AV × St → Option Res) => (fun (y : q36T) => k ((.agg [.own 0, .own 1, .own 2, .int .i64 y.1, .int .i64 y.2.1] : AV), ([.arr tVersion y.2.2.1, .dep tTxn y.2.2.2.1 0, .dep tTxn y.2.2.2.2 0] : St))) y) (fun y => par_ret _)

def n55n_g (args : List AV) (st : St) (k : K1) : Option Res :=
  onPats [.agg [.lst tVersion, .lst tTxn, .lst tTxn, .int .i64, .int .i64, .lst tTxn]] [] args st (fun p q => n55n_k ((p.1.1, (p.1.2.1, (p.1.2.2.1, (p.1.2.2.2.1, p.1.2.2.2.2.1)))), p.1.2.2.2.2.2.1) (fun (y : q35T) => k (.agg [.own 0, .own 1, .own 2, .int .i64 y.1, .int .i64 y.2.1, .own 3]) [.arr tVersion y.2.2.1, .dep tTxn y.2.2.2.1 0, .dep tTxn y.2.2.2.2.1 0, .dep tTxn y.2.2.2.2.2 0]))
    (none)

theorem n55n_q (a0 : (List dVersion)) (a1 : (List dTxn)) (a2 : (List dTxn)) (a3 : Int) (a4 : Int) (a5 : (List dTxn)) : Par (fun k : AV × St → Option Res => n55n_g [.agg [.lst tVersion a0, .lst tTxn a1, .lst tTxn a2, .int .i64 a3, .int .i64 a4, .lst tTxn a5]] [] (fun v s => k (v, s))) :=
  (n55n_p ((a0, (a1, (a2, (a3, a4)))), a5)).bind (H := fun (y : q35T) (k : AV × St → Option Res) => (fun (y : q35T) => k ((.agg [.own 0, .own 1, .own 2, .int .i64 y.1, .int .i64 y.2.1, .own 3] : AV), ([.arr tVersion y.2.2.1, .dep tTxn y.2.2.2.1 0, .dep tTxn y.2.2.2.2.1 0, .dep tTxn y.2.2.2.2.2 0] : St))) y) (fun y => par_ret _)

def n80n_g (args : List AV) (st : St) (k : K1) : Option Res :=
  onPats [.agg [.int .i64, .int .i64, .int .i64, .int .i64, .lst tRange, .lst tWrite, .bool, .str]] [] args st (fun p q => n80n_k (p.1.1, (p.1.2.1, (p.1.2.2.1, (p.1.2.2.2.1, (p.1.2.2.2.2.1, (p.1.2.2.2.2.2.1, (p.1.2.2.2.2.2.2.1, p.1.2.2.2.2.2.2.2.1))))))) (fun (y : q40T) => k (.agg [.int .i64 y.1, .int .i64 y.2.1, .int .i64 y.2.2.1, .int .i64 y.2.2.2.1, .own 0, .own 1, .bool y.2.2.2.2.1, .str y.2.2.2.2.2.1]) [.arr tRange y.2.2.2.2.2.2.1, .arr tWrite y.2.2.2.2.2.2.2]))
    (none)

theorem n80n_q (a0 : Int) (a1 : Int) (a2 : Int) (a3 : Int) (a4 : (List dRange)) (a5 : (List dWrite)) (a6 : Bool) (a7 : ByteArray) : Par (fun k : AV × St → Option Res => n80n_g [.agg [.int .i64 a0, .int .i64 a1, .int .i64 a2, .int .i64 a3, .lst tRange a4, .lst tWrite a5, .bool a6, .str a7]] [] (fun v s => k (v, s))) :=
  (n80n_p (a0, (a1, (a2, (a3, (a4, (a5, (a6, a7)))))))).bind (H := fun (y : q40T) (k : AV × St → Option Res) => (fun (y : q40T) => k ((.agg [.int .i64 y.1, .int .i64 y.2.1, .int .i64 y.2.2.1, .int .i64 y.2.2.2.1, .own 0, .own 1, .bool y.2.2.2.2.1, .str y.2.2.2.2.2.1] : AV), ([.arr tRange y.2.2.2.2.2.2.1, .arr tWrite y.2.2.2.2.2.2.2] : St))) y) (fun y => par_ret _)

def n82n_g (args : List AV) (st : St) (k : K1) : Option Res :=
  onPats [.lst tTxn] [] args st (fun p q => n82n_k p.1 (fun (y : (List dTxn)) => k (.own 0) [.arr tTxn y]))
    (none)

theorem n82n_q (a0 : (List dTxn)) : Par (fun k : AV × St → Option Res => n82n_g [.lst tTxn a0] [] (fun v s => k (v, s))) :=
  (n82n_p a0).bind (H := fun (y : (List dTxn)) (k : AV × St → Option Res) => (fun (y : (List dTxn)) => k ((.own 0 : AV), ([.arr tTxn y] : St))) y) (fun y => par_ret _)

def n81n_g (args : List AV) (st : St) (k : K1) : Option Res :=
  onPats [.agg [.lst tVersion, .lst tTxn, .lst tTxn, .int .i64, .int .i64]] [] args st (fun p q => n81n_k (p.1.1, (p.1.2.1, (p.1.2.2.1, (p.1.2.2.2.1, p.1.2.2.2.2.1)))) (fun (y : q36T) => k (.agg [.own 0, .own 1, .own 2, .int .i64 y.1, .int .i64 y.2.1]) [.arr tVersion y.2.2.1, .arr tTxn y.2.2.2.1, .arr tTxn y.2.2.2.2]))
    (none)

theorem n81n_q (a0 : (List dVersion)) (a1 : (List dTxn)) (a2 : (List dTxn)) (a3 : Int) (a4 : Int) : Par (fun k : AV × St → Option Res => n81n_g [.agg [.lst tVersion a0, .lst tTxn a1, .lst tTxn a2, .int .i64 a3, .int .i64 a4]] [] (fun v s => k (v, s))) :=
  (n81n_p (a0, (a1, (a2, (a3, a4))))).bind (H := fun (y : q36T) (k : AV × St → Option Res) => (fun (y : q36T) => k ((.agg [.own 0, .own 1, .own 2, .int .i64 y.1, .int .i64 y.2.1] : AV), ([.arr tVersion y.2.2.1, .arr tTxn y.2.2.2.1, .arr tTxn y.2.2.2.2] : St))) y) (fun y => par_ret _)

def n83n_g (args : List AV) (st : St) (k : K1) : Option Res :=
  onPats [.agg [.lst tVersion, .lst tTxn, .lst tTxn, .int .i64, .int .i64, .lst tTxn]] [] args st (fun p q => n83n_k ((p.1.1, (p.1.2.1, (p.1.2.2.1, (p.1.2.2.2.1, p.1.2.2.2.2.1)))), p.1.2.2.2.2.2.1) (fun (y : q35T) => k (.agg [.own 0, .own 1, .own 2, .int .i64 y.1, .int .i64 y.2.1, .own 3]) [.arr tVersion y.2.2.1, .arr tTxn y.2.2.2.1, .arr tTxn y.2.2.2.2.1, .arr tTxn y.2.2.2.2.2]))
    (none)

theorem n83n_q (a0 : (List dVersion)) (a1 : (List dTxn)) (a2 : (List dTxn)) (a3 : Int) (a4 : Int) (a5 : (List dTxn)) : Par (fun k : AV × St → Option Res => n83n_g [.agg [.lst tVersion a0, .lst tTxn a1, .lst tTxn a2, .int .i64 a3, .int .i64 a4, .lst tTxn a5]] [] (fun v s => k (v, s))) :=
  (n83n_p ((a0, (a1, (a2, (a3, a4)))), a5)).bind (H := fun (y : q35T) (k : AV × St → Option Res) => (fun (y : q35T) => k ((.agg [.own 0, .own 1, .own 2, .int .i64 y.1, .int .i64 y.2.1, .own 3] : AV), ([.arr tVersion y.2.2.1, .arr tTxn y.2.2.2.1, .arr tTxn y.2.2.2.2.1, .arr tTxn y.2.2.2.2.2] : St))) y) (fun y => par_ret _)

def n70n_g (args : List AV) (st : St) (k : K1) : Option Res :=
  onPats [.agg [.lst tVersion, .lst tTxn, .lst tTxn, .int .i64, .int .i64, .lst tTxn], .int .i64] [] args st (fun p q => n70n_k ((p.1.1, (p.1.2.1, (p.1.2.2.1, (p.1.2.2.2.1, p.1.2.2.2.2.1)))), p.1.2.2.2.2.2.1) p.2.1 (fun (y : Int) => k (.int .i64 y) []))
    (none)

theorem n70n_q (a0 : (List dVersion)) (a1 : (List dTxn)) (a2 : (List dTxn)) (a3 : Int) (a4 : Int) (a5 : (List dTxn)) (a6 : Int) : Par (fun k : AV × St → Option Res => n70n_g [.agg [.lst tVersion a0, .lst tTxn a1, .lst tTxn a2, .int .i64 a3, .int .i64 a4, .lst tTxn a5], .int .i64 a6] [] (fun v s => k (v, s))) :=
  (n70n_p ((a0, (a1, (a2, (a3, a4)))), a5) a6).bind (H := fun (y : Int) (k : AV × St → Option Res) => (fun (y : Int) => k ((.int .i64 y : AV), ([] : St))) y) (fun y => par_ret _)

def n78n_g (args : List AV) (st : St) (k : K1) : Option Res :=
  onPats [.int .i64, .int .i64, .int .i64] [] args st (fun p q => n78n_k p.1 p.2.1 p.2.2.1 (fun (y : Bool) => k (.bool y) []))
    (none)

theorem n78n_q (a0 : Int) (a1 : Int) (a2 : Int) : Par (fun k : AV × St → Option Res => n78n_g [.int .i64 a0, .int .i64 a1, .int .i64 a2] [] (fun v s => k (v, s))) :=
  (n78n_p a0 a1 a2).bind (H := fun (y : Bool) (k : AV × St → Option Res) => (fun (y : Bool) => k ((.bool y : AV), ([] : St))) y) (fun y => par_ret _)

def n69n_g (args : List AV) (st : St) (k : K1) : Option Res :=
  onPats [.str] [] args st (fun p q => n69n_k p.1 (fun (y : Bool) => k (.bool y) []))
    (none)

theorem n69n_q (a0 : ByteArray) : Par (fun k : AV × St → Option Res => n69n_g [.str a0] [] (fun v s => k (v, s))) :=
  (n69n_p a0).bind (H := fun (y : Bool) (k : AV × St → Option Res) => (fun (y : Bool) => k ((.bool y : AV), ([] : St))) y) (fun y => par_ret _)

def n76n_g (args : List AV) (st : St) (k : K1) : Option Res :=
  onPats [.agg [.str, .str, .bool]] [] args st (fun p q => n76n_k (p.1.1, (p.1.2.1, p.1.2.2.1)) (fun (y : Bool) => k (.bool y) []))
    (none)

theorem n76n_q (a0 : ByteArray) (a1 : ByteArray) (a2 : Bool) : Par (fun k : AV × St → Option Res => n76n_g [.agg [.str a0, .str a1, .bool a2]] [] (fun v s => k (v, s))) :=
  (n76n_p (a0, (a1, a2))).bind (H := fun (y : Bool) (k : AV × St → Option Res) => (fun (y : Bool) => k ((.bool y : AV), ([] : St))) y) (fun y => par_ret _)

def n77n_g (args : List AV) (st : St) (k : K1) : Option Res :=
  onPats [.lst tWrite] [] args st (fun p q => n77n_k p.1 (fun (y : Bool) => k (.bool y) []))
    (none)

theorem n77n_q (a0 : (List dWrite)) : Par (fun k : AV × St → Option Res => n77n_g [.lst tWrite a0] [] (fun v s => k (v, s))) :=
  (n77n_p a0).bind (H := fun (y : Bool) (k : AV × St → Option Res) => (fun (y : Bool) => k ((.bool y : AV), ([] : St))) y) (fun y => par_ret _)

def n72n_g (args : List AV) (st : St) (k : K1) : Option Res :=
  onPats [.agg [.str, .str]] [] args st (fun p q => n72n_k (p.1.1, p.1.2.1) (fun (y : Bool) => k (.bool y) []))
    (none)

theorem n72n_q (a0 : ByteArray) (a1 : ByteArray) : Par (fun k : AV × St → Option Res => n72n_g [.agg [.str a0, .str a1]] [] (fun v s => k (v, s))) :=
  (n72n_p (a0, a1)).bind (H := fun (y : Bool) (k : AV × St → Option Res) => (fun (y : Bool) => k ((.bool y : AV), ([] : St))) y) (fun y => par_ret _)

def n75n_g (args : List AV) (st : St) (k : K1) : Option Res :=
  onPats [.agg [.int .i64, .int .i64, .int .i64, .int .i64, .lst tRange, .lst tWrite, .bool, .str]] [] args st (fun p q => n75n_k (p.1.1, (p.1.2.1, (p.1.2.2.1, (p.1.2.2.2.1, (p.1.2.2.2.2.1, (p.1.2.2.2.2.2.1, (p.1.2.2.2.2.2.2.1, p.1.2.2.2.2.2.2.2.1))))))) (fun (y : Bool) => k (.bool y) []))
    (none)

theorem n75n_q (a0 : Int) (a1 : Int) (a2 : Int) (a3 : Int) (a4 : (List dRange)) (a5 : (List dWrite)) (a6 : Bool) (a7 : ByteArray) : Par (fun k : AV × St → Option Res => n75n_g [.agg [.int .i64 a0, .int .i64 a1, .int .i64 a2, .int .i64 a3, .lst tRange a4, .lst tWrite a5, .bool a6, .str a7]] [] (fun v s => k (v, s))) :=
  (n75n_p (a0, (a1, (a2, (a3, (a4, (a5, (a6, a7)))))))).bind (H := fun (y : Bool) (k : AV × St → Option Res) => (fun (y : Bool) => k ((.bool y : AV), ([] : St))) y) (fun y => par_ret _)

def n73n_g (args : List AV) (st : St) (k : K1) : Option Res :=
  onPats [.agg [.int .i64, .int .i64, .int .i64, .int .i64, .lst tRange, .lst tWrite, .bool, .str], .agg [.str, .str]] [] args st (fun p q => n73n_k (p.1.1, (p.1.2.1, (p.1.2.2.1, (p.1.2.2.2.1, (p.1.2.2.2.2.1, (p.1.2.2.2.2.2.1, (p.1.2.2.2.2.2.2.1, p.1.2.2.2.2.2.2.2.1))))))) (p.2.1.1, p.2.1.2.1) (fun (y : q41T) => k (.tup [.agg [.int .i64 y.1, .int .i64 y.2.1, .int .i64 y.2.2.1, .int .i64 y.2.2.2.1, .own 0, .own 1, .bool y.2.2.2.2.1, .str y.2.2.2.2.2.1], .bool y.2.2.2.2.2.2.1]) [.arr tRange y.2.2.2.2.2.2.2.1, .arr tWrite y.2.2.2.2.2.2.2.2]))
    (none)

theorem n73n_q (a0 : Int) (a1 : Int) (a2 : Int) (a3 : Int) (a4 : (List dRange)) (a5 : (List dWrite)) (a6 : Bool) (a7 : ByteArray) (a8 : ByteArray) (a9 : ByteArray) : Par (fun k : AV × St → Option Res => n73n_g [.agg [.int .i64 a0, .int .i64 a1, .int .i64 a2, .int .i64 a3, .lst tRange a4, .lst tWrite a5, .bool a6, .str a7], .agg [.str a8, .str a9]] [] (fun v s => k (v, s))) :=
  (n73n_p (a0, (a1, (a2, (a3, (a4, (a5, (a6, a7))))))) (a8, a9)).bind (H := fun (y : q41T) (k : AV × St → Option Res) => (fun (y : q41T) => k ((.tup [.agg [.int .i64 y.1, .int .i64 y.2.1, .int .i64 y.2.2.1, .int .i64 y.2.2.2.1, .own 0, .own 1, .bool y.2.2.2.2.1, .str y.2.2.2.2.2.1], .bool y.2.2.2.2.2.2.1] : AV), ([.arr tRange y.2.2.2.2.2.2.2.1, .arr tWrite y.2.2.2.2.2.2.2.2] : St))) y) (fun y => par_ret _)

def n79n_g (args : List AV) (st : St) (k : K1) : Option Res :=
  onPats [.lst tVersion, .str, .int .i64] [] args st (fun p q => n79n_k p.1 p.2.1 p.2.2.1 (fun (y : Int) => k (.int .i64 y) []))
    (none)

theorem n79n_q (a0 : (List dVersion)) (a1 : ByteArray) (a2 : Int) : Par (fun k : AV × St → Option Res => n79n_g [.lst tVersion a0, .str a1, .int .i64 a2] [] (fun v s => k (v, s))) :=
  (n79n_p a0 a1 a2).bind (H := fun (y : Int) (k : AV × St → Option Res) => (fun (y : Int) => k ((.int .i64 y : AV), ([] : St))) y) (fun y => par_ret _)

def n74n_g (args : List AV) (st : St) (k : K1) : Option Res :=
  onPats [.lst tVersion, .str, .int .i64] [] args st (fun p q => n74n_k p.1 p.2.1 p.2.2.1 (fun (y : (ByteArray × Bool)) => k (.tup [.str y.1, .bool y.2]) []))
    (none)

theorem n74n_q (a0 : (List dVersion)) (a1 : ByteArray) (a2 : Int) : Par (fun k : AV × St → Option Res => n74n_g [.lst tVersion a0, .str a1, .int .i64 a2] [] (fun v s => k (v, s))) :=
  (n74n_p a0 a1 a2).bind (H := fun (y : (ByteArray × Bool)) (k : AV × St → Option Res) => (fun (y : (ByteArray × Bool)) => k ((.tup [.str y.1, .bool y.2] : AV), ([] : St))) y) (fun y => par_ret _)

def n71n_g (args : List AV) (st : St) (k : K1) : Option Res :=
  onPats [.agg [.int .i64, .int .i64, .int .i64, .int .i64, .lst tRange, .lst tWrite, .bool, .str], .lst tVersion, .str] [] args st (fun p q => n71n_k (p.1.1, (p.1.2.1, (p.1.2.2.1, (p.1.2.2.2.1, (p.1.2.2.2.2.1, (p.1.2.2.2.2.2.1, (p.1.2.2.2.2.2.2.1, p.1.2.2.2.2.2.2.2.1))))))) p.2.1 p.2.2.1 (fun (y : (ByteArray × Bool)) => k (.tup [.str y.1, .bool y.2]) []))
    (none)

theorem n71n_q (a0 : Int) (a1 : Int) (a2 : Int) (a3 : Int) (a4 : (List dRange)) (a5 : (List dWrite)) (a6 : Bool) (a7 : ByteArray) (a8 : (List dVersion)) (a9 : ByteArray) : Par (fun k : AV × St → Option Res => n71n_g [.agg [.int .i64 a0, .int .i64 a1, .int .i64 a2, .int .i64 a3, .lst tRange a4, .lst tWrite a5, .bool a6, .str a7], .lst tVersion a8, .str a9] [] (fun v s => k (v, s))) :=
  (n71n_p (a0, (a1, (a2, (a3, (a4, (a5, (a6, a7))))))) a8 a9).bind (H := fun (y : (ByteArray × Bool)) (k : AV × St → Option Res) => (fun (y : (ByteArray × Bool)) => k ((.tup [.str y.1, .bool y.2] : AV), ([] : St))) y) (fun y => par_ret _)

def n68n_g (args : List AV) (st : St) (k : K1) : Option Res :=
  onPats [.agg [.lst tVersion, .lst tTxn, .lst tTxn, .int .i64, .int .i64, .lst tTxn], .int .i64, .str] [] args st (fun p q => n68n_k ((p.1.1, (p.1.2.1, (p.1.2.2.1, (p.1.2.2.2.1, p.1.2.2.2.2.1)))), p.1.2.2.2.2.2.1) p.2.1 p.2.2.1 (fun (y : q37T) => k (.tup [.agg [.own 0, .own 1, .own 2, .int .i64 y.1, .int .i64 y.2.1, .own 3], .str y.2.2.1, .bool y.2.2.2.1, .int .i64 y.2.2.2.2.1]) [.arr tVersion y.2.2.2.2.2.1, .arr tTxn y.2.2.2.2.2.2.1, .arr tTxn y.2.2.2.2.2.2.2.1, .arr tTxn y.2.2.2.2.2.2.2.2]))
    (none)

theorem n68n_q (a0 : (List dVersion)) (a1 : (List dTxn)) (a2 : (List dTxn)) (a3 : Int) (a4 : Int) (a5 : (List dTxn)) (a6 : Int) (a7 : ByteArray) : Par (fun k : AV × St → Option Res => n68n_g [.agg [.lst tVersion a0, .lst tTxn a1, .lst tTxn a2, .int .i64 a3, .int .i64 a4, .lst tTxn a5], .int .i64 a6, .str a7] [] (fun v s => k (v, s))) :=
  (n68n_p ((a0, (a1, (a2, (a3, a4)))), a5) a6 a7).bind (H := fun (y : q37T) (k : AV × St → Option Res) => (fun (y : q37T) => k ((.tup [.agg [.own 0, .own 1, .own 2, .int .i64 y.1, .int .i64 y.2.1, .own 3], .str y.2.2.1, .bool y.2.2.2.1, .int .i64 y.2.2.2.2.1] : AV), ([.arr tVersion y.2.2.2.2.2.1, .arr tTxn y.2.2.2.2.2.2.1, .arr tTxn y.2.2.2.2.2.2.2.1, .arr tTxn y.2.2.2.2.2.2.2.2] : St))) y) (fun y => par_ret _)

def n19n_g (args : List AV) (st : St) (k : K1) : Option Res :=
  onPats [.int .i64, .int .i64, .int .i64] [] args st (fun p q => n19n_k p.1 p.2.1 p.2.2.1 (fun (y : Bool) => k (.bool y) []))
    (none)

theorem n19n_q (a0 : Int) (a1 : Int) (a2 : Int) : Par (fun k : AV × St → Option Res => n19n_g [.int .i64 a0, .int .i64 a1, .int .i64 a2] [] (fun v s => k (v, s))) :=
  (n19n_p a0 a1 a2).bind (H := fun (y : Bool) (k : AV × St → Option Res) => (fun (y : Bool) => k ((.bool y : AV), ([] : St))) y) (fun y => par_ret _)

def n01n_g (args : List AV) (st : St) (k : K1) : Option Res :=
  onPats [.str] [] args st (fun p q => n01n_k p.1 (fun (y : Bool) => k (.bool y) []))
    (none)

theorem n01n_q (a0 : ByteArray) : Par (fun k : AV × St → Option Res => n01n_g [.str a0] [] (fun v s => k (v, s))) :=
  (n01n_p a0).bind (H := fun (y : Bool) (k : AV × St → Option Res) => (fun (y : Bool) => k ((.bool y : AV), ([] : St))) y) (fun y => par_ret _)

def n13n_g (args : List AV) (st : St) (k : K1) : Option Res :=
  onPats [.agg [.int .i64, .int .i64, .int .i64, .int .i64, .lst tRange, .lst tWrite, .bool, .str]] [] args st (fun p q => n13n_k (p.1.1, (p.1.2.1, (p.1.2.2.1, (p.1.2.2.2.1, (p.1.2.2.2.2.1, (p.1.2.2.2.2.2.1, (p.1.2.2.2.2.2.2.1, p.1.2.2.2.2.2.2.2.1))))))) (fun (y : q40T) => k (.agg [.int .i64 y.1, .int .i64 y.2.1, .int .i64 y.2.2.1, .int .i64 y.2.2.2.1, .own 0, .own 1, .bool y.2.2.2.2.1, .str y.2.2.2.2.2.1]) [.arr tRange y.2.2.2.2.2.2.1, .arr tWrite y.2.2.2.2.2.2.2]))
    (none)

theorem n13n_q (a0 : Int) (a1 : Int) (a2 : Int) (a3 : Int) (a4 : (List dRange)) (a5 : (List dWrite)) (a6 : Bool) (a7 : ByteArray) : Par (fun k : AV × St → Option Res => n13n_g [.agg [.int .i64 a0, .int .i64 a1, .int .i64 a2, .int .i64 a3, .lst tRange a4, .lst tWrite a5, .bool a6, .str a7]] [] (fun v s => k (v, s))) :=
  (n13n_p (a0, (a1, (a2, (a3, (a4, (a5, (a6, a7)))))))).bind (H := fun (y : q40T) (k : AV × St → Option Res) => (fun (y : q40T) => k ((.agg [.int .i64 y.1, .int .i64 y.2.1, .int .i64 y.2.2.1, .int .i64 y.2.2.2.1, .own 0, .own 1, .bool y.2.2.2.2.1, .str y.2.2.2.2.2.1] : AV), ([.arr tRange y.2.2.2.2.2.2.1, .arr tWrite y.2.2.2.2.2.2.2] : St))) y) (fun y => par_ret _)

def n14n_g (args : List AV) (st : St) (k : K1) : Option Res :=
  onPats [.lst tTxn] [] args st (fun p q => n14n_k p.1 (fun (y : (List dTxn)) => k (.own 0) [.dep tTxn y 0]))
    (none)

theorem n14n_q (a0 : (List dTxn)) : Par (fun k : AV × St → Option Res => n14n_g [.lst tTxn a0] [] (fun v s => k (v, s))) :=
  (n14n_p a0).bind (H := fun (y : (List dTxn)) (k : AV × St → Option Res) => (fun (y : (List dTxn)) => k ((.own 0 : AV), ([.dep tTxn y 0] : St))) y) (fun y => par_ret _)

def n11n_g (args : List AV) (st : St) (k : K1) : Option Res :=
  onPats [.agg [.lst tVersion, .lst tTxn, .lst tTxn, .int .i64, .int .i64]] [] args st (fun p q => n11n_k (p.1.1, (p.1.2.1, (p.1.2.2.1, (p.1.2.2.2.1, p.1.2.2.2.2.1)))) (fun (y : q36T) => k (.agg [.own 0, .own 1, .own 2, .int .i64 y.1, .int .i64 y.2.1]) [.arr tVersion y.2.2.1, .dep tTxn y.2.2.2.1 0, .dep tTxn y.2.2.2.2 0]))
    (none)

theorem n11n_q (a0 : (List dVersion)) (a1 : (List dTxn)) (a2 : (List dTxn)) (a3 : Int) (a4 : Int) : Par (fun k : AV × St → Option Res => n11n_g [.agg [.lst tVersion a0, .lst tTxn a1, .lst tTxn a2, .int .i64 a3, .int .i64 a4]] [] (fun v s => k (v, s))) :=
  (n11n_p (a0, (a1, (a2, (a3, a4))))).bind (H := fun (y : q36T) (k : AV × St → Option Res) => (fun (y : q36T) => k ((.agg [.own 0, .own 1, .own 2, .int .i64 y.1, .int .i64 y.2.1] : AV), ([.arr tVersion y.2.2.1, .dep tTxn y.2.2.2.1 0, .dep tTxn y.2.2.2.2 0] : St))) y) (fun y => par_ret _)

def n12n_g (args : List AV) (st : St) (k : K1) : Option Res :=
  onPats [.agg [.lst tVersion, .lst tTxn, .lst tTxn, .int .i64, .int .i64, .lst tTxn]] [] args st (fun p q => n12n_k ((p.1.1, (p.1.2.1, (p.1.2.2.1, (p.1.2.2.2.1, p.1.2.2.2.2.1)))), p.1.2.2.2.2.2.1) (fun (y : q35T) => k (.agg [.own 0, .own 1, .own 2, .int .i64 y.1, .int .i64 y.2.1, .own 3]) [.arr tVersion y.2.2.1, .dep tTxn y.2.2.2.1 0, .dep tTxn y.2.2.2.2.1 0, .dep tTxn y.2.2.2.2.2 0]))
    (none)

theorem n12n_q (a0 : (List dVersion)) (a1 : (List dTxn)) (a2 : (List dTxn)) (a3 : Int) (a4 : Int) (a5 : (List dTxn)) : Par (fun k : AV × St → Option Res => n12n_g [.agg [.lst tVersion a0, .lst tTxn a1, .lst tTxn a2, .int .i64 a3, .int .i64 a4, .lst tTxn a5]] [] (fun v s => k (v, s))) :=
  (n12n_p ((a0, (a1, (a2, (a3, a4)))), a5)).bind (H := fun (y : q35T) (k : AV × St → Option Res) => (fun (y : q35T) => k ((.agg [.own 0, .own 1, .own 2, .int .i64 y.1, .int .i64 y.2.1, .own 3] : AV), ([.arr tVersion y.2.2.1, .dep tTxn y.2.2.2.1 0, .dep tTxn y.2.2.2.2.1 0, .dep tTxn y.2.2.2.2.2 0] : St))) y) (fun y => par_ret _)

def n03n_g (args : List AV) (st : St) (k : K1) : Option Res :=
  onPats [.agg [.int .i64, .int .i64, .int .i64, .int .i64, .lst tRange, .lst tWrite, .bool, .str], .bp 0 0] [.box [.int .i64]] args st (fun p q => n03n_k (p.1.1, (p.1.2.1, (p.1.2.2.1, (p.1.2.2.2.1, (p.1.2.2.2.2.1, (p.1.2.2.2.2.2.1, (p.1.2.2.2.2.2.2.1, p.1.2.2.2.2.2.2.2.1))))))) q.1.1 (fun (y : (Bool × Int)) => k (.bool y.1) [.box [.int .i64 y.2]]))
    (none)

theorem n03n_q (a0 : Int) (a1 : Int) (a2 : Int) (a3 : Int) (a4 : (List dRange)) (a5 : (List dWrite)) (a6 : Bool) (a7 : ByteArray) (a8 : Int) : Par (fun k : AV × St → Option Res => n03n_g [.agg [.int .i64 a0, .int .i64 a1, .int .i64 a2, .int .i64 a3, .lst tRange a4, .lst tWrite a5, .bool a6, .str a7], .bp 0 0] [.box [.int .i64 a8]] (fun v s => k (v, s))) :=
  (n03n_p (a0, (a1, (a2, (a3, (a4, (a5, (a6, a7))))))) a8).bind (H := fun (y : (Bool × Int)) (k : AV × St → Option Res) => (fun (y : (Bool × Int)) => k ((.bool y.1 : AV), ([.box [.int .i64 y.2]] : St))) y) (fun y => par_ret _)

def slices_IndexFunc_Txn_g (args : List AV) (st : St) (k : K1) : Option Res :=
  onPats [.lst tTxn, .fn 215 [.bp 0 0]] [.box [.int .i64]] args st (fun p q => n65n_k p.1 q.1.1 (fun (y : (Int × Int)) => k (.int .i64 y.1) [.box [.int .i64 y.2]]))
    (none)

theorem n65n_q (a0 : (List dTxn)) (a1 : Int) : Par (fun k : AV × St → Option Res => slices_IndexFunc_Txn_g [.lst tTxn a0, .fn 215 [.bp 0 0]] [.box [.int .i64 a1]] (fun v s => k (v, s))) :=
  (n65n_p a0 a1).bind (H := fun (y : (Int × Int)) (k : AV × St → Option Res) => (fun (y : (Int × Int)) => k ((.int .i64 y.1 : AV), ([.box [.int .i64 y.2]] : St))) y) (fun y => par_ret _)

def n02n_g (args : List AV) (st : St) (k : K1) : Option Res :=
  onPats [.agg [.lst tVersion, .lst tTxn, .lst tTxn, .int .i64, .int .i64, .lst tTxn], .int .i64] [] args st (fun p q => n02n_k ((p.1.1, (p.1.2.1, (p.1.2.2.1, (p.1.2.2.2.1, p.1.2.2.2.2.1)))), p.1.2.2.2.2.2.1) p.2.1 (fun (y : Int) => k (.int .i64 y) []))
    (none)

theorem n02n_q (a0 : (List dVersion)) (a1 : (List dTxn)) (a2 : (List dTxn)) (a3 : Int) (a4 : Int) (a5 : (List dTxn)) (a6 : Int) : Par (fun k : AV × St → Option Res => n02n_g [.agg [.lst tVersion a0, .lst tTxn a1, .lst tTxn a2, .int .i64 a3, .int .i64 a4, .lst tTxn a5], .int .i64 a6] [] (fun v s => k (v, s))) :=
  (n02n_p ((a0, (a1, (a2, (a3, a4)))), a5) a6).bind (H := fun (y : Int) (k : AV × St → Option Res) => (fun (y : Int) => k ((.int .i64 y : AV), ([] : St))) y) (fun y => par_ret _)

def n05n_g (args : List AV) (st : St) (k : K1) : Option Res :=
  onPats [.agg [.str, .str]] [] args st (fun p q => n05n_k (p.1.1, p.1.2.1) (fun (y : Bool) => k (.bool y) []))
    (none)

theorem n05n_q (a0 : ByteArray) (a1 : ByteArray) : Par (fun k : AV × St → Option Res => n05n_g [.agg [.str a0, .str a1]] [] (fun v s => k (v, s))) :=
  (n05n_p (a0, a1)).bind (H := fun (y : Bool) (k : AV × St → Option Res) => (fun (y : Bool) => k ((.bool y : AV), ([] : St))) y) (fun y => par_ret _)

def n09n_g (args : List AV) (st : St) (k : K1) : Option Res :=
  onPats [.agg [.str, .str, .bool]] [] args st (fun p q => n09n_k (p.1.1, (p.1.2.1, p.1.2.2.1)) (fun (y : Bool) => k (.bool y) []))
    (none)

theorem n09n_q (a0 : ByteArray) (a1 : ByteArray) (a2 : Bool) : Par (fun k : AV × St → Option Res => n09n_g [.agg [.str a0, .str a1, .bool a2]] [] (fun v s => k (v, s))) :=
  (n09n_p (a0, (a1, a2))).bind (H := fun (y : Bool) (k : AV × St → Option Res) => (fun (y : Bool) => k ((.bool y : AV), ([] : St))) y) (fun y => par_ret _)

def n10n_g (args : List AV) (st : St) (k : K1) : Option Res :=
  onPats [.lst tWrite] [] args st (fun p q => n10n_k p.1 (fun (y : Bool) => k (.bool y) []))
    (none)

theorem n10n_q (a0 : (List dWrite)) : Par (fun k : AV × St → Option Res => n10n_g [.lst tWrite a0] [] (fun v s => k (v, s))) :=
  (n10n_p a0).bind (H := fun (y : Bool) (k : AV × St → Option Res) => (fun (y : Bool) => k ((.bool y : AV), ([] : St))) y) (fun y => par_ret _)

def n08n_g (args : List AV) (st : St) (k : K1) : Option Res :=
  onPats [.agg [.int .i64, .int .i64, .int .i64, .int .i64, .lst tRange, .lst tWrite, .bool, .str]] [] args st (fun p q => n08n_k (p.1.1, (p.1.2.1, (p.1.2.2.1, (p.1.2.2.2.1, (p.1.2.2.2.2.1, (p.1.2.2.2.2.2.1, (p.1.2.2.2.2.2.2.1, p.1.2.2.2.2.2.2.2.1))))))) (fun (y : Bool) => k (.bool y) []))
    (none)

theorem n08n_q (a0 : Int) (a1 : Int) (a2 : Int) (a3 : Int) (a4 : (List dRange)) (a5 : (List dWrite)) (a6 : Bool) (a7 : ByteArray) : Par (fun k : AV × St → Option Res => n08n_g [.agg [.int .i64 a0, .int .i64 a1, .int .i64 a2, .int .i64 a3, .lst tRange a4, .lst tWrite a5, .bool a6, .str a7]] [] (fun v s => k (v, s))) :=
  (n08n_p (a0, (a1, (a2, (a3, (a4, (a5, (a6, a7)))))))).bind (H := fun (y : Bool) (k : AV × St → Option Res) => (fun (y : Bool) => k ((.bool y : AV), ([] : St))) y) (fun y => par_ret _)

def n67n_g (args : List AV) (st : St) (k : K1) : Option Res :=
  onPats [.lst tRange, .agg [.str, .str]] [] args st (fun p q => n67n_k p.1 (p.2.1.1, p.2.1.2.1) (fun (y : Int) => k (.int .i64 y) []))
    (none)

theorem n67n_q (a0 : (List dRange)) (a1 : ByteArray) (a2 : ByteArray) : Par (fun k : AV × St → Option Res => n67n_g [.lst tRange a0, .agg [.str a1, .str a2]] [] (fun v s => k (v, s))) :=
  (n67n_p a0 (a1, a2)).bind (H := fun (y : Int) (k : AV × St → Option Res) => (fun (y : Int) => k ((.int .i64 y : AV), ([] : St))) y) (fun y => par_ret _)

def n64n_g (args : List AV) (st : St) (k : K1) : Option Res :=
  onPats [.lst tRange, .agg [.str, .str]] [] args st (fun p q => n64n_k p.1 (p.2.1.1, p.2.1.2.1) (fun (y : Bool) => k (.bool y) []))
    (none)

theorem n64n_q (a0 : (List dRange)) (a1 : ByteArray) (a2 : ByteArray) : Par (fun k : AV × St → Option Res => n64n_g [.lst tRange a0, .agg [.str a1, .str a2]] [] (fun v s => k (v, s))) :=
  (n64n_p a0 (a1, a2)).bind (H := fun (y : Bool) (k : AV × St → Option Res) => (fun (y : Bool) => k ((.bool y : AV), ([] : St))) y) (fun y => par_ret _)

def n06n_g (args : List AV) (st : St) (k : K1) : Option Res :=
  onPats [.agg [.int .i64, .int .i64, .int .i64, .int .i64, .lst tRange, .lst tWrite, .bool, .str], .agg [.str, .str]] [] args st (fun p q => n06n_k (p.1.1, (p.1.2.1, (p.1.2.2.1, (p.1.2.2.2.1, (p.1.2.2.2.2.1, (p.1.2.2.2.2.2.1, (p.1.2.2.2.2.2.2.1, p.1.2.2.2.2.2.2.2.1))))))) (p.2.1.1, p.2.1.2.1) (fun (y : q41T) => k (.tup [.agg [.int .i64 y.1, .int .i64 y.2.1, .int .i64 y.2.2.1, .int .i64 y.2.2.2.1, .own 0, .own 1, .bool y.2.2.2.2.1, .str y.2.2.2.2.2.1], .bool y.2.2.2.2.2.2.1]) [.arr tRange y.2.2.2.2.2.2.2.1, .arr tWrite y.2.2.2.2.2.2.2.2]))
    (none)

theorem n06n_q (a0 : Int) (a1 : Int) (a2 : Int) (a3 : Int) (a4 : (List dRange)) (a5 : (List dWrite)) (a6 : Bool) (a7 : ByteArray) (a8 : ByteArray) (a9 : ByteArray) : Par (fun k : AV × St → Option Res => n06n_g [.agg [.int .i64 a0, .int .i64 a1, .int .i64 a2, .int .i64 a3, .lst tRange a4, .lst tWrite a5, .bool a6, .str a7], .agg [.str a8, .str a9]] [] (fun v s => k (v, s))) :=
  (n06n_p (a0, (a1, (a2, (a3, (a4, (a5, (a6, a7))))))) (a8, a9)).bind (H := fun (y : q41T) (k : AV × St → Option Res) => (fun (y : q41T) => k ((.tup [.agg [.int .i64 y.1, .int .i64 y.2.1, .int .i64 y.2.2.1, .int .i64 y.2.2.2.1, .own 0, .own 1, .bool y.2.2.2.2.1, .str y.2.2.2.2.2.1], .bool y.2.2.2.2.2.2.1] : AV), ([.arr tRange y.2.2.2.2.2.2.2.1, .arr tWrite y.2.2.2.2.2.2.2.2] : St))) y) (fun y => par_ret _)

def n18n_g (args : List AV) (st : St) (k : K1) : Option Res :=
  onPats [.agg [.lst tVersion, .lst tTxn, .lst tTxn, .int .i64, .int .i64, .lst tTxn], .int .i64, .agg [.str, .str], .bool] [] args st (fun p q => n18n_k ((p.1.1, (p.1.2.1, (p.1.2.2.1, (p.1.2.2.2.1, p.1.2.2.2.2.1)))), p.1.2.2.2.2.2.1) p.2.1 (p.2.2.1.1, p.2.2.1.2.1) p.2.2.2.1 (fun (y : q39T) => k (.tup [.agg [.own 0, .own 1, .own 2, .int .i64 y.1, .int .i64 y.2.1, .own 3], .int .i64 y.2.2.1, .int .i64 y.2.2.2.1]) [.arr tVersion y.2.2.2.2.1, .dep tTxn y.2.2.2.2.2.1 0, .dep tTxn y.2.2.2.2.2.2.1 0, .dep tTxn y.2.2.2.2.2.2.2 0]))
    (none)

theorem n18n_q (a0 : (List dVersion)) (a1 : (List dTxn)) (a2 : (List dTxn)) (a3 : Int) (a4 : Int) (a5 : (List dTxn)) (a6 : Int) (a7 : ByteArray) (a8 : ByteArray) (a9 : Bool) : Par (fun k : AV × St → Option Res => n18n_g [.agg [.lst tVersion a0, .lst tTxn a1, .lst tTxn a2, .int .i64 a3, .int .i64 a4, .lst tTxn a5], .int .i64 a6, .agg [.str a7, .str a8], .bool a9] [] (fun v s => k (v, s))) :=
  (n18n_p ((a0, (a1, (a2, (a3, a4)))), a5) a6 (a7, a8) a9).bind (H := fun (y : q39T) (k : AV × St → Option Res) => (fun (y : q39T) => k ((.tup [.agg [.own 0, .own 1, .own 2, .int .i64 y.1, .int .i64 y.2.1, .own 3], .int .i64 y.2.2.1, .int .i64 y.2.2.2.1] : AV), ([.arr tVersion y.2.2.2.2.1, .dep tTxn y.2.2.2.2.2.1 0, .dep tTxn y.2.2.2.2.2.2.1 0, .dep tTxn y.2.2.2.2.2.2.2 0] : St))) y) (fun y => par_ret _)

def n17n_g (args : List AV) (st : St) (k : K1) : Option Res :=
  onPats [.agg [.str, .str, .bool], .bp 0 0] [.box [.str]] args st (fun p q => n17n_k (p.1.1, (p.1.2.1, p.1.2.2.1)) q.1.1 (fun (y : (Bool × ByteArray)) => k (.bool y.1) [.box [.str y.2]]))
    (none)

theorem n17n_q (a0 : ByteArray) (a1 : ByteArray) (a2 : Bool) (a3 : ByteArray) : Par (fun k : AV × St → Option Res => n17n_g [.agg [.str a0, .str a1, .bool a2], .bp 0 0] [.box [.str a3]] (fun v s => k (v, s))) :=
  (n17n_p (a0, (a1, a2)) a3).bind (H := fun (y : (Bool × ByteArray)) (k : AV × St → Option Res) => (fun (y : (Bool × ByteArray)) => k ((.bool y.1 : AV), ([.box [.str y.2]] : St))) y) (fun y => par_ret _)

def slices_IndexFunc_Write_g (args : List AV) (st : St) (k : K1) : Option Res :=
  onPats [.lst tWrite, .fn 178 [.bp 0 0]] [.box [.str]] args st (fun p q => n66n_k p.1 q.1.1 (fun (y : (Int × ByteArray)) => k (.int .i64 y.1) [.box [.str y.2]]))
    (none)

theorem n66n_q (a0 : (List dWrite)) (a1 : ByteArray) : Par (fun k : AV × St → Option Res => slices_IndexFunc_Write_g [.lst tWrite a0, .fn 178 [.bp 0 0]] [.box [.str a1]] (fun v s => k (v, s))) :=
  (n66n_p a0 a1).bind (H := fun (y : (Int × ByteArray)) (k : AV × St → Option Res) => (fun (y : (Int × ByteArray)) => k ((.int .i64 y.1 : AV), ([.box [.str y.2]] : St))) y) (fun y => par_ret _)

def n16n_g (args : List AV) (st : St) (k : K1) : Option Res :=
  onPats [.agg [.int .i64, .int .i64, .int .i64, .int .i64, .lst tRange, .lst tWrite, .bool, .str], .str] [] args st (fun p q => n16n_k (p.1.1, (p.1.2.1, (p.1.2.2.1, (p.1.2.2.2.1, (p.1.2.2.2.2.1, (p.1.2.2.2.2.2.1, (p.1.2.2.2.2.2.2.1, p.1.2.2.2.2.2.2.2.1))))))) p.2.1 (fun (y : Int) => k (.int .i64 y) []))
    (none)

theorem n16n_q (a0 : Int) (a1 : Int) (a2 : Int) (a3 : Int) (a4 : (List dRange)) (a5 : (List dWrite)) (a6 : Bool) (a7 : ByteArray) (a8 : ByteArray) : Par (fun k : AV × St → Option Res => n16n_g [.agg [.int .i64 a0, .int .i64 a1, .int .i64 a2, .int .i64 a3, .lst tRange a4, .lst tWrite a5, .bool a6, .str a7], .str a8] [] (fun v s => k (v, s))) :=
  (n16n_p (a0, (a1, (a2, (a3, (a4, (a5, (a6, a7))))))) a8).bind (H := fun (y : Int) (k : AV × St → Option Res) => (fun (y : Int) => k ((.int .i64 y : AV), ([] : St))) y) (fun y => par_ret _)

def n15n_g (args : List AV) (st : St) (k : K1) : Option Res :=
  onPats [.lst tVersion, .str, .int .i64] [] args st (fun p q => n15n_k p.1 p.2.1 p.2.2.1 (fun (y : Int) => k (.int .i64 y) []))
    (none)

theorem n15n_q (a0 : (List dVersion)) (a1 : ByteArray) (a2 : Int) : Par (fun k : AV × St → Option Res => n15n_g [.lst tVersion a0, .str a1, .int .i64 a2] [] (fun v s => k (v, s))) :=
  (n15n_p a0 a1 a2).bind (H := fun (y : Int) (k : AV × St → Option Res) => (fun (y : Int) => k ((.int .i64 y : AV), ([] : St))) y) (fun y => par_ret _)

def n07n_g (args : List AV) (st : St) (k : K1) : Option Res :=
  onPats [.lst tVersion, .str, .int .i64] [] args st (fun p q => n07n_k p.1 p.2.1 p.2.2.1 (fun (y : (ByteArray × Bool)) => k (.tup [.str y.1, .bool y.2]) []))
    (none)

theorem n07n_q (a0 : (List dVersion)) (a1 : ByteArray) (a2 : Int) : Par (fun k : AV × St → Option Res => n07n_g [.lst tVersion a0, .str a1, .int .i64 a2] [] (fun v s => k (v, s))) :=
  (n07n_p a0 a1 a2).bind (H := fun (y : (ByteArray × Bool)) (k : AV × St → Option Res) => (fun (y : (ByteArray × Bool)) => k ((.tup [.str y.1, .bool y.2] : AV), ([] : St))) y) (fun y => par_ret _)

def n04n_g (args : List AV) (st : St) (k : K1) : Option Res :=
  onPats [.agg [.int .i64, .int .i64, .int .i64, .int .i64, .lst tRange, .lst tWrite, .bool, .str], .lst tVersion, .str] [] args st (fun p q => n04n_k (p.1.1, (p.1.2.1, (p.1.2.2.1, (p.1.2.2.2.1, (p.1.2.2.2.2.1, (p.1.2.2.2.2.2.1, (p.1.2.2.2.2.2.2.1, p.1.2.2.2.2.2.2.2.1))))))) p.2.1 p.2.2.1 (fun (y : (ByteArray × Bool)) => k (.tup [.str y.1, .bool y.2]) []))
    (none)

theorem n04n_q (a0 : Int) (a1 : Int) (a2 : Int) (a3 : Int) (a4 : (List dRange)) (a5 : (List dWrite)) (a6 : Bool) (a7 : ByteArray) (a8 : (List dVersion)) (a9 : ByteArray) : Par (fun k : AV × St → Option Res => n04n_g [.agg [.int .i64 a0, .int .i64 a1, .int .i64 a2, .int .i64 a3, .lst tRange a4, .lst tWrite a5, .bool a6, .str a7], .lst tVersion a8, .str a9] [] (fun v s => k (v, s))) :=
  (n04n_p (a0, (a1, (a2, (a3, (a4, (a5, (a6, a7))))))) a8 a9).bind (H := fun (y : (ByteArray × Bool)) (k : AV × St → Option Res) => (fun (y : (ByteArray × Bool)) => k ((.tup [.str y.1, .bool y.2] : AV), ([] : St))) y) (fun y => par_ret _)

def n00n_g (args : List AV) (st : St) (k : K1) : Option Res :=
  onPats [.agg [.lst tVersion, .lst tTxn, .lst tTxn, .int .i64, .int .i64, .lst tTxn], .int .i64, .str] [] args st (fun p q => n00n_k ((p.1.1, (p.1.2.1, (p.1.2.2.1, (p.1.2.2.2.1, p.1.2.2.2.2.1)))), p.1.2.2.2.2.2.1) p.2.1 p.2.2.1 (fun (y : q37T) => k (.tup [.agg [.own 0, .own 1, .own 2, .int .i64 y.1, .int .i64 y.2.1, .own 3], .str y.2.2.1, .bool y.2.2.2.1, .int .i64 y.2.2.2.2.1]) [.arr tVersion y.2.2.2.2.2.1, .dep tTxn y.2.2.2.2.2.2.1 0, .dep tTxn y.2.2.2.2.2.2.2.1 0, .dep tTxn y.2.2.2.2.2.2.2.2 0]))
    (none)

theorem n00n_q (a0 : (List dVersion)) (a1 : (List dTxn)) (a2 : (List dTxn)) (a3 : Int) (a4 : Int) (a5 : (List dTxn)) (a6 : Int) (a7 : ByteArray) : Par (fun k : AV × St → Option Res => n00n_g [.agg [.lst tVersion a0, .lst tTxn a1, .lst tTxn a2, .int .i64 a3, .int .i64 a4, .lst tTxn a5], .int .i64 a6, .str a7] [] (fun v s => k (v, s))) :=
  (n00n_p ((a0, (a1, (a2, (a3, a4)))), a5) a6 a7).bind (H := fun (y : q37T) (k : AV × St → Option Res) => (fun (y : q37T) => k ((.tup [.agg [.own 0, .own 1, .own 2, .int .i64 y.1, .int .i64 y.2.1, .own 3], .str y.2.2.1, .bool y.2.2.2.1, .int .i64 y.2.2.2.2.1] : AV), ([.arr tVersion y.2.2.2.2.2.1, .dep tTxn y.2.2.2.2.2.2.1 0, .dep tTxn y.2.2.2.2.2.2.2.1 0, .dep tTxn y.2.2.2.2.2.2.2.2 0] : St))) y) (fun y => par_ret _)

def n27n_g (args : List AV) (st : St) (k : K1) : Option Res :=
  onPats [.agg [.str, .str, .bool, .int .i64], .agg [.str, .str, .bool, .int .i64]] [] args st (fun p q => n27n_k (p.1.1, (p.1.2.1, (p.1.2.2.1, p.1.2.2.2.1))) (p.2.1.1, (p.2.1.2.1, (p.2.1.2.2.1, p.2.1.2.2.2.1))) (fun (y : Bool) => k (.bool y) []))
    (none)

theorem n27n_q (a0 : ByteArray) (a1 : ByteArray) (a2 : Bool) (a3 : Int) (a4 : ByteArray) (a5 : ByteArray) (a6 : Bool) (a7 : Int) : Par (fun k : AV × St → Option Res => n27n_g [.agg [.str a0, .str a1, .bool a2, .int .i64 a3], .agg [.str a4, .str a5, .bool a6, .int .i64 a7]] [] (fun v s => k (v, s))) :=
  (n27n_p (a0, (a1, (a2, a3))) (a4, (a5, (a6, a7)))).bind (H := fun (y : Bool) (k : AV × St → Option Res) => (fun (y : Bool) => k ((.bool y : AV), ([] : St))) y) (fun y => par_ret _)

def n28n_g (args : List AV) (st : St) (k : K1) : Option Res :=
  onPats [.lst tVersion, .lst tVersion] [] args st (fun p q => n28n_k p.1 p.2.1 (fun (y : Bool) => k (.bool y) []))
    (none)

theorem n28n_q (a0 : (List dVersion)) (a1 : (List dVersion)) : Par (fun k : AV × St → Option Res => n28n_g [.lst tVersion a0, .lst tVersion a1] [] (fun v s => k (v, s))) :=
  (n28n_p a0 a1).bind (H := fun (y : Bool) (k : AV × St → Option Res) => (fun (y : Bool) => k ((.bool y : AV), ([] : St))) y) (fun y => par_ret _)

def n23n_g (args : List AV) (st : St) (k : K1) : Option Res :=
  onPats [.agg [.str, .str], .agg [.str, .str]] [] args st (fun p q => n23n_k (p.1.1, p.1.2.1) (p.2.1.1, p.2.1.2.1) (fun (y : Bool) => k (.bool y) []))
    (none)

theorem n23n_q (a0 : ByteArray) (a1 : ByteArray) (a2 : ByteArray) (a3 : ByteArray) : Par (fun k : AV × St → Option Res => n23n_g [.agg [.str a0, .str a1], .agg [.str a2, .str a3]] [] (fun v s => k (v, s))) :=
  (n23n_p (a0, a1) (a2, a3)).bind (H := fun (y : Bool) (k : AV × St → Option Res) => (fun (y : Bool) => k ((.bool y : AV), ([] : St))) y) (fun y => par_ret _)

def n24n_g (args : List AV) (st : St) (k : K1) : Option Res :=
  onPats [.lst tRange, .lst tRange] [] args st (fun p q => n24n_k p.1 p.2.1 (fun (y : Bool) => k (.bool y) []))
    (none)

theorem n24n_q (a0 : (List dRange)) (a1 : (List dRange)) : Par (fun k : AV × St → Option Res => n24n_g [.lst tRange a0, .lst tRange a1] [] (fun v s => k (v, s))) :=
  (n24n_p a0 a1).bind (H := fun (y : Bool) (k : AV × St → Option Res) => (fun (y : Bool) => k ((.bool y : AV), ([] : St))) y) (fun y => par_ret _)

def n29n_g (args : List AV) (st : St) (k : K1) : Option Res :=
  onPats [.agg [.str, .str, .bool], .agg [.str, .str, .bool]] [] args st (fun p q => n29n_k (p.1.1, (p.1.2.1, p.1.2.2.1)) (p.2.1.1, (p.2.1.2.1, p.2.1.2.2.1)) (fun (y : Bool) => k (.bool y) []))
    (none)

theorem n29n_q (a0 : ByteArray) (a1 : ByteArray) (a2 : Bool) (a3 : ByteArray) (a4 : ByteArray) (a5 : Bool) : Par (fun k : AV × St → Option Res => n29n_g [.agg [.str a0, .str a1, .bool a2], .agg [.str a3, .str a4, .bool a5]] [] (fun v s => k (v, s))) :=
  (n29n_p (a0, (a1, a2)) (a3, (a4, a5))).bind (H := fun (y : Bool) (k : AV × St → Option Res) => (fun (y : Bool) => k ((.bool y : AV), ([] : St))) y) (fun y => par_ret _)

def n30n_g (args : List AV) (st : St) (k : K1) : Option Res :=
  onPats [.lst tWrite, .lst tWrite] [] args st (fun p q => n30n_k p.1 p.2.1 (fun (y : Bool) => k (.bool y) []))
    (none)

theorem n30n_q (a0 : (List dWrite)) (a1 : (List dWrite)) : Par (fun k : AV × St → Option Res => n30n_g [.lst tWrite a0, .lst tWrite a1] [] (fun v s => k (v, s))) :=
  (n30n_p a0 a1).bind (H := fun (y : Bool) (k : AV × St → Option Res) => (fun (y : Bool) => k ((.bool y : AV), ([] : St))) y) (fun y => par_ret _)

def n25n_g (args : List AV) (st : St) (k : K1) : Option Res :=
  onPats [.agg [.int .i64, .int .i64, .int .i64, .int .i64, .lst tRange, .lst tWrite, .bool, .str], .agg [.int .i64, .int .i64, .int .i64, .int .i64, .lst tRange, .lst tWrite, .bool, .str]] [] args st (fun p q => n25n_k (p.1.1, (p.1.2.1, (p.1.2.2.1, (p.1.2.2.2.1, (p.1.2.2.2.2.1, (p.1.2.2.2.2.2.1, (p.1.2.2.2.2.2.2.1, p.1.2.2.2.2.2.2.2.1))))))) (p.2.1.1, (p.2.1.2.1, (p.2.1.2.2.1, (p.2.1.2.2.2.1, (p.2.1.2.2.2.2.1, (p.2.1.2.2.2.2.2.1, (p.2.1.2.2.2.2.2.2.1, p.2.1.2.2.2.2.2.2.2.1))))))) (fun (y : Bool) => k (.bool y) []))
    (none)

theorem n25n_q (a0 : Int) (a1 : Int) (a2 : Int) (a3 : Int) (a4 : (List dRange)) (a5 : (List dWrite)) (a6 : Bool) (a7 : ByteArray) (a8 : Int) (a9 : Int) (a10 : Int) (a11 : Int) (a12 : (List dRange)) (a13 : (List dWrite)) (a14 : Bool) (a15 : ByteArray) : Par (fun k : AV × St → Option Res => n25n_g [.agg [.int .i64 a0, .int .i64 a1, .int .i64 a2, .int .i64 a3, .lst tRange a4, .lst tWrite a5, .bool a6, .str a7], .agg [.int .i64 a8, .int .i64 a9, .int .i64 a10, .int .i64 a11, .lst tRange a12, .lst tWrite a13, .bool a14, .str a15]] [] (fun v s => k (v, s))) :=
  (n25n_p (a0, (a1, (a2, (a3, (a4, (a5, (a6, a7))))))) (a8, (a9, (a10, (a11, (a12, (a13, (a14, a15)))))))).bind (H := fun (y : Bool) (k : AV × St → Option Res) => (fun (y : Bool) => k ((.bool y : AV), ([] : St))) y) (fun y => par_ret _)

def n26n_g (args : List AV) (st : St) (k : K1) : Option Res :=
  onPats [.lst tTxn, .lst tTxn] [] args st (fun p q => n26n_k p.1 p.2.1 (fun (y : Bool) => k (.bool y) []))
    (none)

theorem n26n_q (a0 : (List dTxn)) (a1 : (List dTxn)) : Par (fun k : AV × St → Option Res => n26n_g [.lst tTxn a0, .lst tTxn a1] [] (fun v s => k (v, s))) :=
  (n26n_p a0 a1).bind (H := fun (y : Bool) (k : AV × St → Option Res) => (fun (y : Bool) => k ((.bool y : AV), ([] : St))) y) (fun y => par_ret _)

def n21n_g (args : List AV) (st : St) (k : K1) : Option Res :=
  onPats [.agg [.lst tVersion, .lst tTxn, .lst tTxn, .int .i64, .int .i64], .agg [.lst tVersion, .lst tTxn, .lst tTxn, .int .i64, .int .i64]] [] args st (fun p q => n21n_k (p.1.1, (p.1.2.1, (p.1.2.2.1, (p.1.2.2.2.1, p.1.2.2.2.2.1)))) (p.2.1.1, (p.2.1.2.1, (p.2.1.2.2.1, (p.2.1.2.2.2.1, p.2.1.2.2.2.2.1)))) (fun (y : Bool) => k (.bool y) []))
    (none)

theorem n21n_q (a0 : (List dVersion)) (a1 : (List dTxn)) (a2 : (List dTxn)) (a3 : Int) (a4 : Int) (a5 : (List dVersion)) (a6 : (List dTxn)) (a7 : (List dTxn)) (a8 : Int) (a9 : Int) : Par (fun k : AV × St → Option Res => n21n_g [.agg [.lst tVersion a0, .lst tTxn a1, .lst tTxn a2, .int .i64 a3, .int .i64 a4], .agg [.lst tVersion a5, .lst tTxn a6, .lst tTxn a7, .int .i64 a8, .int .i64 a9]] [] (fun v s => k (v, s))) :=
  (n21n_p (a0, (a1, (a2, (a3, a4)))) (a5, (a6, (a7, (a8, a9))))).bind (H := fun (y : Bool) (k : AV × St → Option Res) => (fun (y : Bool) => k ((.bool y : AV), ([] : St))) y) (fun y => par_ret _)

def n22n_g (args : List AV) (st : St) (k : K1) : Option Res :=
  onPats [.agg [.lst tVersion, .lst tTxn, .lst tTxn, .int .i64, .int .i64, .lst tTxn], .agg [.lst tVersion, .lst tTxn, .lst tTxn, .int .i64, .int .i64, .lst tTxn]] [] args st (fun p q => n22n_k ((p.1.1, (p.1.2.1, (p.1.2.2.1, (p.1.2.2.2.1, p.1.2.2.2.2.1)))), p.1.2.2.2.2.2.1) ((p.2.1.1, (p.2.1.2.1, (p.2.1.2.2.1, (p.2.1.2.2.2.1, p.2.1.2.2.2.2.1)))), p.2.1.2.2.2.2.2.1) (fun (y : Bool) => k (.bool y) []))
    (none)

theorem n22n_q (a0 : (List dVersion)) (a1 : (List dTxn)) (a2 : (List dTxn)) (a3 : Int) (a4 : Int) (a5 : (List dTxn)) (a6 : (List dVersion)) (a7 : (List dTxn)) (a8 : (List dTxn)) (a9 : Int) (a10 : Int) (a11 : (List dTxn)) : Par (fun k : AV × St → Option Res => n22n_g [.agg [.lst tVersion a0, .lst tTxn a1, .lst tTxn a2, .int .i64 a3, .int .i64 a4, .lst tTxn a5], .agg [.lst tVersion a6, .lst tTxn a7, .lst tTxn a8, .int .i64 a9, .int .i64 a10, .lst tTxn a11]] [] (fun v s => k (v, s))) :=
  (n22n_p ((a0, (a1, (a2, (a3, a4)))), a5) ((a6, (a7, (a8, (a9, a10)))), a11)).bind (H := fun (y : Bool) (k : AV × St → Option Res) => (fun (y : Bool) => k ((.bool y : AV), ([] : St))) y) (fun y => par_ret _)

def n40n_g (args : List AV) (st : St) (k : K1) : Option Res :=
  onPats [.int .i64] [] args st (fun p q => n40n_k p.1 (fun (y : ByteArray) => k (.str y) []))
    (none)

theorem n40n_q (a0 : Int) : Par (fun k : AV × St → Option Res => n40n_g [.int .i64 a0] [] (fun v s => k (v, s))) :=
  (n40n_p a0).bind (H := fun (y : ByteArray) (k : AV × St → Option Res) => (fun (y : ByteArray) => k ((.str y : AV), ([] : St))) y) (fun y => par_ret _)

def laws_markVersionS_g (args : List AV) (st : St) (k : K1) : Option Res :=
  onPats [.own 0, .int .i64] [.arr tVersion] args st (fun p q => n42n_k p.2.1 q.1 (fun (y : (Int × (List dVersion))) => k (.int .i64 y.1) [.arr tVersion y.2]))
    (none)

theorem n42n_q (a0 : Int) (a1 : (List dVersion)) : Par (fun k : AV × St → Option Res => laws_markVersionS_g [.own 0, .int .i64 a0] [.arr tVersion a1] (fun v s => k (v, s))) :=
  (n42n_p a0 a1).bind (H := fun (y : (Int × (List dVersion))) (k : AV × St → Option Res) => (fun (y : (Int × (List dVersion))) => k ((.int .i64 y.1 : AV), ([.arr tVersion y.2] : St))) y) (fun y => par_ret _)

def laws_markRangeS_g (args : List AV) (st : St) (k : K1) : Option Res :=
  onPats [.own 0, .int .i64] [.arr tRange] args st (fun p q => n39n_k p.2.1 q.1 (fun (y : (Int × (List dRange))) => k (.int .i64 y.1) [.arr tRange y.2]))
    (none)

theorem n39n_q (a0 : Int) (a1 : (List dRange)) : Par (fun k : AV × St → Option Res => laws_markRangeS_g [.own 0, .int .i64 a0] [.arr tRange a1] (fun v s => k (v, s))) :=
  (n39n_p a0 a1).bind (H := fun (y : (Int × (List dRange))) (k : AV × St → Option Res) => (fun (y : (Int × (List dRange))) => k ((.int .i64 y.1 : AV), ([.arr tRange y.2] : St))) y) (fun y => par_ret _)

def laws_markWriteS_g (args : List AV) (st : St) (k : K1) : Option Res :=
  onPats [.own 0, .int .i64] [.arr tWrite] args st (fun p q => n43n_k p.2.1 q.1 (fun (y : (Int × (List dWrite))) => k (.int .i64 y.1) [.arr tWrite y.2]))
    (none)

theorem n43n_q (a0 : Int) (a1 : (List dWrite)) : Par (fun k : AV × St → Option Res => laws_markWriteS_g [.own 0, .int .i64 a0] [.arr tWrite a1] (fun v s => k (v, s))) :=
  (n43n_p a0 a1).bind (H := fun (y : (Int × (List dWrite))) (k : AV × St → Option Res) => (fun (y : (Int × (List dWrite))) => k ((.int .i64 y.1 : AV), ([.arr tWrite y.2] : St))) y) (fun y => par_ret _)

def laws_markTxnS_g (args : List AV) (st : St) (k : K1) : Option Res :=
  onPats [.own 0, .int .i64] [.dep tTxn 0] args st (fun p q => n41n_k p.2.1 q.1 (fun (y : (Int × (List dTxn))) => k (.int .i64 y.1) [.dep tTxn y.2 0]))
    (none)

theorem n41n_q (a0 : Int) (a1 : (List dTxn)) : Par (fun k : AV × St → Option Res => laws_markTxnS_g [.own 0, .int .i64 a0] [.dep tTxn a1 0] (fun v s => k (v, s))) :=
  (n41n_p a0 a1).bind (H := fun (y : (Int × (List dTxn))) (k : AV × St → Option Res) => (fun (y : (Int × (List dTxn))) => k ((.int .i64 y.1 : AV), ([.dep tTxn y.2 0] : St))) y) (fun y => par_ret _)

def laws_markBase_g (args : List AV) (st : St) (k : K1) : Option Res :=
  onPats [.agg [.own 0, .own 1, .own 2, .int .i64, .int .i64], .int .i64] [.arr tVersion, .dep tTxn 0, .dep tTxn 0] args st (fun p q => n37n_k p.1.2.2.2.1 p.1.2.2.2.2.1 p.2.1 q.1 q.2.1 q.2.2.1 (fun (y : q32T) => k (.int .i64 y.1) [.arr tVersion y.2.1, .dep tTxn y.2.2.1 0, .dep tTxn y.2.2.2 0]))
    (none)

theorem n37n_q (a0 : Int) (a1 : Int) (a2 : Int) (a3 : (List dVersion)) (a4 : (List dTxn)) (a5 : (List dTxn)) : Par (fun k : AV × St → Option Res => laws_markBase_g [.agg [.own 0, .own 1, .own 2, .int .i64 a0, .int .i64 a1], .int .i64 a2] [.arr tVersion a3, .dep tTxn a4 0, .dep tTxn a5 0] (fun v s => k (v, s))) :=
  (n37n_p a0 a1 a2 a3 a4 a5).bind (H := fun (y : q32T) (k : AV × St → Option Res) => (fun (y : q32T) => k ((.int .i64 y.1 : AV), ([.arr tVersion y.2.1, .dep tTxn y.2.2.1 0, .dep tTxn y.2.2.2 0] : St))) y) (fun y => par_ret _)

def laws_markEngine_g (args : List AV) (st : St) (k : K1) : Option Res :=
  onPats [.agg [.own 0, .own 1, .own 2, .int .i64, .int .i64, .own 3], .int .i64] [.arr tVersion, .dep tTxn 0, .dep tTxn 0, .dep tTxn 0] args st (fun p q => n38n_k p.1.2.2.2.1 p.1.2.2.2.2.1 p.2.1 q.1 q.2.1 q.2.2.1 q.2.2.2.1 (fun (y : q31T) => k (.int .i64 y.1) [.arr tVersion y.2.1, .dep tTxn y.2.2.1 0, .dep tTxn y.2.2.2.1 0, .dep tTxn y.2.2.2.2 0]))
    (none)

theorem n38n_q (a0 : Int) (a1 : Int) (a2 : Int) (a3 : (List dVersion)) (a4 : (List dTxn)) (a5 : (List dTxn)) (a6 : (List dTxn)) : Par (fun k : AV × St → Option Res => laws_markEngine_g [.agg [.own 0, .own 1, .own 2, .int .i64 a0, .int .i64 a1, .own 3], .int .i64 a2] [.arr tVersion a3, .dep tTxn a4 0, .dep tTxn a5 0, .dep tTxn a6 0] (fun v s => k (v, s))) :=
  (n38n_p a0 a1 a2 a3 a4 a5 a6).bind (H := fun (y : q31T) (k : AV × St → Option Res) => (fun (y : q31T) => k ((.int .i64 y.1 : AV), ([.arr tVersion y.2.1, .dep tTxn y.2.2.1 0, .dep tTxn y.2.2.2.1 0, .dep tTxn y.2.2.2.2 0] : St))) y) (fun y => par_ret _)

def n35n_g (args : List AV) (st : St) (k : K1) : Option Res :=
  onPats [.lst tVersion, .int .i64] [] args st (fun p q => n35n_k p.1 p.2.1 (fun (y : Int) => k (.int .i64 y) []))
    (none)

theorem n35n_q (a0 : (List dVersion)) (a1 : Int) : Par (fun k : AV × St → Option Res => n35n_g [.lst tVersion a0, .int .i64 a1] [] (fun v s => k (v, s))) :=
  (n35n_p a0 a1).bind (H := fun (y : Int) (k : AV × St → Option Res) => (fun (y : Int) => k ((.int .i64 y : AV), ([] : St))) y) (fun y => par_ret _)

def n33n_g (args : List AV) (st : St) (k : K1) : Option Res :=
  onPats [.lst tRange, .int .i64] [] args st (fun p q => n33n_k p.1 p.2.1 (fun (y : Int) => k (.int .i64 y) []))
    (none)

theorem n33n_q (a0 : (List dRange)) (a1 : Int) : Par (fun k : AV × St → Option Res => n33n_g [.lst tRange a0, .int .i64 a1] [] (fun v s => k (v, s))) :=
  (n33n_p a0 a1).bind (H := fun (y : Int) (k : AV × St → Option Res) => (fun (y : Int) => k ((.int .i64 y : AV), ([] : St))) y) (fun y => par_ret _)

def n36n_g (args : List AV) (st : St) (k : K1) : Option Res :=
  onPats [.lst tWrite, .int .i64] [] args st (fun p q => n36n_k p.1 p.2.1 (fun (y : Int) => k (.int .i64 y) []))
    (none)

theorem n36n_q (a0 : (List dWrite)) (a1 : Int) : Par (fun k : AV × St → Option Res => n36n_g [.lst tWrite a0, .int .i64 a1] [] (fun v s => k (v, s))) :=
  (n36n_p a0 a1).bind (H := fun (y : Int) (k : AV × St → Option Res) => (fun (y : Int) => k ((.int .i64 y : AV), ([] : St))) y) (fun y => par_ret _)

def n34n_g (args : List AV) (st : St) (k : K1) : Option Res :=
  onPats [.lst tTxn, .int .i64] [] args st (fun p q => n34n_k p.1 p.2.1 (fun (y : Int) => k (.int .i64 y) []))
    (none)

theorem n34n_q (a0 : (List dTxn)) (a1 : Int) : Par (fun k : AV × St → Option Res => n34n_g [.lst tTxn a0, .int .i64 a1] [] (fun v s => k (v, s))) :=
  (n34n_p a0 a1).bind (H := fun (y : Int) (k : AV × St → Option Res) => (fun (y : Int) => k ((.int .i64 y : AV), ([] : St))) y) (fun y => par_ret _)

def n31n_g (args : List AV) (st : St) (k : K1) : Option Res :=
  onPats [.agg [.lst tVersion, .lst tTxn, .lst tTxn, .int .i64, .int .i64], .int .i64] [] args st (fun p q => n31n_k (p.1.1, (p.1.2.1, (p.1.2.2.1, (p.1.2.2.2.1, p.1.2.2.2.2.1)))) p.2.1 (fun (y : Int) => k (.int .i64 y) []))
    (none)

theorem n31n_q (a0 : (List dVersion)) (a1 : (List dTxn)) (a2 : (List dTxn)) (a3 : Int) (a4 : Int) (a5 : Int) : Par (fun k : AV × St → Option Res => n31n_g [.agg [.lst tVersion a0, .lst tTxn a1, .lst tTxn a2, .int .i64 a3, .int .i64 a4], .int .i64 a5] [] (fun v s => k (v, s))) :=
  (n31n_p (a0, (a1, (a2, (a3, a4)))) a5).bind (H := fun (y : Int) (k : AV × St → Option Res) => (fun (y : Int) => k ((.int .i64 y : AV), ([] : St))) y) (fun y => par_ret _)

def n32n_g (args : List AV) (st : St) (k : K1) : Option Res :=
  onPats [.agg [.lst tVersion, .lst tTxn, .lst tTxn, .int .i64, .int .i64, .lst tTxn], .int .i64] [] args st (fun p q => n32n_k ((p.1.1, (p.1.2.1, (p.1.2.2.1, (p.1.2.2.2.1, p.1.2.2.2.2.1)))), p.1.2.2.2.2.2.1) p.2.1 (fun (y : Int) => k (.int .i64 y) []))
    (none)

theorem n32n_q (a0 : (List dVersion)) (a1 : (List dTxn)) (a2 : (List dTxn)) (a3 : Int) (a4 : Int) (a5 : (List dTxn)) (a6 : Int) : Par (fun k : AV × St → Option Res => n32n_g [.agg [.lst tVersion a0, .lst tTxn a1, .lst tTxn a2, .int .i64 a3, .int .i64 a4, .lst tTxn a5], .int .i64 a6] [] (fun v s => k (v, s))) :=
  (n32n_p ((a0, (a1, (a2, (a3, a4)))), a5) a6).bind (H := fun (y : Int) (k : AV × St → Option Res) => (fun (y : Int) => k ((.int .i64 y : AV), ([] : St))) y) (fun y => par_ret _)

def n20n_g (args : List AV) (st : St) (k : K1) : Option Res :=
  onPats [.agg [.lst tVersion, .lst tTxn, .lst tTxn, .int .i64, .int .i64, .lst tTxn], .int .i64, .str] [] args st (fun p q => n20n_k ((p.1.1, (p.1.2.1, (p.1.2.2.1, (p.1.2.2.2.1, p.1.2.2.2.2.1)))), p.1.2.2.2.2.2.1) p.2.1 p.2.2.1 (fun (y : Bool) => k (.bool y) []))
    (none)

theorem n20n_q (a0 : (List dVersion)) (a1 : (List dTxn)) (a2 : (List dTxn)) (a3 : Int) (a4 : Int) (a5 : (List dTxn)) (a6 : Int) (a7 : ByteArray) : Par (fun k : AV × St → Option Res => n20n_g [.agg [.lst tVersion a0, .lst tTxn a1, .lst tTxn a2, .int .i64 a3, .int .i64 a4, .lst tTxn a5], .int .i64 a6, .str a7] [] (fun v s => k (v, s))) :=
  (n20n_p ((a0, (a1, (a2, (a3, a4)))), a5) a6 a7).bind (H := fun (y : Bool) (k : AV × St → Option Res) => (fun (y : Bool) => k ((.bool y : AV), ([] : St))) y) (fun y => par_ret _)

end

end Go.VE
