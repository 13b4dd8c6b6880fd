/- The abstract interpreter: regions, code, functions. -/
import Derived.Test.YtbedbcnmfoildaaV17
import Derived.OrdersHeld
import Derived.LoopN
namespace Go.VE
set_option linter.unusedVariables false
noncomputable section

def subIds : List Nat → List Nat → Bool
  | [], _ => true
  | r :: l, m => (idx r m).isSome && subIds l m

def boxAt (s : St) (r : Nat) : Bool :=
  match getR s r with
  | .box _ => true
  | _ => false

/-- Regions that are written within keep their places: a call is handed boxes alone. -/
def keeps (o : Op) (s : St) (tch : List Nat) : Bool := !isCallV o || tch.all (boxAt s)

/-- What lives outside of these regions lives on; what is new among them lives. -/
def goesOn (wr : List Nat) (s s' : St) : Bool :=
  (List.range s.length).all (fun r => (idx r wr).isSome || (!(getR s r).live || (getR s' r).live)) && wr.all fun r => Nat.ble (r + 1) s.length || (Nat.ble s'.length r || (getR s' r).live)

/-- One operation; chk: it must touch nothing that stood but these regions. -/
def op1 (G : Glob) (chk : Option (List Nat)) (o : Op) (e : Env) (s : St) (k : K1) : Option Res :=
  match chk with
  | some wr => bif subIds (tchOf G o e s) wr && keeps o s (tchOf G o e s) then execOp1 G o e s (fun v s' => bif goesOn wr s s' then k v s' else none) else none
  | none => execOp1 G o e s k

/-! To make a value's outer form plain before going on: it changes nothing. -/

def forceN : Nat → (Nat → Option Res) → Option Res
  | 0, k => k 0
  | n + 1, k => forceN n fun m => k (m + 1)

mutual
def forceV : AV → (AV → Option Res) → Option Res
  | .int i n, k => k (.int i n)
  | .bool b, k => k (.bool b)
  | .str s, k => k (.str s)
  | .lst e xs, k => k (.lst e xs)
  | .nilS, k => k .nilS
  | .own r, k => forceN r fun r => k (.own r)
  | .bp b o, k => forceN b fun b => forceN o fun o => k (.bp b o)
  | .ep r i o, k => forceN r fun r => forceN o fun o => k (.ep r i o)
  | .ip T x o, k => forceN o fun o => k (.ip T x o)
  | .fn f caps, k => forceL caps fun caps => k (.fn f caps)
  | .agg cs, k => forceL cs fun cs => k (.agg cs)
  | .tup vs, k => forceL vs fun vs => k (.tup vs)
  | .dead, k => k .dead
def forceL : List AV → (List AV → Option Res) → Option Res
  | [], k => k []
  | a :: l, k => forceV a fun a => forceL l fun l => k (a :: l)
end

def forceG : Rg → (Rg → Option Res) → Option Res
  | .box cs, k => forceL cs fun cs => k (.box cs)
  | .arr e xs, k => k (.arr e xs)
  | .frz e xs, k => k (.frz e xs)
  | .gone, k => k .gone

def forceS : St → (St → Option Res) → Option Res
  | [], k => k []
  | g :: s, k => forceG g fun g => forceS s fun s => k (g :: s)

theorem forceN_eq : ∀ (n : Nat) (k : Nat → Option Res), forceN n k = k n
  | 0, k => rfl
  | n + 1, k => by simp only [forceN, forceN_eq n]

mutual
theorem forceV_eq : ∀ (v : AV) (k : AV → Option Res), forceV v k = k v
  | .int _ _, _ => by simp only [forceV]
  | .bool _, _ => by simp only [forceV]
  | .str _, _ => by simp only [forceV]
  | .lst _ _, _ => by simp only [forceV]
  | .nilS, _ => by simp only [forceV]
  | .own _, _ => by simp only [forceV, forceN_eq]
  | .bp _ _, _ => by simp only [forceV, forceN_eq]
  | .ep _ _ _, _ => by simp only [forceV, forceN_eq]
  | .ip _ _ _, _ => by simp only [forceV, forceN_eq]
  | .fn _ caps, _ => by simp only [forceV, forceL_eq caps]
  | .agg cs, _ => by simp only [forceV, forceL_eq cs]
  | .tup vs, _ => by simp only [forceV, forceL_eq vs]
  | .dead, _ => by simp only [forceV]
theorem forceL_eq : ∀ (l : List AV) (k : List AV → Option Res), forceL l k = k l
  | [], _ => by simp only [forceL]
  | a :: l, _ => by simp only [forceL, forceV_eq a, forceL_eq l]
end

theorem forceG_eq (g : Rg) (k : Rg → Option Res) : forceG g k = k g := by
  cases g <;> simp only [forceG, forceL_eq]

theorem forceS_eq : ∀ (s : St) (k : St → Option Res), forceS s k = k s
  | [], _ => by simp only [forceS]
  | g :: s, _ => by simp only [forceS, forceG_eq g, forceS_eq s]

def stepOp (G : Glob) (chk : Option (List Nat)) (all : List Oper) (o : Oper) (k : Env → St → Option Res) (e : Env) (s : St) : Option Res :=
  match o.guard with
  | none => op1 G chk o.op e s fun v s' => k (put e o.dst v) s'
  | some (j, want) => match dstOf all j with
    | none => none
    | some d => match getE e d with
      | .bool b =>
        bif b then forceL (setE e d (.bool true)) fun e =>
          (bif want then op1 G chk o.op e s fun v s' => k (put e o.dst v) s'
          else k (put e o.dst (.tup [])) s)
        else forceL (setE e d (.bool false)) fun e =>
          (bif want then k (put e o.dst (.tup [])) s
          else op1 G chk o.op e s fun v s' => k (put e o.dst v) s')
      | .tup [] => k (put e o.dst (.tup [])) s
      | _ => none

def execOps (G : Glob) (all : List Oper) : List Oper → (Env → St → Option Res) → Env → St → Option Res
  | [], k, e, s => k e s
  | o :: rest, k, e, s => stepOp G none all o (execOps G all rest k) e s

/-- Of those that may come up: one that may be taken first. -/
def pickQ (G : Glob) (wr : List Nat) (ops : Array Oper) (all : List Oper) (listed : Array Bool) (e : Env) (s : St) : List Nat → Option (Nat × Oper)
  | [] => none
  | i :: l => match all[i]? with
    | some o => bif isQuiet G o.op && Region.free .any ops listed i && qFar o.op e s wr then some (i, o) else pickQ G wr ops all listed e s l
    | none => pickQ G wr ops all listed e s l

def waitsOn (o : Oper) (i : Nat) : Bool := o.after.toList.any fun e => Region.binds .any e && Nat.beq e.on i

/-- Does the operation wait for all loads but itself? Behind it none is left. -/
def waitsLoads (o : Oper) (j : Nat) : Nat → List Oper → Bool
  | _, [] => true
  | i, p :: l => (!isLd p.op || (Nat.beq i j || waitsOn o i)) && waitsLoads o j (i + 1) l

def exempt (G : Glob) (all : List Oper) (j : Nat) : Bool :=
  match all[j]? with
  | some o => !isQuiet G o.op && waitsLoads o j 0 all
  | none => false

/-- Where an unguarded alloc puts its pointer. -/
def allocD (G : Glob) (o : Oper) : Option Nat :=
  match o.op, o.guard, o.dst with
  | .alloc t, none, some d => bif (G.ty t).isSome then some d else none
  | _, _, _ => none

def allocAt (G : Glob) (all : List Oper) (i : Nat) : Option Nat :=
  match all[i]? with
  | some o => allocD G o
  | none => none

/-- Those that are allocs, with their places; the others. -/
def parts (G : Glob) (all : List Oper) : List Nat → List (Nat × Nat) × List Nat
  | [] => ([], [])
  | i :: l => match allocAt G all i with
    | some d => ((i, d) :: (parts G all l).1, (parts G all l).2)
    | none => ((parts G all l).1, i :: (parts G all l).2)

def setAll (listed : Array Bool) : List (Nat × Nat) → Array Bool
  | [] => listed
  | p :: l => setAll (listed.setIfInBounds p.1 true) l

def deadAll (e : Env) : List (Nat × Nat) → Env
  | [] => e
  | p :: l => deadAll (setE e p.2 .dead) l

def nodup2 : List (Nat × Nat) → Bool
  | [] => true
  | p :: l => !(l.any fun q => Nat.beq p.2 q.2) && nodup2 l

def offAll (d : Option Nat) (A : List (Nat × Nat)) : Bool :=
  match d with
  | some d => !(A.any fun q => Nat.beq d q.2)
  | none => true

def only (j : Nat) : List Nat → Bool
  | [i] => Nat.beq i j
  | _ => false

/-- Beside waiting allocs one alone may come up. -/
def okNext (ops : Array Oper) (listed : Array Bool) (A : List (Nat × Nat)) (j : Nat) (o : Oper) : Bool :=
  match A with
  | [] => true
  | _ => only j (Region.ready .any ops (setAll listed A)) && nodup2 A && offAll o.dst A

/-- What comes up behind these allocs waits for all of them. -/
def okLast (ops : Array Oper) (all : List Oper) (listed : Array Bool) (A : List (Nat × Nat)) : Bool :=
  nodup2 A && match A with
  | [_] => true
  | _ => (Region.ready .any ops (setAll listed A)).all fun q => match all[q]? with
    | some o => A.all fun p => waitsOn o p.1
    | none => false

/-- A region whose order is drawn; wr: the regions that may be written within. Allocs wait till nothing else may come up. -/
def execAny (G : Glob) (wr : List Nat) (ops : Array Oper) (all : List Oper) : Nat → Array Bool → (Env → St → Option Res) → Env → St → Option Res
  | 0, listed, k, e, s => match Region.ready .any ops listed with
    | [] => k e s
    | _ :: _ => none
  | n + 1, listed, k, e, s => match Region.ready .any ops listed with
    | [] => k e s
    | i :: l => match pickQ G wr ops all listed e s (i :: l) with
      | some (j, o) => stepOp G none all o (execAny G wr ops all n (listed.setIfInBounds j true) k) e s
      | none => match parts G all (i :: l) with
        | (A, [j]) => match all[j]? with
          | some o => bif okNext ops listed A j o then stepOp G (bif exempt G all j then none else some wr) all o (execAny G wr ops all n (listed.setIfInBounds j true) k) (deadAll e A) s else none
          | none => none
        | (p :: A, []) => match all[p.1]? with
          | some o => bif okLast ops all listed (p :: A) then stepOp G none all o (execAny G wr ops all n (listed.setIfInBounds p.1 true) k) (deadAll e (p :: A)) s else none
          | none => none
        | _ => none

/-- Boxes that a region may write while it draws its order: told under the region's number and a million. -/
def hintOf (F : Fx) (id : Nat) : List Nat :=
  match F.loops (1000000 + id) with
  | some sp => sp.keep
  | none => []

def bodyK (F : Fx) (keep : List Nat) (wide : List (Option Ty)) : Out → Env → St → Option Res := fun o e s =>
  match packW wide F.n (getEs e keep) s with
  | (vs, s) => some ⟨o, vs, s⟩

def wideOf (F : Fx) : List (Option Ty) :=
  match F.loops 3000000 with
  | some sp => sp.wide
  | none => []

/-- The number under which a cut ahead of a piece of code is told. -/
def headId : Code → Nat
  | .region id _ _ => 5000000 + id
  | .block id _ => 6000000 + id
  | .cond _ x y => bif Nat.beq (headId x) 4000000 then (bif Nat.beq (headId y) 4000000 then 4000000 else 20000000 + headId y) else 10000000 + headId x
  | .seq a b => bif Nat.beq (headId a) 4000000 then (bif Nat.beq (headId b) 4000000 then 4000000 else 30000000 + headId b) else headId a
  | _ => 4000000

def exec (G : Glob) (F : Fx) : Code → (Out → Env → St → Option Res) → Env → St → Option Res
  | .skip, k, e, s => k .norm e s
  | .region id ops draw, k, e, s => bif draw then
      (bif Region.noSelect ops then execAny G (hintOf F id) ops ops.toList ops.size (Array.replicate ops.size false) (fun e s => k .norm e s) e s else none)
    else execOps G ops.toList ops.toList (fun e s => k .norm e s) e s
  | .seq a b, k, e, s => match F.loops (headId b) with
    | none => exec G F a (fun o e s => match o with
      | .norm => forceL e fun e => forceS s fun s => exec G F b k e s
      | o => k o e s) e s
    | some sp => exec G F a (fun o e s => match o with
      | .norm => match packW sp.wide F.n (getEs e sp.keep) s with
        | (vs, s) => sp.L vs s fun o vs s => k o (setEs (deads F.nt) sp.keep vs) s
      | o => k o e s) e s
  | .cond c x y, k, e, s => match ev e c with
    | .bool b => bif b then exec G F x k e s else exec G F y k e s
    | _ => none
  | .block id (.loop _), k, e, s => match F.loops id with
    | none => none
    | some sp =>
      match packW sp.wide F.n (getEs e sp.keep) s with
      | (vs, s) => sp.L vs s fun o vs s => match o with
        | .norm => none
        | .exit j => bif j == id then k .norm (setEs (deads F.nt) sp.keep vs) s else k (.exit j) (setEs (deads F.nt) sp.keep vs) s
        | .ret => k .ret (setEs (deads F.nt) sp.keep vs) s
  | .block id c, k, e, s => exec G F c (fun o e s => match o with
    | .exit j => bif j == id then k .norm e s else k (.exit j) e s
    | o => k o e s) e s
  | .scope c, k, e, s => none
  | .exit id, k, e, s => k (.exit id) e s
  | .ret, k, e, s => k .ret e s
  | _, _, _, _ => none

def resA (G : Glob) (e : Env) (s : St) : ResultVar → Option AV
  | .tmp t => some (getE e t)
  | .cell a t => match G.ty t with
    | some (ag, T) => match loadCs s (getE e a) T.size with
      | some cs => ofCells ag cs
      | none => none
    | none => none

def resL (G : Glob) (e : Env) (s : St) : List ResultVar → Option (List AV)
  | [] => some []
  | r :: l => match resA G e s r with
    | some v => match resL G e s l with
      | some vs => some (v :: vs)
      | none => none
    | none => none

def one : List AV → AV
  | [v] => v
  | vs => .tup vs

def endK (G : Glob) (F : Fx) (rs : List ResultVar) : Out → Env → St → Option Res := fun o e s =>
  match o with
  | .exit _ => none
  | _ => match resL G e s rs with
    | some vs =>
      match packW (wideOf F) F.n [one vs] s with
      | (vs, s) => some ⟨.ret, vs, s⟩
    | none => none

/-- What a function answers at these arguments, in this state. -/
def execFn (G : Glob) (loops : Nat → Option LoopSpec) (fn : Func) (args : List AV) (s : St) : Option Res :=
  match fn.body with
  | none => none
  | some c =>
    let F : Fx := ⟨s.length, args.length + (fn.ntmps - args.length), loops⟩
    exec G F c (endK G F fn.results.toList) (args ++ deads (fn.ntmps - args.length)) s

end

end Go.VE
