/- The abstract interpreter: its values, its state, its steps. Nothing here speaks of a program. -/
import Derived.Calls
namespace Go.VE
noncomputable section

/-! Strings are compared behind names that nothing unfolds. -/

theorem strLess_ex : ∃ f : ByteArray → ByteArray → Bool, ∀ x y, f x y = Op.bytesLess x.toList y.toList := ⟨fun x y => Op.bytesLess x.toList y.toList, fun _ _ => rfl⟩
def strLess : ByteArray → ByteArray → Bool := Classical.choose strLess_ex
theorem strLess_eq (x y : ByteArray) : strLess x y = Op.bytesLess x.toList y.toList := Classical.choose_spec strLess_ex x y
theorem strEq_ex : ∃ f : ByteArray → ByteArray → Bool, ∀ x y, f x y = (x.toList == y.toList) := ⟨fun x y => x.toList == y.toList, fun _ _ => rfl⟩
def strEq : ByteArray → ByteArray → Bool := Classical.choose strEq_ex
theorem strEq_eq (x y : ByteArray) : strEq x y = (x.toList == y.toList) := Classical.choose_spec strEq_ex x y

/-- Kinds of data: what a slice's cells, a field, a variable may hold. A struct of two or more fields is a chain of pairs. -/
inductive Ty where
  | int (k : IntKind)
  | bool
  | str
  | pair (a b : Ty)
  | slice (e : Ty)
  deriving DecidableEq

@[reducible] def Ty.D : Ty → Type
  | .int _ => Int
  | .bool => Bool
  | .str => ByteArray
  | .pair a b => a.D × b.D
  | .slice e => List e.D

def Ty.size : Ty → Nat
  | .pair a b => a.size + b.size
  | _ => 1

def Ty.isPair : Ty → Bool
  | .pair _ _ => true
  | _ => false

/-- No slice in it. -/
def Ty.flat : Ty → Bool
  | .pair a b => a.flat && b.flat
  | .slice _ => false
  | _ => true

def Ty.zero : (T : Ty) → T.D
  | .int _ => (0 : Int)
  | .bool => false
  | .str => (⟨#[]⟩ : ByteArray)
  | .pair a b => (a.zero, b.zero)
  | .slice _ => []

inductive AV where
  | int (k : IntKind) (n : Int)
  | bool (b : Bool)
  | str (s : ByteArray)
  | lst (e : Ty) (xs : List e.D)
  | nilS
  | own (r : Nat)
  | bp (b off : Nat)
  | ep (r i off : Nat)
  | win (r lo : Nat)
  | ip (T : Ty) (x : T.D) (off : Nat)
  | fn (f : Nat) (caps : List AV)
  | agg (cs : List AV)
  | tup (vs : List AV)
  | dead

inductive Rg where
  | box (cs : List AV)
  | arr (e : Ty) (xs : List e.D)
  | frz (e : Ty) (xs : List e.D)
  | gone

abbrev St := List Rg
abbrev Env := List AV

inductive Out where
  | norm
  | exit (id : Nat)
  | ret

structure Res where
  o : Out
  vs : List AV
  st : St

abbrev K1 := AV → St → Option Res

def getE : Env → Nat → AV
  | [], _ => .dead
  | a :: _, 0 => a
  | _ :: l, n + 1 => getE l n

def setE : Env → Nat → AV → Env
  | [], _, _ => []
  | _ :: l, 0, v => v :: l
  | a :: l, n + 1, v => a :: setE l n v

def getR : St → Nat → Rg
  | [], _ => .gone
  | a :: _, 0 => a
  | _ :: l, n + 1 => getR l n

def setR : St → Nat → Rg → St
  | [], _, _ => []
  | _ :: l, 0, v => v :: l
  | a :: l, n + 1, v => a :: setR l n v

def Ty.cells : (T : Ty) → T.D → List AV
  | .int k, n => [.int k n]
  | .bool, b => [.bool b]
  | .str, s => [.str s]
  | .pair a b, x => a.cells x.1 ++ b.cells x.2
  | .slice e, xs => [.lst e xs]

def Ty.zcells : Ty → List AV
  | .int k => [.int k 0]
  | .bool => [.bool false]
  | .str => [.str ⟨#[]⟩]
  | .pair a b => a.zcells ++ b.zcells
  | .slice _ => [.nilS]

def castL {e e' : Ty} (h : e' = e) (xs : List e'.D) : List e.D := h ▸ xs

/-- A slice's content, where it is known. -/
def sliceOf (s : St) (e : Ty) : AV → Option (List e.D)
  | .lst e' xs => if h : e' = e then some (castL h xs) else none
  | .nilS => some []
  | .own r => match getR s r with
    | .arr e' xs => if h : e' = e then some (castL h xs) else none
    | .frz e' xs => if h : e' = e then some (castL h xs) else none
    | _ => none
  | .win r lo => match getR s r with
    | .arr e' xs => if h : e' = e then some (castL h (xs.drop lo)) else none
    | _ => none
  | _ => none

/-- Data out of cells. -/
def Ty.take (s : St) : (T : Ty) → List AV → Option (T.D × List AV)
  | .int k, .int k' n :: r => if k' = k then some (n, r) else none
  | .bool, .bool b :: r => some (b, r)
  | .str, .str t :: r => some (t, r)
  | .pair a b, l => match a.take s l with
    | some (x, r) => match b.take s r with
      | some (y, r') => some ((x, y), r')
      | none => none
    | none => none
  | .slice e, v :: r => match sliceOf s e v with
    | some xs => some (xs, r)
    | none => none
  | _, _ => none

def Ty.data (s : St) (T : Ty) (cs : List AV) : Option T.D :=
  match T.take s cs with
  | some (x, []) => some x
  | _ => none

def AV.cells : AV → List AV
  | .agg cs => cs
  | v => [v]

/-- A value that may be stored, cell by cell. -/
def AV.okCell : AV → Bool
  | .agg _ => false
  | .tup _ => false
  | .dead => false
  | _ => true

def okCells : List AV → Bool
  | [] => true
  | a :: l => a.okCell && okCells l

def AV.cells? : AV → Option (List AV)
  | .agg cs => bif okCells cs then some cs else none
  | .tup _ => none
  | .dead => none
  | v => some [v]

/-- A variable's value out of its cells. -/
def ofCells (agg : Bool) (cs : List AV) : Option AV :=
  match agg, cs with
  | true, cs => some (.agg cs)
  | false, [c] => some c
  | _, _ => none

/-- The data of a kind, as a value. -/
@[reducible] def Ty.toAV (agg : Bool) (T : Ty) (x : T.D) : AV :=
  match agg, T.cells x with
  | true, cs => .agg cs
  | false, [c] => c
  | false, _ => .dead

mutual
def AV.refs : AV → List Nat
  | .own r => [r]
  | .bp b _ => [b]
  | .ep r _ _ => [r]
  | .win r _ => [r]
  | .fn _ caps => refsL caps
  | .agg cs => refsL cs
  | .tup vs => refsL vs
  | _ => []
def refsL : List AV → List Nat
  | [] => []
  | a :: l => a.refs ++ refsL l
end

/-- Slices that are owned, among cells. -/
def ownIds : List AV → List Nat
  | [] => []
  | .own r :: l => r :: ownIds l
  | .win r _ :: l => r :: ownIds l
  | _ :: l => ownIds l

def freeze1 (s : St) (r : Nat) : St :=
  match getR s r with
  | .arr e xs => setR s r (.frz e xs)
  | _ => s

def freeze (s : St) : List Nat → St
  | [] => s
  | r :: l => freeze (freeze1 s r) l

mutual
def AV.hasLst : AV → Bool
  | .lst _ _ => true
  | .ip _ _ _ => true
  | .fn _ caps => hasLstL caps
  | .agg cs => hasLstL cs
  | .tup vs => hasLstL vs
  | _ => false
def hasLstL : List AV → Bool
  | [] => false
  | a :: l => a.hasLst || hasLstL l
end

def Rg.hasLst : Rg → Bool
  | .box cs => hasLstL cs
  | .frz _ _ => true
  | .arr e _ => !e.flat
  | .gone => false

/-- The place of r in a list of ids. -/
def idx (r : Nat) : List Nat → Option Nat
  | [] => none
  | a :: l => if a = r then some 0 else match idx r l with
    | some n => some (n + 1)
    | none => none

/-- The regions that are reached, in the order in which they are met. -/
def reach (s : St) : Nat → List Nat → List Nat → List Nat
  | 0, _, acc => acc
  | _, [], acc => acc
  | n + 1, r :: w, acc =>
    match idx r acc with
    | some _ => reach s n w acc
    | none => match getR s r with
      | .box cs => reach s n (w ++ refsL cs) (acc ++ [r])
      | .arr _ _ => reach s n w (acc ++ [r])
      | _ => reach s n w acc

mutual
def AV.ren (s : St) (ids : List Nat) : AV → AV
  | .own r => match getR s r with
    | .frz e xs => .lst e xs
    | _ => match idx r ids with
      | some j => .own j
      | none => .dead
  | .bp b off => match idx b ids with
    | some j => .bp j off
    | none => .dead
  | .ep r i off => match idx r ids with
    | some j => .ep j i off
    | none => .dead
  | .win r lo => match idx r ids with
    | some j => .win j lo
    | none => .dead
  | .fn f caps => .fn f (renL s ids caps)
  | .agg cs => .agg (renL s ids cs)
  | .tup vs => .tup (renL s ids vs)
  | v => v
def renL (s : St) (ids : List Nat) : List AV → List AV
  | [] => []
  | a :: l => a.ren s ids :: renL s ids l
end

def Rg.ren (s : St) (ids : List Nat) : Rg → Rg
  | .box cs => .box (renL s ids cs)
  | g => g

def restrict (s : St) (ids all : List Nat) : St :=
  match ids with
  | [] => []
  | r :: l => (getR s r).ren s all :: restrict s l all

/-- Names of a callee's regions, told in the caller's. -/
def back (ids : List Nat) (n : Nat) : Nat → Nat := fun j =>
  match ids, j with
  | [], j => n + j
  | r :: _, 0 => r
  | _ :: l, j + 1 => back l n j

mutual
def AV.ren2 (f : Nat → Nat) : AV → AV
  | .own r => .own (f r)
  | .bp b off => .bp (f b) off
  | .ep r i off => .ep (f r) i off
  | .win r lo => .win (f r) lo
  | .fn g caps => .fn g (renL2 f caps)
  | .agg cs => .agg (renL2 f cs)
  | .tup vs => .tup (renL2 f vs)
  | v => v
def renL2 (f : Nat → Nat) : List AV → List AV
  | [] => []
  | a :: l => a.ren2 f :: renL2 f l
end

def Rg.ren2 (f : Nat → Nat) : Rg → Rg
  | .box cs => .box (renL2 f cs)
  | g => g

/-- What the callee left of the caller's regions, written back; its new ones behind. -/
def merge (s : St) (f : Nat → Nat) : List Nat → St → St
  | [], sub => s ++ sub.map (Rg.ren2 f)
  | r :: l, g :: sub => merge (setR s r (g.ren2 f)) f l sub
  | _ :: _, [] => s

structure Glob where
  eqt : Nat → Bool
  ty : Nat → Option (Bool × Ty)
  fld : Nat → Nat → Option (Nat × Bool × Ty)
  call : Nat → List AV → St → K1 → Option Res
  inPlace : Nat → Bool
  one : Nat → Bool

structure LoopSpec where
  keep : List Nat
  wide : List (Option Ty)
  L : List AV → St → (Out → List AV → St → Option Res) → Option Res

/-- An argument as the callee is to have it: data in its plain form; what is owned is told beside. -/
def canonArg (ty : Nat → Option (Bool × Ty)) (s : St) (t : Nat) (v : AV) : Option (AV × List Nat) :=
  match ty t with
  | none => some (v, [])
  | some (true, T) => match v with
    | .agg cs => match T.data s cs with
      | some x => some (.agg (T.cells x), ownIds cs)
      | none => none
    | _ => none
  | some (false, T) => match v with
    | .agg _ => none
    | v => match T.data s [v] with
      | some x => match T.cells x with
        | [c] => some (c, ownIds [v])
        | _ => none
      | none => none

def canonArgs (ty : Nat → Option (Bool × Ty)) (s : St) : List Nat → List AV → Option (List AV × List Nat)
  | [], [] => some ([], [])
  | t :: ts, v :: vs => match canonArg ty s t v with
    | none => none
    | some (a, l) => match canonArgs ty s ts vs with
      | none => none
      | some (as, l') => some (a :: as, l ++ l')
  | _, _ => none

/-- Of ids those that are live arrays. -/
def liveIds (s : St) : List Nat → List Nat
  | [] => []
  | r :: l => match getR s r with
    | .arr _ _ => r :: liveIds s l
    | _ => liveIds s l

def meets : List Nat → List Nat → Bool
  | [], _ => false
  | r :: l, m => (idx r m).isSome || meets l m

def anyLst : St → Bool
  | [] => false
  | g :: s => g.hasLst || anyLst s

def callWith (G : Glob) (f : Nat) (args : List AV) (seen : List Nat) (s : St) (k : K1) : Option Res :=
  let ids := reach s 64 (refsL args) []
  bif meets seen ids then none else
  G.call f (renL s ids args) (restrict s ids ids) fun v sub =>
    let b := back ids s.length
    let s1 := merge s b ids sub
    match seen with
    | [] => k (v.ren2 b) s1
    | _ => bif v.hasLst || anyLst sub then k (v.ren2 b) (freeze s1 seen) else k (v.ren2 b) s1

def callStep (G : Glob) (f : Nat) (ts : List Nat) (args caps : List AV) (s : St) (k : K1) : Option Res :=
  bif G.inPlace f then callWith G f (args ++ caps) [] s k else
  match canonArgs G.ty s ts args with
  | none => none
  | some (as, seen) => callWith G f (as ++ caps) (liveIds s seen) s k


/-! ### The operations -/

def ofConst0 : Value → AV
  | .int k n => .int k n
  | .bool b => .bool b
  | .string s => .str s
  | .slice none 0 0 => .nilS
  | _ => .dead

def ofConst : Value → AV
  | .agg cs => .agg (cs.toList.map ofConst0)
  | v => ofConst0 v

def ev (e : Env) : Operand → AV
  | .tmp t => getE e t
  | .const v => ofConst v
  | .func f => .fn f []
  | .global _ => .dead

def evs (e : Env) : List Operand → List AV
  | [] => []
  | x :: l => ev e x :: evs e l

def cut (off n : Nat) (cs : List AV) : Option (List AV) :=
  if off + n ≤ cs.length then some ((cs.drop off).take n) else none

def loadCs (s : St) (a : AV) (n : Nat) : Option (List AV) :=
  match a with
  | .bp b off => match getR s b with
    | .box cs => cut off n cs
    | _ => none
  | .ep r i off => match getR s r with
    | .arr e xs => cut off n (e.cells (xs.getD i e.zero))
    | _ => none
  | .ip T x off => cut off n (T.cells x)
  | _ => none

def splice (off : Nat) (new cs : List AV) : Option (List AV) :=
  if off + new.length ≤ cs.length then some (cs.take off ++ new ++ cs.drop (off + new.length)) else none

def storeCs (s : St) (a : AV) (new : List AV) : Option St :=
  match a with
  | .bp b off => match getR s b with
    | .box cs => match splice off new cs with
      | some cs' => some (setR s b (.box cs'))
      | none => none
    | _ => none
  | .ep r i off => match getR s r with
    | .arr e xs => match splice off new (e.cells (xs.getD i e.zero)) with
      | some cs' => match idx r (ownIds new) with
        | some _ => none
        | none => match e.data s cs' with
          | some x => some (setR (freeze s (ownIds new)) r (.arr e (xs.set i x)))
          | none => none
      | none => none
    | _ => none
  | _ => none

def intOp (op : BinOp) (k : IntKind) (a b : Int) (K : AV → Option Res) : Option Res :=
  match op with
  | .add => K (.int k (k.wrap (a + b)))
  | .sub => K (.int k (k.wrap (a - b)))
  | .mul => K (.int k (k.wrap (a * b)))
  | .quo => if b = 0 then none else K (.int k (k.wrap (a.tdiv b)))
  | .rem => if b = 0 then none else K (.int k (a.tmod b))
  | .and => K (.int k (k.wrap (BitVec.ofInt k.bits a &&& BitVec.ofInt k.bits b).toNat))
  | .or => K (.int k (k.wrap (BitVec.ofInt k.bits a ||| BitVec.ofInt k.bits b).toNat))
  | .xor => K (.int k (k.wrap (BitVec.ofInt k.bits a ^^^ BitVec.ofInt k.bits b).toNat))
  | .eql => K (.bool (a == b))
  | .neq => K (.bool (a != b))
  | .lss => K (.bool (decide (a < b)))
  | .leq => K (.bool (decide (a ≤ b)))
  | .gtr => K (.bool (decide (a > b)))
  | .geq => K (.bool (decide (a ≥ b)))
  | _ => none

def shiftOp (op : BinOp) (k : IntKind) (a b : Int) (K : AV → Option Res) : Option Res :=
  match op with
  | .shl => if b < 0 then none else K (.int k (k.wrap (a * 2 ^ (min b.toNat k.bits))))
  | .shr => if b < 0 then none else K (.int k (a.fdiv (2 ^ (min b.toNat k.bits))))
  | _ => none

def strOp (op : BinOp) (x y : ByteArray) (K : AV → Option Res) : Option Res :=
  match op with
  | .add => if x.size + y.size ≤ 1099511627776 then K (.str (x ++ y)) else none
  | .eql => K (.bool (strEq x y))
  | .neq => K (.bool !(strEq x y))
  | .lss => K (.bool (strLess x y))
  | .leq => K (.bool (strLess x y || strEq x y))
  | .gtr => K (.bool !(strLess x y || strEq x y))
  | .geq => K (.bool !(strLess x y))
  | _ => none

/-- '==' of two structs without slices in them. -/
def Ty.eqB : (T : Ty) → T.D → T.D → Bool
  | .int _, a, b => a == b
  | .bool, a, b => a == b
  | .str, a, b => strEq a b
  | .pair a b, x, y => a.eqB x.1 y.1 && b.eqB x.2 y.2
  | .slice _, _, _ => false

def eqA (op : BinOp) (T : Ty) (s : St) (x y : AV) (K : AV → Option Res) : Option Res :=
  match x, y with
  | .agg l, .agg m => match T.data s l, T.data s m with
    | some a, some b => match op with
      | .eql => K (.bool (T.eqB a b))
      | .neq => K (.bool !(T.eqB a b))
      | _ => none
    | _, _ => none
  | _, _ => none

def binA (isB : Bool) (op : BinOp) (x y : AV) (K : AV → Option Res) : Option Res :=
  match x, y with
  | .int k a, .int k' b => match op with
    | .shl => shiftOp op k a b K
    | .shr => shiftOp op k a b K
    | _ => if k = k' then intOp op k a b K else none
  | .str a, .str b => strOp op a b K
  | .bool a, .bool b => match isB, op with
    | true, .eql => K (.bool (a == b))
    | true, .neq => K (.bool !(a == b))
    | _, _ => none
  | _, _ => none

def bytesOf : List Int → ByteArray
  | l => l.foldl (fun s n => s.push (UInt8.ofNat n.toNat)) .empty

def intsOf (s : ByteArray) : List Int := s.data.toList.map fun b => (b.toNat : Int)

/-- What an appended value holds, and the arrays that it owns. -/
def srcOf (s : St) (e : Ty) (v : AV) : Option (List e.D) :=
  match v with
  | .str t => if h : Ty.int .u8 = e then some (castL h (intsOf t)) else none
  | v => sliceOf s e v

def maxLen : Nat := 4294967296

/-- 'append': only onto what is owned, or has no room. -/
def appendA (s : St) (e : Ty) (d x : AV) (k : K1) : Option Res :=
  match d with
  | .nilS => match srcOf s e x with
    | some ys => if ys.length ≤ maxLen then k (.own s.length) (s ++ [.arr e ys]) else none
    | none => none
  | .own r => match getR s r with
    | .arr e' xs => if h : e' = e then match idx r x.refs with
        | some _ => none
        | none => match srcOf s e x with
          | some ys => if xs.length + ys.length ≤ maxLen then k (.own s.length) (setR s r .gone ++ [.arr e (castL h xs ++ ys)]) else none
          | none => none
      else none
    | _ => none
  | _ => none

def fillA : List (Nat × AV) → (Nat → Option (Nat × Nat)) → List AV → Option (List AV)
  | [], _, cs => some cs
  | (i, v) :: l, pl, cs => match pl i, v.cells? with
    | some (off, n), some vc => if vc.length = n then match splice off vc cs with
        | some cs' => fillA l pl cs'
        | none => none
      else none
    | _, _ => none

def replCells : Nat → List AV → List AV
  | 0, _ => []
  | n + 1, cs => cs ++ replCells n cs

/-- Elements out of cells. -/
def elems (s : St) (e : Ty) : Nat → List AV → Option (List e.D)
  | 0, [] => some []
  | 0, _ => none
  | n + 1, cs => match e.take s cs with
    | some (x, r) => match elems s e n r with
      | some xs => some (x :: xs)
      | none => none
    | none => none

def sliceA (T : Ty) (s : St) (x : AV) (lo hi : Option AV) (k : K1) : Option Res :=
  match (match lo with | none => some (0 : Int) | some (.int _ n) => some n | _ => none) with
  | none => none
  | some l => match T, x with
    | .str, .str t =>
      match (match hi with | none => some (t.size : Int) | some (.int _ n) => some n | _ => none) with
      | none => none
      | some h => if 0 ≤ l ∧ l ≤ h ∧ h ≤ (t.size : Int) then k (.str (t.extract l.toNat h.toNat)) s else none
    | .slice T', .lst e xs =>
      if e.size = T'.size then
      match (match hi with | none => some (xs.length : Int) | some (.int _ n) => some n | _ => none) with
      | none => none
      | some h => if 0 ≤ l ∧ l ≤ h ∧ h ≤ (xs.length : Int) then k (.lst e ((xs.take h.toNat).drop l.toNat)) s else none
      else none
    | .slice T', .own r => match getR s r with
      | .arr e xs =>
        if e.size = T'.size then
        match lo, hi with
        | some _, none => if 0 ≤ l ∧ l ≤ (xs.length : Int) then k (.win r l.toNat) s else none
        | none, some (.int _ h) => if 0 ≤ h ∧ h ≤ (xs.length : Int) then k (.own s.length) (setR s r .gone ++ [.arr e (xs.take h.toNat)]) else none
        | _, _ => match (match hi with | none => some (xs.length : Int) | some (.int _ n) => some n | _ => none) with
        | none => none
        | some h => if 0 ≤ l ∧ l ≤ h ∧ h ≤ (xs.length : Int) then k (.lst e ((xs.take h.toNat).drop l.toNat)) (setR s r (.frz e xs)) else none
        else none
      | .frz e xs =>
        if e.size = T'.size then
        match (match hi with | none => some (xs.length : Int) | some (.int _ n) => some n | _ => none) with
        | none => none
        | some h => if 0 ≤ l ∧ l ≤ h ∧ h ≤ (xs.length : Int) then k (.lst e ((xs.take h.toNat).drop l.toNat)) s else none
        else none
      | _ => none
    | .slice _, .nilS =>
      match (match hi with | none => some (0 : Int) | some (.int _ n) => some n | _ => none) with
      | none => none
      | some h => if 0 ≤ l ∧ l ≤ h ∧ h ≤ 0 then k .nilS s else none
    | _, _ => none

def bt (s : ByteArray) (i : Int) : Int := ((s.data.getD i.toNat 0).toNat : Int)

def rd {α : Type} (d : α) (xs : List α) (i : Int) : α := xs.getD i.toNat d

def indexAddrA (T : Ty) (s : St) (x i : AV) (k : K1) : Option Res :=
  match i with
  | .int _ n => match x with
    | .lst e xs => if e.size = T.size then (if 0 ≤ n ∧ n < (xs.length : Int) then k (.ip e (rd e.zero xs n) 0) s else none) else none
    | .own r => match getR s r with
      | .arr e xs => if e.size = T.size then (if 0 ≤ n ∧ n < (xs.length : Int) then k (.ep r n.toNat 0) s else none) else none
      | .frz e xs => if e.size = T.size then (if 0 ≤ n ∧ n < (xs.length : Int) then k (.ip e (rd e.zero xs n) 0) s else none) else none
      | _ => none
    | .win r lo => match getR s r with
      | .arr e xs => if e.size = T.size then (if 0 ≤ n ∧ n < (xs.length : Int) - (lo : Int) then k (.ep r (lo + n.toNat) 0) s else none) else none
      | _ => none
    | _ => none
  | _ => none

def lenA (s : St) (x : AV) : Option Int :=
  match x with
  | .str t => some (t.size : Int)
  | .lst _ xs => some (xs.length : Int)
  | .nilS => some 0
  | .own r => match getR s r with
    | .arr _ xs => some (xs.length : Int)
    | .frz _ xs => some (xs.length : Int)
    | _ => none
  | .win r lo => match getR s r with
    | .arr _ xs => some ((xs.length : Int) - (lo : Int))
    | _ => none
  | _ => none

def minA : List AV → Option AV
  | [.int k a, .int k' b] => if k = k' then some (.int k (if b < a then b else a)) else none
  | _ => none

def maxA : List AV → Option AV
  | [.int k a, .int k' b] => if k = k' then some (.int k (if b > a then b else a)) else none
  | _ => none

/-- 'append(s, make([]T, n)...)' onto what holds nothing. -/
def zerosA (s : St) (e : Ty) (d x : AV) (k : K1) : Option Res :=
  match d, x with
  | .nilS, .int _ n => if 0 ≤ n ∧ n ≤ (maxLen : Int) then k (.own s.length) (s ++ [.arr e (List.replicate n.toNat e.zero)]) else none
  | _, _ => none

/-- 'clear' of a slice. -/
def clearA (s : St) (T : Ty) (x : AV) (k : K1) : Option Res :=
  match x with
  | .nilS => k .dead s
  | .win r lo => match getR s r with
    | .arr e xs => if e = T then k .dead (setR s r (.arr e (xs.take lo ++ List.replicate (xs.length - lo) e.zero))) else none
    | _ => none
  | _ => none

def builtinA (G : Glob) (b : Builtin) (ts : List Nat) (args : List AV) (s : St) (k : K1) : Option Res :=
  match b, ts, args with
  | .len, [t], [x] => match G.ty t, lenA s x with
    | some (false, .str), some n => match x with
      | .str _ => k (.int .i64 n) s
      | _ => none
    | some (false, .slice _), some n => match x with
      | .str _ => none
      | _ => k (.int .i64 n) s
    | _, _ => none
  | .append, [t, t'], [d, x] => match G.ty t with
    | some (false, .slice e) => match G.ty t' with
      | some (false, .int _) => zerosA s e d x k
      | some (true, .int _) => none
      | none => none
      | _ => appendA s e d x k
    | _ => none
  | .cap, [t], [.nilS] => match G.ty t with
    | some (false, .slice _) => k (.int .i64 0) s
    | _ => none
  | .clear, [t], [x] => match G.ty t with
    | some (false, .slice e) => clearA s e x k
    | _ => none
  | .min, _, args => match minA args with
    | some v => k v s
    | none => none
  | .max, _, args => match maxA args with
    | some v => k v s
    | none => none
  | _, _, _ => none

def convertA (G : Glob) (src dst : Nat) (x : AV) (s : St) (k : K1) : Option Res :=
  match G.ty src with
  | none => none
  | some (sa, S) => match G.ty dst with
  | some (false, .int kd) => match x with
    | .int _ n => k (.int kd (kd.wrap n)) s
    | _ => none
  | some (false, .str) => match x with
    | .str t => k (.str t) s
    | .int _ _ => none
    | x => match sa, S with
      | false, .slice (.int .u8) => match sliceOf s (.int .u8) x with
        | some xs => k (.str (bytesOf xs)) s
        | none => none
      | _, _ => none
  | _ => none

def execOp1 (G : Glob) (o : Op) (e : Env) (s : St) (k : K1) : Option Res :=
  match o with
  | .move x => k (ev e x) s
  | .assign x => k (ev e x) s
  | .pick c a b => match ev e c with
    | .bool t => bif t then k (ev e a) s else k (ev e b) s
    | _ => none
  | .alloc t => match G.ty t with
    | some (_, T) => k (.bp s.length 0) (s ++ [.box T.zcells])
    | none => bif G.one t then k (.bp s.length 0) (s ++ [.box [.dead]]) else none
  | .box _ v => match (ev e v).cells? with
    | some cs => k (.bp s.length 0) (s ++ [.box cs])
    | none => none
  | .build t parts => match G.ty t with
    | some (true, T) => match fillA (parts.toList.map fun p => (p.1, ev e p.2)) (fun i => match G.fld t i with | some (off, _, T) => some (off, T.size) | none => none) T.zcells with
      | some cs => k (.agg cs) s
      | none => none
    | _ => none
  | .buildSlice t n parts => match G.ty t with
    | some (false, .slice el) => match fillA (parts.toList.map fun p => (p.1, ev e p.2)) (fun i => some (i * el.size, el.size)) (replCells n el.zcells) with
      | some cs => match elems s el n cs with
        | some xs => if n * el.size ≤ 16777216 then k (.own s.length) (freeze s (ownIds cs) ++ [.arr el xs]) else none
        | none => none
      | none => none
    | _ => none
  | .load t a => match G.ty t with
    | some (ag, T) => match loadCs s (ev e a) T.size with
      | some cs => match ofCells ag cs with
        | some v => k v s
        | none => none
      | none => none
    | none => bif G.one t then (match loadCs s (ev e a) 1 with
      | some [c] => k c s
      | _ => none) else none
  | .store t a v => match G.ty t with
    | some (_, T) => match (ev e v).cells? with
      | some cs => if cs.length = T.size then match storeCs s (ev e a) cs with
        | some s' => k .dead s'
        | none => none
        else none
      | none => none
    | none => bif G.one t then (match (ev e v).cells? with
      | some [c] => match storeCs s (ev e a) [c] with
        | some s' => k .dead s'
        | none => none
      | _ => none) else none
  | .nilCheck x => match ev e x with
    | .bp b o => k (.bp b o) s
    | .ep r i o => match getR s r with
      | .arr _ _ => k (.ep r i o) s
      | _ => none
    | .ip T x o => k (.ip T x o) s
    | .fn f c => k (.fn f c) s
    | _ => none
  | .binOp op t x y _ => match G.ty t with
    | none => none
    | some (true, T) => bif G.eqt t && T.flat then eqA op T s (ev e x) (ev e y) (fun v => k v s) else none
    | some (false, .bool) => match ev e x with
      | .agg _ => none
      | _ => binA true op (ev e x) (ev e y) fun v => k v s
    | some (false, .pair _ _) => none
    | some (false, .slice _) => none
    | some (false, _) => match ev e x with
      | .agg _ => none
      | _ => binA false op (ev e x) (ev e y) fun v => k v s
  | .unOp op _ x => match op, ev e x with
    | .not, .bool b => k (.bool !b) s
    | .neg, .int kd n => k (.int kd (kd.wrap (0 - n))) s
    | _, _ => none
  | .convert src dst x => convertA G src dst (ev e x) s k
  | .makeFunc fn first caps => match fn, first.toList with
    | .func f, [] => k (.fn f (evs e caps.toList)) s
    | _, _ => none
  | .makeSlice t l c => match G.ty t, ev e l, ev e c with
    | some (false, .slice el), .int .i64 n, .int .i64 m => if 0 ≤ n ∧ n ≤ m ∧ m ≤ (maxLen : Int) then k (.own s.length) (s ++ [.arr el (List.replicate n.toNat el.zero)]) else none
    | _, _, _ => none
  | .slice t x lo hi mx => match G.ty t, mx with
    | some (false, T), none => sliceA T s (ev e x) (lo.map (ev e)) (hi.map (ev e)) k
    | _, _ => none
  | .fieldAddr t x f => match G.fld t f with
    | some (off, _, _) => match ev e x with
      | .bp b o => k (.bp b (o + off)) s
      | .ep r i o => match getR s r with
        | .arr _ _ => k (.ep r i (o + off)) s
        | _ => none
      | .ip T x o => k (.ip T x (o + off)) s
      | _ => none
    | none => none
  | .field t x f => match G.fld t f with
    | some (off, ag, T) => match ev e x with
      | .agg cs => match cut off T.size cs with
        | some c => match ofCells ag c with
          | some v => k v s
          | none => none
        | none => none
      | _ => none
    | none => none
  | .indexAddr t x i => match G.ty t with
    | some (false, .slice T) => indexAddrA T s (ev e x) (ev e i) k
    | _ => none
  | .index t x i => match G.ty t with
    | some (false, .str) => match ev e x, ev e i with
      | .str t, .int _ n => if 0 ≤ n ∧ n < (t.size : Int) then k (.int .u8 (bt t n)) s else none
      | _, _ => none
    | _ => none
  | .extract x i => match ev e x with
    | .tup vs => if i < vs.length then k (getE vs i) s else none
    | _ => none
  | .call c => match c.callee with
    | .builtin b => builtinA G b c.argTypes.toList (evs e c.args.toList) s k
    | .value f => match ev e f with
      | .fn g caps => callStep G g c.argTypes.toList (evs e c.args.toList) caps s k
      | _ => none
    | _ => none
  | _ => none

def dstOf (ops : List Oper) (j : Nat) : Option Tmp :=
  match ops, j with
  | [], _ => none
  | o :: _, 0 => o.dst
  | _ :: l, j + 1 => dstOf l j

def put (e : Env) (d : Option Tmp) (v : AV) : Env :=
  match d with
  | some t => setE e t v
  | none => e

def iota : Nat → Nat → List Nat
  | _, 0 => []
  | a, n + 1 => a :: iota (a + 1) n

def boxRefs (s : St) : List Nat → List Nat
  | [] => []
  | r :: l => (match getR s r with | .box cs => refsL cs | _ => []) ++ boxRefs s l

/-- The values that are kept, and what they reach; the first n regions keep their places. -/
def pack (n : Nat) (vs : List AV) (s : St) : List AV × St :=
  let ids := reach s 64 (boxRefs s (iota 0 n) ++ refsL vs) (iota 0 n)
  (renL s ids vs, restrict s ids ids)

/-! To tell a nil slice as an empty one that is owned, at places that are told. -/

/-- A place at which a slice that is read alone is forgotten. -/
def isBlk : Ty → Bool
  | .slice (.slice .str) => true
  | _ => false

mutual
def AV.wide (n : Nat) : AV → List (Option Ty) → AV × List (Option Ty) × List Ty
  | .nilS, some e :: ws => (.own n, ws, [e])
  | .lst e xs, some t :: ws => (bif isBlk t then .dead else .lst e xs, ws, [])
  | .agg cs, ws => match wideL n cs ws with
    | (cs', r) => (.agg cs', r)
  | .tup cs, ws => match wideL n cs ws with
    | (cs', r) => (.tup cs', r)
  | v, ws => (v, ws.tail, [])
def wideL (n : Nat) : List AV → List (Option Ty) → List AV × List (Option Ty) × List Ty
  | [], ws => ([], ws, [])
  | v :: l, ws => match v.wide n ws with
    | (v', ws', ts) => match wideL (n + ts.length) l ws' with
      | (l', ws2, ts2) => (v' :: l', ws2, ts ++ ts2)
end

def wideS (n : Nat) : St → List (Option Ty) → St × List Ty
  | [], _ => ([], [])
  | .box cs :: l, ws => match wideL n cs ws with
    | (cs', ws', ts) => match wideS (n + ts.length) l ws' with
      | (l', ts2) => (.box cs' :: l', ts ++ ts2)
  | g :: l, ws => match wideS n l ws with
    | (l', ts) => (g :: l', ts)

def newOwn : List Ty → St
  | [] => []
  | e :: l => .arr e [] :: newOwn l

def widen (ws : List (Option Ty)) (vs : List AV) (s : St) : List AV × St :=
  match ws with
  | [] => (vs, s)
  | _ => match wideL s.length vs ws with
    | (vs', ws', ts) => match wideS (s.length + ts.length) s ws' with
      | (s', ts2) => (vs', s' ++ newOwn (ts ++ ts2))

/-- A mark ahead of the places: all is to be read alone from here on. -/
def isMark : Option Ty → Bool
  | some (.slice (.slice .bool)) => true
  | _ => false

def packW (ws : List (Option Ty)) (n : Nat) (vs : List AV) (s : St) : List AV × St :=
  match ws with
  | [] => pack n vs s
  | w :: ws => match pack n vs s with
    | (vs', s') => bif isMark w then (match widen ws vs' s' with
        | (v2, s2) => pack n v2 (freeze s2 (iota 0 s2.length)))
      else (match widen (w :: ws) vs' s' with
        | (v2, s2) => pack n v2 s2)

def getEs (e : Env) : List Nat → List AV
  | [] => []
  | t :: l => getE e t :: getEs e l

def setEs (e : Env) : List Nat → List AV → Env
  | t :: l, v :: vs => setEs (setE e t v) l vs
  | _, _ => e

def deads : Nat → Env
  | 0 => []
  | n + 1 => .dead :: deads n

structure Fx where
  n : Nat
  nt : Nat
  loops : Nat → Option LoopSpec

end

end Go.VE
