/- The abstract interpreter: regions, code, functions. -/
import Derived.Test.YtpljjegocfmbeaaGreatV17
import Derived.OrdersHeld
import Derived.LoopN
namespace Go.VE
set_option linter.unusedVariables false
noncomputable section

def subIds : List Nat → List Nat → Bool
  | [], _ => true
  | r :: l, m => (idx r m).isSome && subIds l m

def boxAt (s : St) (r : Nat) : Bool :=
  match getR s r with
  | .box _ => true
  | _ => false

/-- Regions that are written within keep their places: a call is handed boxes alone. -/
def keeps (o : Op) (s : St) (tch : List Nat) : Bool := !isCallV o || tch.all (boxAt s)

/-- What lives outside of these regions lives on; what is new among them lives. -/
def goesOn (wr : List Nat) (s s' : St) : Bool :=
  match wr with
  | [] => true
  | _ => (List.range s.length).all (fun r => (idx r wr).isSome || (!(getR s r).live || (getR s' r).live)) && wr.all fun r => Nat.ble (r + 1) s.length || (Nat.ble s'.length r || (getR s' r).live)

/-- One operation; chk: it must touch nothing that stood but these regions. -/
def op1 (G : Glob) (chk : Option (List Nat)) (o : Op) (e : Env) (s : St) (k : K1) : Option Res :=
  match chk with
  | some wr => bif subIds (tchOf G o e s) wr && keeps o s (tchOf G o e s) then execOp1 G o e s (fun v s' => bif goesOn wr s s' then k v s' else none) else none
  | none => execOp1 G o e s k

/-! To make a value's outer form plain before going on: it changes nothing. -/

def forceN : Nat → (Nat → Option Res) → Option Res
  | 0, k => k 0
  | n + 1, k => forceN n fun m => k (m + 1)

mutual
def forceV : AV → (AV → Option Res) → Option Res
  | .int i n, k => k (.int i n)
  | .bool b, k => k (.bool b)
  | .str s, k => k (.str s)
  | .lst e xs, k => k (.lst e xs)
  | .nilS, k => k .nilS
  | .own r, k => forceN r fun r => k (.own r)
  | .bp b o, k => forceN b fun b => forceN o fun o => k (.bp b o)
  | .ep r i o, k => forceN r fun r => forceN o fun o => k (.ep r i o)
  | .win r lo, k => forceN r fun r => k (.win r lo)
  | .ip T x o, k => forceN o fun o => k (.ip T x o)
  | .fn f caps, k => forceL caps fun caps => k (.fn f caps)
  | .agg cs, k => forceL cs fun cs => k (.agg cs)
  | .tup vs, k => forceL vs fun vs => k (.tup vs)
  | .dead, k => k .dead
def forceL : List AV → (List AV → Option Res) → Option Res
  | [], k => k []
  | a :: l, k => forceV a fun a => forceL l fun l => k (a :: l)
end

def forceG : Rg → (Rg → Option Res) → Option Res
  | .box cs, k => forceL cs fun cs => k (.box cs)
  | .arr e xs, k => k (.arr e xs)
  | .frz e xs, k => k (.frz e xs)
  | .gone, k => k .gone

def forceS : St → (St → Option Res) → Option Res
  | [], k => k []
  | g :: s, k => forceG g fun g => forceS s fun s => k (g :: s)

theorem forceN_eq : ∀ (n : Nat) (k : Nat → Option Res), forceN n k = k n
  | 0, k => rfl
  | n + 1, k => by simp only [forceN, forceN_eq n]

mutual
theorem forceV_eq : ∀ (v : AV) (k : AV → Option Res), forceV v k = k v
  | .int _ _, _ => by simp only [forceV]
  | .bool _, _ => by simp only [forceV]
  | .str _, _ => by simp only [forceV]
  | .lst _ _, _ => by simp only [forceV]
  | .nilS, _ => by simp only [forceV]
  | .own _, _ => by simp only [forceV, forceN_eq]
  | .bp _ _, _ => by simp only [forceV, forceN_eq]
  | .ep _ _ _, _ => by simp only [forceV, forceN_eq]
  | .win _ _, _ => by simp only [forceV, forceN_eq]
  | .ip _ _ _, _ => by simp only [forceV, forceN_eq]
  | .fn _ caps, _ => by simp only [forceV, forceL_eq caps]
  | .agg cs, _ => by simp only [forceV, forceL_eq cs]
  | .tup vs, _ => by simp only [forceV, forceL_eq vs]
  | .dead, _ => by simp only [forceV]
theorem forceL_eq : ∀ (l : List AV) (k : List AV → Option Res), forceL l k = k l
  | [], _ => by simp only [forceL]
  | a :: l, _ => by simp only [forceL, forceV_eq a, forceL_eq l]
end

theorem forceG_eq (g : Rg) (k : Rg → Option Res) : forceG g k = k g := by
  cases g <;> simp only [forceG, forceL_eq]

theorem forceS_eq : ∀ (s : St) (k : St → Option Res), forceS s k = k s
  | [], _ => by simp only [forceS]
  | g :: s, _ => by simp only [forceS, forceG_eq g, forceS_eq s]

def stepOp (G : Glob) (chk : Option (List Nat)) (all : List Oper) (o : Oper) (k : Env → St → Option Res) (e : Env) (s : St) : Option Res :=
  match o.guard with
  | none => op1 G chk o.op e s fun v s' => k (put e o.dst v) s'
  | some (j, want) => match dstOf all j with
    | none => none
    | some d => match getE e d with
      | .bool b =>
        bif b then forceL (setE e d (.bool true)) fun e =>
          (bif want then op1 G chk o.op e s fun v s' => k (put e o.dst v) s'
          else k (put e o.dst (.tup [])) s)
        else forceL (setE e d (.bool false)) fun e =>
          (bif want then k (put e o.dst (.tup [])) s
          else op1 G chk o.op e s fun v s' => k (put e o.dst v) s')
      | .tup [] => k (put e o.dst (.tup [])) s
      | _ => none

def execOps (G : Glob) (all : List Oper) : List Oper → (Env → St → Option Res) → Env → St → Option Res
  | [], k, e, s => k e s
  | o :: rest, k, e, s => stepOp G none all o (execOps G all rest k) e s

/-- Of those that may come up: one that may be taken first. -/
def pickQ (G : Glob) (wr : List Nat) (ops : Array Oper) (all : List Oper) (listed : Array Bool) (e : Env) (s : St) : List Nat → Option (Nat × Oper)
  | [] => none
  | i :: l => match all[i]? with
    | some o => bif isQuiet G o.op && Region.free .any ops listed i && qFar o.op e s wr then some (i, o) else pickQ G wr ops all listed e s l
    | none => pickQ G wr ops all listed e s l

def waitsOn (o : Oper) (i : Nat) : Bool := o.after.toList.any fun e => Region.binds .any e && Nat.beq e.on i

/-- Does the operation wait for all loads but itself? Behind it none is left. -/
def waitsLoads (o : Oper) (j : Nat) : Nat → List Oper → Bool
  | _, [] => true
  | i, p :: l => (!isLd p.op || (Nat.beq i j || waitsOn o i)) && waitsLoads o j (i + 1) l

def exempt (G : Glob) (all : List Oper) (j : Nat) : Bool :=
  match all[j]? with
  | some o => !isQuiet G o.op && waitsLoads o j 0 all
  | none => false

/-- Where an unguarded alloc puts its pointer. -/
def allocD (G : Glob) (o : Oper) : Option Nat :=
  match o.op, o.guard, o.dst with
  | .alloc t, none, some d => bif (G.ty t).isSome then some d else none
  | _, _, _ => none

def allocAt (G : Glob) (all : List Oper) (i : Nat) : Option Nat :=
  match all[i]? with
  | some o => allocD G o
  | none => none

/-- Those that are allocs, with their places; the others. -/
def parts (G : Glob) (all : List Oper) : List Nat → List (Nat × Nat) × List Nat
  | [] => ([], [])
  | i :: l => match allocAt G all i with
    | some d => ((i, d) :: (parts G all l).1, (parts G all l).2)
    | none => ((parts G all l).1, i :: (parts G all l).2)

def setAll (listed : Array Bool) : List (Nat × Nat) → Array Bool
  | [] => listed
  | p :: l => setAll (listed.setIfInBounds p.1 true) l

def deadAll (e : Env) : List (Nat × Nat) → Env
  | [] => e
  | p :: l => deadAll (setE e p.2 .dead) l

def nodup2 : List (Nat × Nat) → Bool
  | [] => true
  | p :: l => !(l.any fun q => Nat.beq p.2 q.2) && nodup2 l

def offAll (d : Option Nat) (A : List (Nat × Nat)) : Bool :=
  match d with
  | some d => !(A.any fun q => Nat.beq d q.2)
  | none => true

def only (j : Nat) : List Nat → Bool
  | [i] => Nat.beq i j
  | _ => false

/-- Beside waiting allocs one alone may come up. -/
def okNext (ops : Array Oper) (listed : Array Bool) (A : List (Nat × Nat)) (j : Nat) (o : Oper) : Bool :=
  match A with
  | [] => true
  | _ => only j (Region.ready .any ops (setAll listed A)) && nodup2 A && offAll o.dst A

/-- What comes up behind these allocs waits for all of them. -/
def okLast (ops : Array Oper) (all : List Oper) (listed : Array Bool) (A : List (Nat × Nat)) : Bool :=
  nodup2 A && match A with
  | [_] => true
  | _ => (Region.ready .any ops (setAll listed A)).all fun q => match all[q]? with
    | some o => A.all fun p => waitsOn o p.1
    | none => false

/-- A region whose order is drawn; wr: the regions that may be written within. Allocs wait till nothing else may come up. -/
def execAny (G : Glob) (wr : List Nat) (ops : Array Oper) (all : List Oper) : Nat → Array Bool → (Env → St → Option Res) → Env → St → Option Res
  | 0, listed, k, e, s => match Region.ready .any ops listed with
    | [] => k e s
    | _ :: _ => none
  | n + 1, listed, k, e, s => match Region.ready .any ops listed with
    | [] => k e s
    | i :: l => match pickQ G wr ops all listed e s (i :: l) with
      | some (j, o) => stepOp G none all o (execAny G wr ops all n (listed.setIfInBounds j true) k) e s
      | none => match parts G all (i :: l) with
        | (A, [j]) => match all[j]? with
          | some o => bif okNext ops listed A j o then stepOp G (bif exempt G all j then none else some wr) all o (execAny G wr ops all n (listed.setIfInBounds j true) k) (deadAll e A) s else none
          | none => none
        | (p :: A, []) => match all[p.1]? with
          | some o => bif okLast ops all listed (p :: A) then stepOp G none all o (execAny G wr ops all n (listed.setIfInBounds p.1 true) k) (deadAll e (p :: A)) s else none
          | none => none
        | _ => none

/-! A drawn region whose order is told: the order is looked at once. -/

def forceBs : List Bool → (List Bool → Bool) → Bool
  | [], k => k []
  | true :: l, k => forceBs l fun l => k (true :: l)
  | false :: l, k => forceBs l fun l => k (false :: l)

theorem forceBs_eq : ∀ (l : List Bool) (k : List Bool → Bool), forceBs l k = k l
  | [], _ => rfl
  | true :: l, _ => by simp only [forceBs, forceBs_eq l]
  | false :: l, _ => by simp only [forceBs, forceBs_eq l]

def chkPlan (G : Glob) (ops : Array Oper) (all : List Oper) : Nat → List Bool → List Nat → Bool
  | 0, l, cs => match Region.ready .any ops l.toArray, cs with
    | [], [] => true
    | _, _ => false
  | n + 1, l, cs => match Region.ready .any ops l.toArray with
    | [] => match cs with
      | [] => true
      | _ => false
    | i :: r => match pickQ G [] ops all l.toArray [] [] (i :: r) with
      | some (j, _) => match cs with
        | c :: cs => Nat.beq c (2 * j) && forceBs (l.set j true) fun l => chkPlan G ops all n l cs
        | [] => false
      | none => match parts G all (i :: r) with
        | ([], [j]) => match cs with
          | c :: cs => Nat.beq c (bif exempt G all j then 2 * j else 2 * j + 1) && forceBs (l.set j true) fun l => chkPlan G ops all n l cs
          | [] => false
        | _ => false

def execPlan (G : Glob) (all : List Oper) : List Nat → (Env → St → Option Res) → Env → St → Option Res
  | [], k, e, s => k e s
  | c :: cs, k, e, s => match all[c / 2]? with
    | some o => stepOp G (bif Nat.beq (c % 2) 0 then none else some []) all o (execPlan G all cs k) e s
    | none => none

theorem pickQ_nil (G : Glob) (ops : Array Oper) (all : List Oper) (listed : Array Bool) (e : Env) (s : St) : ∀ l, pickQ G [] ops all listed e s l = pickQ G [] ops all listed [] [] l
  | [] => rfl
  | i :: l => by
    simp only [pickQ]
    rw [pickQ_nil G ops all listed e s l]
    cases all[i]? with
    | none => rfl
    | some o => rfl

theorem pickQ_mem {G : Glob} {wr : List Nat} {ops : Array Oper} {all : List Oper} {listed : Array Bool} {e : Env} {s : St} : ∀ {l j o}, pickQ G wr ops all listed e s l = some (j, o) → all[j]? = some o
  | [], _, _, h => by simp [pickQ] at h
  | i :: l, j, o, h => by
    simp only [pickQ] at h
    split at h
    · rename_i o' ho
      cases hb : (isQuiet G o'.op && Region.free .any ops listed i && qFar o'.op e s wr) with
      | true => rw [hb] at h; cases h; exact ho
      | false => rw [hb] at h; exact pickQ_mem h
    · exact pickQ_mem h

theorem execPlan_any {G : Glob} {ops : Array Oper} {k : Env → St → Option Res} : ∀ (n : Nat) (l : List Bool) (cs : List Nat), chkPlan G ops ops.toList n l cs = true →
    execAny G [] ops ops.toList n l.toArray k = execPlan G ops.toList cs k
  | 0, l, cs, h => by
    funext e s
    simp only [chkPlan] at h
    split at h
    · rename_i h1
      simp only [execAny, h1, execPlan]
    · cases h
  | n + 1, l, cs, h => by
    funext e s
    simp only [chkPlan] at h
    split at h
    · rename_i h1
      split at h
      · simp only [execAny, h1, execPlan]
      · cases h
    · rename_i i r h1
      simp only [execAny, h1]
      split at h
      · rename_i j o hp
        split at h
        · rename_i c cs'
          simp only [Bool.and_eq_true, forceBs_eq] at h
          obtain ⟨h2, h3⟩ := h
          have hc := Nat.eq_of_beq_eq_true h2
          subst hc
          have ih := execPlan_any (k := k) n _ _ h3
          rw [pickQ_nil, hp]
          have ho := pickQ_mem hp
          simp only [execPlan]
          rw [show 2 * j / 2 = j by omega, ho, show 2 * j % 2 = 0 by omega]
          simp only [Nat.beq_refl, cond_true]
          rw [← ih]
          simp
        · cases h
      · rename_i hp
        split at h
        · rename_i j hj
          split at h
          · rename_i c cs'
            simp only [Bool.and_eq_true, forceBs_eq] at h
            obtain ⟨h2, h3⟩ := h
            have hc := Nat.eq_of_beq_eq_true h2
            subst hc
            have ih := execPlan_any (k := k) n _ _ h3
            rw [pickQ_nil, hp, hj]
            simp only [execPlan]
            cases hx : exempt G ops.toList j with
            | true =>
              simp only [cond_true]
              rw [show 2 * j / 2 = j by omega, show 2 * j % 2 = 0 by omega]
              cases ho : ops.toList[j]? with
              | none => rfl
              | some o =>
                simp only [okNext, cond_true, deadAll, Nat.beq_refl]
                rw [← ih]
                simp
            | false =>
              simp only [cond_false]
              rw [show (2 * j + 1) / 2 = j by omega, show (2 * j + 1) % 2 = 1 by omega]
              cases ho : ops.toList[j]? with
              | none => rfl
              | some o =>
                simp only [okNext, cond_true, deadAll, show Nat.beq 1 0 = false from rfl, cond_false]
                rw [← ih]
                simp
          · cases h
        · cases h

/-! The same; a guard that was looked at is not looked at again. -/

def sameD (d : Nat) : Option Tmp → Bool
  | some t => Nat.beq t d
  | none => false

def curOn (cur : Option (Nat × Nat × Bool)) (dst : Option Tmp) : Option (Nat × Nat × Bool) :=
  match cur with
  | none => none
  | some (j, d, v) => bif sameD d dst then none else some (j, d, v)

def known (cur : Option (Nat × Nat × Bool)) (j : Nat) : Option Bool :=
  match cur with
  | none => none
  | some (j', _, v) => bif Nat.beq j j' then some v else none

def execPlan2 (G : Glob) (all : List Oper) : List Nat → Option (Nat × Nat × Bool) → (Env → St → Option Res) → Env → St → Option Res
  | [], _, k, e, s => k e s
  | c :: cs, cur, k, e, s => match all[c / 2]? with
    | some o => match o.guard with
      | none => op1 G (bif Nat.beq (c % 2) 0 then none else some []) o.op e s fun v s' => execPlan2 G all cs (curOn cur o.dst) k (put e o.dst v) s'
      | some (j, want) => match known cur j with
        | some true => bif want then op1 G (bif Nat.beq (c % 2) 0 then none else some []) o.op e s fun v s' => execPlan2 G all cs (curOn cur o.dst) k (put e o.dst v) s'
          else execPlan2 G all cs (curOn cur o.dst) k (put e o.dst (.tup [])) s
        | some false => bif want then execPlan2 G all cs (curOn cur o.dst) k (put e o.dst (.tup [])) s
          else op1 G (bif Nat.beq (c % 2) 0 then none else some []) o.op e s fun v s' => execPlan2 G all cs (curOn cur o.dst) k (put e o.dst v) s'
        | none => match dstOf all j with
          | none => none
          | some d => match getE e d with
            | .bool b =>
              bif b then forceL (setE e d (.bool true)) fun e =>
                (bif want then op1 G (bif Nat.beq (c % 2) 0 then none else some []) o.op e s fun v s' => execPlan2 G all cs (curOn (some (j, d, true)) o.dst) k (put e o.dst v) s'
                else execPlan2 G all cs (curOn (some (j, d, true)) o.dst) k (put e o.dst (.tup [])) s)
              else forceL (setE e d (.bool false)) fun e =>
                (bif want then execPlan2 G all cs (curOn (some (j, d, false)) o.dst) k (put e o.dst (.tup [])) s
                else op1 G (bif Nat.beq (c % 2) 0 then none else some []) o.op e s fun v s' => execPlan2 G all cs (curOn (some (j, d, false)) o.dst) k (put e o.dst v) s')
            | .tup [] => execPlan2 G all cs (curOn cur o.dst) k (put e o.dst (.tup [])) s
            | _ => none
    | none => none

def CurOk (all : List Oper) (e : Env) : Option (Nat × Nat × Bool) → Prop
  | none => True
  | some (j, d, v) => dstOf all j = some d ∧ getE e d = .bool v

theorem getE_lt : ∀ {e : Env} {d : Nat} {v : Bool}, getE e d = .bool v → d < e.length
  | [], _, _, h => by cases h
  | _ :: _, 0, _, _ => by simp
  | _ :: l, d + 1, v, h => by
    have := getE_lt (e := l) (d := d) (v := v) h
    simp; omega

theorem setE_id : ∀ {e : Env} {d : Nat} {v : AV}, d < e.length → getE e d = v → setE e d v = e
  | [], _, _, h, _ => by simp at h
  | a :: l, 0, v, _, h => by simp only [getE] at h; subst h; rfl
  | a :: l, d + 1, v, hl, h => by simp only [setE, setE_id (e := l) (d := d) (v := v) (by simpa using hl) h]

theorem getE_setE1 : ∀ (e : Env) (d t : Nat) (v : AV), t ≠ d → getE (setE e t v) d = getE e d
  | [], _, _, _, _ => rfl
  | a :: l, 0, 0, _, h => absurd rfl h
  | a :: l, 0, t + 1, _, _ => rfl
  | a :: l, d + 1, 0, _, _ => rfl
  | a :: l, d + 1, t + 1, v, h => getE_setE1 l d t v (by omega)

theorem getE_setE2 : ∀ (e : Env) (d : Nat) (v : AV), d < e.length → getE (setE e d v) d = v
  | [], _, _, h => by simp at h
  | a :: l, 0, _, _ => rfl
  | a :: l, d + 1, v, h => getE_setE2 l d v (by simpa using h)

theorem CurOk.on {all : List Oper} {e : Env} {cur : Option (Nat × Nat × Bool)} (h : CurOk all e cur) (dst : Option Tmp) (v : AV) : CurOk all (put e dst v) (curOn cur dst) := by
  cases cur with
  | none => trivial
  | some p =>
    obtain ⟨j, d, b⟩ := p
    simp only [curOn]
    cases hs : sameD d dst with
    | true => trivial
    | false =>
      refine ⟨h.1, ?_⟩
      cases dst with
      | none => exact h.2
      | some t =>
        simp only [put]
        rw [getE_setE1 _ _ _ _ (by intro e; subst e; simp [sameD] at hs)]
        exact h.2

theorem execPlan2_eq {G : Glob} {all : List Oper} {k : Env → St → Option Res} : ∀ (cs : List Nat) (cur : Option (Nat × Nat × Bool)) (e : Env) (s : St), CurOk all e cur → execPlan2 G all cs cur k e s = execPlan G all cs k e s
  | [], _, _, _, _ => rfl
  | c :: cs, cur, e, s, h => by
    have ih := fun cur' e' s' => execPlan2_eq (G := G) (all := all) (k := k) cs cur' e' s'
    have hon : ∀ (e : Env) (cur : Option (Nat × Nat × Bool)) (dst : Option Tmp), CurOk all e cur → (fun v s' => execPlan2 G all cs (curOn cur dst) k (put e dst v) s') = fun v s' => execPlan G all cs k (put e dst v) s' := fun e cur dst hc => by
      funext v s'
      exact ih _ _ _ (hc.on dst v)
    simp only [execPlan2, execPlan, stepOp]
    cases ho : all[c / 2]? with
    | none => rfl
    | some o =>
      simp only
      cases hg : o.guard with
      | none => simp only [hon e cur o.dst h]
      | some p =>
        obtain ⟨j, want⟩ := p
        simp only
        cases hkn : known cur j with
        | some b =>
          have hcur : ∃ d, dstOf all j = some d ∧ getE e d = .bool b := by
            cases cur with
            | none => simp [known] at hkn
            | some q =>
              obtain ⟨j', d, v⟩ := q
              simp only [known] at hkn
              cases hb : Nat.beq j j' with
              | false => rw [hb] at hkn; cases hkn
              | true =>
                rw [hb] at hkn
                simp only [cond_true, Option.some.injEq] at hkn
                have := Nat.eq_of_beq_eq_true hb
                subst this; subst hkn
                exact ⟨d, h⟩
          obtain ⟨d, h1, h2⟩ := hcur
          have h3 := setE_id (getE_lt h2) h2
          simp only [h1, h2]
          cases b with
          | true =>
            simp only [cond_true, forceL_eq, h3, hon e cur o.dst h]
            rw [ih _ _ _ (h.on o.dst (.tup []))]
          | false =>
            simp only [cond_false, forceL_eq, h3, hon e cur o.dst h]
            rw [ih _ _ _ (h.on o.dst (.tup []))]
        | none =>
          simp only
          cases hd : dstOf all j with
          | none => rfl
          | some d =>
            simp only
            cases hv : getE e d with
            | bool b =>
              have hl := getE_lt hv
              simp only [forceL_eq]
              have ht : ∀ v, CurOk all (setE e d (.bool v)) (some (j, d, v)) := fun v => ⟨hd, getE_setE2 _ _ _ hl⟩
              simp only [hon _ _ o.dst (ht true), hon _ _ o.dst (ht false), ih _ _ _ ((ht true).on o.dst (.tup [])), ih _ _ _ ((ht false).on o.dst (.tup []))]
            | tup l =>
              cases l with
              | nil => exact ih _ _ _ (h.on o.dst (.tup []))
              | cons _ _ => rfl
            | int _ _ => rfl
            | str _ => rfl
            | lst _ _ => rfl
            | nilS => rfl
            | own _ => rfl
            | bp _ _ => rfl
            | ep _ _ _ => rfl
            | win _ _ => rfl
            | ip _ _ _ => rfl
            | fn _ _ => rfl
            | agg _ => rfl
            | dead => rfl

/-! The order of a drawn region, looked at by masks. -/

structure Inf where
  dep : Nat
  dst : Nat
  looks : Nat
  q : Bool
  ex : Bool

def bitOf (m i : Nat) : Nat := m ||| (1 <<< i)

def depM : List Edge → Nat → Nat
  | [], m => m
  | e :: l, m => depM l (bif Region.binds .any e then bitOf m e.on else m)

def maskOf : List Nat → Nat → Nat
  | [], m => m
  | i :: l, m => maskOf l (bitOf m i)

def forceM (m : Nat) (k : Nat → Bool) : Bool :=
  match m with
  | 0 => k 0
  | n + 1 => k (n + 1)

theorem forceM_eq (m : Nat) (k : Nat → Bool) : forceM m k = k m := by cases m <;> rfl

theorem bitOf_test (m i j : Nat) : (bitOf m i).testBit j = (m.testBit j || decide (i = j)) := by
  unfold bitOf
  rw [Nat.testBit_or, Nat.one_shiftLeft, Nat.testBit_two_pow]

theorem depM_test : ∀ (l : List Edge) (m j : Nat), (depM l m).testBit j = (m.testBit j || l.any fun e => Region.binds .any e && e.on == j)
  | [], m, j => by simp [depM]
  | e :: l, m, j => by
    rw [depM, depM_test l]
    cases hb : Region.binds .any e with
    | true => simp [bitOf_test, hb, Bool.or_assoc]; congr 1
    | false => simp [hb]

theorem maskOf_test : ∀ (l : List Nat) (m j : Nat), (maskOf l m).testBit j = (m.testBit j || l.contains j)
  | [], m, j => by simp [maskOf]
  | i :: l, m, j => by
    rw [maskOf, maskOf_test l, bitOf_test]
    simp only [List.contains_cons, Bool.or_assoc]
    congr 1
    congr 1
    by_cases h : i = j
    · subst h; simp
    · simp [h, Ne.symm h]

def infOf (G : Glob) (ops : Array Oper) (all : List Oper) (o : Oper) (i : Nat) : Inf :=
  ⟨depM o.after.toList 0, (match o.dst with | some d => bitOf 0 d | none => 0), maskOf (o.looksAt ops) 0, isQuiet G o.op, exempt G all i⟩

def infsOf (G : Glob) (ops : Array Oper) (all : List Oper) : List Oper → Nat → List Inf
  | [], _ => []
  | o :: l, i => infOf G ops all o i :: infsOf G ops all l (i + 1)

def forceI : List Inf → (List Inf → Bool) → Bool
  | [], k => k []
  | x :: l, k => forceM x.dep fun a => forceM x.dst fun b => forceM x.looks fun c => (bif x.q then (bif x.ex then forceI l fun l => k (⟨a, b, c, true, true⟩ :: l) else forceI l fun l => k (⟨a, b, c, true, false⟩ :: l))
      else (bif x.ex then forceI l fun l => k (⟨a, b, c, false, true⟩ :: l) else forceI l fun l => k (⟨a, b, c, false, false⟩ :: l)))

theorem forceI_eq : ∀ (l : List Inf) (k : List Inf → Bool), forceI l k = k l
  | [], _ => rfl
  | ⟨a, b, c, q, e⟩ :: l, k => by
    simp only [forceI, forceM_eq]
    cases q <;> cases e <;> simp only [cond_true, cond_false, forceI_eq l]

def readyI (L : Nat) : List Inf → Nat → List Nat
  | [], _ => []
  | x :: l, i => bif !L.testBit i && Nat.beq (x.dep &&& L) x.dep then i :: readyI L l (i + 1) else readyI L l (i + 1)

def freeI (L : Nat) (x : Inf) (i : Nat) : List Inf → Nat → Bool
  | [], _ => true
  | y :: l, j => (Nat.beq j i || L.testBit j || y.dep.testBit i || (Nat.beq (x.dst &&& y.looks) 0 && Nat.beq (x.dst &&& y.dst) 0 && Nat.beq (y.dst &&& x.looks) 0)) && freeI L x i l (j + 1)

def nthI : List Inf → Nat → Option Inf
  | [], _ => none
  | x :: _, 0 => some x
  | _ :: l, n + 1 => nthI l n

def pickI (L : Nat) (infs : List Inf) : List Nat → Option Nat
  | [] => none
  | i :: l => match nthI infs i with
    | some x => bif x.q && freeI L x i infs 0 then some i else pickI L infs l
    | none => pickI L infs l

/-- What was listed, as a mask. -/
structure LM (ops : Array Oper) (listed : Array Bool) (L : Nat) : Prop where
  size : listed.size = ops.size
  bit : ∀ j, listed.getD j false = L.testBit j

theorem LM.on {ops : Array Oper} {listed : Array Bool} {L j : Nat} (h : LM ops listed L) (hj : j < ops.size) : listed.getD j true = L.testBit j := by
  rw [← h.bit j]
  have : j < listed.size := by rw [h.size]; exact hj
  simp [this]

theorem LM.set {ops : Array Oper} {listed : Array Bool} {L j : Nat} (h : LM ops listed L) (hj : j < ops.size) : LM ops (listed.setIfInBounds j true) (bitOf L j) where
  size := by rw [Array.size_setIfInBounds]; exact h.size
  bit := fun i => by
    rw [bitOf_test, ← h.bit i]
    have hj' : j < listed.size := by rw [h.size]; exact hj
    by_cases e : j = i
    · subst e; simp [hj']
    · simp [Array.getElem?_setIfInBounds, e]

theorem and_eq_iff {m L : Nat} : Nat.beq (m &&& L) m = true ↔ ∀ j, m.testBit j = true → L.testBit j = true := by
  constructor
  · intro h j hj
    have h1 := Nat.eq_of_beq_eq_true h
    have h2 : (m &&& L).testBit j = m.testBit j := by rw [h1]
    rw [Nat.testBit_and, hj] at h2
    simpa using h2
  · intro h
    have : m &&& L = m := by
      apply Nat.eq_of_testBit_eq
      intro j
      rw [Nat.testBit_and]
      cases hm : m.testBit j with
      | false => rfl
      | true => simp [h j hm]
    rw [this]; exact Nat.beq_refl m

theorem and_zero_iff {a b : Nat} : Nat.beq (a &&& b) 0 = true ↔ ∀ j, ¬ (a.testBit j = true ∧ b.testBit j = true) := by
  constructor
  · rintro h j ⟨h1, h2⟩
    have h3 := Nat.eq_of_beq_eq_true h
    have h4 : (a &&& b).testBit j = (0 : Nat).testBit j := by rw [h3]
    rw [Nat.testBit_and, h1, h2] at h4
    simp at h4
  · intro h
    have : a &&& b = 0 := by
      apply Nat.eq_of_testBit_eq
      intro j
      rw [Nat.testBit_and]
      cases h1 : a.testBit j with
      | false => simp
      | true =>
        cases h2 : b.testBit j with
        | false => simp
        | true => exact absurd ⟨h1, h2⟩ (h j)
    rw [this]; rfl

theorem dep_ok {o : Oper} {listed : Array Bool} {L : Nat} (h : ∀ j, listed.getD j false = L.testBit j) :
    Nat.beq (depM o.after.toList 0 &&& L) (depM o.after.toList 0) = o.after.all fun e => !Region.binds .any e || listed.getD e.on false := by
  rw [Bool.eq_iff_iff, and_eq_iff, Array.all_eq_true']
  simp only [depM_test, Nat.zero_testBit, Bool.false_or, List.any_eq_true, Bool.and_eq_true, beq_iff_eq, Bool.or_eq_true, Bool.not_eq_true', Array.mem_toList_iff]
  constructor
  · intro h1 e he
    cases hb : Region.binds .any e with
    | false => exact .inl rfl
    | true => exact .inr (by rw [h]; exact h1 e.on ⟨e, he, hb, rfl⟩)
  · rintro h1 j ⟨e, he, hb, rfl⟩
    rcases h1 e he with h2 | h2
    · rw [hb] at h2; cases h2
    · rw [← h]; exact h2

theorem readyI_eq {G : Glob} {ops : Array Oper} {listed : Array Bool} {L : Nat} (h : LM ops listed L) : ∀ (l : List Oper) (i : Nat), (∀ j o, l[j]? = some o → ops[i + j]? = some o) → i + l.length = ops.size →
    readyI L (infsOf G ops ops.toList l i) i = (List.range' i l.length).filter fun i => !listed.getD i true && (Option.map (fun x => x.after.all fun e => !Region.binds .any e || listed.getD e.on false) ops[i]?).getD false
  | [], i, _, _ => rfl
  | o :: l, i, hl, hn => by
    simp only [List.length_cons] at hn
    have ho := hl 0 o rfl
    rw [Nat.add_zero] at ho
    have ih := readyI_eq (G := G) h l (i + 1) (fun j o' hj => by have := hl (j + 1) o' (by simpa using hj); rwa [show i + (j + 1) = i + 1 + j by omega] at this) (by omega)
    simp only [infsOf, readyI, List.length_cons, List.range'_succ, List.filter_cons, ih]
    have hc : (!L.testBit i && Nat.beq ((infOf G ops ops.toList o i).dep &&& L) (infOf G ops ops.toList o i).dep) = (!listed.getD i true && (Option.map (fun x => x.after.all fun e => !Region.binds .any e || listed.getD e.on false) ops[i]?).getD false) := by
      rw [h.on (by omega), ho]
      simp only [Option.map_some, Option.getD_some, infOf, dep_ok h.bit]
    rw [hc]
    cases (!listed.getD i true && (Option.map (fun x => x.after.all fun e => !Region.binds .any e || listed.getD e.on false) ops[i]?).getD false) <;> rfl

theorem ready_eq {G : Glob} {ops : Array Oper} {listed : Array Bool} {L : Nat} (h : LM ops listed L) : Region.ready .any ops listed = readyI L (infsOf G ops ops.toList ops.toList 0) 0 := by
  rw [readyI_eq h ops.toList 0 (fun j o hj => by rw [Nat.zero_add, ← Array.getElem?_toList]; exact hj) (by simp)]
  unfold Region.ready
  rw [List.range_eq_range', Array.length_toList]

theorem apart_ok {G : Glob} {ops : Array Oper} {all : List Oper} {x y : Oper} {i j : Nat} :
    (Nat.beq ((infOf G ops all x i).dst &&& (infOf G ops all y j).looks) 0 && Nat.beq ((infOf G ops all x i).dst &&& (infOf G ops all y j).dst) 0 && Nat.beq ((infOf G ops all y j).dst &&& (infOf G ops all x i).looks) 0) = Oper.apart ops x y := by
  have hb : ∀ (d : Nat) (l : List Nat), Nat.beq (bitOf 0 d &&& maskOf l 0) 0 = !l.contains d := by
    intro d l
    rw [Bool.eq_iff_iff, and_zero_iff]
    simp only [bitOf_test, maskOf_test, Nat.zero_testBit, Bool.false_or, decide_eq_true_eq, Bool.not_eq_true']
    constructor
    · intro h1
      cases hc : l.contains d with
      | false => rfl
      | true => exact absurd ⟨rfl, hc⟩ (h1 d)
    · rintro h1 j ⟨rfl, h2⟩
      rw [h1] at h2; cases h2
  have hd : ∀ (d d' : Nat), Nat.beq (bitOf 0 d &&& bitOf 0 d') 0 = (some d' != some d) := by
    intro d d'
    rw [Bool.eq_iff_iff, and_zero_iff]
    simp only [bitOf_test, Nat.zero_testBit, Bool.false_or, decide_eq_true_eq, bne_iff_ne, ne_eq, Option.some.injEq]
    constructor
    · rintro h1 rfl
      exact h1 _ ⟨rfl, rfl⟩
    · rintro h1 j ⟨rfl, h2⟩
      exact h1 h2
  have hz : ∀ m : Nat, Nat.beq (0 &&& m) 0 = true := fun m => by rw [Nat.zero_and]; rfl
  have hz' : ∀ m : Nat, Nat.beq (m &&& 0) 0 = true := fun m => by rw [Nat.and_zero]; rfl
  unfold infOf Oper.apart
  cases hx : x.dst with
  | none =>
    cases hy : y.dst with
    | none => simp only [hz, hz', Bool.and_self]
    | some d' => simp only [hz, hz', hb, Bool.true_and]
  | some d =>
    cases hy : y.dst with
    | none => simp only [hz, hz', hb, Bool.and_true]; simp
    | some d' => simp only [hb, hd]

theorem after_ok {o : Oper} {i : Nat} : (depM o.after.toList 0).testBit i = o.after.any fun e => Region.binds .any e && e.on == i := by
  rw [depM_test, Nat.zero_testBit, Bool.false_or, ← Array.any_toList]

theorem freeI_eq {G : Glob} {ops : Array Oper} {listed : Array Bool} {L : Nat} (h : LM ops listed L) {oi : Oper} {i : Nat} : ∀ (l : List Oper) (n : Nat), (∀ j o, l[j]? = some o → ops[n + j]? = some o) → n + l.length = ops.size →
    freeI L (infOf G ops ops.toList oi i) i (infsOf G ops ops.toList l n) n = (List.range' n l.length).all fun j => j == i || listed.getD j true || match ops[j]? with
        | some oj => (oj.after.any fun e => Region.binds .any e && e.on == i) || Oper.apart ops oi oj
        | none => true
  | [], n, _, _ => rfl
  | o :: l, n, hl, hn => by
    simp only [List.length_cons] at hn
    have ho := hl 0 o rfl
    rw [Nat.add_zero] at ho
    have ih := freeI_eq (G := G) (oi := oi) (i := i) h l (n + 1) (fun j o' hj => by have := hl (j + 1) o' (by simpa using hj); rwa [show n + (j + 1) = n + 1 + j by omega] at this) (by omega)
    simp only [infsOf, freeI, List.length_cons, List.range'_succ, List.all_cons, ih]
    rw [apart_ok, h.on (by omega), ho]
    have e1 : (infOf G ops ops.toList o n).dep.testBit i = o.after.any fun e => Region.binds .any e && e.on == i := after_ok
    rw [e1]
    have e2 : Nat.beq n i = (n == i) := by rw [Bool.eq_iff_iff, Nat.beq_eq, beq_iff_eq]
    rw [e2]
    simp only [Bool.or_assoc]

theorem free_eq {G : Glob} {ops : Array Oper} {listed : Array Bool} {L : Nat} (h : LM ops listed L) {oi : Oper} {i : Nat} (hi : ops[i]? = some oi) :
    Region.free .any ops listed i = freeI L (infOf G ops ops.toList oi i) i (infsOf G ops ops.toList ops.toList 0) 0 := by
  rw [freeI_eq h ops.toList 0 (fun j o hj => by rw [Nat.zero_add, ← Array.getElem?_toList]; exact hj) (by simp)]
  unfold Region.free
  rw [hi, List.range_eq_range', Array.length_toList]
  rfl

theorem nthI_eq {G : Glob} {ops : Array Oper} {all : List Oper} : ∀ (l : List Oper) (n i : Nat), nthI (infsOf G ops all l n) i = (l[i]?).map fun o => infOf G ops all o (n + i)
  | [], _, _ => rfl
  | o :: l, n, 0 => rfl
  | o :: l, n, i + 1 => by
    simp only [infsOf, nthI, nthI_eq l, List.getElem?_cons_succ]
    rw [show n + 1 + i = n + (i + 1) by omega]

theorem pickI_eq {G : Glob} {ops : Array Oper} {listed : Array Bool} {L : Nat} (h : LM ops listed L) : ∀ l : List Nat,
    (pickQ G [] ops ops.toList listed [] [] l).map (·.1) = pickI L (infsOf G ops ops.toList ops.toList 0) l
  | [] => rfl
  | i :: l => by
    have ih := pickI_eq (G := G) h l
    simp only [pickQ, pickI, nthI_eq, Nat.zero_add]
    cases ho : ops.toList[i]? with
    | none => simpa using ih
    | some o =>
      simp only [Option.map_some]
      rw [free_eq (G := G) h (by rw [← Array.getElem?_toList]; exact ho)]
      have hq : qFar o.op ([] : Env) ([] : St) [] = true := rfl
      rw [hq, Bool.and_true]
      have e1 : (infOf G ops ops.toList o i).q = isQuiet G o.op := rfl
      rw [e1]
      cases (isQuiet G o.op && freeI L (infOf G ops ops.toList o i) i (infsOf G ops ops.toList ops.toList 0) 0) with
      | true => rfl
      | false => simpa using ih

/-- The order that is told is the one that is taken. -/
def chkI (G : Glob) (all : List Oper) (infs : List Inf) : Nat → Nat → List Nat → Bool
  | 0, L, cs => match readyI L infs 0, cs with
    | [], [] => true
    | _, _ => false
  | n + 1, L, cs => match readyI L infs 0 with
    | [] => match cs with
      | [] => true
      | _ => false
    | i :: r => match cs with
      | [] => false
      | c :: cs => match pickI L infs (i :: r) with
        | some j => Nat.beq c (2 * j) && forceM (bitOf L j) fun L => chkI G all infs n L cs
        | none => match r with
          | [] => match nthI infs i with
            | some x => (allocAt G all i).isNone && (Nat.beq c (bif x.ex then 2 * i else 2 * i + 1) && forceM (bitOf L i) fun L => chkI G all infs n L cs)
            | none => false
          | _ => false

theorem ready_lt {ops : Array Oper} {listed : Array Bool} {i : Nat} (h : i ∈ Region.ready .any ops listed) : i < ops.size := by
  unfold Region.ready at h
  simp only [List.mem_filter, List.mem_range] at h
  exact h.1

theorem pickQ_in {G : Glob} {wr : List Nat} {ops : Array Oper} {all : List Oper} {listed : Array Bool} {e : Env} {s : St} : ∀ {l j o}, pickQ G wr ops all listed e s l = some (j, o) → j ∈ l
  | [], _, _, h => by simp [pickQ] at h
  | i :: l, j, o, h => by
    simp only [pickQ] at h
    split at h
    · rename_i o' ho
      cases hb : (isQuiet G o'.op && Region.free .any ops listed i && qFar o'.op e s wr) with
      | true => rw [hb] at h; cases h; simp
      | false => rw [hb] at h; exact List.mem_cons_of_mem _ (pickQ_in h)
    · exact List.mem_cons_of_mem _ (pickQ_in h)

theorem chkI_plan {G : Glob} {ops : Array Oper} : ∀ (n : Nat) (l : List Bool) (L : Nat) (cs : List Nat), LM ops l.toArray L → chkI G ops.toList (infsOf G ops ops.toList ops.toList 0) n L cs = true → chkPlan G ops ops.toList n l cs = true
  | 0, l, L, cs, hL, h => by
    simp only [chkI] at h
    simp only [chkPlan, ready_eq (G := G) hL]
    exact h
  | n + 1, l, L, cs, hL, h => by
    simp only [chkI] at h
    simp only [chkPlan, ready_eq (G := G) hL]
    split at h
    · rename_i h1
      (try simp only [h1])
      exact h
    · rename_i i r h1
      (try simp only [h1])
      split at h
      · cases h
      · rename_i c cs'
        have hp := pickI_eq (G := G) hL (i :: r)
        have hset : ∀ j, j < ops.size → LM ops (l.set j true).toArray (bitOf L j) := fun j hj => by
          have := hL.set hj
          simpa using this
        split at h
        · rename_i j hj
          rw [hj] at hp
          cases hq : pickQ G [] ops ops.toList l.toArray [] [] (i :: r) with
          | none => rw [hq] at hp; cases hp
          | some p =>
            obtain ⟨j', o⟩ := p
            rw [hq] at hp
            simp only [Option.map_some, Option.some.injEq] at hp
            subst hp
            simp only [Bool.and_eq_true, forceM_eq] at h
            have hlt : j' < ops.size := ready_lt (listed := l.toArray) (by rw [ready_eq (G := G) hL, h1]; exact pickQ_in hq)
            simp only [h.1, Bool.true_and, forceBs_eq]
            exact chkI_plan n _ _ _ (hset j' hlt) h.2
        · rename_i hj
          rw [hj] at hp
          cases hq : pickQ G [] ops ops.toList l.toArray [] [] (i :: r) with
          | some p => rw [hq] at hp; cases hp
          | none =>
            split at h
            · split at h
              · rename_i x hx
                simp only [Bool.and_eq_true, forceM_eq, Option.isNone_iff_eq_none] at h
                obtain ⟨h2, h3, h4⟩ := h
                have hlt : i < ops.size := ready_lt (listed := l.toArray) (by rw [ready_eq (G := G) hL, h1]; simp)
                have hpa : parts G ops.toList [i] = ([], [i]) := by simp [parts, h2]
                rw [hpa]
                rw [nthI_eq] at hx
                cases ho : ops.toList[i]? with
                | none => rw [ho] at hx; cases hx
                | some o =>
                  rw [ho] at hx
                  simp only [Option.map_some, Option.some.injEq] at hx
                  subst hx
                  have e1 : (infOf G ops ops.toList o (0 + i)).ex = exempt G ops.toList i := by rw [Nat.zero_add]; rfl
                  rw [e1] at h3
                  simp only [h3, Bool.true_and, forceBs_eq]
                  exact chkI_plan n _ _ _ (hset i hlt) h4
              · cases h
            · cases h

def chkFast (G : Glob) (ops : Array Oper) (cs : List Nat) : Bool :=
  forceI (infsOf G ops ops.toList ops.toList 0) fun infs => chkI G ops.toList infs ops.size 0 cs

theorem chkFast_ok {G : Glob} {ops : Array Oper} {cs : List Nat} (h : chkFast G ops cs = true) : chkPlan G ops ops.toList ops.size (List.replicate ops.size false) cs = true := by
  unfold chkFast at h
  rw [forceI_eq] at h
  refine chkI_plan _ _ 0 _ ⟨by simp, fun j => ?_⟩ h
  rw [Nat.zero_testBit]
  simp only [List.toArray_replicate, Array.getD_eq_getD_getElem?, Array.getElem?_replicate]
  split <;> rfl

/-- Boxes that a region may write while it draws its order: told under the region's number and a million. -/
def hintOf (F : Fx) (id : Nat) : List Nat :=
  match F.loops (1000000 + id) with
  | some sp => sp.keep
  | none => []

def bodyK (F : Fx) (keep : List Nat) (wide : List (Option Ty)) : Out → Env → St → Option Res := fun o e s =>
  match packW wide F.n (getEs e keep) s with
  | (vs, s) => some ⟨o, vs, s⟩

def wideOf (F : Fx) : List (Option Ty) :=
  match F.loops 3000000 with
  | some sp => sp.wide
  | none => []

/-- The number under which a cut ahead of a piece of code is told. -/
def headId : Code → Nat
  | .region id _ _ => 5000000 + id
  | .block id _ => 6000000 + id
  | .cond _ x y => bif Nat.beq (headId x) 4000000 then (bif Nat.beq (headId y) 4000000 then 4000000 else 20000000 + headId y) else 10000000 + headId x
  | .seq a b => bif Nat.beq (headId a) 4000000 then (bif Nat.beq (headId b) 4000000 then 4000000 else 30000000 + headId b) else headId a
  | _ => 4000000

def exec (G : Glob) (F : Fx) : Code → (Out → Env → St → Option Res) → Env → St → Option Res
  | .skip, k, e, s => k .norm e s
  | .region id ops draw, k, e, s => bif draw then
      (match F.loops (2000000 + id) with
      | some sp => bif Region.noSelect ops && chkFast G ops sp.keep then execPlan2 G ops.toList sp.keep none (fun e s => k .norm e s) e s else none
      | none => match F.loops (3500000 + id) with
        | some sp => match packW sp.wide F.n (getEs e sp.keep) s with
          | (vs, s) => sp.L vs s fun o vs s => match o with
            | .norm => k .norm (setEs (deads F.nt) sp.keep vs) s
            | _ => none
        | none => bif Region.noSelect ops then execAny G (hintOf F id) ops ops.toList ops.size (Array.replicate ops.size false) (fun e s => k .norm e s) e s else none)
    else execOps G ops.toList ops.toList (fun e s => k .norm e s) e s
  | .seq a b, k, e, s => match F.loops (headId b) with
    | none => exec G F a (fun o e s => match o with
      | .norm => forceL e fun e => forceS s fun s => exec G F b k e s
      | o => k o e s) e s
    | some sp => exec G F a (fun o e s => match o with
      | .norm => match packW sp.wide F.n (getEs e sp.keep) s with
        | (vs, s) => sp.L vs s fun o vs s => k o (setEs (deads F.nt) sp.keep vs) s
      | o => k o e s) e s
  | .cond c x y, k, e, s => match ev e c with
    | .bool b => bif b then exec G F x k e s else exec G F y k e s
    | _ => none
  | .block id (.loop _), k, e, s => match F.loops id with
    | none => none
    | some sp =>
      match packW sp.wide F.n (getEs e sp.keep) s with
      | (vs, s) => sp.L vs s fun o vs s => match o with
        | .norm => none
        | .exit j => bif j == id then k .norm (setEs (deads F.nt) sp.keep vs) s else k (.exit j) (setEs (deads F.nt) sp.keep vs) s
        | .ret => k .ret (setEs (deads F.nt) sp.keep vs) s
  | .block id c, k, e, s => exec G F c (fun o e s => match o with
    | .exit j => bif j == id then k .norm e s else k (.exit j) e s
    | o => k o e s) e s
  | .scope c, k, e, s => none
  | .exit id, k, e, s => k (.exit id) e s
  | .ret, k, e, s => k .ret e s
  | _, _, _, _ => none

def resA (G : Glob) (e : Env) (s : St) : ResultVar → Option AV
  | .tmp t => some (getE e t)
  | .cell a t => match G.ty t with
    | some (ag, T) => match loadCs s (getE e a) T.size with
      | some cs => ofCells ag cs
      | none => none
    | none => none

def resL (G : Glob) (e : Env) (s : St) : List ResultVar → Option (List AV)
  | [] => some []
  | r :: l => match resA G e s r with
    | some v => match resL G e s l with
      | some vs => some (v :: vs)
      | none => none
    | none => none

def one : List AV → AV
  | [v] => v
  | vs => .tup vs

def endK (G : Glob) (F : Fx) (rs : List ResultVar) : Out → Env → St → Option Res := fun o e s =>
  match o with
  | .exit _ => none
  | _ => match resL G e s rs with
    | some vs =>
      match packW (wideOf F) F.n [one vs] s with
      | (vs, s) => some ⟨.ret, vs, s⟩
    | none => none

/-- What a function answers at these arguments, in this state. -/
def execFn (G : Glob) (loops : Nat → Option LoopSpec) (fn : Func) (args : List AV) (s : St) : Option Res :=
  match fn.body with
  | none => none
  | some c =>
    let F : Fx := ⟨s.length, args.length + (fn.ntmps - args.length), loops⟩
    exec G F c (endK G F fn.results.toList) (args ++ deads (fn.ntmps - args.length)) s

end

end Go.VE
