/- Loops found in code; a loop told by a native body, once more. -/
import Derived.Test.YtdcgbmpmiehemaaV24
namespace Go.VE
set_option linter.unusedVariables false

def loopsOf : Code → List (Nat × Code)
  | .seq a b => loopsOf a ++ loopsOf b
  | .cond _ a b => loopsOf a ++ loopsOf b
  | .block id (.loop b) => (id, b) :: loopsOf b
  | .block _ c => loopsOf c
  | _ => []

def findBody : List (Nat × Code) → Nat → Code
  | [], _ => .skip
  | (i, b) :: l, j => bif Nat.beq i j then b else findBody l j

def loopBody (fn : Func) (id : Nat) : Code := findBody (loopsOf (fn.body.getD .skip)) id

def AllL (G : Glob) (F : Fx) : List (Nat × Code) → Prop
  | [] => True
  | (i, b) :: l => (∀ sp, F.loops i = some sp → LoopOk G F sp b) ∧ AllL G F l

theorem AllL.left {G : Glob} {F : Fx} : ∀ {a b : List (Nat × Code)}, AllL G F (a ++ b) → AllL G F a
  | [], _, _ => trivial
  | _ :: _, _, h => ⟨h.1, AllL.left h.2⟩

theorem AllL.right {G : Glob} {F : Fx} : ∀ {a b : List (Nat × Code)}, AllL G F (a ++ b) → AllL G F b
  | [], _, h => h
  | _ :: _, _, h => AllL.right h.2

theorem loopsOk_all {G : Glob} {F : Fx} : ∀ (c : Code), AllL G F (loopsOf c) → LoopsOk G F c
  | .seq a b, h => ⟨loopsOk_all a (AllL.left h), loopsOk_all b (AllL.right h)⟩
  | .cond _ a b, h => ⟨loopsOk_all a (AllL.left h), loopsOk_all b (AllL.right h)⟩
  | .block id (.loop b), h => ⟨h.1, loopsOk_all b h.2⟩
  | .block _ .skip, _ => trivial
  | .block _ (.region _ _ _), _ => trivial
  | .block _ (.seq a b), h => loopsOk_all (.seq a b) h
  | .block _ (.cond c a b), h => loopsOk_all (.cond c a b) h
  | .block _ (.block i a), h => loopsOk_all (.block i a) h
  | .block _ (.rangeFunc _ _ _ _), _ => trivial
  | .block _ (.exit _), _ => trivial
  | .block _ (.scope _), _ => trivial
  | .block _ (.label _), _ => trivial
  | .block _ (.goto _), _ => trivial
  | .block _ .ret, _ => trivial
  | .block _ (.refuse _), _ => trivial
  | .skip, _ => trivial
  | .region _ _ _, _ => trivial
  | .loop _, _ => trivial
  | .rangeFunc _ _ _ _, _ => trivial
  | .exit _, _ => trivial
  | .scope _, _ => trivial
  | .label _, _ => trivial
  | .goto _, _ => trivial
  | .ret, _ => trivial
  | .refuse _, _ => trivial

theorem loopsOk_of {G : Glob} {F : Fx} {c : Code} {l : List (Nat × Code)} (h : loopsOf c = l) (ha : AllL G F l) : LoopsOk G F c :=
  loopsOk_all c (h ▸ ha)

theorem loop_runs2 {β γ : Type} {G : Glob} {F : Fx} {keep : List Nat} {b : Code} {body : β → (β ⊕ γ → Option Res) → Option Res} (hb : ∀ x, Par (body x)) (vals : β → List AV) (st : β → St)
    (ends : γ → Out × List AV × St) (hne : ∀ z, (ends z).1 ≠ .norm)
    (hx : ∀ x, exec G F b (bodyK F keep) (setEs (deads F.nt) keep (vals x)) (st x) = body x (Sum.elim (fun y => some ⟨.norm, vals y, st y⟩) fun z => some ⟨(ends z).1, (ends z).2.1, (ends z).2.2⟩))
    (n : Nat) (x : β) (K : γ → Option Res) (k : Out → List AV → St → Option Res) (r : Res) (hK : ∀ z, K z = k (ends z).1 (ends z).2.1 (ends z).2.2) (h : loopK body n x K = some r) :
      ∃ m o vs st', LoopRuns G F keep b m (vals x) (st x) o vs st' ∧ k o vs st' = some r :=
  loop_runs hb vals st ends hne hx n x k r (by rw [← h]; congr; funext z; exact (hK z).symm)

def baseG (tab : List TInfo) : Glob := { eqt := fun _ => false, ty := tyTab tab, fld := fldTab tab, call := fun _ _ _ _ => none, inPlace := fun _ => false }

theorem baseG_ok {P : Program} {tab : List TInfo} (h : tab.all (chkOne P) = true) : GlobOk P (baseG tab) where
  tys := tab_ok h rfl rfl
  call := fun _ => .inl fun _ _ _ => rfl
  eqs := fun _ h => by cases h

end Go.VE
