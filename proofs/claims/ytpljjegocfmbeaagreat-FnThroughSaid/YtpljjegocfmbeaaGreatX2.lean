/- Native programs in passing style; loops and functions told by them. -/
import Derived.Test.YtpljjegocfmbeaaGreatX1
namespace Go.VE
set_option linter.unusedVariables false
set_option linter.unusedSimpArgs false

/-- A program that hands on one value, or none. -/
def Par {α : Type} (F : (α → Option Res) → Option Res) : Prop := ∀ k r, F k = some r → ∃ y, k y = some r ∧ ∀ k', F k' = k' y

section
variable {α β γ : Type}

theorem par_ret (y : α) : Par fun k => k y := fun k r h => ⟨y, h, fun _ => rfl⟩

theorem par_none : Par fun (_ : α → Option Res) => none := fun k r h => by cases h

theorem par_bif {c : Bool} {F G : (α → Option Res) → Option Res} (hF : Par F) (hG : Par G) : Par fun k => bif c then F k else G k := by
  cases c
  · exact hG
  · exact hF

theorem par_ite {c : Prop} [Decidable c] {F G : (α → Option Res) → Option Res} (hF : Par F) (hG : Par G) : Par fun k => if c then F k else G k := by
  intro k r h
  by_cases hc : c
  · simp only [hc, if_true] at h ⊢; exact hF k r h
  · simp only [hc, if_false] at h ⊢; exact hG k r h

theorem Par.bind {F : (β → Option Res) → Option Res} (hF : Par F) {H : β → (α → Option Res) → Option Res} (hH : ∀ v, Par (H v)) : Par fun k => F fun v => H v k := by
  intro k r h
  obtain ⟨v, h1, h2⟩ := hF _ _ h
  obtain ⟨y, h3, h4⟩ := hH v _ _ h1
  exact ⟨y, h3, fun k' => (h2 _).trans (h4 k')⟩

theorem Par.bind2 {F : (β ⊕ γ → Option Res) → Option Res} (hF : Par F) {H : β → (α → Option Res) → Option Res} {H' : γ → (α → Option Res) → Option Res} (hH : ∀ v, Par (H v)) (hH' : ∀ v, Par (H' v)) :
    Par fun k => F (Sum.elim (fun v => H v k) fun v => H' v k) := by
  intro k r h
  obtain ⟨v, h1, h2⟩ := hF _ _ h
  cases v with
  | inl v => obtain ⟨y, h3, h4⟩ := hH v _ _ h1; exact ⟨y, h3, fun k' => (h2 _).trans (h4 k')⟩
  | inr v => obtain ⟨y, h3, h4⟩ := hH' v _ _ h1; exact ⟨y, h3, fun k' => (h2 _).trans (h4 k')⟩

theorem Par.map {F : (β → Option Res) → Option Res} (hF : Par F) (f : β → α) : Par fun k => F fun v => k (f v) := hF.bind fun v => par_ret (f v)

theorem Par.map2 {F : (β ⊕ γ → Option Res) → Option Res} (hF : Par F) (f : β → α) (g : γ → α) : Par fun k => F (Sum.elim (fun v => k (f v)) fun v => k (g v)) :=
  hF.bind2 (fun v => par_ret (f v)) fun v => par_ret (g v)

/-- Elements of a sum, one arm after the other. -/
theorem par_elim {H : β → (α → Option Res) → Option Res} {H' : γ → (α → Option Res) → Option Res} (hH : ∀ v, Par (H v)) (hH' : ∀ v, Par (H' v)) (s : β ⊕ γ) :
    Par fun k => Sum.elim (fun v => H v k) (fun v => H' v k) s := by
  cases s with
  | inl v => exact hH v
  | inr v => exact hH' v

/-- A loop: the body hands on a new state, or an end. -/
def loopK (body : β → (β ⊕ γ → Option Res) → Option Res) : Nat → β → (γ → Option Res) → Option Res
  | 0, _, _ => none
  | n + 1, x, k => body x (Sum.elim (fun y => loopK body n y k) k)

theorem par_loop {body : β → (β ⊕ γ → Option Res) → Option Res} (hb : ∀ x, Par (body x)) : ∀ (n : Nat) (x : β), Par (loopK body n x)
  | 0, _ => par_none
  | n + 1, x => (hb x).bind2 (fun y => par_loop hb n y) (fun z => par_ret z)

/-- The same as a class: found by the way a program is built. -/
class ParC (F : (α → Option Res) → Option Res) : Prop where
  p : Par F
instance (y : α) : ParC fun k => k y := ⟨par_ret y⟩
instance : ParC fun (_ : α → Option Res) => none := ⟨par_none⟩
instance {c : Bool} {F G : (α → Option Res) → Option Res} [hF : ParC F] [hG : ParC G] : ParC fun k => bif c then F k else G k := ⟨par_bif hF.p hG.p⟩
instance {c : Prop} [Decidable c] {F G : (α → Option Res) → Option Res} [hF : ParC F] [hG : ParC G] : ParC fun k => if c then F k else G k := ⟨par_ite hF.p hG.p⟩
instance {F : (β → Option Res) → Option Res} [hF : ParC F] {H : β → (α → Option Res) → Option Res} [hH : ∀ v, ParC (H v)] : ParC fun k => F fun v => H v k := ⟨hF.p.bind fun v => (hH v).p⟩
instance (s : β ⊕ γ) {H : β → (α → Option Res) → Option Res} {H' : γ → (α → Option Res) → Option Res} [hH : ∀ v, ParC (H v)] [hH' : ∀ v, ParC (H' v)] : ParC fun k => Sum.elim (fun v => H v k) (fun v => H' v k) s := ⟨par_elim (fun v => (hH v).p) (fun v => (hH' v).p) s⟩
instance {F : (β ⊕ γ → Option Res) → Option Res} [hF : ParC F] {H : β → (α → Option Res) → Option Res} {H' : γ → (α → Option Res) → Option Res} [hH : ∀ v, ParC (H v)] [hH' : ∀ v, ParC (H' v)] : ParC fun k => F (Sum.elim (fun v => H v k) fun v => H' v k) := ⟨hF.p.bind2 (fun v => (hH v).p) fun v => (hH' v).p⟩
instance {body : β → (β ⊕ γ → Option Res) → Option Res} [hb : ∀ x, ParC (body x)] (n : Nat) (x : β) : ParC (loopK body n x) := ⟨par_loop (fun x => (hb x).p) n x⟩

theorem fuel_ex : ∃ n : Nat, 18446744073709551616 ≤ n := ⟨_, Nat.le_refl _⟩

/-- As many rounds as no loop takes. -/
noncomputable def Fuel : Nat := Classical.choose fuel_ex

theorem fuel_big : 18446744073709551616 ≤ Fuel := Classical.choose_spec fuel_ex

/-- A loop's body, told by a native one. -/
theorem loop_runs {G : Glob} {F : Fx} {keep : List Nat} {wide : List (Option Ty)} {b : Code} {body : β → (β ⊕ γ → Option Res) → Option Res} (hb : ∀ x, Par (body x)) (vals : β → List AV) (st : β → St)
    (ends : γ → Out × List AV × St) (hne : ∀ z, (ends z).1 ≠ .norm)
    (hx : ∀ x, exec G F b (bodyK F keep wide) (setEs (deads F.nt) keep (vals x)) (st x) = body x (Sum.elim (fun y => some ⟨.norm, vals y, st y⟩) fun z => some ⟨(ends z).1, (ends z).2.1, (ends z).2.2⟩)) :
    ∀ (n : Nat) (x : β) (k : Out → List AV → St → Option Res) (r : Res), loopK body n x (fun z => k (ends z).1 (ends z).2.1 (ends z).2.2) = some r →
      ∃ m o vs st', LoopRuns G F keep wide b m (vals x) (st x) o vs st' ∧ k o vs st' = some r
  | 0, x, k, r, h => by cases h
  | n + 1, x, k, r, h => by
    obtain ⟨y, h1, h2⟩ := hb x _ _ h
    have h3 := (hx x).trans (h2 _)
    cases y with
    | inl y =>
      obtain ⟨m, o, vs, st', g1, g2⟩ := loop_runs hb vals st ends hne hx n y k r h1
      exact ⟨m + 1, o, vs, st', .more h3 g1, g2⟩
    | inr z => exact ⟨1, _, _, _, .stop h3 (hne z), h1⟩

/-- One function more. -/
def Glob.add (G : Glob) (f : Nat) (g : List AV → St → K1 → Option Res) : Glob :=
  { G with call := fun f' => bif Nat.beq f f' then g else G.call f' }

theorem GlobOk.add {P : Program} {G : Glob} (h : GlobOk P G) {f : Nat} {g : List AV → St → K1 → Option Res} (he : Enter P f) (hc : Contract P f g) : GlobOk P (G.add f g) where
  tys := ⟨h.tys.ty, h.tys.fld, h.tys.bld⟩
  call := fun f' => by
    simp only [Glob.add]
    cases hb : Nat.beq f f' with
    | true =>
      have := Nat.eq_of_beq_eq_true hb
      subst this
      exact .inr ⟨he, hc⟩
    | false => exact h.call f'
  eqs := h.eqs
  ones := h.ones

end
/-- A program under seal: the kernel cannot unfold it. -/
noncomputable def shut {α : Type} (a : α) : α := Classical.choose (⟨a, rfl⟩ : ∃ g, g = a)
theorem shut_eq {α : Type} (a : α) : shut a = a := Classical.choose_spec (⟨a, rfl⟩ : ∃ g, g = a)


theorem bindC {α β : Type} {F : (β → Option Res) → Option Res} [hF : ParC F] {H : β → (α → Option Res) → Option Res} (hH : ∀ v, Par (H v)) : Par fun k => F fun v => H v k := hF.p.bind hH
theorem bindC2 {α β γ : Type} {F : (β ⊕ γ → Option Res) → Option Res} [hF : ParC F] {H : β → (α → Option Res) → Option Res} {H' : γ → (α → Option Res) → Option Res} (hH : ∀ v, Par (H v)) (hH' : ∀ v, ParC (H' v)) : Par fun k => F (Sum.elim (fun v => H v k) fun v => H' v k) := hF.p.bind2 hH fun v => (hH' v).p

def W (x : Int) : Int := IntKind.wrap .i64 x
def W8 (x : Int) : Int := IntKind.wrap .u8 x
def W32 (x : Int) : Int := IntKind.wrap .u32 x
abbrev mL : Int := (maxLen : Int)

/-- A native program of a function, under seal. -/
structure FN (α β : Type) where
  f : α → (β → Option Res) → Option Res
  p : ∀ x, Par (f x)
instance {α β : Type} : CoeFun (FN α β) fun _ => α → (β → Option Res) → Option Res := ⟨FN.f⟩
instance {α β : Type} (g : FN α β) (x : α) : ParC (g.f x) := ⟨g.p x⟩
noncomputable def fn {α β : Type} (f : α → (β → Option Res) → Option Res) (p : ∀ x, ParC (f x) := by intro x; (try dsimp only); first | infer_instance | (constructor; repeat' first | exact par_ret _ | exact par_none | refine par_bif ?_ ?_ | refine par_ite ?_ ?_ | refine bindC2 (fun _ => ?_) (fun _ => ⟨?_⟩) | refine bindC fun _ => ?_ | exact ParC.p)) : FN α β := shut ⟨f, fun x => (p x).p⟩
theorem fn_f {α β : Type} (f : α → (β → Option Res) → Option Res) (p : ∀ x, ParC (f x)) : (fn f p).f = f := by unfold fn; rw [shut_eq]

/-- A native piece; the first argument stays. -/
structure LB (α β γ : Type) where
  f : α → β → (γ → Option Res) → Option Res
  p : ∀ u x, Par (f u x)
instance {α β γ : Type} : CoeFun (LB α β γ) fun _ => α → β → (γ → Option Res) → Option Res := ⟨LB.f⟩
instance {α β γ : Type} (g : LB α β γ) (u : α) (x : β) : ParC (g.f u x) := ⟨g.p u x⟩
def lb {α β γ : Type} (f : α → β → (γ → Option Res) → Option Res) (p : ∀ u x, ParC (f u x) := by intro u x; (try dsimp only); first | infer_instance | (constructor; repeat' first | exact par_ret _ | exact par_none | refine par_bif ?_ ?_ | refine par_ite ?_ ?_ | refine bindC2 (fun _ => ?_) (fun _ => ⟨?_⟩) | refine bindC fun _ => ?_ | exact ParC.p)) : LB α β γ := ⟨f, fun u x => (p u x).p⟩
noncomputable def lpK {α β γ : Type} (b : LB α β (β ⊕ γ)) (u : α) (x : β) (k : γ → Option Res) : Option Res := loopK (b.f u) Fuel x k
instance {α β γ : Type} (b : LB α β (β ⊕ γ)) (u : α) (x : β) : ParC (lpK b u x) := ⟨par_loop (fun x => b.p u x) Fuel x⟩

/-- Loops, and what a cut may stand ahead of. -/
def loopsOf : Code → List (Nat × Code)
  | .seq a b => (headId b, b) :: (loopsOf a ++ loopsOf b)
  | .cond _ a b => loopsOf a ++ loopsOf b
  | .block id (.loop b) => (id, b) :: loopsOf b
  | .block _ c => loopsOf c
  | .region id ops draw => bif draw then [(3500000 + id, .region id ops true)] else []
  | _ => []

def findBody : List (Nat × Code) → Nat → Code
  | [], _ => .skip
  | (i, b) :: l, j => bif Nat.beq i j then b else findBody l j

def loopBody (fn : Func) (id : Nat) : Code := findBody (loopsOf (fn.body.getD .skip)) id

def isCut (i : Nat) : Bool := Nat.ble 4000000 i
def isRgn (i : Nat) : Bool := Nat.ble 3500000 i

def OkAt (G : Glob) (F : Fx) (i : Nat) (b : Code) : Prop :=
  ∀ sp, F.loops i = some sp → match isCut i, isRgn i with
    | true, _ => CutOk G F sp b
    | false, true => RgnOk G F sp b
    | false, false => LoopOk G F sp b

def AllL (G : Glob) (F : Fx) : List (Nat × Code) → Prop
  | [] => True
  | (i, b) :: l => OkAt G F i b ∧ AllL G F l

theorem AllL.left {G : Glob} {F : Fx} : ∀ {a b : List (Nat × Code)}, AllL G F (a ++ b) → AllL G F a
  | [], _, _ => trivial
  | _ :: _, _, h => ⟨h.1, AllL.left h.2⟩

theorem AllL.right {G : Glob} {F : Fx} : ∀ {a b : List (Nat × Code)}, AllL G F (a ++ b) → AllL G F b
  | [], _, h => h
  | _ :: _, _, h => AllL.right h.2

/-- All loops have numbers below those of cuts. -/
def loopsLow : Code → Bool
  | .seq a b => isCut (headId b) && (loopsLow a && loopsLow b)
  | .cond _ a b => loopsLow a && loopsLow b
  | .block id (.loop b) => !isRgn id && loopsLow b
  | .block _ c => loopsLow c
  | .region id _ _ => !isCut (3500000 + id)
  | _ => true

theorem loopsOk_all {G : Glob} {F : Fx} : ∀ (c : Code), loopsLow c = true → AllL G F (loopsOf c) → LoopsOk G F c
  | .seq a b, hl, h => by
    simp only [loopsLow, Bool.and_eq_true] at hl
    refine ⟨loopsOk_all a hl.2.1 (AllL.left h.2), loopsOk_all b hl.2.2 (AllL.right h.2), fun sp hsp => ?_⟩
    have := h.1 sp hsp
    rw [hl.1] at this
    exact this
  | .cond _ a b, hl, h => by
    simp only [loopsLow, Bool.and_eq_true] at hl
    exact ⟨loopsOk_all a hl.1 (AllL.left h), loopsOk_all b hl.2 (AllL.right h)⟩
  | .block id (.loop b), hl, h => by
    simp only [loopsLow, Bool.and_eq_true, Bool.not_eq_true'] at hl
    refine ⟨fun sp hsp => ?_, loopsOk_all b hl.2 h.2⟩
    have := h.1 sp hsp
    have hc : isCut id = false := Bool.eq_false_iff.2 fun h2 => by
      have h1 := hl.1
      simp only [isCut, isRgn, Nat.ble_eq] at h1 h2
      rw [Nat.ble_eq_true_of_le (by omega)] at h1
      cases h1
    rw [hc, hl.1] at this
    exact this
  | .block _ .skip, _, _ => trivial
  | .block _ (.region id ops draw), hl, h => loopsOk_all (.region id ops draw) hl h
  | .block _ (.seq a b), hl, h => loopsOk_all (.seq a b) hl h
  | .block _ (.cond c a b), hl, h => loopsOk_all (.cond c a b) hl h
  | .block _ (.block i a), hl, h => loopsOk_all (.block i a) hl h
  | .block _ (.rangeFunc _ _ _ _), _, _ => trivial
  | .block _ (.exit _), _, _ => trivial
  | .block _ (.scope _), _, _ => trivial
  | .block _ (.label _), _, _ => trivial
  | .block _ (.goto _), _, _ => trivial
  | .block _ .ret, _, _ => trivial
  | .block _ (.refuse _), _, _ => trivial
  | .skip, _, _ => trivial
  | .region id ops draw, hl, h => by
    intro hd sp hsp
    subst hd
    simp only [loopsLow, Bool.not_eq_true'] at hl
    have h := h.1 sp hsp
    rw [hl, show isRgn (3500000 + id) = true from Nat.ble_eq_true_of_le (by omega)] at h
    exact h
  | .loop _, _, _ => trivial
  | .rangeFunc _ _ _ _, _, _ => trivial
  | .exit _, _, _ => trivial
  | .scope _, _, _ => trivial
  | .label _, _, _ => trivial
  | .goto _, _, _ => trivial
  | .ret, _, _ => trivial
  | .refuse _, _, _ => trivial

def countI (i : Nat) : List (Nat × Code) → Nat
  | [] => 0
  | (j, _) :: l => bif Nat.beq j i then countI i l + 1 else countI i l

/-- The numbers that are told stand once each; no other is told. -/
def toldOnce (F : Fx) (ids : List Nat) (l : List (Nat × Code)) : Bool :=
  l.all fun p => match F.loops p.1 with
    | none => true
    | some _ => ids.any (Nat.beq p.1) && Nat.beq (countI p.1 l) 1

theorem findBody_once : ∀ {l : List (Nat × Code)} {i : Nat} {b : Code}, countI i l = 1 → (i, b) ∈ l → findBody l i = b
  | (j, c) :: l, i, b, hc, hm => by
    simp only [countI] at hc
    simp only [List.mem_cons, Prod.mk.injEq] at hm
    simp only [findBody]
    cases hj : Nat.beq j i with
    | true =>
      rw [hj] at hc
      simp only [cond_true] at hc ⊢
      rcases hm with ⟨_, h⟩ | hm
      · exact h.symm
      · exfalso
        have : ∀ (l : List (Nat × Code)), (i, b) ∈ l → countI i l ≠ 0 := by
          intro l
          induction l with
          | nil => intro h; simp at h
          | cons p l ih =>
            intro h
            obtain ⟨j', c'⟩ := p
            simp only [List.mem_cons, Prod.mk.injEq] at h
            simp only [countI]
            rcases h with ⟨h, _⟩ | h
            · subst h; simp
            · have := ih h
              cases Nat.beq j' i <;> simp [this]
        exact this l hm (by omega)
    | false =>
      rw [hj] at hc
      simp only [cond_false] at hc ⊢
      rcases hm with ⟨h, _⟩ | hm
      · subst h; simp at hj
      · exact findBody_once hc hm

def AllAt (G : Glob) (F : Fx) (c : Code) : List Nat → Prop
  | [] => True
  | i :: l => OkAt G F i (findBody (loopsOf c) i) ∧ AllAt G F c l

theorem AllAt.get {G : Glob} {F : Fx} {c : Code} : ∀ {l : List Nat}, AllAt G F c l → ∀ i ∈ l, OkAt G F i (findBody (loopsOf c) i)
  | a :: l, h, i, hi => by
    simp only [List.mem_cons] at hi
    rcases hi with rfl | hi
    · exact h.1
    · exact AllAt.get h.2 i hi

theorem loopsOk_of {G : Glob} {F : Fx} {c : Code} {ids : List Nat} (h1 : loopsLow c = true) (h2 : toldOnce F ids (loopsOf c) = true) (ha : AllAt G F c ids) : LoopsOk G F c := by
  refine loopsOk_all c h1 ?_
  have key : ∀ l : List (Nat × Code), (∀ p ∈ l, p ∈ loopsOf c) → AllL G F l := by
    intro l
    induction l with
    | nil => intro _; trivial
    | cons p l ih =>
      intro hp
      obtain ⟨i, b⟩ := p
      refine ⟨fun sp hsp => ?_, ih fun q hq => hp q (by simp [hq])⟩
      have hmem := hp (i, b) (by simp)
      have h3 := h2
      simp only [toldOnce, List.all_eq_true] at h3
      have h4 := h3 _ hmem
      simp only [hsp, Bool.and_eq_true, List.any_eq_true] at h4
      obtain ⟨⟨j, hj1, hj2⟩, h5⟩ := h4
      have hj : i = j := Nat.eq_of_beq_eq_true hj2
      subst hj
      have := ha.get i hj1 sp hsp
      rw [findBody_once (Nat.eq_of_beq_eq_true h5) hmem] at this
      exact this
  exact key _ fun p hp => hp

/-- How the orders of a told region fork. -/
inductive Tr where
  | leaf
  | node (a b : Tr)

def treeR : Tr → Option Res → Option Res
  | .leaf, o => o
  | .node a b, o => bothR (treeR a o) (treeR b o)

theorem treeR_leaf (R : Res) : ∀ t : Tr, ∃ rr, treeR t (some R) = some rr ∧ AllLeaf R rr
  | .leaf => ⟨R, rfl, .leaf⟩
  | .node a b => by
    obtain ⟨x, hx, lx⟩ := treeR_leaf R a
    obtain ⟨y, hy, ly⟩ := treeR_leaf R b
    exact ⟨pairR x y, by simp only [treeR, hx, hy, bothR], .node lx ly⟩

noncomputable def rgnRun (G : Glob) (F : Fx) (keep : List Nat) (wide : List (Option Ty)) (b : Code) (e : Env) (s : St) : Option Res :=
  match b with
  | .region id ops _ => execAnyP G (hintOf F id) ops ops.toList ops.size (Array.replicate ops.size false) (bodyK F keep wide .norm) e s
  | _ => none

def rgnSel : Code → Bool
  | .region _ ops _ => Region.noSelect ops
  | _ => false


/-! How a loop, a cut, a drawn region, a plan is told. -/

structure ESh (c : HT) where
  o : Out
  s : Sh
  h : s.c = c
def en {c : HT} (o : Out) (v : List Pat) (r : List RPat) (h : (Sh.mk v r).c = c := by rfl) : ESh c := ⟨o, ⟨v, r⟩, h⟩
def castT {a b : HT} (h : a = b) (x : b.T) : a.T := h ▸ x

@[reducible] def SumE {c : HT} : List (ESh c) → Type
  | [] => Empty
  | [a] => a.s.x.T
  | a :: b :: l => a.s.x.T ⊕ SumE (b :: l)

def endL {c : HT} (u : c.T) : (l : List (ESh c)) → (Out → List AV → St → Option Res) → SumE l → Option Res
  | [], _ => fun z => z.elim
  | [a], k => fun z => k a.o (a.s.av (castT a.h u) z) (a.s.st (castT a.h u) z)
  | a :: b :: l, k => Sum.elim (fun z => k a.o (a.s.av (castT a.h u) z) (a.s.st (castT a.h u) z)) (endL u (b :: l) k)

def endE {c : HT} (u : c.T) : (l : List (ESh c)) → SumE l → Out × List AV × St
  | [], z => z.elim
  | [a], z => (a.o, a.s.av (castT a.h u) z, a.s.st (castT a.h u) z)
  | a :: b :: l, .inl z => (a.o, a.s.av (castT a.h u) z, a.s.st (castT a.h u) z)
  | a :: b :: l, .inr z => endE u (b :: l) z

theorem endL_E {c : HT} (u : c.T) : ∀ (l : List (ESh c)) (k : Out → List AV → St → Option Res) (z : SumE l), endL u l k z = k (endE u l z).1 (endE u l z).2.1 (endE u l z).2.2
  | [], _, z => z.elim
  | [a], _, _ => rfl
  | a :: b :: l, k, .inl z => rfl
  | a :: b :: l, k, .inr z => endL_E u (b :: l) k z

def noNorm {c : HT} (l : List (ESh c)) : Bool := l.all fun e => match e.o with | .norm => false | _ => true
def isNorm {c : HT} (l : List (ESh c)) : Bool := l.all fun e => match e.o with | .norm => true | _ => false

theorem endE_mem {c : HT} (u : c.T) : ∀ (l : List (ESh c)) (z : SumE l), ∃ a ∈ l, (endE u l z).1 = a.o
  | [], z => z.elim
  | [a], _ => ⟨a, by simp, rfl⟩
  | a :: b :: l, .inl z => ⟨a, by simp, rfl⟩
  | a :: b :: l, .inr z => by
    obtain ⟨e, h1, h2⟩ := endE_mem u (b :: l) z
    exact ⟨e, List.mem_cons_of_mem _ h1, h2⟩

theorem endE_ne {c : HT} {u : c.T} {l : List (ESh c)} (h : noNorm l = true) (z : SumE l) : (endE u l z).1 ≠ .norm := by
  obtain ⟨a, h1, h2⟩ := endE_mem u l z
  simp only [noNorm, List.all_eq_true] at h
  have h3 := h a h1
  rw [h2]
  intro h4
  rw [h4] at h3
  cases h3

theorem endE_norm {c : HT} {u : c.T} {l : List (ESh c)} (h : isNorm l = true) (z : SumE l) : (endE u l z).1 = .norm := by
  obtain ⟨a, h1, h2⟩ := endE_mem u l z
  simp only [isNorm, List.all_eq_true] at h
  have h3 := h a h1
  rw [h2]
  revert h3
  cases a.o with
  | norm => intro _; rfl
  | exit _ => intro h3; cases h3
  | ret => intro h3; cases h3

inductive LI where
  | lp (id : Nat) (keep : List Nat) (wide : List (Option Ty)) (s : Sh) (e : List (ESh s.c)) (b : LB s.c.T s.x.T (s.x.T ⊕ SumE e))
  | ct (id : Nat) (keep : List Nat) (wide : List (Option Ty)) (s : Sh) (e : List (ESh s.c)) (b : LB s.c.T s.x.T (SumE e))
  | rg (id : Nat) (keep : List Nat) (wide : List (Option Ty)) (s : Sh) (e : List (ESh s.c)) (b : LB s.c.T s.x.T (SumE e)) (t : Tr)
  | pl (id : Nat) (l : List Nat)
  | wd (wide : List (Option Ty))

def LI.id : LI → Nat
  | .lp i _ _ _ _ _ => i
  | .ct i _ _ _ _ _ => i
  | .rg i _ _ _ _ _ _ => i
  | .pl i _ => i
  | .wd _ => 3000000

def LI.code : LI → Bool
  | .pl _ _ => false
  | .wd _ => false
  | _ => true

def Sh.on {α : Type} (s : Sh) (vs : List AV) (st : St) (f : s.c.T → s.x.T → Option α) : Option α :=
  match s.dec vs st with
  | some (c, x) => f c x
  | none => none

theorem Sh.on_inv {α : Type} {s : Sh} {vs : List AV} {st : St} {f : s.c.T → s.x.T → Option α} {r : α} (h : s.on vs st f = some r) : ∃ c x, vs = s.av c x ∧ st = s.st c x ∧ f c x = some r := by
  unfold Sh.on at h
  split at h
  · rename_i c x hc
    obtain ⟨h1, h2⟩ := Sh.dec_enc hc
    exact ⟨c, x, h1, h2, h⟩
  · cases h

noncomputable def LI.sp : LI → LoopSpec
  | .lp _ keep wide s e b => ⟨keep, wide, fun vs st k => s.on vs st fun c x => lpK b c x (endL c e k)⟩
  | .ct _ keep wide s e b => ⟨keep, wide, fun vs st k => s.on vs st fun c x => b.f c x (endL c e k)⟩
  | .rg _ keep wide s e b _ => ⟨keep, wide, fun vs st k => s.on vs st fun c x => b.f c x (endL c e k)⟩
  | .pl _ l => ⟨l, [], fun _ _ _ => none⟩
  | .wd w => ⟨[], w, fun _ _ _ => none⟩

noncomputable def lsOf : List LI → Nat → Option LoopSpec
  | [], _ => none
  | a :: l, i => bif Nat.beq a.id i then some a.sp else lsOf l i

def endR {c : HT} (u : c.T) (l : List (ESh c)) : SumE l → Option Res := endL u l fun o vs st => some ⟨o, vs, st⟩

/-- What is to be shown of a loop's body, of a cut piece, of a region. -/
def LI.ok (G : Glob) (F : Fx) (f : Func) : LI → Prop
  | .lp id keep wide s e b => ∀ c x, exec G F (loopBody f id) (bodyK F keep wide) (setEs (deads F.nt) keep (s.av c x)) (s.st c x) = b.f c x (Sum.elim (fun y => some ⟨.norm, s.av c y, s.st c y⟩) (endR c e))
  | .ct id keep wide s e b => ∀ c x, exec G F (loopBody f id) (bodyK F keep wide) (setEs (deads F.nt) keep (s.av c x)) (s.st c x) = b.f c x (endR c e)
  | .rg id keep wide s e b t => ∀ c x, rgnRun G F keep wide (loopBody f id) (setEs (deads F.nt) keep (s.av c x)) (s.st c x) = treeR t (b.f c x (endR c e))
  | _ => True

inductive AllOk (G : Glob) (F : Fx) (f : Func) : List LI → Prop
  | n {l : List LI} (h : (l.all fun a => !a.code) = true := by rfl) : AllOk G F f l
  | c {a : LI} {l : List LI} (h : a.ok G F f) (t : AllOk G F f l) : AllOk G F f (a :: l)

theorem AllOk.get {G : Glob} {F : Fx} {f : Func} {l : List LI} (h : AllOk G F f l) : ∀ a ∈ l, a.ok G F f := by
  induction h with
  | n h =>
    intro a ha
    rw [List.all_eq_true] at h
    have := h a ha
    cases a <;> first | trivial | cases this
  | c h _ ih =>
    intro a ha
    rcases List.mem_cons.1 ha with rfl | ha
    · exact h
    · exact ih a ha

def codeIds : List LI → List Nat
  | [] => []
  | a :: l => bif a.code then a.id :: codeIds l else codeIds l

def LI.fits (f : Func) (ids : List Nat) : LI → Bool
  | .lp i _ _ _ e _ => !isCut i && !isRgn i && noNorm e
  | .ct i _ _ _ _ _ => isCut i
  | .rg i _ _ _ e _ _ => !isCut i && isRgn i && isNorm e && rgnSel (loopBody f i)
  | .pl i _ => !(ids.any (Nat.beq i))
  | .wd _ => !(ids.any (Nat.beq 3000000))

theorem lsOf_mem : ∀ {l : List LI} {i : Nat} {sp : LoopSpec}, lsOf l i = some sp → ∃ a ∈ l, a.id = i ∧ a.sp = sp
  | [], i, sp, h => by cases h
  | a :: l, i, sp, h => by
    simp only [lsOf] at h
    cases hb : Nat.beq a.id i with
    | true =>
      rw [hb] at h
      cases h
      exact ⟨a, by simp, Nat.eq_of_beq_eq_true hb, rfl⟩
    | false =>
      rw [hb] at h
      obtain ⟨b, h1, h2⟩ := lsOf_mem (l := l) h
      exact ⟨b, List.mem_cons_of_mem _ h1, h2⟩

theorem codeIds_mem : ∀ {l : List LI} {i : Nat}, i ∈ codeIds l → ∃ a ∈ l, a.code = true ∧ a.id = i
  | [], i, h => by cases h
  | a :: l, i, h => by
    simp only [codeIds] at h
    cases hc : a.code with
    | true =>
      rw [hc] at h
      simp only [cond_true] at h
      rcases List.mem_cons.1 h with rfl | h
      · exact ⟨a, by simp, hc, rfl⟩
      · obtain ⟨b, h1, h2⟩ := codeIds_mem (l := l) h
        exact ⟨b, List.mem_cons_of_mem _ h1, h2⟩
    | false =>
      rw [hc] at h
      obtain ⟨b, h1, h2⟩ := codeIds_mem (l := l) h
      exact ⟨b, List.mem_cons_of_mem _ h1, h2⟩

theorem LI.sound {G : Glob} {F : Fx} {f : Func} {ids : List Nat} (a : LI) (hok : a.ok G F f) (hf : a.fits f ids = true) (hi : a.id ∈ ids) :
    match isCut a.id, isRgn a.id with
    | true, _ => CutOk G F a.sp (loopBody f a.id)
    | false, true => RgnOk G F a.sp (loopBody f a.id)
    | false, false => LoopOk G F a.sp (loopBody f a.id) := by
  cases a with
  | lp id keep wide s e b =>
    simp only [LI.fits, Bool.and_eq_true, Bool.not_eq_true'] at hf
    obtain ⟨⟨h1, h2⟩, h3⟩ := hf
    simp only [LI.id, h1, h2]
    intro vs st k r h
    simp only [LI.sp] at h
    obtain ⟨c, x, rfl, rfl, h'⟩ := Sh.on_inv h
    exact loop_runs (fun x => b.p c x) (fun x => s.av c x) (fun x => s.st c x) (fun z => endE c e z) (fun z => endE_ne h3 z)
      (fun x => (hok c x).trans (congrArg _ (by funext z; cases z with | inl _ => rfl | inr z => exact endL_E c e _ z))) Fuel x k r (by rw [← h']; unfold lpK; congr; funext z; exact (endL_E c e k z).symm)
  | ct id keep wide s e b =>
    simp only [LI.fits] at hf
    simp only [LI.id, hf]
    intro vs st k r h
    simp only [LI.sp] at h
    obtain ⟨c, x, rfl, rfl, h'⟩ := Sh.on_inv h
    obtain ⟨y, h1, h2⟩ := b.p c x _ _ h'
    have h3 := (hok c x).trans (h2 _)
    rw [endL_E] at h1
    rw [show endR c e y = some ⟨(endE c e y).1, (endE c e y).2.1, (endE c e y).2.2⟩ from endL_E c e _ y] at h3
    exact ⟨_, _, _, h3, h1⟩
  | rg id keep wide s e b t =>
    simp only [LI.fits, Bool.and_eq_true, Bool.not_eq_true'] at hf
    obtain ⟨⟨⟨h1, h2⟩, h3⟩, h4⟩ := hf
    simp only [LI.id, h1, h2]
    intro vs st k r h
    simp only [LI.sp] at h
    obtain ⟨c, x, rfl, rfl, h'⟩ := Sh.on_inv h
    obtain ⟨y, h5, h6⟩ := b.p c x _ _ h'
    have h7 := hok c x
    rw [h6, show endR c e y = some ⟨(endE c e y).1, (endE c e y).2.1, (endE c e y).2.2⟩ from endL_E c e _ y] at h7
    rw [endL_E, endE_norm h3] at h5
    rw [endE_norm h3] at h7
    obtain ⟨rr, h8, h9⟩ := treeR_leaf ⟨.norm, (endE c e y).2.1, (endE c e y).2.2⟩ t
    rw [h8] at h7
    revert h7 h4
    simp only [LI.sp]
    cases loopBody f id with
    | region i ops d => exact fun hs h7 => ⟨_, _, rr, h5, hs, h7, h9⟩
    | _ => intro hs h7; cases h7
  | pl i l =>
    simp only [LI.fits, Bool.not_eq_true', List.any_eq_false] at hf
    exact absurd (by simp [LI.id]) (hf i hi)
  | wd w =>
    simp only [LI.fits, Bool.not_eq_true', List.any_eq_false] at hf
    exact absurd (by simp [LI.id]) (hf 3000000 hi)

/-- What is looked at once and for all of a function that is told so. -/
noncomputable def fnChk (f : Func) (s : Sh) (ls : List LI) : Bool :=
  f.body.isSome && (!(f.name == "runtime.NumGoroutine") && (noSeg s.v && (loopsLow (f.body.getD .skip) && (toldOnce ⟨0, 0, lsOf ls⟩ (codeIds ls) (loopsOf (f.body.getD .skip)) && ls.all (LI.fits f (codeIds ls))))))

theorem loops_all {G : Glob} {F : Fx} {f : Func} {ls : List LI} (hF : F.loops = lsOf ls) (h1 : loopsLow (f.body.getD .skip) = true) (h2 : toldOnce ⟨0, 0, lsOf ls⟩ (codeIds ls) (loopsOf (f.body.getD .skip)) = true)
    (h3 : ls.all (LI.fits f (codeIds ls)) = true) (ha : AllOk G F f ls) : LoopsOk G F (f.body.getD .skip) := by
  have h2' : toldOnce F (codeIds ls) (loopsOf (f.body.getD .skip)) = true := by
    unfold toldOnce at h2 ⊢
    rw [hF]
    exact h2
  refine loopsOk_of h1 h2' ?_
  have key : ∀ ids : List Nat, (∀ i ∈ ids, i ∈ codeIds ls) → AllAt G F (f.body.getD .skip) ids := by
    intro ids
    induction ids with
    | nil => intro _; trivial
    | cons i ids ih =>
      intro hi
      refine ⟨fun sp hsp => ?_, ih fun j hj => hi j (List.mem_cons_of_mem _ hj)⟩
      rw [hF] at hsp
      obtain ⟨a, m1, m2, m3⟩ := lsOf_mem hsp
      subst m2; subst m3
      exact LI.sound (ids := codeIds ls) a (ha.get a m1) (List.all_eq_true.1 h3 a m1) (hi a.id (List.mem_cons_self ..))
  exact key _ fun i hi => hi

@[reducible] def SumO : List Sh → Type
  | [] => Empty
  | [a] => (a.c.cat a.x).T
  | a :: b :: l => (a.c.cat a.x).T ⊕ SumO (b :: l)

def Sh.av1 (s : Sh) (z : (s.c.cat s.x).T) : List AV := s.av (fstV _ s.x z) (sndV s.c _ z)
def Sh.st1 (s : Sh) (z : (s.c.cat s.x).T) : St := s.st (fstV _ s.x z) (sndV s.c _ z)
def headA : List AV → AV
  | a :: _ => a
  | [] => .dead

def outK : (l : List Sh) → K1 → SumO l → Option Res
  | [], _ => fun z => z.elim
  | [a], k => fun z => k (headA (a.av1 z)) (a.st1 z)
  | a :: b :: l, k => Sum.elim (fun z => k (headA (a.av1 z)) (a.st1 z)) (outK (b :: l) k)

def outR (l : List Sh) : SumO l → Option Res := outK l fun v s => some ⟨.ret, [v], s⟩

def outE : (l : List Sh) → SumO l → AV × St
  | [], z => z.elim
  | [a], z => (headA (a.av1 z), a.st1 z)
  | a :: b :: l, .inl z => (headA (a.av1 z), a.st1 z)
  | a :: b :: l, .inr z => outE (b :: l) z

theorem outK_E : ∀ (l : List Sh) (k : K1) (z : SumO l), outK l k z = k (outE l z).1 (outE l z).2
  | [], _, z => z.elim
  | [a], _, _ => rfl
  | a :: b :: l, k, .inl z => rfl
  | a :: b :: l, k, .inr z => outK_E (b :: l) k z

/-- The functions that are told, and that they are told right. -/
structure GO (P : Program) where
  G : Glob
  ok : GlobOk P G
  m : P.follows .mixedOrders = true

noncomputable def GO.tell {P : Program} (g : GO P) (f : Nat) (s : Sh) (o : List Sh) (n : FN (s.c.cat s.x).T (SumO o)) : List AV → St → K1 → Option Res := fun args st k =>
  match s.dec args st with
  | some (c, x) => n.f (catV _ _ c x) (outK o k)
  | none => g.G.call f args st k

theorem GO.tell_ok {P : Program} (g : GO P) (f : Nat) {fn : Func} (hf : P.funcs[f]? = some fn) (s : Sh) (o : List Sh) (n : FN (s.c.cat s.x).T (SumO o)) (ls : List LI) (hk : fnChk fn s ls = true)
    (hx : ∀ h, execFn g.G (lsOf ls) fn (s.av1 h) (s.st1 h) = n.f h (outR o))
    (hl : AllOk g.G ⟨s.r.length, s.v.length + (fn.ntmps - s.v.length), lsOf ls⟩ fn ls) : GlobOk P (g.G.add f (g.tell f s o n)) := by
  simp only [fnChk, Bool.and_eq_true, Bool.not_eq_true'] at hk
  obtain ⟨k1, k2, k3, k5, k6, k7⟩ := hk
  have hb : fn.body = some (fn.body.getD .skip) := by
    cases h : fn.body with
    | none => rw [h] at k1; cases k1
    | some c => rfl
  have hL := loops_all rfl k5 k6 k7 hl
  refine g.ok.add ⟨fn, hf, by rw [hb]; rfl, k2⟩ fun args st k r hr => ?_
  unfold GO.tell at hr
  split at hr
  · rename_i c x hcx
    obtain ⟨e1, e2⟩ := Sh.dec_enc hcx
    have f1 : s.av1 (catV _ _ c x) = s.av c x := by
      unfold Sh.av1
      rw [show fstV s.c s.x (catV _ _ c x) = c from fst_cat _ _ _ _, show sndV s.c s.x (catV _ _ c x) = x from snd_cat _ _ _ _]
    have f2 : s.st1 (catV _ _ c x) = s.st c x := by
      unfold Sh.st1
      rw [show fstV s.c s.x (catV _ _ c x) = c from fst_cat _ _ _ _, show sndV s.c s.x (catV _ _ c x) = x from snd_cat _ _ _ _]
    classical
    have hC : Contract P f (fun args' st' k' => if args' = args ∧ st' = st then n.f (catV _ _ c x) (outK o k') else none) := by
      refine fn_sound g.ok g.m hf hb fun args' st' k' r' hk' => ?_
      by_cases he : args' = args ∧ st' = st
      · rw [if_pos he] at hk'
        obtain ⟨rfl, rfl⟩ := he
        obtain ⟨z, h1, h2⟩ := n.p _ _ _ hk'
        rw [outK_E] at h1
        refine ⟨lsOf ls, _, _, h1, ?_, ?_⟩
        · have h3 := hx (catV _ _ c x)
          rw [f1, f2, ← e1, ← e2] at h3
          exact h3.trans ((h2 _).trans (outK_E o _ z))
        · rw [e1, e2]
          have l1 : (s.av c x).length = s.v.length := psEnc_len _ _ _ k3
          have l2 : (s.st c x).length = s.r.length := rsEnc_len _ _ _
          rw [l1, l2]
          exact hL
      · rw [if_neg he] at hk'; cases hk'
    exact hC args st k r (by show (if args = args ∧ st = st then _ else none) = _; rw [if_pos ⟨rfl, rfl⟩]; exact hr)
  · rcases g.ok.call f with h0 | ⟨_, h0⟩
    · rw [h0] at hr; cases hr
    · exact h0 args st k r hr

/-- One function more. -/
noncomputable def GO.fn {P : Program} (g : GO P) (f : Nat) {fn : Func} (hf : P.funcs[f]? = some fn) (s : Sh) (o : List Sh) (n : FN (s.c.cat s.x).T (SumO o)) (ls : List LI) (hk : fnChk fn s ls = true)
    (hx : ∀ h, execFn g.G (lsOf ls) fn (s.av1 h) (s.st1 h) = n.f h (outR o))
    (hl : AllOk g.G ⟨s.r.length, s.v.length + (fn.ntmps - s.v.length), lsOf ls⟩ fn ls) : GO P :=
  ⟨g.G.add f (g.tell f s o n), g.tell_ok f hf s o n ls hk hx hl, g.m⟩

/-- One more that is told by a contract of the library. -/
def GO.ext {P : Program} (g : GO P) (f : Nat) (h : List AV → St → K1 → Option Res) (he : Enter P f) (hc : Contract P f h) : GO P := ⟨g.G.add f h, g.ok.add he hc, g.m⟩

theorem GO.at {P : Program} (g : GO P) {f : Nat} {args : List AV} {s : St} {k : K1} {r : Res} (h : g.G.call f args s k = some r) : Contract P f (g.G.call f) := by
  rcases g.ok.call f with h0 | ⟨_, h0⟩
  · rw [h0] at h; cases h
  · exact h0

/-- A struct of plain fields, one cell each: may be compared. -/
def base1 : Ty → Bool
  | .int _ => true
  | .bool => true
  | .str => true
  | _ => false

def undOk (P : Program) (t : TypeId) : Ty → Bool
  | .int k => match P.underlying t with | some (.int k') => k == k' | _ => false
  | .bool => match P.underlying t with | some .bool => true | _ => false
  | .str => match P.underlying t with | some .string => true | _ => false
  | _ => false

def chkEqF (P : Program) : List Field → Ty → Nat → Bool
  | [f], T, off => base1 T && (f.name != "_") && (f.offset == off) && undOk P f.type T
  | f :: fs, .pair A B, off => base1 A && (f.name != "_") && (f.offset == off) && undOk P f.type A && chkEqF P fs B (off + 1)
  | _, _, _ => false

def chkEq (P : Program) (t : TypeId) (T : Ty) : Bool :=
  (!P.eqGuardType P.depth t) && (!P.stoodInHeld t) && (match P.underlying t with
    | some (.struct fs) => chkEqF P fs.toList T 0
    | _ => false)

theorem eq_one {P : Program} {w : World} {d : Nat} {f : Field} {A : Ty} {a b : A.D} {xs ys : Array Value} {pre prey post posty : List Value} (hb : base1 A = true) (hu : undOk P f.type A = true)
    (hx : xs.toList = pre ++ (valsT A a ++ post)) (hy : ys.toList = prey ++ (valsT A b ++ posty)) (ho : f.offset = pre.length) (ho' : f.offset = prey.length) :
    ∃ u v, (part f.type xs f.offset).run P w = .ok u w ∧ (part f.type ys f.offset).run P w = .ok v w ∧ (Op.equalIn (d + 1) f.type u v).run P w = .ok (A.eqB a b) w := by
  have hxs : ∀ u, valsT A a = [u] → xs[f.offset]? = some u := fun u h => by
    rw [← Array.getElem?_toList, hx, ho, h, List.getElem?_append_right (Nat.le_refl _)]; simp
  have hys : ∀ u, valsT A b = [u] → ys[f.offset]? = some u := fun u h => by
    rw [← Array.getElem?_toList, hy, ho', h, List.getElem?_append_right (Nat.le_refl _)]; simp
  cases A with
  | int k =>
    simp only [undOk] at hu
    split at hu
    · rename_i k' hund
      simp only [beq_iff_eq] at hu
      subst hu
      exact ⟨.int k a, .int k b, by simp [part, isAgg, run_underlying hund, hxs _ rfl], by simp [part, isAgg, run_underlying hund, hys _ rfl], run_equalIn_int w d f.type _ _ _ _ hund⟩
    · cases hu
  | bool =>
    simp only [undOk] at hu
    split at hu
    · rename_i hund
      exact ⟨.bool a, .bool b, by simp [part, isAgg, run_underlying hund, hxs _ rfl], by simp [part, isAgg, run_underlying hund, hys _ rfl], run_equalIn_bool' w d f.type _ _ hund⟩
    · cases hu
  | str =>
    simp only [undOk] at hu
    split at hu
    · rename_i hund
      exact ⟨.string a, .string b, by simp [part, isAgg, run_underlying hund, hxs _ rfl], by simp [part, isAgg, run_underlying hund, hys _ rfl], by rw [Ty.eqB, strEq_eq]; exact run_equalIn_string w d f.type _ _ hund⟩
    · cases hu
  | pair _ _ => cases hb
  | slice _ => cases hb

theorem eqFields_ok {P : Program} {w : World} {d : Nat} : ∀ (fs : List Field) (T : Ty) (off : Nat) (x y : T.D) (xs ys : Array Value) (pre prey : List Value), chkEqF P fs T off = true →
    xs.toList = pre ++ valsT T x → ys.toList = prey ++ valsT T y → pre.length = off → prey.length = off → (Op.eqFields (d + 1) xs ys fs).run P w = .ok (T.eqB x y) w := by
  intro fs
  induction fs with
  | nil => intro T off x y xs ys pre prey h; simp [chkEqF] at h
  | cons f fs ih =>
    intro T off x y xs ys pre prey h hx hy hp hp'
    cases fs with
    | nil =>
      simp only [chkEqF, Bool.and_eq_true, beq_iff_eq, bne_iff_ne] at h
      obtain ⟨⟨⟨h1, h2⟩, h3⟩, h4⟩ := h
      obtain ⟨u, v, g1, g2, g3⟩ := eq_one (w := w) (d := d) (A := T) (a := x) (b := y) (post := []) (posty := []) h1 h4 (by simpa using hx) (by simpa using hy) (by omega) (by omega)
      simp only [Op.eqFields, if_pos h2, Sem.run_bind, g1, g2, g3, Result.andThen_ok]
      cases T.eqB x y <;> simp
    | cons f' fs =>
      cases T with
      | pair A B =>
        simp only [chkEqF, Bool.and_eq_true, beq_iff_eq, bne_iff_ne] at h
        obtain ⟨⟨⟨⟨h1, h2⟩, h3⟩, h4⟩, h5⟩ := h
        simp only [valsT] at hx hy
        obtain ⟨u, v, g1, g2, g3⟩ := eq_one (w := w) (d := d) (A := A) (a := x.1) (b := y.1) h1 h4 hx hy (by omega) (by omega)
        have hone : ∀ z : A.D, (valsT A z).length = 1 := fun z => by cases A <;> first | rfl | cases h1
        have hr := ih B (off + 1) x.2 y.2 xs ys (pre ++ valsT A x.1) (prey ++ valsT A y.1) h5 (by rw [hx, List.append_assoc]) (by rw [hy, List.append_assoc]) (by simp [hone, hp]) (by simp [hone, hp'])
        rw [Op.eqFields]
        simp only [if_pos h2, Sem.run_bind, g1, g2, g3, Result.andThen_ok, Ty.eqB]
        cases A.eqB x.1 y.1
        · simp
        · simpa using hr
      | int _ => simp [chkEqF] at h
      | bool => simp [chkEqF] at h
      | str => simp [chkEqF] at h
      | slice _ => simp [chkEqF] at h

theorem chkEq_ok {P : Program} {t : TypeId} {T : Ty} (h : chkEq P t T = true) : EqT P t T := by
  simp only [chkEq, Bool.and_eq_true, Bool.not_eq_true'] at h
  obtain ⟨⟨h1, h2⟩, h3⟩ := h
  split at h3
  · rename_i fs hu
    refine ⟨h1, fun w x y => ?_⟩
    have hf : P.fieldsOf t = fs := by simp [Program.fieldsOf, hu]
    unfold Op.equal
    rw [show Op.maxDepth = 9998 + 1 + 1 from rfl, run_equalIn_struct (P := P) w (9998 + 1) t _ _ (by rw [hf]; exact hu) h2, hf]
    exact eqFields_ok fs.toList T 0 x y _ _ [] [] h3 (by simp) (by simp) rfl rfl
  · cases h3

def eqOf (eqs : List (Nat × Ty)) (t : Nat) : Bool :=
  match eqs with
  | [] => false
  | (u, _) :: l => Nat.beq u t || eqOf l t

def memN (l : List Nat) (t : Nat) : Bool :=
  match l with
  | [] => false
  | u :: l => Nat.beq u t || memN l t

def baseG (tab : List TInfo) (eqs : List (Nat × Ty)) (inp ones : List Nat) : Glob := { eqt := eqOf eqs, ty := tyTab tab, fld := fldTab tab, call := fun _ _ _ _ => none, inPlace := memN inp, one := memN ones }

/-- A pointer's or a function's type. -/
def chkOneC (P : Program) (t : TypeId) : Bool :=
  (match P.underlying t with
    | some (.pointer _) => true
    | some (.func _ _ _) => true
    | _ => false) && (match P.info? t with
    | some i => (i.size == 1) && (match i.zero with
      | some .nilFunc => true
      | some (.pointer none) => true
      | _ => false)
    | none => false)

theorem chkOneC_ok {P : Program} {t : TypeId} (h : chkOneC P t = true) : OneOk P t := by
  simp only [chkOneC, Bool.and_eq_true] at h
  obtain ⟨h1, h2⟩ := h
  split at h2
  · rename_i i hi
    simp only [Bool.and_eq_true, beq_iff_eq] at h2
    obtain ⟨h3, h4⟩ := h2
    refine ⟨fun w => ?_, fun w => by simp [sizeOf, typeInfo, hi, h3], ?_⟩
    · split at h1
      · rename_i hu; simp [isAgg, run_underlying hu]
      · rename_i hu; simp [isAgg, run_underlying hu]
      · cases h1
    · split at h4
      · rename_i hz; exact ⟨.nilFunc, rfl, fun w => by simp [zeroValue, typeInfo, hi, hz]⟩
      · rename_i hz; exact ⟨.pointer none, rfl, fun w => by simp [zeroValue, typeInfo, hi, hz]⟩
      · cases h4
  · cases h2

theorem memN_mem : ∀ {l : List Nat} {t : Nat}, memN l t = true → t ∈ l
  | [], _, h => by cases h
  | u :: l, t, h => by
    simp only [memN, Bool.or_eq_true] at h
    rcases h with h | h
    · rw [Nat.eq_of_beq_eq_true h]; simp
    · exact List.mem_cons_of_mem _ (memN_mem h)

/-- The table names each of these types so. -/
def eqsFit (tab : List TInfo) : List (Nat × Ty) → Bool
  | [] => true
  | (u, T) :: l => (match tyTab tab u with
    | some (true, T') => decide (T' = T)
    | _ => false) && eqsFit tab l

theorem eqOf_ok {P : Program} {tab : List TInfo} : ∀ {eqs : List (Nat × Ty)}, eqs.all (fun p => chkEq P p.1 p.2) = true → eqsFit tab eqs = true → ∀ t T, eqOf eqs t = true → tyTab tab t = some (true, T) → EqT P t T
  | [], _, _, t, T, h, _ => by cases h
  | (u, U) :: l, ha, hf, t, T, h, ht => by
    simp only [List.all_cons, Bool.and_eq_true] at ha
    simp only [eqsFit, Bool.and_eq_true] at hf
    simp only [eqOf, Bool.or_eq_true] at h
    rcases h with h | h
    · have := Nat.eq_of_beq_eq_true h
      subst this
      rw [ht] at hf
      simp only [decide_eq_true_eq] at hf
      rw [hf.1]
      exact chkEq_ok ha.1
    · exact eqOf_ok ha.2 hf.2 t T h ht

theorem baseG_ok {P : Program} {tab : List TInfo} {eqs : List (Nat × Ty)} {inp ones : List Nat} (h : tab.all (chkOne P) = true) (he : eqs.all (fun p => chkEq P p.1 p.2) = true) (hf : eqsFit tab eqs = true) (ho : ones.all (chkOneC P) = true) : GlobOk P (baseG tab eqs inp ones) where
  tys := tab_ok h rfl rfl
  call := fun _ => .inl fun _ _ _ => rfl
  eqs := fun t T h1 h2 _ => eqOf_ok he hf t T h1 h2
  ones := fun t ht => chkOneC_ok (List.all_eq_true.1 ho t (memN_mem ht))


def GO.base {P : Program} {tab : List TInfo} {eqs : List (Nat × Ty)} {inp ones : List Nat} (h : tab.all (chkOne P) = true) (he : eqs.all (fun p => chkEq P p.1 p.2) = true) (hf : eqsFit tab eqs = true) (ho : ones.all (chkOneC P) = true) (hm : P.follows .mixedOrders = true) : GO P :=
  ⟨baseG tab eqs inp ones, baseG_ok h he hf ho, hm⟩

end Go.VE
