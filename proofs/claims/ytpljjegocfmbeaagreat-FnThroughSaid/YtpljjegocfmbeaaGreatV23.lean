/- Tables of types, and their checks. -/
import Derived.Test.YtpljjegocfmbeaaGreatV22
namespace Go.VE
set_option linter.unusedVariables false
set_option linter.unusedSimpArgs false

structure TInfo where
  t : Nat
  ag : Bool
  T : Ty
  fields : List (Nat × Bool × Ty)

def tyTab : List TInfo → Nat → Option (Bool × Ty)
  | [], _ => none
  | i :: l, t => bif Nat.beq i.t t then some (i.ag, i.T) else tyTab l t

def nthF : List (Nat × Bool × Ty) → Nat → Option (Nat × Bool × Ty)
  | [], _ => none
  | x :: _, 0 => some x
  | _ :: l, n + 1 => nthF l n

def fldTab : List TInfo → Nat → Nat → Option (Nat × Bool × Ty)
  | [], _, _ => none
  | i :: l, t, f => bif Nat.beq i.t t then nthF i.fields f else fldTab l t f

def zeqL : List Value → List Value → Bool
  | [], [] => true
  | .int k n :: l, .int k' m :: r => decide (k = k') && decide (n = m) && zeqL l r
  | .bool a :: l, .bool b :: r => (a == b) && zeqL l r
  | .string a :: l, .string b :: r => (a.data.toList == b.data.toList) && zeqL l r
  | .slice none 0 0 :: l, .slice none 0 0 :: r => zeqL l r
  | _, _ => false

def zeq : Value → Value → Bool
  | .agg a, .agg b => zeqL a.toList b.toList
  | .agg _, _ => false
  | _, .agg _ => false
  | a, b => zeqL [a] [b]

theorem zeqL_eq : ∀ (l r : List Value), zeqL l r = true → l = r := by
  intro l
  induction l with
  | nil => intro r h; cases r with | nil => rfl | cons b r => simp [zeqL] at h
  | cons a l ih =>
    intro r h
    cases r with
    | nil => cases a <;> simp [zeqL] at h
    | cons b r =>
      unfold zeqL at h
      split at h
      · rename_i e1 e2; cases e1
      · rename_i k n l' k' m r' e1 e2
        simp only [List.cons.injEq] at e1 e2
        obtain ⟨rfl, rfl⟩ := e1
        obtain ⟨rfl, rfl⟩ := e2
        simp only [Bool.and_eq_true, decide_eq_true_eq] at h
        obtain ⟨⟨rfl, rfl⟩, h⟩ := h
        rw [ih _ h]
      · rename_i x l' y r' e1 e2
        simp only [List.cons.injEq] at e1 e2
        obtain ⟨rfl, rfl⟩ := e1
        obtain ⟨rfl, rfl⟩ := e2
        simp only [Bool.and_eq_true, beq_iff_eq] at h
        obtain ⟨rfl, h⟩ := h
        rw [ih _ h]
      · rename_i x l' y r' e1 e2
        simp only [List.cons.injEq] at e1 e2
        obtain ⟨rfl, rfl⟩ := e1
        obtain ⟨rfl, rfl⟩ := e2
        simp only [Bool.and_eq_true, beq_iff_eq] at h
        obtain ⟨h1, h⟩ := h
        have hxy : x = y := by
          cases x; cases y
          simp only [ByteArray.mk.injEq]
          exact Array.ext' h1
        rw [ih _ h, hxy]
      · rename_i l' r' e1 e2
        simp only [List.cons.injEq] at e1 e2
        obtain ⟨rfl, rfl⟩ := e1
        obtain ⟨rfl, rfl⟩ := e2
        rw [ih _ h]
      · cases h

theorem zeq_eq (a b : Value) (h : zeq a b = true) : a = b := by
  unfold zeq at h
  split at h
  · rename_i x y
    have := zeqL_eq _ _ h
    rw [Array.ext' this]
  · cases h
  · cases h
  · have := zeqL_eq _ _ h
    simpa using this

def chkInfo (P : Program) (t : Nat) (ag : Bool) (T : Ty) : Bool :=
  match P.info? t with
  | some i => (i.size == T.size) && decide (i.bytes ≤ 16384) && (match i.zero with | some z => zeq z (zval ag T) | none => false)
  | none => false

theorem chkInfo_ok {P : Program} {t : Nat} {ag : Bool} {T : Ty} (h : chkInfo P t ag T = true) : InfoOk P t ag T := by
  unfold chkInfo at h
  split at h
  · rename_i i hi
    simp only [Bool.and_eq_true, beq_iff_eq, decide_eq_true_eq] at h
    obtain ⟨⟨h1, h2⟩, h3⟩ := h
    split at h3
    · rename_i z hz
      exact ⟨i, hi, h1, h2, by rw [hz, zeq_eq _ _ h3]⟩
    · cases h3
  · cases h

/-- A kind of a type. -/
def chkTy (P : Program) : Ty → Nat → Bool → Bool
  | .int k, t, ag => chkInfo P t ag (.int k) && (ag == false) && (match P.underlying t with | some (.int k') => decide (k' = k) | _ => false)
  | .bool, t, ag => chkInfo P t ag .bool && (ag == false) && (match P.underlying t with | some .bool => true | _ => false)
  | .str, t, ag => chkInfo P t ag .str && (ag == false) && (match P.underlying t with | some .string => true | _ => false)
  | .pair a b, t, ag => chkInfo P t ag (.pair a b) && (ag == true) && (match P.underlying t with | some (.struct _) => true | _ => false)
  | .slice e, t, ag => chkInfo P t ag (.slice e) && (ag == false) && (match P.underlying t with | some (.slice te) => chkTy P e te e.isPair | _ => false)

theorem chkTy_ok {P : Program} : ∀ (T : Ty) (t : Nat) (ag : Bool), chkTy P T t ag = true → TyOk P T t ag
  | .int k, t, ag, h => by
    simp only [chkTy, Bool.and_eq_true, beq_iff_eq] at h
    obtain ⟨⟨h1, h2⟩, h3⟩ := h
    refine ⟨chkInfo_ok h1, h2, ?_⟩
    split at h3
    · rename_i k' hu; rw [hu, of_decide_eq_true h3]
    · cases h3
  | .bool, t, ag, h => by
    simp only [chkTy, Bool.and_eq_true, beq_iff_eq] at h
    obtain ⟨⟨h1, h2⟩, h3⟩ := h
    refine ⟨chkInfo_ok h1, h2, ?_⟩
    split at h3
    · rename_i hu; exact hu
    · cases h3
  | .str, t, ag, h => by
    simp only [chkTy, Bool.and_eq_true, beq_iff_eq] at h
    obtain ⟨⟨h1, h2⟩, h3⟩ := h
    refine ⟨chkInfo_ok h1, h2, ?_⟩
    split at h3
    · rename_i hu; exact hu
    · cases h3
  | .pair a b, t, ag, h => by
    simp only [chkTy, Bool.and_eq_true, beq_iff_eq] at h
    obtain ⟨⟨h1, h2⟩, h3⟩ := h
    refine ⟨chkInfo_ok h1, h2, ?_⟩
    split at h3
    · rename_i fs hu; exact ⟨fs, hu⟩
    · cases h3
  | .slice e, t, ag, h => by
    simp only [chkTy, Bool.and_eq_true, beq_iff_eq] at h
    obtain ⟨⟨h1, h2⟩, h3⟩ := h
    refine ⟨chkInfo_ok h1, h2, ?_⟩
    split at h3
    · rename_i te hu; exact ⟨te, _, hu, chkTy_ok e te _ h3⟩
    · cases h3

def chkTy1 (P : Program) (T : Ty) (t : Nat) (ag : Bool) : Bool :=
  chkTy P T t ag || (ag && chkInfo P t true T && (match P.underlying t with | some (.struct _) => true | _ => false))

theorem chkTy1_ok {P : Program} {T : Ty} {t : Nat} {ag : Bool} (h : chkTy1 P T t ag = true) : TyOk1 P T t ag := by
  simp only [chkTy1, Bool.or_eq_true, Bool.and_eq_true] at h
  rcases h with h | ⟨⟨h1, h2⟩, h3⟩
  · exact .inl (chkTy_ok _ _ _ h)
  · refine .inr ⟨h1, chkInfo_ok h2, ?_⟩
    split at h3
    · rename_i fs hu; exact ⟨fs, hu⟩
    · cases h3

def chkFs (P : Program) : List Field → List (Nat × Bool × Ty) → Bool
  | [], [] => true
  | fd :: fs, x :: l => (fd.offset == x.1) && chkTy1 P x.2.2 fd.type x.2.1 && chkFs P fs l
  | _, _ => false

theorem chkFs_ok {P : Program} : ∀ {fs : List Field} {l : List (Nat × Bool × Ty)}, chkFs P fs l = true →
    (∀ f off ag T, nthF l f = some (off, ag, T) → ∃ fd, fs[f]? = some fd ∧ fd.offset = off ∧ TyOk1 P T fd.type ag) ∧ (∀ i fd, fs[i]? = some fd → ∃ off ag T, nthF l i = some (off, ag, T))
  | [], [], _ => ⟨fun f off ag T h => by simp [nthF] at h, fun i fd h => by simp at h⟩
  | [], _ :: _, h => by simp [chkFs] at h
  | _ :: _, [], h => by simp [chkFs] at h
  | fd :: fs, x :: l, h => by
    simp only [chkFs, Bool.and_eq_true, beq_iff_eq] at h
    obtain ⟨⟨h1, h2⟩, h3⟩ := h
    obtain ⟨g1, g2⟩ := chkFs_ok h3
    refine ⟨fun f off ag T hf => ?_, fun i fd' hi => ?_⟩
    · cases f with
      | zero =>
        simp only [nthF, Option.some.injEq] at hf
        subst hf
        exact ⟨fd, by simp, h1, chkTy1_ok h2⟩
      | succ f =>
        obtain ⟨fd', k1, k2⟩ := g1 f off ag T hf
        exact ⟨fd', by simpa using k1, k2⟩
    · cases i with
      | zero => obtain ⟨a, b, c⟩ := x; exact ⟨a, b, c, rfl⟩
      | succ i => exact g2 i fd' (by simpa using hi)

def chkOne (P : Program) (i : TInfo) : Bool :=
  chkTy1 P i.T i.t i.ag && (match P.underlying i.t with
    | some (.struct fs) => i.ag && chkFs P fs.toList i.fields
    | _ => !i.ag && i.fields.isEmpty)

theorem tab_ok {P : Program} {G : Glob} {tab : List TInfo} (h : tab.all (chkOne P) = true) (h1 : G.ty = tyTab tab) (h2 : G.fld = fldTab tab) : TysOk P G := by
  have key : ∀ (l : List TInfo), l.all (chkOne P) = true → ∀ t, (∀ ag T, tyTab l t = some (ag, T) → TyOk1 P T t ag) ∧ (∀ f off ag T, fldTab l t f = some (off, ag, T) → FldOk P t f off ag T) ∧
      (∀ T, tyTab l t = some (true, T) → ∃ fs : Array Field, P.underlying t = some (.struct fs) ∧ ∀ i fd, fs[i]? = some fd → ∃ off ag T', fldTab l t i = some (off, ag, T')) := by
    intro l
    induction l with
    | nil => intro _ t; exact ⟨fun _ _ h => by simp [tyTab] at h, fun _ _ _ _ h => by simp [fldTab] at h, fun _ h => by simp [tyTab] at h⟩
    | cons i l ih =>
      intro hl t
      simp only [List.all_cons, Bool.and_eq_true] at hl
      obtain ⟨ha, hl⟩ := hl
      obtain ⟨k1, k2, k3⟩ := ih hl t
      simp only [chkOne, Bool.and_eq_true] at ha
      obtain ⟨ha1, ha2⟩ := ha
      cases hb : Nat.beq i.t t with
      | false =>
        simp only [tyTab, fldTab, hb, cond_false]
        exact ⟨k1, k2, k3⟩
      | true =>
        simp only [tyTab, fldTab, hb, cond_true]
        have ht : i.t = t := Nat.eq_of_beq_eq_true hb
        subst ht
        refine ⟨fun ag T he => ?_, fun f off ag T he => ?_, fun T he => ?_⟩
        · simp only [Option.some.injEq, Prod.mk.injEq] at he
          obtain ⟨rfl, rfl⟩ := he
          exact chkTy1_ok ha1
        · split at ha2
          · rename_i fs hu
            simp only [Bool.and_eq_true] at ha2
            obtain ⟨fd, q1, q2, q3⟩ := (chkFs_ok ha2.2).1 f off ag T he
            exact ⟨fs, fd, hu, by simpa using q1, q2, q3⟩
          · simp only [Bool.and_eq_true, List.isEmpty_iff] at ha2
            rw [ha2.2] at he
            simp [nthF] at he
        · simp only [Option.some.injEq, Prod.mk.injEq] at he
          obtain ⟨hag, rfl⟩ := he
          split at ha2
          · rename_i fs hu
            simp only [Bool.and_eq_true] at ha2
            exact ⟨fs, hu, fun j fd hj => (chkFs_ok ha2.2).2 j fd (by simpa using hj)⟩
          · simp [hag] at ha2
  exact ⟨fun t ag T he => (key tab h t).1 ag T (by rw [← h1]; exact he), fun t f off ag T he => (key tab h t).2.1 f off ag T (by rw [← h2]; exact he),
    fun t T he => by rw [h1] at he; rw [h2]; exact (key tab h t).2.2 T he⟩

end Go.VE
