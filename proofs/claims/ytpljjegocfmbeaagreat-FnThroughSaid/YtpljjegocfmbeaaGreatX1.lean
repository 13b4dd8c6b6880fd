/- Shapes of values and states with holes; native programs; loops and functions told by them. -/
import Derived.Test.YtpljjegocfmbeaaGreatV23
import Derived.Laws.StructEq
namespace Go.VE
set_option linter.unusedVariables false
set_option linter.unusedSimpArgs false

/-! Types of holes: none, data, a number, one and more. -/

inductive HT where
  | u
  | d (T : Ty)
  | n
  | p (a b : HT)

@[reducible] def HT.T : HT → Type
  | .u => Unit
  | .d T => T.D
  | .n => Nat
  | .p a b => a.T × b.T

def HT.cons (a : HT) : HT → HT
  | .u => a
  | .d T => .p a (.d T)
  | .n => .p a .n
  | .p b c => .p a (.p b c)

def consV (a : HT) : (b : HT) → a.T → b.T → (a.cons b).T
  | .u, x, _ => x
  | .d _, x, y => (x, y)
  | .n, x, y => (x, y)
  | .p _ _, x, y => (x, y)

def hdV (a : HT) : (b : HT) → (a.cons b).T → a.T
  | .u, z => z
  | .d _, z => z.1
  | .n, z => z.1
  | .p _ _, z => z.1

def tlV (a : HT) : (b : HT) → (a.cons b).T → b.T
  | .u, z => ()
  | .d _, z => z.2
  | .n, z => z.2
  | .p _ _, z => z.2

def HT.cat : HT → HT → HT
  | .u, b => b
  | .d T, b => HT.cons (.d T) b
  | .n, b => HT.cons .n b
  | .p a c, b => HT.p a (c.cat b)

def catV : (a b : HT) → a.T → b.T → (a.cat b).T
  | .u, b, _, y => y
  | .d T, b, x, y => consV (.d T) b x y
  | .n, b, x, y => consV .n b x y
  | .p a c, b, x, y => (x.1, catV c b x.2 y)

def fstV : (a b : HT) → (a.cat b).T → a.T
  | .u, b, _ => ()
  | .d T, b, z => hdV (.d T) b z
  | .n, b, z => hdV .n b z
  | .p a c, b, z => (z.1, fstV c b z.2)

def sndV : (a b : HT) → (a.cat b).T → b.T
  | .u, b, z => z
  | .d T, b, z => tlV (.d T) b z
  | .n, b, z => tlV .n b z
  | .p a c, b, z => sndV c b z.2

theorem hd_cons (a : HT) : ∀ (b : HT) (x : a.T) (y : b.T), hdV a b (consV a b x y) = x
  | .u, _, _ => rfl
  | .d _, _, _ => rfl
  | .n, _, _ => rfl
  | .p _ _, _, _ => rfl

theorem tl_cons (a : HT) : ∀ (b : HT) (x : a.T) (y : b.T), tlV a b (consV a b x y) = y
  | .u, _, _ => rfl
  | .d _, _, _ => rfl
  | .n, _, _ => rfl
  | .p _ _, _, _ => rfl

theorem fst_cat : ∀ (a b : HT) (x : a.T) (y : b.T), fstV a b (catV a b x y) = x
  | .u, b, _, _ => rfl
  | .d T, b, x, y => hd_cons _ _ _ _
  | .n, b, x, y => hd_cons _ _ _ _
  | .p a c, b, x, y => by simp only [fstV, catV, fst_cat c b]

theorem snd_cat : ∀ (a b : HT) (x : a.T) (y : b.T), sndV a b (catV a b x y) = y
  | .u, b, _, _ => rfl
  | .d T, b, x, y => tl_cons _ _ _ _
  | .n, b, x, y => tl_cons _ _ _ _
  | .p a c, b, x, y => by simp only [sndV, catV, snd_cat c b]

/-! Patterns; 'c' tells a hole whose content stays. -/

inductive Leaf where
  | int (k : IntKind)
  | bool
  | str
  | lst (T : Ty)
  | dat (T : Ty)
  | ip (T : Ty) (o : Nat)
  | ep (r o : Nat)
  | win (r : Nat)

def Leaf.t : Leaf → HT
  | .int k => .d (.int k)
  | .bool => .d .bool
  | .str => .d .str
  | .lst T => .d (.slice T)
  | .dat T => .d T
  | .ip T _ => .d T
  | .ep _ _ => .n
  | .win _ => .n

/-- What has no hole. -/
inductive Tok where
  | nilS
  | own (r : Nat)
  | bp (b o : Nat)
  | dead
  | tt
  | ff
  | n (k : IntKind) (z : Int)

def Tok.enc : Tok → AV
  | .nilS => .nilS
  | .own r => .own r
  | .bp b o => .bp b o
  | .dead => .dead
  | .tt => .bool true
  | .ff => .bool false
  | .n k z => .int k z

def Tok.ok : Tok → AV → Bool
  | .nilS, .nilS => true
  | .own r, .own r' => Nat.beq r' r
  | .bp b o, .bp b' o' => Nat.beq b' b && Nat.beq o' o
  | .dead, .dead => true
  | .tt, .bool true => true
  | .ff, .bool false => true
  | .n k z, .int k' z' => decide (k' = k) && decide (z' = z)
  | _, _ => false

theorem Tok.ok_eq : ∀ (t : Tok) (v : AV), t.ok v = true → v = t.enc := by
  intro t v h
  unfold Tok.ok at h
  split at h <;> first | rfl | cases h | skip
  · rw [Nat.eq_of_beq_eq_true h]; rfl
  · simp only [Bool.and_eq_true] at h
    rw [Nat.eq_of_beq_eq_true h.1, Nat.eq_of_beq_eq_true h.2]; rfl
  · simp only [Bool.and_eq_true, decide_eq_true_eq] at h
    rw [h.1, h.2]; rfl

inductive Tag where
  | fn (f : Nat)
  | agg
  | tup

def Tag.mk : Tag → List AV → AV
  | .fn f, l => .fn f l
  | .agg, l => .agg l
  | .tup, l => .tup l

def Tag.get : Tag → AV → Option (List AV)
  | .fn f, .fn f' l => bif Nat.beq f' f then some l else none
  | .agg, .agg l => some l
  | .tup, .tup l => some l
  | _, _ => none

theorem bif_some {α : Type} {c : Bool} {x y : α} (h : (bif c then some x else none) = some y) : c = true ∧ x = y := by
  cases c
  · cases h
  · exact ⟨rfl, by simpa using h⟩

theorem Tag.get_eq : ∀ (t : Tag) (v : AV) (l : List AV), t.get v = some l → v = t.mk l := by
  intro t v l h
  unfold Tag.get at h
  split at h
  · obtain ⟨h1, rfl⟩ := bif_some h
    rw [Nat.eq_of_beq_eq_true h1]; rfl
  · cases h; rfl
  · cases h; rfl
  · cases h

inductive Pat where
  | h (c : Bool) (f : Leaf)
  | g (c : Bool) (T : Ty)
  | k (t : Tok)
  | m (t : Tag) (l : List Pat)

inductive RPat where
  | box (l : List Pat)
  | arr (c : Bool) (T : Ty)
  | frz (c : Bool) (T : Ty)
  | gone

abbrev Ty.i : Ty := .int .i64
abbrev AV.i (n : Int) : AV := .int .i64 n
abbrev Pat.i : Pat := .h false (.int .i64)
abbrev Pat.b : Pat := .h false .bool
abbrev Pat.s : Pat := .h false .str
abbrev Pat.l (T : Ty) : Pat := .h false (.lst T)
abbrev Pat.a (T : Ty) : Pat := .h false (.dat T)
abbrev Pat.ki : Pat := .h true (.int .i64)
abbrev Pat.kb : Pat := .h true .bool
abbrev Pat.ks : Pat := .h true .str
abbrev Pat.kl (T : Ty) : Pat := .h true (.lst T)
abbrev Pat.ka (T : Ty) : Pat := .h true (.dat T)
abbrev Pat.nilS : Pat := .k .nilS
abbrev Pat.own (r : Nat) : Pat := .k (.own r)
abbrev Pat.bp (b o : Nat) : Pat := .k (.bp b o)
abbrev Pat.dead : Pat := .k .dead
abbrev Pat.tt : Pat := .k .tt
abbrev Pat.ff : Pat := .k .ff
abbrev Pat.n (k : IntKind) (z : Int) : Pat := .k (.n k z)
abbrev Pat.z : Pat := .k (.n .i64 0)
abbrev Pat.fn (f : Nat) (l : List Pat) : Pat := .m (.fn f) l
abbrev Pat.agg (l : List Pat) : Pat := .m .agg l
abbrev Pat.tup (l : List Pat) : Pat := .m .tup l

/-- The type of the holes of a leaf that has this mark. -/
def HT.on (c m : Bool) (t : HT) : HT := bif c == m then t else .u

def onV (c m : Bool) (t : HT) (x : t.T) : (HT.on c m t).T := match c, m with
  | true, true => x
  | false, false => x
  | true, false => ()
  | false, true => ()

/-- Back. -/
def offV (c : Bool) (t : HT) (x : (HT.on c true t).T) (y : (HT.on c false t).T) : t.T := match c with
  | true => x
  | false => y

theorem off_on (c : Bool) (t : HT) (x : t.T) : offV c t (onV c true t x) (onV c false t x) = x := by cases c <;> rfl

mutual
def Pat.t (m : Bool) : Pat → HT
  | .h c f => HT.on c m f.t
  | .g c T => HT.on c m (.d T)
  | .k _ => .u
  | .m _ l => psT m l
def psT (m : Bool) : List Pat → HT
  | [] => .u
  | p :: l => (p.t m).cat (psT m l)
end

def RPat.t (m : Bool) : RPat → HT
  | .box l => psT m l
  | .arr c T => HT.on c m (.d (.slice T))
  | .frz c T => HT.on c m (.d (.slice T))
  | .gone => .u

def rsT (m : Bool) : List RPat → HT
  | [] => .u
  | p :: l => (p.t m).cat (rsT m l)

def Leaf.enc : (f : Leaf) → f.t.T → AV
  | .int k, n => .int k n
  | .bool, b => .bool b
  | .str, b => .str b
  | .lst T, xs => .lst T xs
  | .dat T, x => .agg (T.cells x)
  | .ip T o, x => .ip T x o
  | .ep r o, i => .ep r i o
  | .win r, i => .win r i

mutual
def Pat.enc : (p : Pat) → (p.t true).T → (p.t false).T → AV
  | .h c f, x, y => f.enc (offV c f.t x y)
  | .g _ _, _, _ => .dead
  | .k t, _, _ => t.enc
  | .m t l, x, y => t.mk (psEnc l x y)
def psEnc : (l : List Pat) → (psT true l).T → (psT false l).T → List AV
  | [], _, _ => []
  | .g c T :: l, x, y => T.cells (offV c (.d T) (fstV _ (psT true l) x) (fstV _ (psT false l) y)) ++ psEnc l (sndV _ (psT true l) x) (sndV _ (psT false l) y)
  | p :: l, x, y => p.enc (fstV (p.t true) (psT true l) x) (fstV (p.t false) (psT false l) y) :: psEnc l (sndV (p.t true) _ x) (sndV (p.t false) _ y)
end

def RPat.enc : (p : RPat) → (p.t true).T → (p.t false).T → Rg
  | .box l, x, y => .box (psEnc l x y)
  | .arr c T, x, y => .arr T (offV c (.d (.slice T)) x y)
  | .frz c T, x, y => .frz T (offV c (.d (.slice T)) x y)
  | .gone, _, _ => .gone

def rsEnc : (l : List RPat) → (rsT true l).T → (rsT false l).T → St
  | [], _, _ => []
  | p :: l, x, y => p.enc (fstV (p.t true) (rsT true l) x) (fstV (p.t false) (rsT false l) y) :: rsEnc l (sndV (p.t true) _ x) (sndV (p.t false) _ y)

/-- Data out of plain cells. -/
def Ty.tak : (T : Ty) → List AV → Option (T.D × List AV)
  | .int k, .int k' n :: r => if k' = k then some (n, r) else none
  | .bool, .bool b :: r => some (b, r)
  | .str, .str t :: r => some (t, r)
  | .pair a b, l => match a.tak l with
    | some (x, r) => match b.tak r with
      | some (y, r') => some ((x, y), r')
      | none => none
    | none => none
  | .slice e, .lst e' xs :: r => if h : e' = e then some (castL h xs, r) else none
  | _, _ => none

theorem Ty.tak_eq : ∀ (T : Ty) (l : List AV) (x : T.D) (r : List AV), T.tak l = some (x, r) → l = T.cells x ++ r
  | .int k, l, x, r, h => by
    cases l with
    | nil => simp [Ty.tak] at h
    | cons a l =>
      cases a <;> simp only [Ty.tak] at h <;> first | (cases h; done) | skip
      split at h
      · rename_i e; subst e; cases h; rfl
      · cases h
  | .bool, l, x, r, h => by
    cases l with
    | nil => simp [Ty.tak] at h
    | cons a l => cases a <;> simp only [Ty.tak] at h <;> first | (cases h; rfl) | cases h
  | .str, l, x, r, h => by
    cases l with
    | nil => simp [Ty.tak] at h
    | cons a l => cases a <;> simp only [Ty.tak] at h <;> first | (cases h; rfl) | cases h
  | .slice e, l, x, r, h => by
    cases l with
    | nil => simp [Ty.tak] at h
    | cons a l =>
      cases a <;> simp only [Ty.tak] at h <;> first | (cases h; done) | skip
      split at h
      · rename_i e; subst e; cases h; rfl
      · cases h
  | .pair a b, l, x, r, h => by
    simp only [Ty.tak] at h
    split at h
    · rename_i y q hy
      split at h
      · rename_i z q' hz
        cases h
        rw [a.tak_eq _ _ _ hy, b.tak_eq _ _ _ hz]
        simp only [Ty.cells, List.append_assoc]
      · cases h
    · cases h

def Leaf.dec : (f : Leaf) → AV → Option f.t.T
  | .int k, .int k' n => if k' = k then some n else none
  | .bool, .bool b => some b
  | .str, .str b => some b
  | .lst T, .lst T' xs => if h : T' = T then some (castL h xs) else none
  | .dat T, .agg cs => match T.tak cs with
    | some (x, []) => some x
    | _ => none
  | .ip T o, .ip T' x o' => if h : T' = T then bif Nat.beq o' o then some (h ▸ x) else none else none
  | .ep r o, .ep r' i o' => bif Nat.beq r' r && Nat.beq o' o then some i else none
  | .win r, .win r' i => bif Nat.beq r' r then some i else none
  | _, _ => none

mutual
def Pat.dec : (p : Pat) → AV → Option ((p.t true).T × (p.t false).T)
  | .h c f, v => match f.dec v with
    | some x => some (onV c true f.t x, onV c false f.t x)
    | none => none
  | .g _ _, _ => none
  | .k t, v => bif t.ok v then some ((), ()) else none
  | .m t l, v => match t.get v with
    | some c => psDec l c
    | none => none
def psDec : (l : List Pat) → List AV → Option ((psT true l).T × (psT false l).T)
  | [], [] => some ((), ())
  | .g c T :: l, vs => match T.tak vs with
    | some (x, r) => match psDec l r with
      | some (y, z) => some (catV _ _ (onV c true (.d T) x) y, catV _ _ (onV c false (.d T) x) z)
      | none => none
    | none => none
  | p :: l, v :: vs => match p.dec v with
    | some (x, y) => match psDec l vs with
      | some (z, w) => some (catV _ _ x z, catV _ _ y w)
      | none => none
    | none => none
  | _, _ => none
end

def RPat.dec : (p : RPat) → Rg → Option ((p.t true).T × (p.t false).T)
  | .box l, .box c => psDec l c
  | .arr c T, .arr T' xs => if h : T' = T then some (onV c true (.d (.slice T)) (castL h xs), onV c false (.d (.slice T)) (castL h xs)) else none
  | .frz c T, .frz T' xs => if h : T' = T then some (onV c true (.d (.slice T)) (castL h xs), onV c false (.d (.slice T)) (castL h xs)) else none
  | .gone, .gone => some ((), ())
  | _, _ => none

def rsDec : (l : List RPat) → St → Option ((rsT true l).T × (rsT false l).T)
  | [], [] => some ((), ())
  | p :: l, v :: vs => match p.dec v with
    | some (x, y) => match rsDec l vs with
      | some (z, w) => some (catV _ _ x z, catV _ _ y w)
      | none => none
    | none => none
  | _, _ => none

theorem Leaf.dec_enc : ∀ (f : Leaf) (v : AV) (x : f.t.T), f.dec v = some x → v = f.enc x
  | .int k, v, h, hd => by
    cases v <;> simp only [Leaf.dec] at hd <;> first | (cases hd; done) | skip
    split at hd
    · rename_i e; subst e; cases hd; rfl
    · cases hd
  | .bool, v, h, hd => by cases v <;> simp only [Leaf.dec] at hd <;> first | (cases hd; rfl) | cases hd
  | .str, v, h, hd => by cases v <;> simp only [Leaf.dec] at hd <;> first | (cases hd; rfl) | cases hd
  | .lst T, v, h, hd => by
    cases v <;> simp only [Leaf.dec] at hd <;> first | (cases hd; done) | skip
    split at hd
    · rename_i e; subst e; cases hd; rfl
    · cases hd
  | .dat T, v, h, hd => by
    cases v <;> simp only [Leaf.dec] at hd <;> first | (cases hd; done) | skip
    split at hd
    · rename_i x hx
      cases hd
      rw [T.tak_eq _ _ _ hx, List.append_nil]; rfl
    · cases hd
  | .ip T o, v, h, hd => by
    cases v <;> simp only [Leaf.dec] at hd <;> first | (cases hd; done) | skip
    split at hd
    · rename_i e; subst e
      obtain ⟨h1, h2⟩ := bif_some hd
      subst h2
      rw [Nat.eq_of_beq_eq_true h1]; rfl
    · cases hd
  | .ep b o, v, h, hd => by
    cases v <;> simp only [Leaf.dec] at hd <;> first | (cases hd; done) | skip
    obtain ⟨h1, h2⟩ := bif_some hd
    simp only [Bool.and_eq_true] at h1
    rw [Nat.eq_of_beq_eq_true h1.1, Nat.eq_of_beq_eq_true h1.2, h2]; rfl
  | .win b, v, h, hd => by
    cases v <;> simp only [Leaf.dec] at hd <;> first | (cases hd; done) | skip
    obtain ⟨h1, h2⟩ := bif_some hd
    rw [Nat.eq_of_beq_eq_true h1, h2]; rfl

mutual
theorem Pat.dec_enc : ∀ (p : Pat) (v : AV) (x : (p.t true).T) (y : (p.t false).T), p.dec v = some (x, y) → v = p.enc x y
  | .h c f, v, x, y, hd => by
    simp only [Pat.dec] at hd
    split at hd
    · rename_i z hz
      cases hd
      simp only [Pat.enc, off_on]
      exact f.dec_enc v z hz
    · cases hd
  | .g _ _, v, x, y, hd => by simp [Pat.dec] at hd
  | .k t, v, x, y, hd => by
    simp only [Pat.dec] at hd
    exact t.ok_eq v (bif_some hd).1
  | .m t l, v, x, y, hd => by
    simp only [Pat.dec] at hd
    split at hd
    · rename_i c hc
      simp only [Pat.enc]
      rw [t.get_eq v c hc, psDec_enc l c x y hd]
    · cases hd
theorem psDec_enc : ∀ (l : List Pat) (vs : List AV) (x : (psT true l).T) (y : (psT false l).T), psDec l vs = some (x, y) → vs = psEnc l x y
  | [], vs, x, y, hd => by cases vs <;> simp only [psDec] at hd <;> first | rfl | cases hd
  | p :: l, vs, x, y, hd => by
    have key : ∀ v vs', vs = v :: vs' → (match p.dec v with
        | some (x, y) => match psDec l vs' with
          | some (z, w) => some (catV (p.t true) (psT true l) x z, catV (p.t false) (psT false l) y w)
          | none => none
        | none => none) = some (x, y) → vs = p.enc (fstV (p.t true) (psT true l) x) (fstV (p.t false) (psT false l) y) :: psEnc l (sndV (p.t true) _ x) (sndV (p.t false) _ y) := by
      intro v vs' hv h
      subst hv
      split at h
      · rename_i a b hab
        split at h
        · rename_i c d hcd
          cases h
          rw [fst_cat, fst_cat, snd_cat, snd_cat, ← Pat.dec_enc p v a b hab, ← psDec_enc l vs' c d hcd]
        · cases h
      · cases h
    cases p with
    | g c T =>
      simp only [psDec] at hd
      split at hd
      · rename_i a r hr
        split at hd
        · rename_i b d hbd
          cases hd
          have h1 := T.tak_eq _ _ _ hr
          have h2 := psDec_enc l r b d hbd
          simp only [psEnc]
          erw [fst_cat, fst_cat, snd_cat, snd_cat, off_on]
          rw [← h2]
          exact h1
        · cases hd
      · cases hd
    | _ =>
      cases vs with
      | nil => simp [psDec] at hd
      | cons v vs => exact key v vs rfl hd
end

theorem RPat.dec_enc : ∀ (p : RPat) (v : Rg) (x : (p.t true).T) (y : (p.t false).T), p.dec v = some (x, y) → v = p.enc x y := by
  intro p v x y hd
  cases p with
  | box l =>
    cases v with
    | box c => rw [psDec_enc l c x y hd]; rfl
    | arr _ _ => cases hd
    | frz _ _ => cases hd
    | gone => cases hd
  | arr c T =>
    cases v with
    | arr T' xs =>
      change (if h : T' = T then some (onV c true (.d (.slice T)) (castL h xs), onV c false (.d (.slice T)) (castL h xs)) else none) = _ at hd
      split at hd
      · rename_i e; subst e; cases hd
        simp only [RPat.enc, off_on]; rfl
      · cases hd
    | box _ => cases hd
    | frz _ _ => cases hd
    | gone => cases hd
  | frz c T =>
    cases v with
    | frz T' xs =>
      change (if h : T' = T then some (onV c true (.d (.slice T)) (castL h xs), onV c false (.d (.slice T)) (castL h xs)) else none) = _ at hd
      split at hd
      · rename_i e; subst e; cases hd
        simp only [RPat.enc, off_on]; rfl
      · cases hd
    | box _ => cases hd
    | arr _ _ => cases hd
    | gone => cases hd
  | gone =>
    cases v with
    | gone => rfl
    | box _ => cases hd
    | arr _ _ => cases hd
    | frz _ _ => cases hd

theorem rsDec_enc : ∀ (l : List RPat) (vs : St) (x : (rsT true l).T) (y : (rsT false l).T), rsDec l vs = some (x, y) → vs = rsEnc l x y
  | [], vs, x, y, hd => by cases vs <;> simp only [rsDec] at hd <;> first | rfl | cases hd
  | p :: l, vs, x, y, hd => by
    cases vs with
    | nil => simp only [rsDec] at hd; cases hd
    | cons v vs =>
      simp only [rsDec] at hd
      split at hd
      · rename_i a b hab
        split at hd
        · rename_i c d hcd
          cases hd
          simp only [rsEnc, fst_cat, snd_cat]
          rw [← RPat.dec_enc p v a b hab, ← rsDec_enc l vs c d hcd]
        · cases hd
      · cases hd

structure Sh where
  v : List Pat
  r : List RPat

def Sh.c (s : Sh) : HT := (psT true s.v).cat (rsT true s.r)
def Sh.x (s : Sh) : HT := (psT false s.v).cat (rsT false s.r)
def Sh.av (s : Sh) (c : s.c.T) (x : s.x.T) : List AV := psEnc s.v (fstV _ (rsT true s.r) c) (fstV _ (rsT false s.r) x)
def Sh.st (s : Sh) (c : s.c.T) (x : s.x.T) : St := rsEnc s.r (sndV (psT true s.v) _ c) (sndV (psT false s.v) _ x)
def Sh.dec (s : Sh) (vs : List AV) (st : St) : Option (s.c.T × s.x.T) :=
  match psDec s.v vs with
  | some (a, b) => match rsDec s.r st with
    | some (c, d) => some (catV _ _ a c, catV _ _ b d)
    | none => none
  | none => none

theorem Sh.dec_enc {s : Sh} {vs : List AV} {st : St} {c : s.c.T} {x : s.x.T} (h : s.dec vs st = some (c, x)) : vs = s.av c x ∧ st = s.st c x := by
  unfold Sh.dec at h
  split at h
  · rename_i a b hab
    split at h
    · rename_i d e hde
      cases h
      have h1 : s.av (catV _ _ a d) (catV _ _ b e) = psEnc s.v a b := by
        unfold Sh.av
        rw [show fstV (psT true s.v) (rsT true s.r) (catV _ _ a d) = a from fst_cat _ _ _ _, show fstV (psT false s.v) (rsT false s.r) (catV _ _ b e) = b from fst_cat _ _ _ _]
      have h2 : s.st (catV _ _ a d) (catV _ _ b e) = rsEnc s.r d e := by
        unfold Sh.st
        rw [show sndV (psT true s.v) (rsT true s.r) (catV _ _ a d) = d from snd_cat _ _ _ _, show sndV (psT false s.v) (rsT false s.r) (catV _ _ b e) = e from snd_cat _ _ _ _]
      rw [h1, h2]
      exact ⟨psDec_enc _ _ _ _ hab, rsDec_enc _ _ _ _ hde⟩
    · cases h
  · cases h

def noSeg : List Pat → Bool
  | [] => true
  | .g _ _ :: _ => false
  | _ :: l => noSeg l

theorem psEnc_len : ∀ (l : List Pat) (x : (psT true l).T) (y : (psT false l).T), noSeg l = true → (psEnc l x y).length = l.length
  | [], _, _, _ => rfl
  | p :: l, x, y, h => by
    cases p with
    | g c T => cases h
    | _ => simp only [psEnc, List.length_cons]; rw [psEnc_len l _ _ h]

theorem rsEnc_len : ∀ (l : List RPat) (x : (rsT true l).T) (y : (rsT false l).T), (rsEnc l x y).length = l.length
  | [], _, _ => rfl
  | p :: l, x, y => by simp only [rsEnc, List.length_cons, rsEnc_len l]

end Go.VE
