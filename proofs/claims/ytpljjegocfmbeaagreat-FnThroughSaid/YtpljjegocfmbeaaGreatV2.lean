/- What the abstract values and the abstract state say of a heap; how what is said is kept. -/
import Derived.Test.YtpljjegocfmbeaaGreatV1
import Derived.Laws.Sem
namespace Go.VE

set_option linter.unusedVariables false
abbrev Heap := Array Obj

def CellsAt (h : Heap) (b off : Nat) (cs : List Value) : Prop :=
  ∃ c el fr, h[b]? = some (.cells c el fr) ∧ ∀ j v, cs[j]? = some v → c[off + j]? = some v

/-- The cells hold the data x; only blocks of I are read. -/
def Rep (h : Heap) (I : Nat → Prop) : (T : Ty) → List Value → T.D → Prop
  | .int k, cs, n => cs = [.int k n]
  | .bool, cs, b => cs = [.bool b]
  | .str, cs, s => cs = [.string s]
  | .pair a b, cs, x => ∃ c d, cs = c ++ d ∧ Rep h I a c x.1 ∧ Rep h I b d x.2
  | .slice e, cs, xs => ∃ a cap, cs = [.slice a xs.length cap] ∧ xs.length ≤ cap ∧
      (xs = [] ∨ ∃ b o, a = some ⟨b, o, none⟩ ∧ I b ∧ ∀ i (hi : i < xs.length), ∃ ec, CellsAt h b (o + i * e.size) ec ∧ Rep h I e ec xs[i])

theorem CellsAt.mono {h h' : Heap} {b o : Nat} {cs : List Value} (hc : CellsAt h b o cs) (hb : h'[b]? = h[b]?) : CellsAt h' b o cs := by
  obtain ⟨c, el, fr, e, hj⟩ := hc
  exact ⟨c, el, fr, hb.trans e, hj⟩

theorem Rep.mono {h h' : Heap} {I I' : Nat → Prop} (hI : ∀ b, I b → I' b ∧ h'[b]? = h[b]?) :
    ∀ (T : Ty) (cs : List Value) (x : T.D), Rep h I T cs x → Rep h' I' T cs x
  | .int _, _, _, hr => hr
  | .bool, _, _, hr => hr
  | .str, _, _, hr => hr
  | .pair a b, _, _, ⟨c, d, e, h1, h2⟩ => ⟨c, d, e, Rep.mono hI a c _ h1, Rep.mono hI b d _ h2⟩
  | .slice e, _, _, ⟨a, cap, hcs, hcap, hx⟩ => by
    refine ⟨a, cap, hcs, hcap, ?_⟩
    rcases hx with hx | ⟨b, o, ha, hb, hi⟩
    · exact .inl hx
    · refine .inr ⟨b, o, ha, (hI b hb).1, fun i hlt => ?_⟩
      obtain ⟨ec, h1, h2⟩ := hi i hlt
      exact ⟨ec, h1.mono (hI b hb).2, Rep.mono hI e ec _ h2⟩

theorem Rep.length {h : Heap} {I : Nat → Prop} : ∀ (T : Ty) (cs : List Value) (x : T.D), Rep h I T cs x → cs.length = T.size
  | .int _, _, _, hr => by rw [show _ = _ from hr]; rfl
  | .bool, _, _, hr => by rw [show _ = _ from hr]; rfl
  | .str, _, _, hr => by rw [show _ = _ from hr]; rfl
  | .pair a b, _, _, ⟨c, d, e, h1, h2⟩ => by rw [e, List.length_append, Rep.length a c _ h1, Rep.length b d _ h2]; rfl
  | .slice _, _, _, ⟨_, _, e, _⟩ => by rw [e]; rfl

theorem Ty.size_pos : ∀ T : Ty, 0 < T.size
  | .int _ => Nat.one_pos
  | .bool => Nat.one_pos
  | .str => Nat.one_pos
  | .pair a _ => Nat.lt_of_lt_of_le a.size_pos (Nat.le_add_right _ _)
  | .slice _ => Nat.one_pos

structure Slot where
  blk : Option Nat
  cap : Nat

def Rg.live : Rg → Bool
  | .box _ => true
  | .arr _ _ => true
  | _ => false

mutual
def RV (h : Heap) (I : Nat → Prop) (μ : List Slot) (s : St) : AV → Value → Prop
  | .int k n, v => v = .int k n
  | .bool b, v => v = .bool b
  | .str t, v => v = .string t
  | .lst e xs, v => Rep h I (.slice e) [v] xs
  | .nilS, v => ∃ a, v = .slice a 0 0
  | .own r, v => ∃ sl, μ[r]? = some sl ∧ (match getR s r with
    | .arr _ xs => ∃ a, v = .slice a xs.length sl.cap ∧ (sl.cap = 0 ∨ ∃ k, sl.blk = some k ∧ a = some ⟨k, 0, none⟩)
    | .frz e xs => Rep h I (.slice e) [v] xs
    | .gone => v.oneCell' = true
    | .box _ => False)
  | .bp b off, v => ∃ sl, μ[b]? = some sl ∧ (match getR s b with
    | .box _ => ∃ k, sl.blk = some k ∧ v = .pointer (some ⟨k, off, none⟩)
    | _ => False)
  | .ep r i off, v => ∃ sl, μ[r]? = some sl ∧ (match getR s r with
    | .arr e xs => i < xs.length ∧ ∃ k, sl.blk = some k ∧ v = .pointer (some ⟨k, i * e.size + off, none⟩)
    | .box _ => False
    | _ => v.oneCell' = true)
  | .win r lo, v => ∃ sl, μ[r]? = some sl ∧ (match getR s r with
    | .arr e xs => lo ≤ xs.length ∧ ∃ a, v = .slice a (xs.length - lo) (sl.cap - lo) ∧ (xs.length = lo ∨ ∃ k, sl.blk = some k ∧ a = some ⟨k, lo * e.size, none⟩)
    | .box _ => False
    | _ => v.oneCell' = true)
  | .ip T x off, v => ∃ b o cs, I b ∧ CellsAt h b o cs ∧ Rep h I T cs x ∧ v = .pointer (some ⟨b, o + off, none⟩)
  | .fn f caps, v => ∃ vs : Array Value, v = .func (.func f) #[] vs ∧ RVs h I μ s caps vs.toList
  | .agg cs, v => ∃ vs : Array Value, v = .agg vs ∧ RVs h I μ s cs vs.toList
  | .tup cs, v => ∃ vs : Array Value, v = .tuple vs ∧ RVs h I μ s cs vs.toList
  | .dead, _ => True
def RVs (h : Heap) (I : Nat → Prop) (μ : List Slot) (s : St) : List AV → List Value → Prop
  | [], vs => vs = []
  | a :: as, vs => ∃ v r, vs = v :: r ∧ RV h I μ s a v ∧ RVs h I μ s as r
end

/-- An owned or pointing value alone. -/
def AV.ref? : AV → Bool
  | .own _ => true
  | .bp _ _ => true
  | .ep _ _ _ => true
  | .win _ _ => true
  | _ => false

section
variable {h h' : Heap} {I I' : Nat → Prop} {μ μ' : List Slot} {s s' : St}

mutual
theorem RV.mono (hI : ∀ b, I b → I' b ∧ h'[b]? = h[b]?) (hr : ∀ a v, a.ref? = true → RV h I μ s a v → RV h' I' μ' s' a v) :
    ∀ (a : AV) (v : Value), RV h I μ s a v → RV h' I' μ' s' a v
  | .int _ _, _, hv => by simp only [RV] at hv ⊢; exact hv
  | .bool _, _, hv => by simp only [RV] at hv ⊢; exact hv
  | .str _, _, hv => by simp only [RV] at hv ⊢; exact hv
  | .lst e xs, v, hv => by simp only [RV] at hv ⊢; exact Rep.mono hI _ _ _ hv
  | .nilS, _, hv => by simp only [RV] at hv ⊢; exact hv
  | .own r, v, hv => hr _ _ rfl hv
  | .bp b off, v, hv => hr _ _ rfl hv
  | .ep r i off, v, hv => hr _ _ rfl hv
  | .win r lo, v, hv => hr _ _ rfl hv
  | .ip T x off, v, hv => by
    simp only [RV] at hv ⊢
    obtain ⟨b, o, cs, hb, hc, hx, e⟩ := hv
    exact ⟨b, o, cs, (hI b hb).1, hc.mono (hI b hb).2, Rep.mono hI _ _ _ hx, e⟩
  | .fn f caps, v, hv => by
    simp only [RV] at hv ⊢
    obtain ⟨vs, e, hs⟩ := hv
    exact ⟨vs, e, RVs.mono hI hr caps _ hs⟩
  | .agg cs, v, hv => by
    simp only [RV] at hv ⊢
    obtain ⟨vs, e, hs⟩ := hv
    exact ⟨vs, e, RVs.mono hI hr cs _ hs⟩
  | .tup cs, v, hv => by
    simp only [RV] at hv ⊢
    obtain ⟨vs, e, hs⟩ := hv
    exact ⟨vs, e, RVs.mono hI hr cs _ hs⟩
  | .dead, _, _ => by simp only [RV]
theorem RVs.mono (hI : ∀ b, I b → I' b ∧ h'[b]? = h[b]?) (hr : ∀ a v, a.ref? = true → RV h I μ s a v → RV h' I' μ' s' a v) :
    ∀ (as : List AV) (vs : List Value), RVs h I μ s as vs → RVs h' I' μ' s' as vs
  | [], _, hv => by simp only [RVs] at hv ⊢; exact hv
  | a :: as, vs, hv => by
    simp only [RVs] at hv ⊢
    obtain ⟨v, r, e, h1, h2⟩ := hv
    exact ⟨v, r, e, RV.mono hI hr a v h1, RVs.mono hI hr as r h2⟩
end
end

/-- Not a block of a live region. -/
def Free (μ : List Slot) (s : St) (b : Nat) : Prop := ∀ r sl, μ[r]? = some sl → (getR s r).live = true → sl.blk ≠ some b

/-- What is never written: readable. -/
def Im (X : Nat → Prop) (h : Heap) (μ : List Slot) (s : St) (b : Nat) : Prop := b < h.size ∧ ¬ X b ∧ Free μ s b

def NoFrz (c : Array Value) (fr : Nat × Nat) : Prop := ∀ o, o ≤ c.size → (decide (fr.1 ≤ o) && decide (o < fr.2)) = false

def RegOk (h : Heap) (I : Nat → Prop) (μ : List Slot) (s : St) (sl : Slot) : Rg → Prop
  | .box cs => ∃ k c el fr, sl.blk = some k ∧ h[k]? = some (.cells c el fr) ∧ NoFrz c fr ∧ RVs h I μ s cs c.toList
  | .arr e xs => (sl.blk = none ∧ sl.cap = 0 ∧ xs = []) ∨ ∃ k c el fr, sl.blk = some k ∧ h[k]? = some (.cells c el fr) ∧ NoFrz c fr ∧
      c.size = sl.cap * e.size ∧ xs.length ≤ sl.cap ∧ ∀ i (hi : i < xs.length), Rep h I e ((c.toList.drop (i * e.size)).take e.size) xs[i]
  | _ => True

structure Inv (X : Nat → Prop) (h : Heap) (μ : List Slot) (s : St) : Prop where
  len : μ.length = s.length
  reg : ∀ r sl, μ[r]? = some sl → RegOk h (Im X h μ s) μ s sl (getR s r)
  dis : ∀ r r' sl sl' b, r ≠ r' → μ[r]? = some sl → μ[r']? = some sl' → (getR s r).live = true → (getR s r').live = true → sl.blk = some b → sl'.blk ≠ some b
  notX : ∀ r sl b, μ[r]? = some sl → (getR s r).live = true → sl.blk = some b → ¬ X b
  xlt : ∀ b, X b → b < h.size

/-- What became of a state. -/
structure Ext (X : Nat → Prop) (h : Heap) (μ : List Slot) (s : St) (h' : Heap) (μ' : List Slot) (s' : St) : Prop where
  size : h.size ≤ h'.size
  same : ∀ b, b < h.size → Free μ s b → h'[b]? = h[b]?
  new : ∀ r sl b, μ'[r]? = some sl → (getR s' r).live = true → sl.blk = some b → h.size ≤ b ∨ ¬ Free μ s b
  rv : ∀ a v, RV h (Im X h μ s) μ s a v → RV h' (Im X h' μ' s') μ' s' a v
  len : s.length ≤ s'.length

theorem Free.later {h : Heap} {μ μ' : List Slot} {s s' : St}
    (new : ∀ r sl b, μ'[r]? = some sl → (getR s' r).live = true → sl.blk = some b → h.size ≤ b ∨ ¬ Free μ s b) {b : Nat} (hb : b < h.size) (hf : Free μ s b) : Free μ' s' b := by
  intro r sl hr hl he
  rcases new r sl b hr hl he with h1 | h1
  · omega
  · exact h1 hf

theorem Im.later {X : Nat → Prop} {h h' : Heap} {μ μ' : List Slot} {s s' : St} (size : h.size ≤ h'.size)
    (new : ∀ r sl b, μ'[r]? = some sl → (getR s' r).live = true → sl.blk = some b → h.size ≤ b ∨ ¬ Free μ s b) {b : Nat} (hb : Im X h μ s b) : Im X h' μ' s' b :=
  ⟨Nat.lt_of_lt_of_le hb.1 size, hb.2.1, Free.later new hb.1 hb.2.2⟩

theorem Ext.im {X : Nat → Prop} {h h' : Heap} {μ μ' : List Slot} {s s' : St} (e : Ext X h μ s h' μ' s') : ∀ b, Im X h μ s b → Im X h' μ' s' b ∧ h'[b]? = h[b]? :=
  fun b hb => ⟨Im.later e.size e.new hb, e.same b hb.1 hb.2.2⟩

theorem Ext.refl (X : Nat → Prop) (h : Heap) (μ : List Slot) (s : St) : Ext X h μ s h μ s where
  size := Nat.le_refl _
  same := fun _ _ _ => rfl
  new := fun r sl b hr hl he => .inr fun hf => hf r sl hr hl he
  rv := fun _ _ hv => hv
  len := Nat.le_refl _

theorem Ext.trans {X : Nat → Prop} {h h1 h2 : Heap} {μ μ1 μ2 : List Slot} {s s1 s2 : St} (a : Ext X h μ s h1 μ1 s1) (b : Ext X h1 μ1 s1 h2 μ2 s2) : Ext X h μ s h2 μ2 s2 where
  size := Nat.le_trans a.size b.size
  same := fun k hk hf => (b.same k (Nat.lt_of_lt_of_le hk a.size) (Free.later a.new hk hf)).trans (a.same k hk hf)
  new := fun r sl k hr hl he => by
    by_cases hk : h.size ≤ k
    · exact .inl hk
    · refine .inr fun hf => ?_
      rcases b.new r sl k hr hl he with hn | hn
      · have := a.size; omega
      · exact hn (Free.later a.new (by omega) hf)
  rv := fun x v hv => b.rv x v (a.rv x v hv)
  len := Nat.le_trans a.len b.len

/-- The step's part on values: it's enough to look at references. -/
theorem Ext.mk' {X : Nat → Prop} {h h' : Heap} {μ μ' : List Slot} {s s' : St} (size : h.size ≤ h'.size)
    (same : ∀ b, b < h.size → Free μ s b → h'[b]? = h[b]?)
    (new : ∀ r sl b, μ'[r]? = some sl → (getR s' r).live = true → sl.blk = some b → h.size ≤ b ∨ ¬ Free μ s b)
    (ref : ∀ a v, a.ref? = true → RV h (Im X h μ s) μ s a v → RV h' (Im X h' μ' s') μ' s' a v) (len : s.length ≤ s'.length) : Ext X h μ s h' μ' s' where
  size := size
  same := same
  new := new
  rv := fun a v => RV.mono (fun b hb => ⟨Im.later size new hb, same b hb.1 hb.2.2⟩) ref a v
  len := len

theorem RegOk.mono {h h' : Heap} {I I' : Nat → Prop} {μ μ' : List Slot} {s s' : St} {sl : Slot} (hI : ∀ b, I b → I' b ∧ h'[b]? = h[b]?)
    (hv : ∀ a v, RV h I μ s a v → RV h' I' μ' s' a v) : ∀ g : Rg, (∀ b, g.live = true → sl.blk = some b → h'[b]? = h[b]?) → RegOk h I μ s sl g → RegOk h' I' μ' s' sl g
  | .box cs, hb, ⟨k, c, el, fr, e, hc, hf, hr⟩ => ⟨k, c, el, fr, e, (hb k rfl e).trans hc, hf, RVs.mono hI (fun a v _ => hv a v) _ _ hr⟩
  | .arr e xs, hb, .inl h0 => .inl h0
  | .arr e xs, hb, .inr ⟨k, c, el, fr, he, hc, hf, h1, h2, h3⟩ => .inr ⟨k, c, el, fr, he, (hb k rfl he).trans hc, hf, h1, h2, fun i hi => Rep.mono hI _ _ _ (h3 i hi)⟩
  | .frz _ _, _, _ => trivial
  | .gone, _, _ => trivial

theorem getR_app_left : ∀ (s t : St) (r : Nat), r < s.length → getR (s ++ t) r = getR s r
  | [], _, _, h => absurd h (Nat.not_lt_zero _)
  | _ :: _, _, 0, _ => rfl
  | _ :: l, t, r + 1, h => getR_app_left l t r (Nat.lt_of_succ_lt_succ h)

theorem getR_app_right : ∀ (s t : St) (r : Nat), getR (s ++ t) (s.length + r) = getR t r
  | [], _, _ => by simp
  | _ :: l, t, r => by
    have := getR_app_right l t r
    simpa [Nat.add_right_comm, getR] using this

theorem getR_ge : ∀ (s : St) (r : Nat), s.length ≤ r → getR s r = .gone
  | [], _, _ => rfl
  | _ :: l, r, h => by
    cases r with
    | zero => simp at h
    | succ r => exact getR_ge l r (by simpa using h)

theorem getR_setR : ∀ (s : St) (r j : Nat) (g : Rg), r < s.length → getR (setR s r g) j = if j = r then g else getR s j
  | [], _, _, _, h => absurd h (Nat.not_lt_zero _)
  | a :: l, 0, j, g, _ => by cases j <;> simp [setR, getR]
  | a :: l, r + 1, j, g, h => by
    cases j with
    | zero => simp [setR, getR]
    | succ j => simp [setR, getR, getR_setR l r j g (Nat.lt_of_succ_lt_succ h)]

theorem setR_length : ∀ (s : St) (r : Nat) (g : Rg), (setR s r g).length = s.length
  | [], _, _ => rfl
  | _ :: _, 0, _ => rfl
  | _ :: l, r + 1, g => by simp [setR, setR_length l r g]

theorem lt_of_getR {s : St} {r : Nat} {g : Rg} (h : getR s r = g) (hg : g ≠ .gone) : r < s.length := by
  rcases Nat.lt_or_ge r s.length with h1 | h1
  · exact h1
  · exact absurd ((getR_ge s r h1).symm.trans h).symm (by simpa using hg)

theorem live_lt {s : St} {r : Nat} (h : (getR s r).live = true) : r < s.length := by
  refine lt_of_getR rfl ?_
  intro e
  rw [e] at h
  exact absurd h (by simp [Rg.live])

end Go.VE
