/- A drawn region whose results agree, whatever comes up first. -/
import Derived.Test.YtpljjegocfmbeaaGreatV19q
namespace Go.VE
set_option linter.unusedVariables false
set_option linter.unusedSimpArgs false
noncomputable section

/-- Two results told as one. -/
def outV : Out → AV
  | .norm => .bool false
  | .exit n => .own n
  | .ret => .bool true
def pairR (a b : Res) : Res := ⟨.exit 77, [.tup a.vs, .tup b.vs, .own a.st.length, outV a.o, outV b.o], a.st ++ b.st⟩

theorem outV_inj {a b : Out} (h : outV a = outV b) : a = b := by
  cases a <;> cases b <;> simp only [outV, AV.bool.injEq, AV.own.injEq, reduceCtorEq] at h <;> first | rfl | (subst h; rfl) | cases h

theorem pairR_inj {a b c d : Res} (h : pairR a b = pairR c d) : a = c ∧ b = d := by
  obtain ⟨o1, v1, s1⟩ := a
  obtain ⟨o2, v2, s2⟩ := b
  obtain ⟨o3, v3, s3⟩ := c
  obtain ⟨o4, v4, s4⟩ := d
  simp only [pairR, Res.mk.injEq, List.cons.injEq, AV.tup.injEq, AV.own.injEq, and_true, true_and] at h
  obtain ⟨⟨h1, h2, h3, h4, h5⟩, h6⟩ := h
  obtain ⟨h7, h8⟩ := List.append_inj h6 h3
  have h9 := outV_inj h4
  have h10 := outV_inj h5
  subst h1 h2 h7 h8 h9 h10
  exact ⟨rfl, rfl⟩

/-- All results of these told as one are this. -/
inductive AllLeaf (R : Res) : Res → Prop
  | leaf : AllLeaf R R
  | node {a b : Res} : AllLeaf R a → AllLeaf R b → AllLeaf R (pairR a b)

theorem AllLeaf.eq_of_norm {R r : Res} (h : AllLeaf R r) (hr : r.o = Out.norm) : r = R := by
  cases h with
  | leaf => rfl
  | node _ _ => cases hr

theorem AllLeaf.of_pair {R a b : Res} (hR : R.o = Out.norm) (h : AllLeaf R (pairR a b)) : AllLeaf R a ∧ AllLeaf R b := by
  generalize hp : pairR a b = p at h
  cases h with
  | leaf => rw [← hp] at hR; cases hR
  | node h1 h2 => obtain ⟨rfl, rfl⟩ := pairR_inj hp; exact ⟨h1, h2⟩

def bothR : Option Res → Option Res → Option Res
  | some a, some b => some (pairR a b)
  | _, _ => none

def execTry (f : Nat → Option Res) : List Nat → Option Res
  | [] => none
  | [j] => f j
  | j :: l => bothR (f j) (execTry f l)

theorem execTry_mem {f : Nat → Option Res} {R : Res} (hR : R.o = Out.norm) : ∀ {l : List Nat} {r : Res}, execTry f l = some r → AllLeaf R r → ∀ j ∈ l, ∃ rj, f j = some rj ∧ AllLeaf R rj
  | [], _, h, _, j, hj => by cases hj
  | [i], r, h, hl, j, hj => by
    simp only [List.mem_singleton] at hj
    subst hj
    exact ⟨r, h, hl⟩
  | i :: i2 :: l, r, h, hl, j, hj => by
    simp only [execTry] at h
    cases h1 : f i with
    | none => rw [h1] at h; simp [bothR] at h
    | some a =>
      cases h2 : execTry f (i2 :: l) with
      | none => rw [h1, h2] at h; simp [bothR] at h
      | some b =>
        rw [h1, h2] at h
        simp only [bothR, Option.some.injEq] at h
        subst h
        obtain ⟨ha, hb⟩ := hl.of_pair hR
        rcases List.mem_cons.1 hj with rfl | hj
        · exact ⟨a, h1, ha⟩
        · exact execTry_mem hR h2 hb j hj

/-- As execAny; where several may come up, each is tried. -/
def execAnyP (G : Glob) (wr : List Nat) (ops : Array Oper) (all : List Oper) : Nat → Array Bool → (Env → St → Option Res) → Env → St → Option Res
  | 0, listed, k, e, s => match Region.ready .any ops listed with
    | [] => k e s
    | _ :: _ => none
  | n + 1, listed, k, e, s => match Region.ready .any ops listed with
    | [] => k e s
    | i :: l => match pickQ G wr ops all listed e s (i :: l) with
      | some (j, o) => stepOp G none all o (execAnyP G wr ops all n (listed.setIfInBounds j true) k) e s
      | none => match parts G all (i :: l) with
        | (A, [j]) => match all[j]? with
          | some o => bif okNext ops listed A j o then stepOp G (bif exempt G all j then none else some wr) all o (execAnyP G wr ops all n (listed.setIfInBounds j true) k) (deadAll e A) s else none
          | none => none
        | (p :: A, []) => match all[p.1]? with
          | some o => bif okLast ops all listed (p :: A) then stepOp G none all o (execAnyP G wr ops all n (listed.setIfInBounds p.1 true) k) (deadAll e (p :: A)) s else none
          | none => none
        | ([], j1 :: j2 :: l') => execTry (fun j => match all[j]? with
          | some o => stepOp G (bif exempt G all j then none else some wr) all o (execAnyP G wr ops all n (listed.setIfInBounds j true) k) e s
          | none => none) (j1 :: j2 :: l')
        | _ => none

section
variable {P : Program} {G : Glob} {X : Nat → Prop} {h : Heap} {I : Nat → Prop} {μ : List Slot} {s : St}

theorem execAnyP_sound (hG : GlobOk P G) {wr : List Nat} {ops : Array Oper} (hsel : Region.noSelect ops = true) {k : Env → St → Option Res} {R : Res} (hR : R.o = Out.norm) (hkn : ∀ e s r, k e s = some r → r.o = Out.norm) : ∀ (n : Nat) (listed : Array Bool) (e : Env) (s : St) (r : Res),
    execAnyP G wr ops ops.toList n listed k e s = some r → AllLeaf R r → ∀ X n0 w0 μ0 s0 nt (Q : Exit → Act → World → Prop), (∀ b, X b → b < n0) → w0.heap.size ≤ n0 → (∀ c a w, ¬ Q (.panic c) a w) → (∀ e' s', k e' s' = some R → ∀ a' w', Went X w0 μ0 s0 nt e' s' a' w' → Q .normal a' w') →
      ∀ m D lst a (w : World) μ, unl ops lst ≤ m → AtD G X n0 w0 μ0 s0 nt ops listed D lst e s a w μ → wpAnyL P .any ops Q (exempt G ops.toList) (fun w' => HX (XD X D) μ wr w.heap w'.heap) m lst a w := by
  intro n
  have fin : ∀ (listed : Array Bool) (e : Env) (s : St) (r : Res), Region.ready .any ops listed = [] → k e s = some r → AllLeaf R r → ∀ X n0 w0 μ0 s0 nt (Q : Exit → Act → World → Prop), (∀ b, X b → b < n0) → w0.heap.size ≤ n0 → (∀ c a w, ¬ Q (.panic c) a w) → (∀ e' s', k e' s' = some R → ∀ a' w', Went X w0 μ0 s0 nt e' s' a' w' → Q .normal a' w') →
      ∀ m D lst a (w : World) μ, unl ops lst ≤ m → AtD G X n0 w0 μ0 s0 nt ops listed D lst e s a w μ → wpAnyL P .any ops Q (exempt G ops.toList) (fun w' => HX (XD X D) μ wr w.heap w'.heap) m lst a w := by
    intro listed e s r hr hk hlf X n0 w0 μ0 s0 nt Q hX hw0 hp' hQ0 m D lst a w μ hm st
    have hrR := hlf.eq_of_norm (hkn _ _ _ hk)
    subst hrR
    have hQ := hQ0 e s hk
    have hD : D = [] := by
      cases D with
      | nil => rfl
      | cons p D => have := (st.pend p (by simp)).1; rw [hr] at this; cases this
    subst hD
    have hxd : ∀ b, XD X [] b ↔ X b := fun b => by simp [XD]
    have e1 : XD X [] = X := by funext b; exact propext (hxd b)
    have hr' : Region.ready .any ops lst = [] := by
      rw [List.eq_nil_iff_forall_not_mem]
      intro q hq
      obtain ⟨_, h2⟩ := st.isLst.ready_inv (A := []) (fun p hp => by cases hp) (fun q hq => by cases hq) hq
      rcases h2 with ⟨q, hq, _⟩ | h2
      · cases hq
      · rw [setAll, hr] at h2; cases h2
    exact wpAnyL_done hr' (hQ a w ⟨μ, e1 ▸ st.inv, e1 ▸ st.ext, e1 ▸ st.rvs, st.nt, st.defers, st.calm⟩) _
  induction n with
  | zero =>
    intro listed e s r hk hlf
    unfold execAnyP at hk
    split at hk
    · rename_i hr; exact fin listed e s r hr hk hlf
    · cases hk
  | succ n ih =>
    intro listed e s r hk hlf
    unfold execAnyP at hk
    split at hk
    · rename_i hr; exact fin listed e s r hr hk hlf
    · rename_i i l hr
      split at hk
      · rename_i j o hp
        obtain ⟨p1, p2, p3, p4, p5⟩ := pickQ_spec hp
        obtain ⟨e1, s1, h1, _, h2⟩ := stepOp_sound hG hk
        obtain ⟨rfl, h2⟩ := h2 p3
        have h4 := ih _ e1 _ _ h1 hlf
        intro X n0 w0 μ0 s0 nt Q hX hw0 hp' hQ m D lst a w μ hm st
        have hj : j ∈ Region.ready .any ops listed := by rw [hr]; exact p1
        have hjD : ¬ ∃ p ∈ D, p.1 = j := fun ⟨p, h5, h6⟩ => by
          obtain ⟨_, _, _, o', t', d', ag', T', q1, q2, _⟩ := st.pend p h5
          rw [h6, p2] at q1; cases q1
          rw [q2] at p3; cases p3
        have hjl := st.isLst.ready hj hjD
        obtain ⟨m', rfl, hm'⟩ := unl_pos hjl hm
        obtain ⟨cv, y1, y2⟩ := h2 wr p5 (XD X D) w.heap μ a st.inv st.rvs
        have hfree := Region.free_spec p2 p4
        have hoff : ∀ p ∈ D, ∀ o', ops[p.1]? = some o' → ∀ d, o'.dst = some d → o.dst ≠ some d := fun p h5 o' h6 d h7 h8 => by
          obtain ⟨g1, _⟩ := st.pend p h5
          obtain ⟨g2, og, g3, g4⟩ := mem_ready.1 g1
          rw [h6] at g3; cases g3
          have h9 := hfree p.1 o' h6 (fun e => hjD ⟨p, h5, e⟩) g2 (fun e he hb heq => by
            have := g4 e he hb
            rw [heq] at this
            have h10 := (mem_ready.1 hj).1
            have hlt := lt_of_unlisted h10
            rw [getD_tf hlt] at this h10
            rw [this] at h10; cases h10)
          exact (Oper.apart_spec h9).2.1 d h8 h7
        refine wpAnyL_first (S0 := fun w' => isLd o.op = true → HX (XD X D) μ wr w.heap w'.heap) (fun w' hw' _ => hw') p2 ?_ ?_ (Region.noSelect_spec hsel) (fun c a w hc => absurd hc (hp' _ _ _)) _ _ _ _ ?_ hjl y1 ?_ (fun _ _ _ _ _ => rfl) (fun _ _ _ _ _ => rfl) ?_
        · intro x ox hox hxj hex hno w' hld
          obtain ⟨oj, g1, _, g2⟩ := exempt_spec hex
          rw [hox] at g1; cases g1
          obtain ⟨e, he, hb, hon⟩ := g2 j o p2 hld (Ne.symm hxj)
          exact absurd hon (hno e he hb)
        · cases hex : exempt G ops.toList j with
          | false => rfl
          | true =>
            obtain ⟨oj, g1, g2, _⟩ := exempt_spec hex
            rw [p2] at g1; cases g1
            rw [p3] at g2; cases g2
        · intro x ox hox hxj hun hno
          refine hfree x ox hox hxj ?_ hno
          have hlt := lt_of_unlisted hun
          rw [st.isLst.size] at hlt
          by_cases hxD : ∃ p ∈ D, p.1 = x
          · rw [st.isLst.on x _ hxD hlt] at hun; cases hun
          · rw [← st.isLst.off x _ hxD]; exact hun
        · cases hld : isLd o.op with
          | false => exact .inr fun w' h => by cases h
          | true =>
            refine .inl fun x hex => ?_
            obtain ⟨ox, g1, g3, g2⟩ := exempt_spec hex
            cases hxl : lst.getD x true with
            | false => rfl
            | true =>
              have hxj : j ≠ x := fun e => by subst e; rw [p2] at g1; cases g1; rw [p3] at g3; cases g3
              obtain ⟨e, he, hb, hon⟩ := g2 j o p2 hld hxj
              have hlt : x < lst.size := by rw [st.isLst.size, st.lsz]; exact (Array.getElem?_eq_some_iff.1 g1).1
              have h9 := st.cl x ox g1 (by rw [getD_tf hlt] at hxl ⊢; exact hxl) e he hb
              rw [hon] at h9
              have h10 := (mem_ready.1 hjl).1
              have hlt2 := lt_of_unlisted h10
              rw [getD_tf hlt2] at h9 h10
              rw [h9] at h10; cases h10
        · exact h4 X n0 w0 μ0 s0 nt Q hX hw0 hp' hQ m' D _ _ w μ hm' (st.step hj hjD st.inv y2 (Ext.refl _ _ _ _) (Calm.refl w) hoff)
      · obtain ⟨hA1, hA2⟩ := parts_spec (G := G) (all := ops.toList) (i :: l)
        rw [← hr] at hA1 hA2
        split at hk
        · rename_i A j hpt
          rw [hr, hpt] at hA1 hA2
          simp only [← hr] at hA1 hA2
          split at hk
          · rename_i o ho
            rw [Array.getElem?_toList] at ho
            cases hok : okNext ops listed A j o with
            | false => rw [hok] at hk; cases hk
            | true =>
              rw [hok] at hk
              simp only [cond_true] at hk
              have hj : j ∈ Region.ready .any ops listed ∧ allocAt G ops.toList j = none := by
                have := parts_two (G := G) (all := ops.toList) (i :: l) j (by rw [hpt]; simp)
                rw [← hr] at this; exact this
              have hA3 : ∀ i ∈ Region.ready .any ops listed, ∀ d, allocAt G ops.toList i = some d → (i, d) ∈ A := fun x hx d hd => by
                rcases hA2 x hx with ⟨d', g1, g2⟩ | ⟨g1, _⟩
                · rw [g1] at hd; cases hd; exact g2
                · rw [g1] at hd; cases hd
              have hN : (∀ q ∈ Region.ready .any ops (setAll listed A), q = j) ∧ (∀ p ∈ A, ∀ q ∈ A, p.2 = q.2 → p = q) ∧ ∀ q ∈ A, o.dst ≠ some q.2 := by
                cases A with
                | nil =>
                  refine ⟨fun q hq => ?_, (by simp), (by simp)⟩
                  rcases hA2 q hq with ⟨d', _, g2⟩ | ⟨_, g2⟩
                  · cases g2
                  · simpa using g2
                | cons a0 A0 =>
                  simp only [okNext, Bool.and_eq_true] at hok
                  refine ⟨fun q hq => ?_, nodup2_spec hok.1.2, fun q hq hd => ?_⟩
                  · have h9 := hok.1.1
                    unfold only at h9
                    split at h9
                    · rename_i y hy
                      rw [hy] at hq
                      simp only [List.mem_singleton] at hq
                      rw [hq]; exact Nat.eq_of_beq_eq_true h9
                    · cases h9
                  · have h9 := hok.2
                    rw [hd] at h9
                    simp only [offAll, Bool.not_eq_true', List.any_eq_false] at h9
                    exact h9 q hq (Nat.beq_refl _)
              obtain ⟨e1, s1, h1, h2, _⟩ := stepOp_sound hG hk
              have h4 := ih _ e1 _ _ h1 hlf
              intro X n0 w0 μ0 s0 nt Q hX hw0 hp' hQ
              have key : ∀ m D lst a (w : World) μ, unl ops lst ≤ m → AtD G X n0 w0 μ0 s0 nt ops listed D lst (deadAll e A) s a w μ → wpAnyL P .any ops Q (exempt G ops.toList) (fun w' => HX (XD X D) μ wr w.heap w'.heap) m lst a w := by
                intro m
                induction m with
                | zero =>
                  intro D lst a w μ hm st
                  have hjD : ¬ ∃ p ∈ D, p.1 = j := fun ⟨p, h5, h6⟩ => by
                    obtain ⟨d, h7, _⟩ := pend_dst st.pend hA3 p h5
                    have := (hA1 _ h7).2
                    simp only [h6] at this
                    rw [hj.2] at this; cases this
                  obtain ⟨m', h, _⟩ := unl_pos (st.isLst.ready hj.1 hjD) hm
                  omega
                | succ m ihm =>
                  intro D lst a w μ hm st
                  have hDA : ∀ p ∈ D, ∃ q ∈ A, q.1 = p.1 := fun p h5 => by
                    obtain ⟨d, h7, _⟩ := pend_dst st.pend hA3 p h5
                    exact ⟨_, h7, rfl⟩
                  have hjD : ¬ ∃ p ∈ D, p.1 = j := fun ⟨p, h5, h6⟩ => by
                    obtain ⟨q, h7, h8⟩ := hDA p h5
                    have := (hA1 _ h7).2
                    rw [h8, h6, hj.2] at this; cases this
                  have hjl := st.isLst.ready hj.1 hjD
                  refine ⟨fun h => (by rw [h] at hjl; cases hjl), fun i' hi' => ?_⟩
                  obtain ⟨hi'D, hi'2⟩ := st.isLst.ready_inv (A := A) hDA (fun q hq => (hA1 q hq).1) hi'
                  obtain ⟨m', hmm, hm'⟩ := unl_pos hi' hm
                  have hmm' : m' = m := by omega
                  subst hmm'
                  rcases hi'2 with hi'A | hi'2
                  · exact early_step hG st hA1 hA3 hN.2.1 hi' hi'D hi'A ihm hm'
                  · have := hN.1 i' hi'2
                    subst this
                    refine h2 (XD X D) μ w a st.inv st.rvs Q _ i' ho fun cv w' μ' i1 v1 x1 t1 c1 => ?_
                    have st2 := st.step hj.1 hjD i1 v1 x1 c1 (fun p hp o2 g2 d g3 g4 => by
                      obtain ⟨d', h7, h8⟩ := pend_dst st.pend hA3 p hp
                      have := h8 o2 g2
                      rw [g3] at this; cases this
                      exact hN.2.2 _ h7 g4)
                    have hrest := h4 X n0 w0 μ0 s0 nt Q hX hw0 hp' hQ m' D _ _ w' μ' hm' st2
                    have hlt := lt_of_unlisted (mem_ready.1 hi').1
                    cases hex : exempt G ops.toList i' with
                    | true =>
                      refine ⟨fun hn => ?_, wpAnyL_irrel hex _ _ _ _ (getD_set_eq hlt) hrest⟩
                      have := hn i' hex
                      rw [getD_set_eq hlt] at this; cases this
                    | false =>
                      rw [hex] at t1
                      have t1 := t1 wr rfl
                      exact ⟨fun _ b hb _ hnot => (t1 b hb hnot).1, wpAnyL_monoS (fun w'' hw'' b hb hx hnot => (hw'' b (Nat.lt_of_lt_of_le hb x1.size) hx (t1 b hb hnot).2).trans (t1 b hb hnot).1) _ _ _ _ hrest⟩
              exact fun m D lst a w μ hm st => key m D lst a w μ hm { st with rvs := deadAll_rvs A st.rvs }
          · cases hk
        · rename_i p A hpt
          rw [hr, hpt] at hA1 hA2
          simp only [← hr] at hA1 hA2
          split at hk
          · rename_i o ho
            rw [Array.getElem?_toList] at ho
            cases hok : okLast ops ops.toList listed (p :: A) with
            | false => rw [hok] at hk; cases hk
            | true =>
              rw [hok] at hk
              simp only [cond_true] at hk
              have hA3 : ∀ i ∈ Region.ready .any ops listed, ∀ d, allocAt G ops.toList i = some d → (i, d) ∈ p :: A := fun x hx d hd => by
                rcases hA2 x hx with ⟨d', g1, g2⟩ | ⟨g1, g2⟩
                · rw [g1] at hd; cases hd; exact g2
                · cases g2
              have hok2 : nodup2 (p :: A) = true := by
                simp only [okLast, Bool.and_eq_true] at hok
                exact hok.1
              have hnd := nodup2_spec hok2
              obtain ⟨hp1, hp2⟩ := hA1 p (by simp)
              obtain ⟨o', t, ag, T, q1, q2, q3, q4, q5⟩ := allocAt_spec hp2
              rw [ho] at q1
              cases q1
              simp only [stepOp, q3, op1, q2, execOp1, q5] at hk
              have h4 := ih _ _ _ _ hk hlf
              intro X n0 w0 μ0 s0 nt Q hX hw0 hp' hQ
              have key : ∀ m D lst a (w : World) μ, unl ops lst ≤ m → AtD G X n0 w0 μ0 s0 nt ops listed D lst (deadAll e (p :: A)) s a w μ → wpAnyL P .any ops Q (exempt G ops.toList) (fun w' => HX (XD X D) μ wr w.heap w'.heap) m lst a w := by
                have adopt1 : ∀ m D lst a (w : World) μ b, (p.1, b) ∈ D → unl ops lst ≤ m → AtD G X n0 w0 μ0 s0 nt ops listed D lst (deadAll e (p :: A)) s a w μ → wpAnyL P .any ops Q (exempt G ops.toList) (fun w' => HX (XD X D) μ wr w.heap w'.heap) m lst a w := by
                  intro m D lst a w μ b hb hm st
                  have st2 := st.adopt hG hX hw0 hb ho q2 q4 q5
                  have hrest := h4 X n0 w0 μ0 s0 nt Q hX hw0 hp' hQ m _ lst a w _ hm st2
                  refine wpAnyL_monoS (fun w'' hw'' b' hb' hx hnot => hw'' b' hb' (fun hxx => ?_) fun r hr' sl hsl hbl => ?_) _ _ _ _ hrest
                  · rcases hxx with h9 | ⟨q, h9, h10⟩
                    · exact hx (.inl h9)
                    · exact hx (.inr ⟨q, (List.mem_filter.1 h9).1, h10⟩)
                  · rcases Nat.lt_or_ge r s.length with g1 | g1
                    · exact hnot r hr' sl (get_app_left hsl (st.inv.len ▸ g1)) hbl
                    · have hlt := (List.getElem?_eq_some_iff.1 hsl).1
                      simp [st.inv.len] at hlt
                      have e9 : r = s.length := by omega
                      subst e9
                      rw [← st.inv.len] at hsl
                      simp at hsl
                      subst hsl
                      cases hbl
                      exact hx (.inr ⟨_, hb, rfl⟩)
                intro m
                induction m with
                | zero =>
                  intro D lst a w μ hm st
                  by_cases hpD : ∃ q ∈ D, q.1 = p.1
                  · obtain ⟨q, hq, hq1⟩ := hpD
                    exact adopt1 _ D lst a w μ q.2 (by rw [← hq1]; exact hq) hm st
                  · obtain ⟨m', h, _⟩ := unl_pos (st.isLst.ready hp1 hpD) hm
                    omega
                | succ m ihm =>
                  intro D lst a w μ hm st
                  by_cases hpD : ∃ q ∈ D, q.1 = p.1
                  · obtain ⟨q, hq, hq1⟩ := hpD
                    exact adopt1 _ D lst a w μ q.2 (by rw [← hq1]; exact hq) hm st
                  · have hDA : ∀ x ∈ D, ∃ q ∈ p :: A, q.1 = x.1 := fun x h5 => by
                      obtain ⟨d, h7, _⟩ := pend_dst st.pend hA3 x h5
                      exact ⟨_, h7, rfl⟩
                    have hpl := st.isLst.ready hp1 hpD
                    refine ⟨fun h => (by rw [h] at hpl; cases hpl), fun i' hi' => ?_⟩
                    obtain ⟨hi'D, hi'2⟩ := st.isLst.ready_inv (A := p :: A) hDA (fun q hq => (hA1 q hq).1) hi'
                    obtain ⟨m', hmm, hm'⟩ := unl_pos hi' hm
                    have hmm' : m' = m := by omega
                    subst hmm'
                    have hi'A : ∃ q ∈ p :: A, q.1 = i' := by
                      rcases hi'2 with h9 | h9
                      · exact h9
                      · cases A with
                        | nil =>
                          have hD0 : ∀ x ∈ D, ∃ q ∈ ([] : List (Nat × Nat)), q.1 = x.1 := fun x h5 => by
                            obtain ⟨q, h6, h7⟩ := hDA x h5
                            simp only [List.mem_singleton] at h6
                            subst h6
                            exact absurd ⟨x, h5, h7.symm⟩ hpD
                          obtain ⟨_, h10⟩ := st.isLst.ready_inv (A := []) hD0 (fun q hq => by cases hq) hi'
                          rcases h10 with ⟨q, hq, _⟩ | h10
                          · cases hq
                          · rcases hA2 i' h10 with ⟨d', _, g2⟩ | ⟨_, g2⟩
                            · exact ⟨_, g2, rfl⟩
                            · cases g2
                        | cons a0 A0 =>
                          simp only [okLast, Bool.and_eq_true, List.all_eq_true] at hok
                          have h11 := hok.2 i' h9
                          split at h11
                          · rename_i ox hox
                            rw [Array.getElem?_toList] at hox
                            have h12 := List.all_eq_true.1 h11 p (by simp)
                            simp only [waitsOn, List.any_eq_true, Bool.and_eq_true] at h12
                            obtain ⟨ed, he, hb, hon⟩ := h12
                            obtain ⟨_, o2, g1, g2⟩ := mem_ready.1 hi'
                            rw [hox] at g1; cases g1
                            have g3 := g2 ed (by simpa using he) hb
                            rw [Nat.eq_of_beq_eq_true hon] at g3
                            have g4 := (mem_ready.1 hpl).1
                            have hlt := lt_of_unlisted g4
                            rw [getD_tf hlt] at g3 g4
                            rw [g3] at g4; cases g4
                          · cases h11
                    exact early_step hG st hA1 hA3 hnd hi' hi'D hi'A ihm hm'
              exact fun m D lst a w μ hm st => key m D lst a w μ hm { st with rvs := deadAll_rvs (p :: A) st.rvs }
          · cases hk
        · rename_i j1 j2 l' hpt
          rw [hr, hpt] at hA1 hA2
          simp only [← hr] at hA1 hA2
          intro X n0 w0 μ0 s0 nt Q hX hw0 hp' hQ m D lst a w μ hm st
          have hD : D = [] := by
            cases D with
            | nil => rfl
            | cons p D =>
              have hp1 := st.pend p (by simp)
              obtain ⟨g1, _, _, o', t', d', ag', T', q1, q2, q3, q4, q5, _⟩ := hp1
              rcases hA2 p.1 g1 with ⟨d, _, g2⟩ | ⟨g2, _⟩
              · cases g2
              · have : allocAt G ops.toList p.1 = some d' := by unfold allocAt allocD; rw [Array.getElem?_toList, q1]; simp only [q2, q3, q4, q5, Option.isSome_some, cond_true]
                rw [this] at g2; cases g2
          subst hD
          obtain ⟨q0, hq0⟩ : ∃ q, q ∈ Region.ready .any ops lst := ⟨i, st.isLst.ready (by rw [hr]; simp) (fun ⟨p, hp, _⟩ => by cases hp)⟩
          obtain ⟨m', rfl, _⟩ := unl_pos hq0 hm
          refine ⟨fun h => (by rw [h] at hq0; cases hq0), fun i' hi' => ?_⟩
          obtain ⟨_, hi'2⟩ := st.isLst.ready_inv (A := []) (fun p hp => by cases hp) (fun q hq => by cases hq) hi'
          have hi'r : i' ∈ Region.ready .any ops listed := by
            rcases hi'2 with ⟨q, hq, _⟩ | h9
            · cases hq
            · exact h9
          have hi'm : i' ∈ j1 :: j2 :: l' := by
            rcases hA2 i' hi'r with ⟨d, _, g2⟩ | ⟨_, g2⟩
            · cases g2
            · exact g2
          obtain ⟨m2, hmm, hm'⟩ := unl_pos hi' hm
          have hmm' : m2 = m' := by omega
          subst hmm'
          obtain ⟨rj, hj1, hjl⟩ := execTry_mem hR hk hlf i' hi'm
          split at hj1
          · rename_i o ho
            rw [Array.getElem?_toList] at ho
            obtain ⟨e1, s1, h1, h2, _⟩ := stepOp_sound hG hj1
            have h4 := ih _ e1 _ _ h1 hjl
            refine h2 (XD X []) μ w a st.inv st.rvs Q _ i' ho fun cv w' μ' i1 v1 x1 t1 c1 => ?_
            have st2 := st.step hi'r (fun ⟨p, hp, _⟩ => by cases hp) i1 v1 x1 c1 (fun p hp => by cases hp)
            have hrest := h4 X n0 w0 μ0 s0 nt Q hX hw0 hp' hQ m2 [] _ _ w' μ' hm' st2
            have hlt := lt_of_unlisted (mem_ready.1 hi').1
            cases hex : exempt G ops.toList i' with
            | true =>
              refine ⟨fun hn => ?_, wpAnyL_irrel hex _ _ _ _ (getD_set_eq hlt) hrest⟩
              have := hn i' hex
              rw [getD_set_eq hlt] at this; cases this
            | false =>
              rw [hex] at t1
              have t1 := t1 wr rfl
              exact ⟨fun _ b hb _ hnot => (t1 b hb hnot).1, wpAnyL_monoS (fun w'' hw'' b hb hx hnot => (hw'' b (Nat.lt_of_lt_of_le hb x1.size) hx (t1 b hb hnot).2).trans (t1 b hb hnot).1) _ _ _ _ hrest⟩
          · cases hj1
        · cases hk

end
end
end Go.VE
