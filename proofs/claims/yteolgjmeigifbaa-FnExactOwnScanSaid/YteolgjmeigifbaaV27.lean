/- Contracts made out of the kit's: strings.Repeat. -/
import Derived.Test.YteolgjmeigifbaaV26
import Derived.Shelf.Strings.Repeat
namespace Go.VE
open Go.Shelf Go.RowKit Go.Proofs
set_option linter.unusedVariables false

/-- Nothing that was there has turned. -/
theorem grown {X : Nat → Prop} {h h' : Heap} {μ : List Slot} {s : St} (inv : Inv X h μ s) (hsz : h.size ≤ h'.size) (hb : ∀ k, k < h.size → h'[k]? = h[k]?) :
    Inv X h' μ s ∧ Ext X h μ s h' μ s := by
  have hnew : ∀ j sl b, μ[j]? = some sl → (getR s j).live = true → sl.blk = some b → h.size ≤ b ∨ ¬ Free μ s b := fun j sl b hj hl hbk => .inr fun hf => hf j sl hj hl hbk
  have him : ∀ b, Im X h μ s b → Im X h' μ s b ∧ h'[b]? = h[b]? := fun b hi => ⟨⟨Nat.lt_of_lt_of_le hi.1 hsz, hi.2⟩, hb b hi.1⟩
  have href : ∀ a v, a.ref? = true → RV h (Im X h μ s) μ s a v → RV h' (Im X h' μ s) μ s a v := by
    intro a v ha hv
    cases a with
    | own r =>
      simp only [RV] at hv ⊢
      obtain ⟨sl, e, hm⟩ := hv
      refine ⟨sl, e, ?_⟩
      cases hg : getR s r with
      | frz e xs => rw [hg] at hm; exact Rep.mono him _ _ _ hm
      | arr e xs => rw [hg] at hm; exact hm
      | box cs => rw [hg] at hm; exact hm
      | gone => rw [hg] at hm; exact hm
    | bp b off => simp only [RV] at hv ⊢; exact hv
    | ep r i off => simp only [RV] at hv ⊢; exact hv
    | win r lo => simp only [RV] at hv ⊢; exact hv
    | _ => cases ha
  refine ⟨⟨inv.len, fun r sl hr => ?_, inv.dis, inv.notX, fun b hx => Nat.lt_of_lt_of_le (inv.xlt b hx) hsz⟩, ⟨hsz, fun b hbl _ => hb b hbl, hnew, fun a v hv => RV.mono him href a v hv, Nat.le_refl _⟩⟩
  have h0 := inv.reg r sl hr
  cases hg : getR s r with
  | box cs =>
    rw [hg] at h0
    obtain ⟨k, c, el, fr, e, hk, hn, hvs⟩ := h0
    have hlt : k < h.size := inv.blk_lt hr (by rw [hg]; rfl) e
    exact ⟨k, c, el, fr, e, (hb k hlt).trans hk, hn, RVs.mono him href _ _ hvs⟩
  | arr e xs =>
    rw [hg] at h0
    rcases h0 with h0 | ⟨k, c, el, fr, e', hk, hn, h1, h2, h3⟩
    · exact .inl h0
    · have hlt : k < h.size := inv.blk_lt hr (by rw [hg]; rfl) e'
      exact .inr ⟨k, c, el, fr, e', (hb k hlt).trans hk, hn, h1, h2, fun i hi => Rep.mono him _ _ _ (h3 i hi)⟩
  | frz e xs => trivial
  | gone => trivial

def repB (x : ByteArray) (n : Int) : ByteArray := ⟨(Lib.repeatL x.data.toList n.toNat).toArray⟩
def repK (a : ByteArray) (n : Int) (k : ByteArray → Option Res) : Option Res :=
  if 0 ≤ n ∧ n ≤ 9223372036854775807 ∧ a.size * n.toNat ≤ 140737488355328 then k (repB a n) else none

theorem repeat_contract {P : Program} {ρ : Ren} (L : Lays.n105 P ρ) (X : Builder.Extra P ρ) :
    Contract P (ρ.f 105) (fun args st k => onPats [.str, .int .i64] [] args st (fun p q => repK p.1 p.2.1 (fun y => k (.str y) [])) none) := by
  intro args s k r hk
  rcases onPats_inv2 hk with ⟨p, q, rfl, rfl, h⟩ | h
  · unfold repK at h
    split at h
    · rename_i hc
      refine ⟨_, _, h, fun X' μ w cargs inv hv => ?_⟩
      obtain ⟨n, hn⟩ := Int.eq_ofNat_of_zero_le hc.1
      change RVs _ _ _ _ [.str p.1, .int .i64 p.2.1] cargs at hv
      simp only [RVs, RV] at hv
      obtain ⟨v1, t1, rfl, e1, v2, t2, rfl, e2, rfl⟩ := hv
      subst e1 e2
      have hc3 := hc.2.2
      rw [hn, Int.toNat_natCast] at hc3
      have := Any.strings_Repeat L X p.1 n w (by omega) hc3
      rw [← hn] at this
      refine this.mono ?_
      rintro e w' ⟨rfl, hb⟩
      obtain ⟨i1, i2⟩ := grown inv hb.size hb.block
      refine ⟨_, μ, rfl, i1, ?_, i2, hb.os, hb.tape, hb.output⟩
      simp only [RV, repB]
      rw [hn, Int.toNat_natCast]
    · cases h
  · cases h

end Go.VE
