/- The statement FnSeenSaid is proved: for every input the law FnSeen hands back true, and its arguments read as they did. Conditions: none beyond the statement. -/
import Derived.Test.YtiajamilfgkecaaFnSeenS1
import Derived.Test.YtiajamilfgkecaaFnSeenR
import Derived.Test.YtiajamilfgkecaaU26
import Derived.Test.YtiajamilfgkecaaRows
import Derived.ProofKit
namespace Go.Proofs.Ytiajamilfgkecaa
open Go.ChangeShapes Go.WideShapes Go.ChangeAt Go.RowKit Go.VE
theorem Try.own : ownKnob Try.prog.godebug = none := by kernel_rfl
theorem Try.laidOut : laidOutB Try.prog = true := by kernel_rfl
theorem vsv (x0 : ((.slice (.int .u8)) : Ty).D) (h0 : ((.slice (.int .u8)) : Ty).wf x0) : vyr [((.slice (.int .u8)) : Ty).toAV false x0] [] (fun v s => some ⟨.ret, [v], s⟩) = some ⟨.ret, [.bool true], []⟩ :=
  Eq.trans (by kernel_rfl) (vx4 x0 h0 (fun b => some ⟨.ret, [.bool b], []⟩))
set_option maxRecDepth 100000 in
theorem vo5 (os : Os) (started : os.Started) (H : Type) (enc : TypeId × Value → H) :
    ReturnsInHanded {} Try.checked os 9 .any (Rows.fnSeenSpec.pre6 enc Try.prog Try.f9 Rows.fnSeenRow.domain false) (Rows.fnSeenSpec.post enc Try.prog Try.f9 false true false false) := by
  refine returnsInHanded_of_change (C := Try.checked) Try.own started (by kernel_rfl) Try.func9
    (ChangeSpec.witness6 (enc := enc) (C := Try.checked) false ⟨#[], #[.slice none 0 0], []⟩ 8 (by kernel_rfl) (by kernel_rfl) (by kernel_rfl) (by kernel_rfl)) ?_
  intro W base args ds gs before hval0 hW hcnd _
  have hval : ∀ (j : Nat) t v, Try.f9.params[j]? = some t → args[j]? = some v → Value.okWide Try.prog W .any base t v := hval0
  have hW' := hW
  obtain ⟨p, q, hA0, hV, rfl, hfz, hnd⟩ := hW
  have hA : DataW.TrodAll enc Try.prog W 0 (fun _ => true) true Try.f9.params.toList args.toList ds p := hA0
  rw [Try.params9] at hA hval
  obtain ⟨v0, d0, rfl, rfl, g0⟩ := trodAll_one hA
  obtain ⟨rfl, rfl⟩ := trodVars_none hV
  obtain ⟨x0, w0, r0⟩ := v68 (n := 8) (T := ((.slice (.int .u8)) : Ty)) (ag := false) (by kernel_rfl) (by kernel_rfl) (hval 0 83 v0 rfl rfl) g0
  have hc := v10 (W := W) v45 (vsv x0 w0) (cargs := [v0]) (by simp only [RVs]; exact ⟨v0, _, rfl, r0 _ _, rfl⟩)
  refine hc.mono fun e W' ⟨⟨cv, he, μ', X, hcv⟩, hb⟩ => ?_
  simp only [RV] at hcv
  subst hcv
  subst he
  exact ⟨_, rfl, v6f hW' rfl rfl (t := 4) (by kernel_rfl) (by kernel_rfl) Try.laidOut (by rw [Try.params9]; intro u hu; simp at hu; subst hu; exact ⟨by kernel_rfl, of_decide_eq_true (by kernel_rfl)⟩) hb⟩
theorem vyd : mapsRowed Try.prog = true := by kernel_rfl
theorem v1a : (Rows.fnSeenRow.inPlace == Try.prog.inPlace 9) = true := by kernel_rfl
theorem vyw : (Rows.fnSeenRow.unfollowed == Try.prog.unfollowed 9) = true := by kernel_rfl
theorem v0j : (Rows.fnSeenRow.recurses == Try.prog.recurses 9) = true := by kernel_rfl
theorem vzc : (Rows.fnSeenRow.named == Try.prog.varsNamed 9) = true := by kernel_rfl
theorem v0t : (Rows.fnSeenRow.lifted == Try.prog.liftsFinal) = true := by kernel_rfl
theorem vyl : Try.prog.stopsHeard = true := by kernel_rfl
theorem vzu : Try.prog.mayEnter = true := by kernel_rfl
theorem vys : (Rows.fnSeenRow.wf (OpenSpec.ofChange Rows.fnSeenSpec)) = true := by kernel_rfl
theorem andB {a b : Bool} (ha : a = true) (hb : b = true) : (a && b) = true := by rw [ha, hb]; rfl
theorem vpp : joinedFacts Try.prog 9 Try.f9 Rows.fnSeenSpec Rows.fnSeenRow = true := by
  unfold joinedFacts
  exact (andB (andB (andB (andB (andB (andB (andB (andB (andB (andB (andB (andB (andB (andB (andB (andB (andB (andB (andB (andB (andB (andB (andB (andB (andB (andB (andB (andB (andB (andB (andB vys Try.laidOut) vyd) (by kernel_rfl)) (by kernel_rfl)) (by kernel_rfl)) (by kernel_rfl)) (by kernel_rfl)) (by kernel_rfl)) v1a) vyw) v0j) vzc) (by kernel_rfl)) (by kernel_rfl)) (by kernel_rfl)) (by kernel_rfl)) (by kernel_rfl)) (by kernel_rfl)) (by kernel_rfl)) (by kernel_rfl)) (by kernel_rfl)) (by kernel_rfl)) (by kernel_rfl)) vyl) vzu) v0t) (by kernel_rfl)) (by kernel_rfl)) (by kernel_rfl)) (by kernel_rfl)) (by kernel_rfl))
theorem FnSeen_holds : Rows.FnSeenSaid :=
  OpenClaim.holds_of_wide 9 Try.f9 rfl rfl rfl rfl rfl rfl rfl ⟨rfl, rfl, rfl, rfl, rfl⟩ rfl rfl rfl rfl rfl (by kernel_rfl) Try.func9 vpp
    (of_decide_eq_true (by kernel_rfl)) (by unfold Func.isWrapper; first | (rw [if_pos (by decide +kernel)]; kernel_rfl) | (rw [if_neg (by decide +kernel)]; exact ⟨rfl, rfl⟩))
    (fun os started H enc _ => vo5 os started H enc)
end Go.Proofs.Ytiajamilfgkecaa
