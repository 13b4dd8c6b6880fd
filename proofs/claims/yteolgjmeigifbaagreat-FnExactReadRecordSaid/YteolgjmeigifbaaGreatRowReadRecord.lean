/- The statement FnExactReadRecordSaid is proved: for every input the law FnExactReadRecord hands back true, and its arguments read as they did. Conditions: none beyond the statement. -/
import Derived.Test.YteolgjmeigifbaaGreatReadRecordS2
import Derived.Test.YteolgjmeigifbaaGreatReadRecordR
import Derived.Test.YteolgjmeigifbaaGreatU26
import Derived.Test.YteolgjmeigifbaaGreatRows
import Derived.ProofKit
namespace Go.Proofs.YteolgjmeigifbaaGreat
open Go.ChangeShapes Go.WideShapes Go.ChangeAt Go.RowKit Go.VE
theorem Tryz.own:ownKnob Tryz.prog.godebug=none:=by kernel_rfl
theorem Tryz.laidOut:laidOutB Tryz.prog=true:=by kernel_rfl
theorem vm8 (x0:(.str:Ty).D)(h0:(.str:Ty).wf x0):wpq [(.str:Ty).toAV false x0] [] (fun v s=>some ⟨.ret,[v],s⟩)=some ⟨.ret,[.bool true],[]⟩:=
 Eq.trans (by kernel_rfl) (vp9 x0 h0 (fun b=>some ⟨.ret,[.bool b],[]⟩))
set_option maxRecDepth 100000 in
theorem vl6 (os:Os)(started:os.Started)(H:Type)(enc:TypeId×Value→H) :
  ReturnsInHanded {} Tryz.checked os 3 .any (Rows.fnExactReadRecordSpec.pre6 enc Tryz.prog Tryz.f3 Rows.fnExactReadRecordRow.domain false) (Rows.fnExactReadRecordSpec.post enc Tryz.prog Tryz.f3 false true false false):=by
 refine returnsInHanded_of_change (C:=Tryz.checked) Tryz.own started (by kernel_rfl) Tryz.func3
  (ChangeSpec.witness6 (enc:=enc) (C:=Tryz.checked) false ⟨#[],#[.string ⟨#[]⟩],[]⟩ 8 (by kernel_rfl) (by kernel_rfl) (by kernel_rfl) (by kernel_rfl)) ?_
 intro W base args ds gs before hval0 hW hcnd _
 have hval:∀(j:Nat) t v,Tryz.f3.params[j]? = some t→args[j]? = some v→Value.okWide Tryz.prog W .any base t v:=hval0
 have hW':=hW
 obtain⟨p,q,hA0,hV,rfl,hfz,hnd⟩:=hW
 have hA:DataW.TrodAll enc Tryz.prog W 0 (fun _=>true) true Tryz.f3.params.toList args.toList ds p:=hA0
 rw [Tryz.params3]at hA hval
 obtain⟨v0,d0,rfl,rfl,g0⟩:=trodAll_one hA
 obtain⟨rfl,rfl⟩:=trodVars_none hV
 obtain⟨x0,w0,r0⟩:=w3t (n:=8) (T:=(.str:Ty)) (ag:=false) (by kernel_rfl) (by kernel_rfl) (hval 0 9 v0 rfl rfl) g0
 have hc:=wsd (W:=W) wxb (vm8 x0 w0) (cargs:=[v0]) (by simp only [RVs];exact⟨v0,_,rfl,r0 _ _,rfl⟩)
 refine hc.mono fun e W' ⟨⟨cv,he,μ',X,hcv⟩,hb⟩=>?_
 simp only [RV]at hcv
 subst hcv
 subst he
 exact⟨_,rfl,w0x hW' rfl rfl (t:=4) (by kernel_rfl) (by kernel_rfl) Tryz.laidOut (by rw [Tryz.params3];intro u hu;simp at hu;subst hu;exact⟨by kernel_rfl,of_decide_eq_true (by kernel_rfl)⟩) hb⟩
theorem vq0:mapsRowed Tryz.prog=true:=by kernel_rfl
theorem vqz:(Rows.fnExactReadRecordRow.inPlace==Tryz.prog.inPlace 3)=true:=by kernel_rfl
theorem vq6:(Rows.fnExactReadRecordRow.unfollowed==Tryz.prog.unfollowed 3)=true:=by kernel_rfl
theorem vq9:(Rows.fnExactReadRecordRow.recurses==Tryz.prog.recurses 3)=true:=by kernel_rfl
theorem vq5:(Rows.fnExactReadRecordRow.named==Tryz.prog.varsNamed 3)=true:=by kernel_rfl
theorem vra:(Rows.fnExactReadRecordRow.lifted==Tryz.prog.liftsFinal)=true:=by kernel_rfl
theorem vq7:Tryz.prog.stopsHeard=true:=by kernel_rfl
theorem vq4:Tryz.prog.mayEnter=true:=by kernel_rfl
theorem vq3:(Rows.fnExactReadRecordRow.wf (OpenSpec.ofChange Rows.fnExactReadRecordSpec))=true:=by kernel_rfl
theorem andB {a b:Bool}(ha:a=true)(hb:b=true):(a&&b)=true:=by rw [ha,hb];rfl
theorem vl7:joinedFacts Tryz.prog 3 Tryz.f3 Rows.fnExactReadRecordSpec Rows.fnExactReadRecordRow=true:=by
 unfold joinedFacts
 exact(andB (andB (andB (andB (andB (andB (andB (andB (andB (andB (andB (andB (andB (andB (andB (andB (andB (andB (andB (andB (andB (andB (andB (andB (andB (andB (andB (andB (andB (andB (andB vq3 Tryz.laidOut) vq0) (by kernel_rfl)) (by kernel_rfl)) (by kernel_rfl)) (by kernel_rfl)) (by kernel_rfl)) (by kernel_rfl)) vqz) vq6) vq9) vq5) (by kernel_rfl)) (by kernel_rfl)) (by kernel_rfl)) (by kernel_rfl)) (by kernel_rfl)) (by kernel_rfl)) (by kernel_rfl)) (by kernel_rfl)) (by kernel_rfl)) (by kernel_rfl)) (by kernel_rfl)) vq7) vq4) vra) (by kernel_rfl)) (by kernel_rfl)) (by kernel_rfl)) (by kernel_rfl)) (by kernel_rfl))
theorem FnExactReadRecord_holds:Rows.FnExactReadRecordSaid:=
 OpenClaim.holds_of_wide 3 Tryz.f3 rfl rfl rfl rfl rfl rfl rfl ⟨rfl,rfl,rfl,rfl,rfl⟩ rfl rfl rfl rfl rfl (by kernel_rfl) Tryz.func3 vl7
  (of_decide_eq_true (by kernel_rfl)) (by unfold Func.isWrapper;first|(rw [if_pos (by decide +kernel)];kernel_rfl)|(rw [if_neg (by decide +kernel)];exact⟨rfl,rfl⟩))
  (fun os started H enc _=>vl6 os started H enc)
end Go.Proofs.YteolgjmeigifbaaGreat
