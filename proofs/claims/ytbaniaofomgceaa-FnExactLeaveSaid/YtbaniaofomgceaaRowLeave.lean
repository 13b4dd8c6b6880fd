/- The statement FnExactLeaveSaid is proved: for every input the law FnExactLeave hands back true, and its arguments read as they did. Conditions: none beyond the statement. -/
import Derived.Test.YtbaniaofomgceaaLeaveS1
import Derived.Test.YtbaniaofomgceaaLeaveR
import Derived.Test.YtbaniaofomgceaaU26
import Derived.Test.YtbaniaofomgceaaRows
import Derived.ProofKit
namespace Go.Proofs.Ytbaniaofomgceaa
open Go.ChangeShapes Go.WideShapes Go.ChangeAt Go.RowKit Go.VE
theorem Try.own:ownKnob Try.prog.godebug=none:=by kernel_rfl
theorem Try.laidOut:laidOutB Try.prog=true:=by kernel_rfl
theorem vmf (x0:(tEngine:Ty).D)(x1:((.int .i64):Ty).D)(h0:(tEngine:Ty).wf x0)(h1:((.int .i64):Ty).wf x1):v7k [(tEngine:Ty).toAV true x0,((.int .i64):Ty).toAV false x1] [] (fun v s=>some ⟨.ret,[v],s⟩)=some ⟨.ret,[.bool true],[]⟩:=
 Eq.trans (by kernel_rfl) (vo8 x0 x1 h0 h1 (fun b=>some ⟨.ret,[.bool b],[]⟩))
set_option maxRecDepth 100000 in
theorem vls (os:Os)(started:os.Started)(H:Type)(enc:TypeId×Value→H) :
  ReturnsInHanded {} Try.checked os 5 .any (Rows.fnExactLeaveSpec.pre6 enc Try.prog Try.f5 Rows.fnExactLeaveRow.domain false) (Rows.fnExactLeaveSpec.post enc Try.prog Try.f5 false true false false):=by
 refine returnsInHanded_of_change (C:=Try.checked) Try.own started (by kernel_rfl) Try.func5
  (ChangeSpec.witness6 (enc:=enc) (C:=Try.checked) false ⟨#[],#[.agg #[.slice none 0 0,.slice none 0 0,.slice none 0 0,.int .i64 0,.int .i64 0,.slice none 0 0],.int .i64 0],[]⟩ 8 (by kernel_rfl) (by kernel_rfl) (by kernel_rfl) (by kernel_rfl)) ?_
 intro W base args ds gs before hval0 hW hcnd _
 have hval:∀(j:Nat) t v,Try.f5.params[j]? = some t→args[j]? = some v→Value.okWide Try.prog W .any base t v:=hval0
 have hW':=hW
 obtain⟨p,q,hA0,hV,rfl,hfz,hnd⟩:=hW
 have hA:DataW.TrodAll enc Try.prog W 0 (fun _=>true) true Try.f5.params.toList args.toList ds p:=hA0
 rw [Try.params5]at hA hval
 obtain⟨v0,v1,d0,d1,p0,p1,rfl,rfl,rfl,g0,g1⟩:=trodAll_two hA
 obtain⟨rfl,rfl⟩:=trodVars_none hV
 obtain⟨x0,w0,r0⟩:=wg9 (n:=8) (T:=(tEngine:Ty)) (ag:=true) (by kernel_rfl) (by kernel_rfl) (hval 0 43 v0 rfl rfl) g0
 obtain⟨x1,w1,r1⟩:=wg9 (n:=8) (T:=((.int .i64):Ty)) (ag:=false) (by kernel_rfl) (by kernel_rfl) (hval 1 3 v1 rfl rfl) g1
 have hc:=wdk (W:=W) whf (vmf x0 x1 w0 w1) (cargs:=[v0,v1]) (by simp only [RVs];exact⟨v0,_,rfl,r0 _ _,v1,_,rfl,r1 _ _,rfl⟩)
 refine hc.mono fun e W' ⟨⟨cv,he,μ',X,hcv⟩,hb⟩=>?_
 simp only [RV]at hcv
 subst hcv
 subst he
 exact⟨_,rfl,wim hW' rfl rfl (t:=4) (by kernel_rfl) (by kernel_rfl) Try.laidOut (by rw [Try.params5];intro u hu;simp at hu;rcases hu with rfl|rfl<;>exact⟨by kernel_rfl,of_decide_eq_true (by kernel_rfl)⟩) hb⟩
theorem vrt:mapsRowed Try.prog=true:=by kernel_rfl
theorem vps:(Rows.fnExactLeaveRow.inPlace==Try.prog.inPlace 5)=true:=by kernel_rfl
theorem vsf:(Rows.fnExactLeaveRow.unfollowed==Try.prog.unfollowed 5)=true:=by kernel_rfl
theorem vsj:(Rows.fnExactLeaveRow.recurses==Try.prog.recurses 5)=true:=by kernel_rfl
theorem vsm:(Rows.fnExactLeaveRow.named==Try.prog.varsNamed 5)=true:=by kernel_rfl
theorem vrj:(Rows.fnExactLeaveRow.lifted==Try.prog.liftsFinal)=true:=by kernel_rfl
theorem vr7:Try.prog.stopsHeard=true:=by kernel_rfl
theorem vrp:Try.prog.mayEnter=true:=by kernel_rfl
theorem vqb:(Rows.fnExactLeaveRow.wf (OpenSpec.ofChange Rows.fnExactLeaveSpec))=true:=by kernel_rfl
theorem andB {a b:Bool}(ha:a=true)(hb:b=true):(a&&b)=true:=by rw [ha,hb];rfl
theorem vlr:joinedFacts Try.prog 5 Try.f5 Rows.fnExactLeaveSpec Rows.fnExactLeaveRow=true:=by
 unfold joinedFacts
 exact(andB (andB (andB (andB (andB (andB (andB (andB (andB (andB (andB (andB (andB (andB (andB (andB (andB (andB (andB (andB (andB (andB (andB (andB (andB (andB (andB (andB (andB (andB (andB vqb Try.laidOut) vrt) (by kernel_rfl)) (by kernel_rfl)) (by kernel_rfl)) (by kernel_rfl)) (by kernel_rfl)) (by kernel_rfl)) vps) vsf) vsj) vsm) (by kernel_rfl)) (by kernel_rfl)) (by kernel_rfl)) (by kernel_rfl)) (by kernel_rfl)) (by kernel_rfl)) (by kernel_rfl)) (by kernel_rfl)) (by kernel_rfl)) (by kernel_rfl)) (by kernel_rfl)) vr7) vrp) vrj) (by kernel_rfl)) (by kernel_rfl)) (by kernel_rfl)) (by kernel_rfl)) (by kernel_rfl))
theorem FnExactLeave_holds:Rows.FnExactLeaveSaid:=
 OpenClaim.holds_of_wide 5 Try.f5 rfl rfl rfl rfl rfl rfl rfl ⟨rfl,rfl,rfl,rfl,rfl⟩ rfl rfl rfl rfl rfl (by kernel_rfl) Try.func5 vlr
  (of_decide_eq_true (by kernel_rfl)) (by unfold Func.isWrapper;first|(rw [if_pos (by decide +kernel)];kernel_rfl)|(rw [if_neg (by decide +kernel)];exact⟨rfl,rfl⟩))
  (fun os started H enc _=>vls os started H enc)
end Go.Proofs.Ytbaniaofomgceaa
