/- The statement FnTrimsSaid is proved: for every input the law FnTrims hands back true, and its arguments read as they did. Conditions: none beyond the statement. -/
import Derived.Test.YtiajamilfgkecaaFnTrimsS1
import Derived.Test.YtiajamilfgkecaaFnTrimsR
import Derived.Test.YtiajamilfgkecaaU26
import Derived.Test.YtiajamilfgkecaaRows
import Derived.ProofKit
namespace Go.Proofs.Ytiajamilfgkecaa
open Go.ChangeShapes Go.WideShapes Go.ChangeAt Go.RowKit Go.VE
theorem Try.own:ownKnob Try.prog.godebug=none:=by kernel_rfl
theorem Try.laidOut:laidOutB Try.prog=true:=by kernel_rfl
theorem vth (x0:((.slice (.int .u8)):Ty).D)(h0:((.slice (.int .u8)):Ty).wf x0):v5n [((.slice (.int .u8)):Ty).toAV false x0] [] (fun v s=>some ⟨.ret,[v],s⟩)=some ⟨.ret,[.bool true],[]⟩:=
 Eq.trans (by kernel_rfl) (vwh x0 h0 (fun b=>some ⟨.ret,[.bool b],[]⟩))
set_option maxRecDepth 100000 in
theorem vps (os:Os)(started:os.Started)(H:Type)(enc:TypeId×Value→H) :
  ReturnsInHanded {} Try.checked os 10 .any (Rows.fnTrimsSpec.pre6 enc Try.prog Try.f10 Rows.fnTrimsRow.domain false) (Rows.fnTrimsSpec.post enc Try.prog Try.f10 false true false false):=by
 refine returnsInHanded_of_change (C:=Try.checked) Try.own started (by kernel_rfl) Try.func10
  (ChangeSpec.witness6 (enc:=enc) (C:=Try.checked) false ⟨#[],#[.slice none 0 0],[]⟩ 8 (by kernel_rfl) (by kernel_rfl) (by kernel_rfl) (by kernel_rfl)) ?_
 intro W base args ds gs before hval0 hW hcnd _
 have hval:∀(j:Nat) t v,Try.f10.params[j]? = some t→args[j]? = some v→Value.okWide Try.prog W .any base t v:=hval0
 have hW':=hW
 obtain⟨p,q,hA0,hV,rfl,hfz,hnd⟩:=hW
 have hA:DataW.TrodAll enc Try.prog W 0 (fun _=>true) true Try.f10.params.toList args.toList ds p:=hA0
 rw [Try.params10]at hA hval
 obtain⟨v0,d0,rfl,rfl,g0⟩:=trodAll_one hA
 obtain⟨rfl,rfl⟩:=trodVars_none hV
 obtain⟨x0,w0,r0⟩:=wdy (n:=8) (T:=((.slice (.int .u8)):Ty)) (ag:=false) (by kernel_rfl) (by kernel_rfl) (hval 0 83 v0 rfl rfl) g0
 have hc:=v7h (W:=W) wa8 (vth x0 w0) (cargs:=[v0]) (by simp only [RVs];exact⟨v0,_,rfl,r0 _ _,rfl⟩)
 refine hc.mono fun e W' ⟨⟨cv,he,μ',X,hcv⟩,hb⟩=>?_
 simp only [RV]at hcv
 subst hcv
 subst he
 exact⟨_,rfl,wcj hW' rfl rfl (t:=4) (by kernel_rfl) (by kernel_rfl) Try.laidOut (by rw [Try.params10];intro u hu;simp at hu;subst hu;exact⟨by kernel_rfl,of_decide_eq_true (by kernel_rfl)⟩) hb⟩
theorem v12:mapsRowed Try.prog=true:=by kernel_rfl
theorem v1i:(Rows.fnTrimsRow.inPlace==Try.prog.inPlace 10)=true:=by kernel_rfl
theorem v2o:(Rows.fnTrimsRow.unfollowed==Try.prog.unfollowed 10)=true:=by kernel_rfl
theorem v10:(Rows.fnTrimsRow.recurses==Try.prog.recurses 10)=true:=by kernel_rfl
theorem v1f:(Rows.fnTrimsRow.named==Try.prog.varsNamed 10)=true:=by kernel_rfl
theorem v1b:(Rows.fnTrimsRow.lifted==Try.prog.liftsFinal)=true:=by kernel_rfl
theorem v02:Try.prog.stopsHeard=true:=by kernel_rfl
theorem v2i:Try.prog.mayEnter=true:=by kernel_rfl
theorem v2k:(Rows.fnTrimsRow.wf (OpenSpec.ofChange Rows.fnTrimsSpec))=true:=by kernel_rfl
theorem andB {a b:Bool}(ha:a=true)(hb:b=true):(a&&b)=true:=by rw [ha,hb];rfl
theorem vpm:joinedFacts Try.prog 10 Try.f10 Rows.fnTrimsSpec Rows.fnTrimsRow=true:=by
 unfold joinedFacts
 exact(andB (andB (andB (andB (andB (andB (andB (andB (andB (andB (andB (andB (andB (andB (andB (andB (andB (andB (andB (andB (andB (andB (andB (andB (andB (andB (andB (andB (andB (andB (andB v2k Try.laidOut) v12) (by kernel_rfl)) (by kernel_rfl)) (by kernel_rfl)) (by kernel_rfl)) (by kernel_rfl)) (by kernel_rfl)) v1i) v2o) v10) v1f) (by kernel_rfl)) (by kernel_rfl)) (by kernel_rfl)) (by kernel_rfl)) (by kernel_rfl)) (by kernel_rfl)) (by kernel_rfl)) (by kernel_rfl)) (by kernel_rfl)) (by kernel_rfl)) (by kernel_rfl)) v02) v2i) v1b) (by kernel_rfl)) (by kernel_rfl)) (by kernel_rfl)) (by kernel_rfl)) (by kernel_rfl))
theorem FnTrims_holds:Rows.FnTrimsSaid:=
 OpenClaim.holds_of_wide 10 Try.f10 rfl rfl rfl rfl rfl rfl rfl ⟨rfl,rfl,rfl,rfl,rfl⟩ rfl rfl rfl rfl rfl (by kernel_rfl) Try.func10 vpm
  (of_decide_eq_true (by kernel_rfl)) (by unfold Func.isWrapper;first|(rw [if_pos (by decide +kernel)];kernel_rfl)|(rw [if_neg (by decide +kernel)];exact⟨rfl,rfl⟩))
  (fun os started H enc _=>vps os started H enc)
end Go.Proofs.Ytiajamilfgkecaa
