/- The statement FnBothSaid is proved: for every input the law FnBoth hands back true, and its arguments read as they did. Conditions: none beyond the statement. -/
import Derived.Test.YtaaoeehlfihjdaaGreatFnBothS1
import Derived.Test.YtaaoeehlfihjdaaGreatFnBothR
import Derived.Test.YtaaoeehlfihjdaaGreatU26
import Derived.Test.YtaaoeehlfihjdaaGreatRows
import Derived.ProofKit
namespace Go.Proofs.YtaaoeehlfihjdaaGreat
open Go.ChangeShapes Go.WideShapes Go.ChangeAt Go.RowKit Go.VE
theorem Tryz.own:ownKnob Tryz.prog.godebug=none:=by kernel_rfl
theorem Tryz.laidOut:laidOutB Tryz.prog=true:=by kernel_rfl
theorem v69 (x0:((.slice (.int .u8)):Ty).D)(h0:((.slice (.int .u8)):Ty).wf x0):wo7 [((.slice (.int .u8)):Ty).toAV false x0] [] (fun v s=>some ⟨.ret,[v],s⟩)=some ⟨.ret,[.bool true],[]⟩:=
 Eq.trans (by kernel_rfl) (wij x0 h0 (fun b=>some ⟨.ret,[.bool b],[]⟩))
set_option maxRecDepth 100000 in
theorem v4a (os:Os)(started:os.Started)(H:Type)(enc:TypeId×Value→H) :
  ReturnsInHanded {} Tryz.checked os 4 .any (Rows.fnBothSpec.pre6 enc Tryz.prog Tryz.f4 Rows.fnBothRow.domain false) (Rows.fnBothSpec.post enc Tryz.prog Tryz.f4 false true false false):=by
 refine returnsInHanded_of_change (C:=Tryz.checked) Tryz.own started (by kernel_rfl) Tryz.func4
  (ChangeSpec.witness6 (enc:=enc) (C:=Tryz.checked) false ⟨#[],#[.slice none 0 0],[]⟩ 8 (by kernel_rfl) (by kernel_rfl) (by kernel_rfl) (by kernel_rfl)) ?_
 intro W base args ds gs before hval0 hW hcnd _
 have hval:∀(j:Nat) t v,Tryz.f4.params[j]? = some t→args[j]? = some v→Value.okWide Tryz.prog W .any base t v:=hval0
 have hW':=hW
 obtain⟨p,q,hA0,hV,rfl,hfz,hnd⟩:=hW
 have hA:DataW.TrodAll enc Tryz.prog W 0 (fun _=>true) true Tryz.f4.params.toList args.toList ds p:=hA0
 rw [Tryz.params4]at hA hval
 obtain⟨v0,d0,rfl,rfl,g0⟩:=trodAll_one hA
 obtain⟨rfl,rfl⟩:=trodVars_none hV
 obtain⟨x0,w0,r0⟩:=wzu (n:=8) (T:=((.slice (.int .u8)):Ty)) (ag:=false) (by kernel_rfl) (by kernel_rfl) (hval 0 53 v0 rfl rfl) g0
 have hc:=wrl (W:=W) wt3 (v69 x0 w0) (cargs:=[v0]) (by simp only [RVs];exact⟨v0,_,rfl,r0 _ _,rfl⟩)
 refine hc.mono fun e W' ⟨⟨cv,he,μ',X,hcv⟩,hb⟩=>?_
 simp only [RV]at hcv
 subst hcv
 subst he
 exact⟨_,rfl,wwn hW' rfl rfl (t:=4) (by kernel_rfl) (by kernel_rfl) Tryz.laidOut (by rw [Tryz.params4];intro u hu;simp at hu;subst hu;exact⟨by kernel_rfl,of_decide_eq_true (by kernel_rfl)⟩) hb⟩
theorem wnx:mapsRowed Tryz.prog=true:=by kernel_rfl
theorem wkw:(Rows.fnBothRow.inPlace==Tryz.prog.inPlace 4)=true:=by kernel_rfl
theorem wlo:(Rows.fnBothRow.unfollowed==Tryz.prog.unfollowed 4)=true:=by kernel_rfl
theorem wp2:(Rows.fnBothRow.recurses==Tryz.prog.recurses 4)=true:=by kernel_rfl
theorem wo8:(Rows.fnBothRow.named==Tryz.prog.varsNamed 4)=true:=by kernel_rfl
theorem wlj:(Rows.fnBothRow.lifted==Tryz.prog.liftsFinal)=true:=by kernel_rfl
theorem wm2:Tryz.prog.stopsHeard=true:=by kernel_rfl
theorem wo3:Tryz.prog.mayEnter=true:=by kernel_rfl
theorem wps:(Rows.fnBothRow.wf (OpenSpec.ofChange Rows.fnBothSpec))=true:=by kernel_rfl
theorem andB {a b:Bool}(ha:a=true)(hb:b=true):(a&&b)=true:=by rw [ha,hb];rfl
theorem v4i:joinedFacts Tryz.prog 4 Tryz.f4 Rows.fnBothSpec Rows.fnBothRow=true:=by
 unfold joinedFacts
 exact(andB (andB (andB (andB (andB (andB (andB (andB (andB (andB (andB (andB (andB (andB (andB (andB (andB (andB (andB (andB (andB (andB (andB (andB (andB (andB (andB (andB (andB (andB (andB wps Tryz.laidOut) wnx) (by kernel_rfl)) (by kernel_rfl)) (by kernel_rfl)) (by kernel_rfl)) (by kernel_rfl)) (by kernel_rfl)) wkw) wlo) wp2) wo8) (by kernel_rfl)) (by kernel_rfl)) (by kernel_rfl)) (by kernel_rfl)) (by kernel_rfl)) (by kernel_rfl)) (by kernel_rfl)) (by kernel_rfl)) (by kernel_rfl)) (by kernel_rfl)) (by kernel_rfl)) wm2) wo3) wlj) (by kernel_rfl)) (by kernel_rfl)) (by kernel_rfl)) (by kernel_rfl)) (by kernel_rfl))
theorem FnBoth_holds:Rows.FnBothSaid:=
 OpenClaim.holds_of_wide 4 Tryz.f4 rfl rfl rfl rfl rfl rfl rfl ⟨rfl,rfl,rfl,rfl,rfl⟩ rfl rfl rfl rfl rfl (by kernel_rfl) Tryz.func4 v4i
  (of_decide_eq_true (by kernel_rfl)) (by unfold Func.isWrapper;first|(rw [if_pos (by decide +kernel)];kernel_rfl)|(rw [if_neg (by decide +kernel)];exact⟨rfl,rfl⟩))
  (fun os started H enc _=>v4a os started H enc)
end Go.Proofs.YtaaoeehlfihjdaaGreat
