/- The statement FnExactTidiedSaid is proved: for every input the law FnExactTidied hands back true, and its arguments read as they did. Conditions: none beyond the statement. -/
import Derived.Test.YtbaniaofomgceaaTidiedS1
import Derived.Test.YtbaniaofomgceaaTidiedR
import Derived.Test.YtbaniaofomgceaaU26
import Derived.Test.YtbaniaofomgceaaRows
import Derived.ProofKit
namespace Go.Proofs.Ytbaniaofomgceaa
open Go.ChangeShapes Go.WideShapes Go.ChangeAt Go.RowKit Go.VE
theorem Try.own:ownKnob Try.prog.godebug=none:=by kernel_rfl
theorem Try.laidOut:laidOutB Try.prog=true:=by kernel_rfl
theorem vld (x0:(tBase:Ty).D)(x1:((.slice tTxn):Ty).D)(h0:(tBase:Ty).wf x0)(h1:((.slice tTxn):Ty).wf x1):v71 [(tBase:Ty).toAV true x0,((.slice tTxn):Ty).toAV false x1] [] (fun v s=>some ⟨.ret,[v],s⟩)=some ⟨.ret,[.bool true],[]⟩:=
 Eq.trans (by kernel_rfl) (vmk x0 x1 h0 h1 (fun b=>some ⟨.ret,[.bool b],[]⟩))
set_option maxRecDepth 100000 in
theorem vj6 (os:Os)(started:os.Started)(H:Type)(enc:TypeId×Value→H) :
  ReturnsInHanded {} Try.checked os 4 .any (Rows.fnExactTidiedSpec.pre6 enc Try.prog Try.f4 Rows.fnExactTidiedRow.domain false) (Rows.fnExactTidiedSpec.post enc Try.prog Try.f4 false true false false):=by
 refine returnsInHanded_of_change (C:=Try.checked) Try.own started (by kernel_rfl) Try.func4
  (ChangeSpec.witness6 (enc:=enc) (C:=Try.checked) false ⟨#[],#[.agg #[.slice none 0 0,.slice none 0 0,.slice none 0 0,.int .i64 0,.int .i64 0],.slice none 0 0],[]⟩ 8 (by kernel_rfl) (by kernel_rfl) (by kernel_rfl) (by kernel_rfl)) ?_
 intro W base args ds gs before hval0 hW hcnd _
 have hval:∀(j:Nat) t v,Try.f4.params[j]? = some t→args[j]? = some v→Value.okWide Try.prog W .any base t v:=hval0
 have hW':=hW
 obtain⟨p,q,hA0,hV,rfl,hfz,hnd⟩:=hW
 have hA:DataW.TrodAll enc Try.prog W 0 (fun _=>true) true Try.f4.params.toList args.toList ds p:=hA0
 rw [Try.params4]at hA hval
 obtain⟨v0,v1,d0,d1,p0,p1,rfl,rfl,rfl,g0,g1⟩:=trodAll_two hA
 obtain⟨rfl,rfl⟩:=trodVars_none hV
 obtain⟨x0,w0,r0⟩:=wce (n:=8) (T:=(tBase:Ty)) (ag:=true) (by kernel_rfl) (by kernel_rfl) (hval 0 25 v0 rfl rfl) g0
 obtain⟨x1,w1,r1⟩:=wce (n:=8) (T:=((.slice tTxn):Ty)) (ag:=false) (by kernel_rfl) (by kernel_rfl) (hval 1 23 v1 rfl rfl) g1
 have hc:=v87 (W:=W) wb5 (vld x0 x1 w0 w1) (cargs:=[v0,v1]) (by simp only [RVs];exact⟨v0,_,rfl,r0 _ _,v1,_,rfl,r1 _ _,rfl⟩)
 refine hc.mono fun e W' ⟨⟨cv,he,μ',X,hcv⟩,hb⟩=>?_
 simp only [RV]at hcv
 subst hcv
 subst he
 exact⟨_,rfl,wee hW' rfl rfl (t:=4) (by kernel_rfl) (by kernel_rfl) Try.laidOut (by rw [Try.params4];intro u hu;simp at hu;rcases hu with rfl|rfl<;>exact⟨by kernel_rfl,of_decide_eq_true (by kernel_rfl)⟩) hb⟩
theorem vod:mapsRowed Try.prog=true:=by kernel_rfl
theorem vn5:(Rows.fnExactTidiedRow.inPlace==Try.prog.inPlace 4)=true:=by kernel_rfl
theorem voe:(Rows.fnExactTidiedRow.unfollowed==Try.prog.unfollowed 4)=true:=by kernel_rfl
theorem vog:(Rows.fnExactTidiedRow.recurses==Try.prog.recurses 4)=true:=by kernel_rfl
theorem vn8:(Rows.fnExactTidiedRow.named==Try.prog.varsNamed 4)=true:=by kernel_rfl
theorem vn9:(Rows.fnExactTidiedRow.lifted==Try.prog.liftsFinal)=true:=by kernel_rfl
theorem voa:Try.prog.stopsHeard=true:=by kernel_rfl
theorem voc:Try.prog.mayEnter=true:=by kernel_rfl
theorem vn7:(Rows.fnExactTidiedRow.wf (OpenSpec.ofChange Rows.fnExactTidiedSpec))=true:=by kernel_rfl
theorem andB {a b:Bool}(ha:a=true)(hb:b=true):(a&&b)=true:=by rw [ha,hb];rfl
theorem vka:joinedFacts Try.prog 4 Try.f4 Rows.fnExactTidiedSpec Rows.fnExactTidiedRow=true:=by
 unfold joinedFacts
 exact(andB (andB (andB (andB (andB (andB (andB (andB (andB (andB (andB (andB (andB (andB (andB (andB (andB (andB (andB (andB (andB (andB (andB (andB (andB (andB (andB (andB (andB (andB (andB vn7 Try.laidOut) vod) (by kernel_rfl)) (by kernel_rfl)) (by kernel_rfl)) (by kernel_rfl)) (by kernel_rfl)) (by kernel_rfl)) vn5) voe) vog) vn8) (by kernel_rfl)) (by kernel_rfl)) (by kernel_rfl)) (by kernel_rfl)) (by kernel_rfl)) (by kernel_rfl)) (by kernel_rfl)) (by kernel_rfl)) (by kernel_rfl)) (by kernel_rfl)) (by kernel_rfl)) voa) voc) vn9) (by kernel_rfl)) (by kernel_rfl)) (by kernel_rfl)) (by kernel_rfl)) (by kernel_rfl))
theorem FnExactTidied_holds:Rows.FnExactTidiedSaid:=
 OpenClaim.holds_of_wide 4 Try.f4 rfl rfl rfl rfl rfl rfl rfl ⟨rfl,rfl,rfl,rfl,rfl⟩ rfl rfl rfl rfl rfl (by kernel_rfl) Try.func4 vka
  (of_decide_eq_true (by kernel_rfl)) (by unfold Func.isWrapper;first|(rw [if_pos (by decide +kernel)];kernel_rfl)|(rw [if_neg (by decide +kernel)];exact⟨rfl,rfl⟩))
  (fun os started H enc _=>vj6 os started H enc)
end Go.Proofs.Ytbaniaofomgceaa
