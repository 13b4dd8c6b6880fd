/- The statement FnExactScanAtSaid is proved: for every input the law FnExactScanAt hands back true, and its arguments read as they did. Conditions: none beyond the statement. -/
import Derived.Test.YtcccpkohlkfhoaaScanAtS1
import Derived.Test.YtcccpkohlkfhoaaScanAtR
import Derived.Test.YtcccpkohlkfhoaaU26
import Derived.Test.YtcccpkohlkfhoaaRows
import Derived.ProofKit
namespace Go.Proofs.Ytcccpkohlkfhoaa
open Go.ChangeShapes Go.WideShapes Go.ChangeAt Go.RowKit Go.VE
theorem Try.own:ownKnob Try.prog.godebug=none:=by kernel_rfl
theorem Try.laidOut:laidOutB Try.prog=true:=by kernel_rfl
theorem vie (x0:((.slice tVersion):Ty).D)(x1:(tRange:Ty).D)(x2:((.int .i64):Ty).D)(h0:((.slice tVersion):Ty).wf x0)(h1:(tRange:Ty).wf x1)(h2:((.int .i64):Ty).wf x2):vx1 [((.slice tVersion):Ty).toAV false x0,(tRange:Ty).toAV true x1,((.int .i64):Ty).toAV false x2] [] (fun v s=>some ⟨.ret,[v],s⟩)=some ⟨.ret,[.bool true],[]⟩:=
 Eq.trans (by kernel_rfl) (vi7 x0 x1 x2 h0 h1 h2 (fun b=>some ⟨.ret,[.bool b],[]⟩))
set_option maxRecDepth 100000 in
theorem vhh (os:Os)(started:os.Started)(H:Type)(enc:TypeId×Value→H) :
  ReturnsInHanded {} Try.checked os 3 .any (Rows.fnExactScanAtSpec.pre6 enc Try.prog Try.f3 Rows.fnExactScanAtRow.domain false) (Rows.fnExactScanAtSpec.post enc Try.prog Try.f3 false true false false):=by
 refine returnsInHanded_of_change (C:=Try.checked) Try.own started (by kernel_rfl) Try.func3
  (ChangeSpec.witness6 (enc:=enc) (C:=Try.checked) false ⟨#[],#[.slice none 0 0,.agg #[.string ⟨#[]⟩,.string ⟨#[]⟩],.int .i64 0],[]⟩ 8 (by kernel_rfl) (by kernel_rfl) (by kernel_rfl) (by kernel_rfl)) ?_
 intro W base args ds gs before hval0 hW hcnd _
 have hval:∀(j:Nat) t v,Try.f3.params[j]? = some t→args[j]? = some v→Value.okWide Try.prog W .any base t v:=hval0
 have hW':=hW
 obtain⟨p,q,hA0,hV,rfl,hfz,hnd⟩:=hW
 have hA:DataW.TrodAll enc Try.prog W 0 (fun _=>true) true Try.f3.params.toList args.toList ds p:=hA0
 rw [Try.params3]at hA hval
 obtain⟨v0,v1,v2,d0,d1,d2,p0,p1,p2,rfl,rfl,rfl,g0,g1,g2⟩:=trodAll_three hA
 obtain⟨rfl,rfl⟩:=trodVars_none hV
 obtain⟨x0,w0,r0⟩:=vww (n:=8) (T:=((.slice tVersion):Ty)) (ag:=false) (by kernel_rfl) (by kernel_rfl) (hval 0 22 v0 rfl rfl) g0
 obtain⟨x1,w1,r1⟩:=vww (n:=8) (T:=(tRange:Ty)) (ag:=true) (by kernel_rfl) (by kernel_rfl) (hval 1 24 v1 rfl rfl) g1
 obtain⟨x2,w2,r2⟩:=vww (n:=8) (T:=((.int .i64):Ty)) (ag:=false) (by kernel_rfl) (by kernel_rfl) (hval 2 3 v2 rfl rfl) g2
 have hc:=vz4 (W:=W) v0r (vie x0 x1 x2 w0 w1 w2) (cargs:=[v0,v1,v2]) (by simp only [RVs];exact⟨v0,_,rfl,r0 _ _,v1,_,rfl,r1 _ _,v2,_,rfl,r2 _ _,rfl⟩)
 refine hc.mono fun e W' ⟨⟨cv,he,μ',X,hcv⟩,hb⟩=>?_
 simp only [RV]at hcv
 subst hcv
 subst he
 exact⟨_,rfl,v12 hW' rfl rfl (t:=4) (by kernel_rfl) (by kernel_rfl) Try.laidOut (by rw [Try.params3];intro u hu;simp at hu;rcases hu with rfl|rfl|rfl<;>exact⟨by kernel_rfl,of_decide_eq_true (by kernel_rfl)⟩) hb⟩
theorem vkj:mapsRowed Try.prog=true:=by kernel_rfl
theorem vj9:(Rows.fnExactScanAtRow.inPlace==Try.prog.inPlace 3)=true:=by kernel_rfl
theorem vkl:(Rows.fnExactScanAtRow.unfollowed==Try.prog.unfollowed 3)=true:=by kernel_rfl
theorem vkc:(Rows.fnExactScanAtRow.recurses==Try.prog.recurses 3)=true:=by kernel_rfl
theorem vke:(Rows.fnExactScanAtRow.named==Try.prog.varsNamed 3)=true:=by kernel_rfl
theorem vka:(Rows.fnExactScanAtRow.lifted==Try.prog.liftsFinal)=true:=by kernel_rfl
theorem vkm:Try.prog.stopsHeard=true:=by kernel_rfl
theorem vkg:Try.prog.mayEnter=true:=by kernel_rfl
theorem vkd:(Rows.fnExactScanAtRow.wf (OpenSpec.ofChange Rows.fnExactScanAtSpec))=true:=by kernel_rfl
theorem andB {a b:Bool}(ha:a=true)(hb:b=true):(a&&b)=true:=by rw [ha,hb];rfl
theorem vhg:joinedFacts Try.prog 3 Try.f3 Rows.fnExactScanAtSpec Rows.fnExactScanAtRow=true:=by
 unfold joinedFacts
 exact(andB (andB (andB (andB (andB (andB (andB (andB (andB (andB (andB (andB (andB (andB (andB (andB (andB (andB (andB (andB (andB (andB (andB (andB (andB (andB (andB (andB (andB (andB (andB vkd Try.laidOut) vkj) (by kernel_rfl)) (by kernel_rfl)) (by kernel_rfl)) (by kernel_rfl)) (by kernel_rfl)) (by kernel_rfl)) vj9) vkl) vkc) vke) (by kernel_rfl)) (by kernel_rfl)) (by kernel_rfl)) (by kernel_rfl)) (by kernel_rfl)) (by kernel_rfl)) (by kernel_rfl)) (by kernel_rfl)) (by kernel_rfl)) (by kernel_rfl)) (by kernel_rfl)) vkm) vkg) vka) (by kernel_rfl)) (by kernel_rfl)) (by kernel_rfl)) (by kernel_rfl)) (by kernel_rfl))
theorem FnExactScanAt_holds:Rows.FnExactScanAtSaid:=
 OpenClaim.holds_of_wide 3 Try.f3 rfl rfl rfl rfl rfl rfl rfl ⟨rfl,rfl,rfl,rfl,rfl⟩ rfl rfl rfl rfl rfl (by kernel_rfl) Try.func3 vhg
  (of_decide_eq_true (by kernel_rfl)) (by unfold Func.isWrapper;first|(rw [if_pos (by decide +kernel)];kernel_rfl)|(rw [if_neg (by decide +kernel)];exact⟨rfl,rfl⟩))
  (fun os started H enc _=>vhh os started H enc)
end Go.Proofs.Ytcccpkohlkfhoaa
