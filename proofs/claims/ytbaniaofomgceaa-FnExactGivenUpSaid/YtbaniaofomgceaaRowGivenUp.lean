/- The statement FnExactGivenUpSaid is proved: for every input the law FnExactGivenUp hands back true, and its arguments read as they did. Conditions: none beyond the statement. -/
import Derived.Test.YtbaniaofomgceaaGivenUpS1
import Derived.Test.YtbaniaofomgceaaGivenUpR
import Derived.Test.YtbaniaofomgceaaU26
import Derived.Test.YtbaniaofomgceaaRows
import Derived.ProofKit
namespace Go.Proofs.Ytbaniaofomgceaa
open Go.ChangeShapes Go.WideShapes Go.ChangeAt Go.RowKit Go.VE
theorem Try.own:ownKnob Try.prog.godebug=none:=by kernel_rfl
theorem Try.laidOut:laidOutB Try.prog=true:=by kernel_rfl
theorem vi3 (x0:(tBase:Ty).D)(x1:(.str:Ty).D)(h0:(tBase:Ty).wf x0)(h1:(.str:Ty).wf x1):v3j [(tBase:Ty).toAV true x0,(.str:Ty).toAV false x1] [] (fun v s=>some ⟨.ret,[v],s⟩)=some ⟨.ret,[.bool true],[]⟩:=
 Eq.trans (by kernel_rfl) (vkw x0 x1 h0 h1 (fun b=>some ⟨.ret,[.bool b],[]⟩))
set_option maxRecDepth 100000 in
theorem vhd (os:Os)(started:os.Started)(H:Type)(enc:TypeId×Value→H) :
  ReturnsInHanded {} Try.checked os 3 .any (Rows.fnExactGivenUpSpec.pre6 enc Try.prog Try.f3 Rows.fnExactGivenUpRow.domain false) (Rows.fnExactGivenUpSpec.post enc Try.prog Try.f3 false true false false):=by
 refine returnsInHanded_of_change (C:=Try.checked) Try.own started (by kernel_rfl) Try.func3
  (ChangeSpec.witness6 (enc:=enc) (C:=Try.checked) false ⟨#[],#[.agg #[.slice none 0 0,.slice none 0 0,.slice none 0 0,.int .i64 0,.int .i64 0],.string ⟨#[]⟩],[]⟩ 8 (by kernel_rfl) (by kernel_rfl) (by kernel_rfl) (by kernel_rfl)) ?_
 intro W base args ds gs before hval0 hW hcnd _
 have hval:∀(j:Nat) t v,Try.f3.params[j]? = some t→args[j]? = some v→Value.okWide Try.prog W .any base t v:=hval0
 have hW':=hW
 obtain⟨p,q,hA0,hV,rfl,hfz,hnd⟩:=hW
 have hA:DataW.TrodAll enc Try.prog W 0 (fun _=>true) true Try.f3.params.toList args.toList ds p:=hA0
 rw [Try.params3]at hA hval
 obtain⟨v0,v1,d0,d1,p0,p1,rfl,rfl,rfl,g0,g1⟩:=trodAll_two hA
 obtain⟨rfl,rfl⟩:=trodVars_none hV
 obtain⟨x0,w0,r0⟩:=v8l (n:=8) (T:=(tBase:Ty)) (ag:=true) (by kernel_rfl) (by kernel_rfl) (hval 0 25 v0 rfl rfl) g0
 obtain⟨x1,w1,r1⟩:=v8l (n:=8) (T:=(.str:Ty)) (ag:=false) (by kernel_rfl) (by kernel_rfl) (hval 1 9 v1 rfl rfl) g1
 have hc:=v5h (W:=W) v76 (vi3 x0 x1 w0 w1) (cargs:=[v0,v1]) (by simp only [RVs];exact⟨v0,_,rfl,r0 _ _,v1,_,rfl,r1 _ _,rfl⟩)
 refine hc.mono fun e W' ⟨⟨cv,he,μ',X,hcv⟩,hb⟩=>?_
 simp only [RV]at hcv
 subst hcv
 subst he
 exact⟨_,rfl,v9y hW' rfl rfl (t:=4) (by kernel_rfl) (by kernel_rfl) Try.laidOut (by rw [Try.params3];intro u hu;simp at hu;rcases hu with rfl|rfl<;>exact⟨by kernel_rfl,of_decide_eq_true (by kernel_rfl)⟩) hb⟩
theorem vlj:mapsRowed Try.prog=true:=by kernel_rfl
theorem vl2:(Rows.fnExactGivenUpRow.inPlace==Try.prog.inPlace 3)=true:=by kernel_rfl
theorem vl0:(Rows.fnExactGivenUpRow.unfollowed==Try.prog.unfollowed 3)=true:=by kernel_rfl
theorem vll:(Rows.fnExactGivenUpRow.recurses==Try.prog.recurses 3)=true:=by kernel_rfl
theorem vlx:(Rows.fnExactGivenUpRow.named==Try.prog.varsNamed 3)=true:=by kernel_rfl
theorem vlo:(Rows.fnExactGivenUpRow.lifted==Try.prog.liftsFinal)=true:=by kernel_rfl
theorem vln:Try.prog.stopsHeard=true:=by kernel_rfl
theorem vlv:Try.prog.mayEnter=true:=by kernel_rfl
theorem vly:(Rows.fnExactGivenUpRow.wf (OpenSpec.ofChange Rows.fnExactGivenUpSpec))=true:=by kernel_rfl
theorem andB {a b:Bool}(ha:a=true)(hb:b=true):(a&&b)=true:=by rw [ha,hb];rfl
theorem vh0:joinedFacts Try.prog 3 Try.f3 Rows.fnExactGivenUpSpec Rows.fnExactGivenUpRow=true:=by
 unfold joinedFacts
 exact(andB (andB (andB (andB (andB (andB (andB (andB (andB (andB (andB (andB (andB (andB (andB (andB (andB (andB (andB (andB (andB (andB (andB (andB (andB (andB (andB (andB (andB (andB (andB vly Try.laidOut) vlj) (by kernel_rfl)) (by kernel_rfl)) (by kernel_rfl)) (by kernel_rfl)) (by kernel_rfl)) (by kernel_rfl)) vl2) vl0) vll) vlx) (by kernel_rfl)) (by kernel_rfl)) (by kernel_rfl)) (by kernel_rfl)) (by kernel_rfl)) (by kernel_rfl)) (by kernel_rfl)) (by kernel_rfl)) (by kernel_rfl)) (by kernel_rfl)) (by kernel_rfl)) vln) vlv) vlo) (by kernel_rfl)) (by kernel_rfl)) (by kernel_rfl)) (by kernel_rfl)) (by kernel_rfl))
theorem FnExactGivenUp_holds:Rows.FnExactGivenUpSaid:=
 OpenClaim.holds_of_wide 3 Try.f3 rfl rfl rfl rfl rfl rfl rfl ⟨rfl,rfl,rfl,rfl,rfl⟩ rfl rfl rfl rfl rfl (by kernel_rfl) Try.func3 vh0
  (of_decide_eq_true (by kernel_rfl)) (by unfold Func.isWrapper;first|(rw [if_pos (by decide +kernel)];kernel_rfl)|(rw [if_neg (by decide +kernel)];exact⟨rfl,rfl⟩))
  (fun os started H enc _=>vhd os started H enc)
end Go.Proofs.Ytbaniaofomgceaa
