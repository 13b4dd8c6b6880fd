/- The statement FnTxnsSaid is proved: for every input the law FnTxns hands back true, and its arguments read as they did. Conditions: none beyond the statement. -/
import Derived.Test.YteolgjmeigifbaaFnTxnsS1
import Derived.Test.YteolgjmeigifbaaFnTxnsR
import Derived.Test.YteolgjmeigifbaaU26
import Derived.Test.YteolgjmeigifbaaRows
import Derived.ProofKit
namespace Go.Proofs.Yteolgjmeigifbaa
open Go.ChangeShapes Go.WideShapes Go.ChangeAt Go.RowKit Go.VE
theorem Try.own:ownKnob Try.prog.godebug=none:=by kernel_rfl
theorem Try.laidOut:laidOutB Try.prog=true:=by kernel_rfl
theorem vz7 (x0:((.slice (.int .u8)):Ty).D)(h0:((.slice (.int .u8)):Ty).wf x0):wd4 [((.slice (.int .u8)):Ty).toAV false x0] [] (fun v s=>some ⟨.ret,[v],s⟩)=some ⟨.ret,[.bool true],[]⟩:=
 Eq.trans (by kernel_rfl) (v9x x0 h0 (fun b=>some ⟨.ret,[.bool b],[]⟩))
set_option maxRecDepth 100000 in
theorem vx5 (os:Os)(started:os.Started)(H:Type)(enc:TypeId×Value→H) :
  ReturnsInHanded {} Try.checked os 5 .any (Rows.fnTxnsSpec.pre6 enc Try.prog Try.f5 Rows.fnTxnsRow.domain false) (Rows.fnTxnsSpec.post enc Try.prog Try.f5 false true false false):=by
 refine returnsInHanded_of_change (C:=Try.checked) Try.own started (by kernel_rfl) Try.func5
  (ChangeSpec.witness6 (enc:=enc) (C:=Try.checked) false ⟨#[],#[.slice none 0 0],[]⟩ 8 (by kernel_rfl) (by kernel_rfl) (by kernel_rfl) (by kernel_rfl)) ?_
 intro W base args ds gs before hval0 hW hcnd _
 have hval:∀(j:Nat) t v,Try.f5.params[j]? = some t→args[j]? = some v→Value.okWide Try.prog W .any base t v:=hval0
 have hW':=hW
 obtain⟨p,q,hA0,hV,rfl,hfz,hnd⟩:=hW
 have hA:DataW.TrodAll enc Try.prog W 0 (fun _=>true) true Try.f5.params.toList args.toList ds p:=hA0
 rw [Try.params5]at hA hval
 obtain⟨v0,d0,rfl,rfl,g0⟩:=trodAll_one hA
 obtain⟨rfl,rfl⟩:=trodVars_none hV
 obtain⟨x0,w0,r0⟩:=wp6 (n:=8) (T:=((.slice (.int .u8)):Ty)) (ag:=false) (by kernel_rfl) (by kernel_rfl) (hval 0 66 v0 rfl rfl) g0
 have hc:=wiu (W:=W) wma (vz7 x0 w0) (cargs:=[v0]) (by simp only [RVs];exact⟨v0,_,rfl,r0 _ _,rfl⟩)
 refine hc.mono fun e W' ⟨⟨cv,he,μ',X,hcv⟩,hb⟩=>?_
 simp only [RV]at hcv
 subst hcv
 subst he
 exact⟨_,rfl,wof hW' rfl rfl (t:=4) (by kernel_rfl) (by kernel_rfl) Try.laidOut (by rw [Try.params5];intro u hu;simp at hu;subst hu;exact⟨by kernel_rfl,of_decide_eq_true (by kernel_rfl)⟩) hb⟩
theorem wef:mapsRowed Try.prog=true:=by kernel_rfl
theorem we9:(Rows.fnTxnsRow.inPlace==Try.prog.inPlace 5)=true:=by kernel_rfl
theorem wfe:(Rows.fnTxnsRow.unfollowed==Try.prog.unfollowed 5)=true:=by kernel_rfl
theorem wc0:(Rows.fnTxnsRow.recurses==Try.prog.recurses 5)=true:=by kernel_rfl
theorem wc6:(Rows.fnTxnsRow.named==Try.prog.varsNamed 5)=true:=by kernel_rfl
theorem wb4:(Rows.fnTxnsRow.lifted==Try.prog.liftsFinal)=true:=by kernel_rfl
theorem wgd:Try.prog.stopsHeard=true:=by kernel_rfl
theorem wg0:Try.prog.mayEnter=true:=by kernel_rfl
theorem we0:(Rows.fnTxnsRow.wf (OpenSpec.ofChange Rows.fnTxnsSpec))=true:=by kernel_rfl
theorem andB {a b:Bool}(ha:a=true)(hb:b=true):(a&&b)=true:=by rw [ha,hb];rfl
theorem vze:joinedFacts Try.prog 5 Try.f5 Rows.fnTxnsSpec Rows.fnTxnsRow=true:=by
 unfold joinedFacts
 exact(andB (andB (andB (andB (andB (andB (andB (andB (andB (andB (andB (andB (andB (andB (andB (andB (andB (andB (andB (andB (andB (andB (andB (andB (andB (andB (andB (andB (andB (andB (andB we0 Try.laidOut) wef) (by kernel_rfl)) (by kernel_rfl)) (by kernel_rfl)) (by kernel_rfl)) (by kernel_rfl)) (by kernel_rfl)) we9) wfe) wc0) wc6) (by kernel_rfl)) (by kernel_rfl)) (by kernel_rfl)) (by kernel_rfl)) (by kernel_rfl)) (by kernel_rfl)) (by kernel_rfl)) (by kernel_rfl)) (by kernel_rfl)) (by kernel_rfl)) (by kernel_rfl)) wgd) wg0) wb4) (by kernel_rfl)) (by kernel_rfl)) (by kernel_rfl)) (by kernel_rfl)) (by kernel_rfl))
theorem FnTxns_holds:Rows.FnTxnsSaid:=
 OpenClaim.holds_of_wide 5 Try.f5 rfl rfl rfl rfl rfl rfl rfl ⟨rfl,rfl,rfl,rfl,rfl⟩ rfl rfl rfl rfl rfl (by kernel_rfl) Try.func5 vze
  (of_decide_eq_true (by kernel_rfl)) (by unfold Func.isWrapper;first|(rw [if_pos (by decide +kernel)];kernel_rfl)|(rw [if_neg (by decide +kernel)];exact⟨rfl,rfl⟩))
  (fun os started H enc _=>vx5 os started H enc)
end Go.Proofs.Yteolgjmeigifbaa
