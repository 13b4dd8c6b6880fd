/- The statement FnExactStoreNewSaid is proved: for every input the law FnExactStoreNew hands back true, and its arguments read as they did. Conditions: none beyond the statement. -/
import Derived.Test.YtcccpkohlkfhoaaStoreNewS1
import Derived.Test.YtcccpkohlkfhoaaStoreNewR
import Derived.Test.YtcccpkohlkfhoaaU26
import Derived.Test.YtcccpkohlkfhoaaRows
import Derived.ProofKit
namespace Go.Proofs.Ytcccpkohlkfhoaa
open Go.ChangeShapes Go.WideShapes Go.ChangeAt Go.RowKit Go.VE
theorem Try.own:ownKnob Try.prog.godebug=none:=by kernel_rfl
theorem Try.laidOut:laidOutB Try.prog=true:=by kernel_rfl
theorem vff   : vy6 [] [] (fun v s=>some ⟨.ret,[v],s⟩)=some ⟨.ret,[.bool true],[]⟩:=
 Eq.trans (by kernel_rfl) (vho   (fun b=>some ⟨.ret,[.bool b],[]⟩))
set_option maxRecDepth 100000 in
theorem vfe (os:Os)(started:os.Started)(H:Type)(enc:TypeId×Value→H) :
  ReturnsInHanded {} Try.checked os 5 .any (Rows.fnExactStoreNewSpec.pre6 enc Try.prog Try.f5 Rows.fnExactStoreNewRow.domain false) (Rows.fnExactStoreNewSpec.post enc Try.prog Try.f5 false true false false):=by
 refine returnsInHanded_of_change (C:=Try.checked) Try.own started (by kernel_rfl) Try.func5
  (ChangeSpec.witness6 (enc:=enc) (C:=Try.checked) false ⟨#[],#[],[]⟩ 8 (by kernel_rfl) (by kernel_rfl) (by kernel_rfl) (by kernel_rfl)) ?_
 intro W base args ds gs before hval0 hW hcnd _
 have hval:∀(j:Nat) t v,Try.f5.params[j]? = some t→args[j]? = some v→Value.okWide Try.prog W .any base t v:=hval0
 have hW':=hW
 obtain⟨p,q,hA0,hV,rfl,hfz,hnd⟩:=hW
 have hA:DataW.TrodAll enc Try.prog W 0 (fun _=>true) true Try.f5.params.toList args.toList ds p:=hA0
 rw [show Try.f5.params.toList=[]from by kernel_rfl]at hA
 obtain⟨rfl,rfl,rfl⟩:=trodAll_none hA
 obtain⟨rfl,rfl⟩:=trodVars_none hV
 have hc:=v2n (W:=W) v3q (vff  ) (cargs:=[]) (by simp only [RVs])
 refine hc.mono fun e W' ⟨⟨cv,he,μ',X,hcv⟩,hb⟩=>?_
 simp only [RV]at hcv
 subst hcv
 subst he
 exact⟨_,rfl,v4f hW' rfl rfl (t:=4) (by kernel_rfl) (by kernel_rfl) Try.laidOut (by intro u hu;rw [show Try.f5.params.toList=[]from by kernel_rfl]at hu;simp at hu) hb⟩
theorem vig:mapsRowed Try.prog=true:=by kernel_rfl
theorem vip:(Rows.fnExactStoreNewRow.inPlace==Try.prog.inPlace 5)=true:=by kernel_rfl
theorem vik:(Rows.fnExactStoreNewRow.unfollowed==Try.prog.unfollowed 5)=true:=by kernel_rfl
theorem vir:(Rows.fnExactStoreNewRow.recurses==Try.prog.recurses 5)=true:=by kernel_rfl
theorem vh8:(Rows.fnExactStoreNewRow.named==Try.prog.varsNamed 5)=true:=by kernel_rfl
theorem vh3:(Rows.fnExactStoreNewRow.lifted==Try.prog.liftsFinal)=true:=by kernel_rfl
theorem via:Try.prog.stopsHeard=true:=by kernel_rfl
theorem vhz:Try.prog.mayEnter=true:=by kernel_rfl
theorem vib:(Rows.fnExactStoreNewRow.wf (OpenSpec.ofChange Rows.fnExactStoreNewSpec))=true:=by kernel_rfl
theorem andB {a b:Bool}(ha:a=true)(hb:b=true):(a&&b)=true:=by rw [ha,hb];rfl
theorem vfd:joinedFacts Try.prog 5 Try.f5 Rows.fnExactStoreNewSpec Rows.fnExactStoreNewRow=true:=by
 unfold joinedFacts
 exact(andB (andB (andB (andB (andB (andB (andB (andB (andB (andB (andB (andB (andB (andB (andB (andB (andB (andB (andB (andB (andB (andB (andB (andB (andB (andB (andB (andB (andB (andB (andB vib Try.laidOut) vig) (by kernel_rfl)) (by kernel_rfl)) (by kernel_rfl)) (by kernel_rfl)) (by kernel_rfl)) (by kernel_rfl)) vip) vik) vir) vh8) (by kernel_rfl)) (by kernel_rfl)) (by kernel_rfl)) (by kernel_rfl)) (by kernel_rfl)) (by kernel_rfl)) (by kernel_rfl)) (by kernel_rfl)) (by kernel_rfl)) (by kernel_rfl)) (by kernel_rfl)) via) vhz) vh3) (by kernel_rfl)) (by kernel_rfl)) (by kernel_rfl)) (by kernel_rfl)) (by kernel_rfl))
theorem FnExactStoreNew_holds:Rows.FnExactStoreNewSaid:=
 OpenClaim.holds_of_wide 5 Try.f5 rfl rfl rfl rfl rfl rfl rfl ⟨rfl,rfl,rfl,rfl,rfl⟩ rfl rfl rfl rfl rfl (by kernel_rfl) Try.func5 vfd
  (of_decide_eq_true (by kernel_rfl)) (by unfold Func.isWrapper;first|(rw [if_pos (by decide +kernel)];kernel_rfl)|(rw [if_neg (by decide +kernel)];exact⟨rfl,rfl⟩))
  (fun os started H enc _=>vfe os started H enc)
end Go.Proofs.Ytcccpkohlkfhoaa
