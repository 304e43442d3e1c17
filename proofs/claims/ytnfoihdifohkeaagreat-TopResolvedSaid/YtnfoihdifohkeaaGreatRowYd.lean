/-
  TopResolved returns true at every input and leaves its arguments as they read.
  Conditions: none.
-/
import Derived.Test.YtnfoihdifohkeaaGreatR0
import Derived.Test.YtnfoihdifohkeaaGreatRowYdC1
set_option linter.unusedVariables false
set_option linter.unusedSimpArgs false
set_option maxRecDepth 100000
namespace Go.Proofs.YtnfoihdifohkeaaGreat
open Go Go.Eng Go.ChangeShapes Go.WideShapes Go.RowKit
theorem jw2(dss:List (List DV))(h:DTs Tryz.prog Tryz.f6.params.toList dss):FnOk Tryz.prog 6 (qx3 Tryz.prog Tryz.f6.params.toList dss) (.d (.bool true)):=by
 rw [Tryz.params6] at h ⊢
 match dss,h with
 |[a0,a1],⟨h0,h1,_⟩ =>
  obtain⟨f,hf,hl⟩:=yz9 h0
  obtain⟨q,rfl⟩:=xw4 h1
  have ha2:qx3 Tryz.prog #[25,37].toList [a0,q.enc]=[.agg (a0.map .d),.agg (q.enc.map .d)]:=by
   simp[qx3,xk4,xe1,Tryz.underlying25,Tryz.underlying37]
  rw[ha2]
  exact(zz4 f hl q).convA ⟨hf,.refl _,True.intro⟩
set_option maxRecDepth 100000 in
theorem ym1(os:Os)(started:os.Started)(H:Type)(enc:TypeId × Value->H) :
 ReturnsInHanded {} Tryz.checked os 6 .any (Rows.topResolvedSpec.pre6 enc Tryz.prog Tryz.f6 [] false)
  (Rows.topResolvedSpec.post enc Tryz.prog Tryz.f6 false true false false):=by
 refine returnsInHanded_of_change (C:=Tryz.checked) own started (by kernel_rfl) Tryz.func6
  (ChangeSpec.witness6 (enc:=enc) (C:=Tryz.checked) (os:=os) false ⟨#[],#[.agg #[.slice none 0 0,.slice none 0 0],.agg #[.string ⟨#[]⟩,.int .u16 0,.int .u16 0]],[]⟩ 8 (by kernel_rfl) (by kernel_rfl) (by kernel_rfl) (by kernel_rfl) (by kernel_rfl)) ?_
 intro W base args ds gs before hval0 hW _ _
 have hlen:∃ d1 d2,ds=[d1,d2]:=by
  obtain⟨p,q,hA,_⟩:=hW
  have hA:DataW.TrodAll enc Tryz.prog W 0 (fun _=>true) true Tryz.f6.params.toList args.toList ds p:=hA
  have:=ji2 hA
  rw [Tryz.params6] at this
  match ds,this with
  |[d1,d2],_=>exact⟨d1,d2,rfl⟩
 obtain⟨d1,d2,rfl⟩:=hlen
 exact yy7 kids full (m:=8) (fun t ht=>by
  rw [Tryz.params6] at ht
  simp at ht
  rcases ht with rfl|rfl <;> exact⟨by kernel_rfl,of_decide_eq_true (by kernel_rfl)⟩) jw2 hval0 rfl hW (by kernel_rfl) Tryz.underlying4 ⟨rfl,rfl,rfl⟩
theorem topres_holds:Rows.TopResolvedSaid :=
 OpenClaim.holds_of_wide 6 Tryz.f6 rfl rfl rfl rfl rfl rfl rfl ⟨rfl,rfl,rfl,rfl,rfl⟩ rfl rfl rfl rfl rfl (by kernel_rfl) Tryz.func6 (by kernel_rfl)
  (of_decide_eq_true (by kernel_rfl)) (by unfold Func.isWrapper;rw[if_neg (of_decide_eq_false (by kernel_rfl))];exact⟨rfl,rfl⟩)
  (fun os started H enc _=>ym1 os started H enc)
end Go.Proofs.YtnfoihdifohkeaaGreat
