/-
  BoundsSmall returns true at every input and leaves its arguments as they read.
  Conditions: none.
-/
import Derived.Test.YtiiafibkblpbcaaGreatR0
import Derived.Test.YtiiafibkblpbcaaGreatRowFeJ
import Derived.Test.YtiiafibkblpbcaaGreatB3
set_option linter.unusedVariables false
set_option linter.unusedSimpArgs false
set_option maxRecDepth 100000
set_option maxHeartbeats 64000000
namespace Go.Proofs.YtiiafibkblpbcaaGreat
open Go Go.Eng Go.ChangeShapes Go.WideShapes Go.RowKit
theorem bs_contract(dss:List (List DV))(h:DTs Tryz.prog Tryz.f6.params.toList dss):FnOk Tryz.prog 6 (vt Tryz.prog Tryz.f6.params.toList dss) (.d (.bool true)):=by
 rw [Tryz.params6] at h ⊢
 match dss,h with
 |[a0,a1,a2],⟨h0,h1,h2,_⟩ =>
  obtain⟨s,rfl,hs⟩:=h0.str_inv Tryz.underlying9
  obtain⟨k,rfl,_⟩:=h1.str_inv Tryz.underlying9
  obtain⟨c,rfl,_⟩:=h2.int_inv Tryz.underlying3
  have ha2:vt Tryz.prog #[9,9,3].toList [[.str s],[.str k],[.int .i64 c]]=[.d (.str s),.d (.str k),.d (.int .i64 c)]:=by
   simp[vt,argSV,oneSV,Tryz.underlying9,Tryz.underlying3]
  rw[ha2]
  exact bsml_ok s k c (by have h:maxLen=9223372036854775807:=rfl;omega)
set_option maxRecDepth 100000 in
theorem bs_lifted(os:Os)(started:os.Started)(H:Type)(enc:TypeId × Value->H) :
 ReturnsInHanded {} Tryz.checked os 6 .any (Rows.boundsSmallSpec.pre6 enc Tryz.prog Tryz.f6 [] false)
  (Rows.boundsSmallSpec.post enc Tryz.prog Tryz.f6 false true false false):=by
 refine returnsInHanded_of_change (C:=Tryz.checked) own started (by kernel_rfl) Tryz.func6
  (ChangeSpec.witness6 (enc:=enc) (C:=Tryz.checked) (os:=os) false ⟨#[],#[.string ⟨#[]⟩,.string ⟨#[]⟩,.int .i64 0],[]⟩ 8 (by kernel_rfl) (by kernel_rfl) (by kernel_rfl) (by kernel_rfl) (by kernel_rfl)) ?_
 intro W base args ds gs before hval0 hW _ _
 have hlen:∃ d1 d2 d3,ds=[d1,d2,d3]:=by
  obtain⟨p,q,hA,_⟩:=hW
  have hA:DataW.TrodAll enc Tryz.prog W 0 (fun _=>true) true Tryz.f6.params.toList args.toList ds p:=hA
  have:=jc7 hA
  rw [Tryz.params6] at this
  match ds,this with
  |[d1,d2,d3],_=>exact⟨d1,d2,d3,rfl⟩
 obtain⟨d1,d2,d3,rfl⟩:=hlen
 exact law_calls kids full (m:=8) (fun t ht=>by
  rw [Tryz.params6] at ht
  simp at ht
  rcases ht with rfl|rfl <;> exact⟨by kernel_rfl,of_decide_eq_true (by kernel_rfl)⟩) bs_contract hval0 rfl hW (by kernel_rfl) Tryz.underlying4 ⟨rfl,rfl,rfl⟩
theorem boundsSmall_holds:Rows.BoundsSmallSaid :=
 OpenClaim.holds_of_wide 6 Tryz.f6 rfl rfl rfl rfl rfl rfl rfl ⟨rfl,rfl,rfl,rfl,rfl⟩ rfl rfl rfl rfl rfl (by kernel_rfl) Tryz.func6 ji6
  (of_decide_eq_true (by kernel_rfl)) (by unfold Func.isWrapper;rw[if_neg (of_decide_eq_false (by kernel_rfl))];exact⟨rfl,rfl⟩)
  (fun os started H enc _=>bs_lifted os started H enc)
end Go.Proofs.YtiiafibkblpbcaaGreat
