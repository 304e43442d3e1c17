/-
  TaskDone returns true at every input of bulk at most 1048576 and leaves its arguments as they read.
  Conditions: none.
-/
import Derived.Test.YtiiafibkblpbcaaGreatR0
import Derived.Test.YtiiafibkblpbcaaGreatRowFcJ
import Derived.Test.YtiiafibkblpbcaaGreatRowFcC1
set_option linter.unusedVariables false
set_option linter.unusedSimpArgs false
set_option maxRecDepth 100000
set_option maxHeartbeats 64000000
namespace Go.Proofs.YtiiafibkblpbcaaGreat
open Go Go.Eng Go.ChangeShapes Go.WideShapes Go.RowKit
theorem jd4{H:Type}(d1 d2 d3 d4:DataW H)(hk:Rows.uptoBulkAll [d1,d2,d3,d4]<=1048576)(dss:List (List DV))(h:DTs Tryz.prog Tryz.f3.params.toList dss)(hf:Fits2 Rows.uptoBulk [d1,d2,d3,d4] dss):FnOk Tryz.prog 3 (xx Tryz.prog Tryz.f3.params.toList dss) (.d (.bool true)):=by
 rw [Tryz.params3] at h ⊢
 simp only [Rows.uptoBulkAll] at hk
 match dss,h,hf with
 |[a0,a1,a2,a3],⟨h0,h1,h2,h3,_⟩,⟨f0,_⟩ =>
  obtain⟨z,L,d,rfl,hd,hin⟩:=pus_of h0
  obtain⟨zh,hints,e,rfl,he⟩:=ints_of h1
  obtain⟨q,rfl⟩:=qst_of h2
  obtain⟨now,rfl,wt⟩:=h3.int_inv Tryz.underlying2
  obtain⟨hll,hok⟩:=pus_fit hd hin (by omega) (f0 d (by simp))
  have ha:xx Tryz.prog #[22,23,27,2].toList [[d],[e],[.str q.nm,.int .u16 q.ty,.int .u16 q.cl],[.int .i64 now]]=[.d d,.d e,.agg [.d (.str q.nm),.d (.int .u16 q.ty),.d (.int .u16 q.cl)],.d (.int .i64 now)]:=by
   simp[xx,argSV,oneSV,Tryz.underlying22,Tryz.underlying23,Tryz.underlying27,Tryz.underlying2]
  rw[ha]
  exact(taskdone_ok z L hll hok zh hints q now).convA ⟨.d hd,.d he,.refl _,.refl _,trivial⟩
theorem je8(os:Os){H:Type}(enc:TypeId × Value->H):∃ ds places,DataW.whole enc Tryz.prog ((World.settled Tryz.prog os).forCall (fun _ _=>0) ⟨#[],#[.slice none 0 0,.slice none 0 0,.agg #[.string ⟨#[]⟩,.int .u16 0,.int .u16 0],.int .i64 0],[]⟩).memory Tryz.f3.params.toList Rows.taskDoneSpec.vars false (#[.slice none 0 0,.slice none 0 0,.agg #[.string ⟨#[]⟩,.int .u16 0,.int .u16 0],.int .i64 0]:Array Value).toList 8=some (ds,[],places)/\Rows.uptoSmall H ds=true :=
 ⟨[.nil,.nil,.agg [.lit (.string []),.lit (.int .u16 0),.lit (.int .u16 0)],.lit (.int .i64 0)],[],by kernel_rfl,by kernel_rfl⟩
theorem je0(os:Os)(started:os.Started)(H:Type)(enc:TypeId × Value->H)(F:Stop.Interp) :
 ReturnsInHanded {} Tryz.checked os 3 .any ((Rows.OpenSpec.upto Rows.taskDoneSpec).preRow enc Tryz.prog Tryz.f3 Rows.taskDoneUptoRow.domain false Rows.taskDoneUptoRow.laid) (((Rows.OpenSpec.upto Rows.taskDoneSpec).at F).post enc Tryz.prog Tryz.f3 false true false false):=by
 obtain⟨ds0,places,hx,hx2⟩:=je8 os enc
 refine returnsInHanded_of_row (C:=Tryz.checked) (s:=Rows.OpenSpec.upto Rows.taskDoneSpec) own started (by kernel_rfl) Tryz.func3
  (witness_row_at (enc:=enc) (C:=Tryz.checked) false (World.settled Tryz.prog os) #[.slice none 0 0,.slice none 0 0,.agg #[.string ⟨#[]⟩,.int .u16 0,.int .u16 0],.int .i64 0] rfl (by kernel_rfl) (by kernel_rfl) (by kernel_rfl)
   (OpenSpec.preRow_of_cond 8 hx rfl (fun k hk=>by cases hk;rw[List.append_nil];exact hx2) (by kernel_rfl) (laidMet_nil _ _))) ?_
 intro W base args ds gs before hval0 hW _ hcond _ hL _ _
 have hlen:∃ d1 d2 d3 d4,ds=[d1,d2,d3,d4]:=by
  obtain⟨p,q,hA,_⟩:=hW
  have hA:DataW.TrodAll enc Tryz.prog W 0 (fun _=>true) true Tryz.f3.params.toList args.toList ds p:=hA
  have:=qp5 hA
  rw [Tryz.params3] at this
  match ds,this with
  |[d1,d2,d3,d4],_=>exact⟨d1,d2,d3,d4,rfl⟩
 obtain⟨d1,d2,d3,d4,rfl⟩:=hlen
 have hg:gs=[]:=by
  obtain⟨p,q,_,hV,_⟩:=hW
  exact(trodVars_none hV).1
 subst hg
 have hk:Rows.uptoBulkAll [d1,d2,d3,d4]<=1048576:=of_decide_eq_true (hcond _ rfl)
 exact law_fits bulks kids full (m:=8) (fun t ht=>by
  rw [Tryz.params3] at ht
  simp at ht
  rcases ht with rfl|rfl|rfl|rfl <;> exact⟨by kernel_rfl,of_decide_eq_true (by kernel_rfl)⟩) (jd4 d1 d2 d3 d4 hk) hval0 rfl hW (by kernel_rfl) Tryz.underlying4 ⟨rfl,rfl,rfl⟩
theorem taskDone_holds:Rows.TaskDoneUptoSaid :=
 OpenClaim.holds_of_cond 3 Tryz.f3 rfl rfl rfl rfl rfl rfl rfl ⟨rfl,rfl,rfl,rfl,rfl⟩ rfl rfl rfl rfl rfl (by kernel_rfl) Tryz.func3 je9
  (of_decide_eq_true (by kernel_rfl)) (by unfold Func.isWrapper;rw[if_neg (of_decide_eq_false (by kernel_rfl))];exact⟨rfl,rfl⟩)
  (fun os started H enc _ F=>by rw[OpenClaim.pre_eq_preRow];exact je0 os started H enc F)
end Go.Proofs.YtiiafibkblpbcaaGreat
