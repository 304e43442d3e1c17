/-
  TaskEnds returns true at every input of bulk at most 1048576 and leaves its arguments as they read.
  Conditions: none.
-/
import Derived.Test.YtiiafibkblpbcaaGreatR0
import Derived.Test.YtiiafibkblpbcaaGreatRowFdJ
import Derived.Test.YtiiafibkblpbcaaGreatRowFdC1
set_option linter.unusedVariables false
set_option linter.unusedSimpArgs false
set_option maxRecDepth 100000
set_option maxHeartbeats 64000000
namespace Go.Proofs.YtiiafibkblpbcaaGreat
open Go Go.Eng Go.ChangeShapes Go.WideShapes Go.RowKit
theorem jd3{H:Type}(d1 d2 d3 d4 d5 d6:DataW H)(hk:Rows.uptoBulkAll [d1,d2,d3,d4,d5,d6]<=1048576)(dss:List (List DV))(h:DTs Tryz.prog Tryz.f4.params.toList dss)(hf:Fits2 Rows.uptoBulk [d1,d2,d3,d4,d5,d6] dss):FnOk Tryz.prog 4 (xx Tryz.prog Tryz.f4.params.toList dss) (.d (.bool true)):=by
 rw [Tryz.params4] at h ⊢
 simp only [Rows.uptoBulkAll] at hk
 match dss,h,hf with
 |[a0,a1,a2,a3,a4,a5],⟨h0,h1,h2,h3,h4,h5,_⟩,⟨f0,_⟩ =>
  obtain⟨z,L,d,rfl,hd,hin⟩:=pus_of h0
  obtain⟨zh,hints,e,rfl,he⟩:=ints_of h1
  obtain⟨q,rfl⟩:=qst_of h2
  obtain⟨work,rfl,ww⟩:=h3.int_inv Tryz.underlying3
  obtain⟨now,rfl,wt⟩:=h4.int_inv Tryz.underlying2
  obtain⟨draw,rfl,wd⟩:=h5.int_inv Tryz.underlying63
  obtain⟨hll,hok⟩:=pus_fit hd hin (by omega) (f0 d (by simp))
  have hdr:=u_int wd
  have ha:xx Tryz.prog #[22,23,27,3,2,63].toList [[d],[e],[.str q.nm,.int .u16 q.ty,.int .u16 q.cl],[.int .i64 work],[.int .i64 now],[.int .u64 draw]]=[.d d,.d e,.agg [.d (.str q.nm),.d (.int .u16 q.ty),.d (.int .u16 q.cl)],.d (.int .i64 work),.d (.int .i64 now),.d (.int .u64 draw)]:=by
   simp[xx,argSV,oneSV,Tryz.underlying22,Tryz.underlying23,Tryz.underlying27,Tryz.underlying3,Tryz.underlying2,Tryz.underlying63]
  rw[ha]
  exact(taskends_ok z L hll hok zh hints q work now draw (by have h1:(0:Int)<=draw:=hdr.1;have h2:draw<=18446744073709551615:=hdr.2;omega)).convA ⟨.d hd,.d he,.refl _,.refl _,.refl _,.refl _,trivial⟩
theorem je6(os:Os){H:Type}(enc:TypeId × Value->H):∃ ds places,DataW.whole enc Tryz.prog ((World.settled Tryz.prog os).forCall (fun _ _=>0) ⟨#[],#[.slice none 0 0,.slice none 0 0,.agg #[.string ⟨#[]⟩,.int .u16 0,.int .u16 0],.int .i64 0,.int .i64 0,.int .u64 0],[]⟩).memory Tryz.f4.params.toList Rows.taskEndsSpec.vars false (#[.slice none 0 0,.slice none 0 0,.agg #[.string ⟨#[]⟩,.int .u16 0,.int .u16 0],.int .i64 0,.int .i64 0,.int .u64 0]:Array Value).toList 8=some (ds,[],places)/\Rows.uptoSmall H ds=true :=
 ⟨[.nil,.nil,.agg [.lit (.string []),.lit (.int .u16 0),.lit (.int .u16 0)],.lit (.int .i64 0),.lit (.int .i64 0),.lit (.int .u64 0)],[],by kernel_rfl,by kernel_rfl⟩
theorem jd9(os:Os)(started:os.Started)(H:Type)(enc:TypeId × Value->H)(F:Stop.Interp) :
 ReturnsInHanded {} Tryz.checked os 4 .any ((Rows.OpenSpec.upto Rows.taskEndsSpec).preRow enc Tryz.prog Tryz.f4 Rows.taskEndsUptoRow.domain false Rows.taskEndsUptoRow.laid) (((Rows.OpenSpec.upto Rows.taskEndsSpec).at F).post enc Tryz.prog Tryz.f4 false true false false):=by
 obtain⟨ds0,places,hx,hx2⟩:=je6 os enc
 refine returnsInHanded_of_row (C:=Tryz.checked) (s:=Rows.OpenSpec.upto Rows.taskEndsSpec) own started (by kernel_rfl) Tryz.func4
  (witness_row_at (enc:=enc) (C:=Tryz.checked) false (World.settled Tryz.prog os) #[.slice none 0 0,.slice none 0 0,.agg #[.string ⟨#[]⟩,.int .u16 0,.int .u16 0],.int .i64 0,.int .i64 0,.int .u64 0] rfl (by kernel_rfl) (by kernel_rfl) (by kernel_rfl)
   (OpenSpec.preRow_of_cond 8 hx rfl (fun k hk=>by cases hk;rw[List.append_nil];exact hx2) (by kernel_rfl) (laidMet_nil _ _))) ?_
 intro W base args ds gs before hval0 hW _ hcond _ hL _ _
 have hlen:∃ d1 d2 d3 d4 d5 d6,ds=[d1,d2,d3,d4,d5,d6]:=by
  obtain⟨p,q,hA,_⟩:=hW
  have hA:DataW.TrodAll enc Tryz.prog W 0 (fun _=>true) true Tryz.f4.params.toList args.toList ds p:=hA
  have:=qp5 hA
  rw [Tryz.params4] at this
  match ds,this with
  |[d1,d2,d3,d4,d5,d6],_=>exact⟨d1,d2,d3,d4,d5,d6,rfl⟩
 obtain⟨d1,d2,d3,d4,d5,d6,rfl⟩:=hlen
 have hg:gs=[]:=by
  obtain⟨p,q,_,hV,_⟩:=hW
  exact(trodVars_none hV).1
 subst hg
 have hk:Rows.uptoBulkAll [d1,d2,d3,d4,d5,d6]<=1048576:=of_decide_eq_true (hcond _ rfl)
 exact law_fits bulks kids full (m:=8) (fun t ht=>by
  rw [Tryz.params4] at ht
  simp at ht
  rcases ht with rfl|rfl|rfl|rfl|rfl|rfl <;> exact⟨by kernel_rfl,of_decide_eq_true (by kernel_rfl)⟩) (jd3 d1 d2 d3 d4 d5 d6 hk) hval0 rfl hW (by kernel_rfl) Tryz.underlying4 ⟨rfl,rfl,rfl⟩
theorem taskEnds_holds:Rows.TaskEndsUptoSaid :=
 OpenClaim.holds_of_cond 4 Tryz.f4 rfl rfl rfl rfl rfl rfl rfl ⟨rfl,rfl,rfl,rfl,rfl⟩ rfl rfl rfl rfl rfl (by kernel_rfl) Tryz.func4 je7
  (of_decide_eq_true (by kernel_rfl)) (by unfold Func.isWrapper;rw[if_neg (of_decide_eq_false (by kernel_rfl))];exact⟨rfl,rfl⟩)
  (fun os started H enc _ F=>by rw[OpenClaim.pre_eq_preRow];exact jd9 os started H enc F)
end Go.Proofs.YtiiafibkblpbcaaGreat
