/-
  Part of the proof: lemmas about the functions that the row calls, and about the steps of a run. Conditions: those ahead of each lemma.
-/
import Derived.Test.YtiiafibkblpbcaaGreatB3
set_option linter.unusedVariables false
set_option linter.unusedSimpArgs false
set_option maxRecDepth 100000
set_option maxHeartbeats 64000000
namespace Go.Proofs.YtiiafibkblpbcaaGreat
open Go Go.Eng
theorem taskdone_ok(zl:Bool)(l:List Pu)(hl:l.length<=1048576)(hok:∀ p ∈ l,p.Ok)(zh:Bool)(hints:List Int)(q:Q)(now:Int) :
 FnOk Tryz.prog 3 [.d (pusD zl l),.d (.sl zh hints.length 1 (jg hints)),.agg [.d (.str q.nm),.d (.int .u16 q.ty),.d (.int .u16 q.cl)],.d (.int .i64 now)] (.d (.bool true)):=by
 refine qs (TT:=TT) (IN:=qf []) qe qi mixed 1000 Tryz.func3 rfl (qh Tryz.func3 (by kernel_rfl) rfl) rfl 129 (by kernel_rfl) ?_
 conv=>whnf
 refine oD jc0 rfl rfl ?_
 conv=>whnf
 refine brF rfl ?_
 conv=>whnf
 by_cases h1:q.nm.length > 1000
 ·refine brT (decide_eq_true (by omega)) ?_
  conv=>whnf
  repeat(first|(refine brF rfl ?_;conv=>whnf)|(refine brT rfl ?_;conv=>whnf))
  repeat'(first|exact ⟨⟩|exact rfl|exact .inr rfl|exact .inl rfl|exact fun _ _=>rfl|exact noI|apply And.intro)
 refine brF (decide_eq_false (by omega)) ?_
 conv=>whnf
 by_cases h2:hints.length > 20
 ·refine brT (decide_eq_true (by omega)) ?_
  conv=>whnf
  repeat(first|(refine brF rfl ?_;conv=>whnf)|(refine brT rfl ?_;conv=>whnf))
  repeat'(first|exact ⟨⟩|exact rfl|exact .inr rfl|exact .inl rfl|exact fun _ _=>rfl|exact noI|apply And.intro)
 refine brF (decide_eq_false (by omega)) ?_
 conv=>whnf
 repeat(first|(refine brF rfl ?_;conv=>whnf)|(refine brT rfl ?_;conv=>whnf))
 refine .rel _ (heldq zl l hl hok [_]) (fun r ks' hR=>?_)
 obtain⟨c,H,zz,rfl,rfl,hk,hs⟩:=hR
 conv=>whnf
 refine .rel _ (pnewq 64 (by decide) [_,_,_,_,_]) (fun r ks' hR=>?_)
 obtain⟨rfl,rfl⟩:=hR
 conv=>whnf
 repeat(first|(refine brF rfl ?_;conv=>whnf)|(refine brT rfl ?_;conv=>whnf))
 refine .one (.data _ (qn5 1 q 5) rfl (by unfold tnV;repeat'(first|rfl|split)) ?_)
 unfold tnV
 by_cases hn:qc q.nm/\q.cl=1
 case neg =>
  rw[if_neg hn]
  conv=>whnf
  repeat(first|(refine brF rfl ?_;conv=>whnf)|(refine brT rfl ?_;conv=>whnf))
  repeat'(first|exact ⟨⟩|exact rfl|exact .inr rfl|exact .inl rfl|exact fun _ _=>rfl|exact noI|apply And.intro)
 rw[if_pos hn,if_pos (by decide)]
 conv=>whnf
 repeat(first|(refine brF rfl ?_;conv=>whnf)|(refine brT rfl ?_;conv=>whnf))
 refine .rel _ (lookq c H hk hs.fitH q now [_] [_,_,_,_]) (fun r ks' hR=>?_)
 obtain⟨rfl,rfl⟩:=hR
 have hk1:=hk.lkq q now
 have hfit:=lkF_fit hs q now
 have hD:=fun h=>next_done (H:=H) hints now 0 (t:=⟨1,q,[q],[],[],5,[]⟩) (q:=q) rfl (show(0:Int)<=5 by decide) h
 have hN:=fun h=>next_low (H:=H) hints now 0 (t:=⟨1,q,[q],[],[],5,[]⟩) (q:=q) rfl h
 have hti:TI ⟨1,q,[q],[],[],5,[]⟩:=ti0 1 q 5 (by decide)
 have hL:=next_law hs hints now 0 hti
 have hnx:=nx_go H hints now 0 hti
 rw [hnx] at hD hN hL
 generalize lkQ H c q now=c1 at hk1 ⊢
 generalize lkF H q now=r at hfit hD hN ⊢
 have hver:=ja4 r hfit.1 hfit.2.1 (by have:=hfit.2.2;omega)
 conv=>whnf
 refine .one (.data _ hver rfl (qq3 _) ?_)
 have hgo:∃ t1 sp,goF H hints now 0 64 ⟨1,q,[q],[],[],5,[]⟩=(t1,sp):=⟨_,_,rfl⟩
 obtain⟨t1,sp,hgo⟩:=hgo
 rw [hgo] at hD hN hL
 have hnw:=nextw 64 c1 H hk1 hs ⟨1,q,[q],[],[],5,[]⟩ hti ⟨Nat.zero_le _,Nat.zero_le _,(show(5:Int)<=10000 by decide)⟩ zh hints (by omega) now 0 (by decide) 1 5
 rw [hgo] at hnw
 by_cases hd:r.says=true
 ·have hv:vy r = .tup [.agg (.d (.int .i64 (if r.kind=3 then 3 else 0)) :: .d (.sl (Nat.beq r.chain.length 0) r.chain.length 4 (stsF r.chain)) :: r.vansL),.d (.int .i64 0)]:=by unfold vy;rw[if_pos hd]
  obtain⟨x0,x1,x2,z3,n3,s3,f3,hva⟩:∃ x0 x1 x2 z3 n3 s3 f3,r.vansL=[.d (.str x0),.d (.int .u16 x1),.d (.int .u32 x2),.d (.sl z3 n3 s3 f3)]:=by
   unfold LR.vansL
   split
   ·exact⟨_,_,_,_,_,_,_,rfl⟩
   ·exact⟨_,_,_,_,_,_,_,rfl⟩
  rw[hv,hva]
  have hsp:=hD hd
  cases hsp
  conv=>whnf
  refine .rel _ (hnw _ rfl rfl) (fun y ks' hR=>?_)
  obtain⟨c2,hk2,rfl,rfl⟩:=hR
  conv=>whnf
  repeat(first|(refine brF rfl ?_;conv=>whnf)|(refine brT rfl ?_;conv=>whnf))
  refine .one (.data _ hver rfl (qq3 _) ?_)
  rw[hv,hva]
  conv=>whnf
  repeat(first|(refine brF rfl ?_;conv=>whnf)|(refine brT rfl ?_;conv=>whnf))
  refine brT (beq_self_eq_true _) ?_
  conv=>whnf
  refine brT (beq_self_eq_true _) ?_
  conv=>whnf
  exact congrArg DV.bool (beq_self_eq_true _)
 ·replace hd:r.says=false:=by cases h:r.says <;> simp_all
  have hk1:=hN hd
  replace hk1:sp.kind≠1:=hk1
  rw[show vy r = .tup [.agg [.d (.int .i64 0),nilS,.d (.str []),.d (.int .u16 0),.d (.int .u32 0),nilS],.d (.int .i64 3)] by unfold vy;rw[hd];rfl]
  have hLs:sp.L = .d (.int .u8 sp.kind) :: .d (.int .i64 sp.why) :: (noResL++[.d (.int .u32 sp.addr),.d (.str sp.zone),.d (.str sp.ask.nm),.d (.int .u16 sp.ask.ty),.d (.int .u16 sp.ask.cl)]):=by unfold Sp.L;rw[if_neg hk1]
  conv=>whnf
  refine .rel _ (hnw _ rfl rfl) (fun y ks' hR=>?_)
  obtain⟨c2,hk2,rfl,rfl⟩:=hR
  dsimp only
  rw[hLs]
  conv=>whnf
  refine brF (by rw[beq_eq_false_iff_ne.2 hk1];rfl) ?_
  conv=>whnf
  repeat(first|(refine brF rfl ?_;conv=>whnf)|(refine brT rfl ?_;conv=>whnf))
  repeat'(first|exact ⟨⟩|exact rfl|exact .inr rfl|exact .inl rfl|exact fun _ _=>rfl|exact noI|apply And.intro)
end Go.Proofs.YtiiafibkblpbcaaGreat
