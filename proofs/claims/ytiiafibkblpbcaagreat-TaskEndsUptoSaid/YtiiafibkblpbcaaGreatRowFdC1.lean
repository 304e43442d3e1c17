/-
  Part of the proof: lemmas about the functions that the row calls, and about the steps of a run. Conditions: those ahead of each lemma.
-/
import Derived.Test.YtiiafibkblpbcaaGreatB3
import Derived.Test.YtiiafibkblpbcaaGreatB2
set_option linter.unusedVariables false
set_option linter.unusedSimpArgs false
set_option maxRecDepth 100000
set_option maxHeartbeats 64000000
namespace Go.Proofs.YtiiafibkblpbcaaGreat
open Go Go.Eng
theorem turn_h16(H:List Held)(hints:List Int)(now draw:Int)(t:Tk)(h:t.hosts.length<=16):(yh H hints now draw t).1.hosts.length<=16:=by
 have lv:∀ s,(jm t s).1.hosts.length<=16:=fun s=>by rw[qy9];exact h
 unfold yh
 dsimp only
 split
 ·exact lv _
 split
 ·exact lv _
 split
 ·split
  ·exact h
  ·exact h
 ·split
  ·split
   ·rename_i hl
    show(t.hosts++[_]).length<=_
    rw[List.length_append,List.length_singleton];omega
   ·exact lv _
  ·exact lv _
theorem go_h16(H:List Held)(hints:List Int)(now draw:Int):∀ (k:Nat) (t:Tk),t.hosts.length<=16->(goF H hints now draw k t).1.hosts.length<=16
 |0,_,h=>h
 |k+1,t,h=>by
  have:=turn_h16 H hints now draw t h
  unfold goF
  cases hT:yh H hints now draw t with
  |mk t1 o =>
   rw [hT] at this
   cases o with
   |some s=>exact this
   |none=>exact go_h16 H hints now draw k t1 this
structure TeSt where
 c:CSt
 t:Tk
 sent:Nat
structure TeI(H:List Held)(work:Int)(x:TeSt):Prop where
 k:Kn x.c H
 ti:TI x.t
 wo:x.t.work=work - x.sent
 tr:x.t.tries.length=x.sent
 ho:x.t.hosts.length<=16
structure TcSt where
 i:Nat
 n:Nat
theorem taskends_ok(zl:Bool)(l:List Pu)(hl:l.length<=1048576)(hok:∀ p ∈ l,p.Ok)(zh:Bool)(hints:List Int)(q:Q)(work now draw:Int)(hd:0<=draw/\draw<18446744073709551616) :
 FnOk Tryz.prog 4 [.d (pusD zl l),.d (.sl zh hints.length 1 (jg hints)),.agg [.d (.str q.nm),.d (.int .u16 q.ty),.d (.int .u16 q.cl)],.d (.int .i64 work),.d (.int .i64 now),.d (.int .u64 draw)] (.d (.bool true)):=by
 refine qs (TT:=TT) (IN:=qf []) qe qi mixed 1000 Tryz.func4 rfl (qh Tryz.func4 (by kernel_rfl) rfl) rfl 190 (by kernel_rfl) ?_
 conv=>whnf
 refine oD jc0 rfl rfl ?_
 conv=>whnf
 refine brF rfl ?_
 conv=>whnf
 by_cases h1:q.nm.length > 1000
 ·refine brT (decide_eq_true (by omega)) ?_
  conv=>whnf
  repeat(first|(refine brF rfl ?_;conv=>whnf)|(refine brT rfl ?_;conv=>whnf))
  repeat'(first|exact ⟨⟩|exact rfl|exact .inr rfl|exact .inl rfl|exact fun _ _=>rfl|exact noI|apply And.intro)
 refine brF (decide_eq_false (by omega)) ?_
 conv=>whnf
 by_cases h2:hints.length > 20
 ·refine brT (decide_eq_true (by omega)) ?_
  conv=>whnf
  repeat(first|(refine brF rfl ?_;conv=>whnf)|(refine brT rfl ?_;conv=>whnf))
  repeat'(first|exact ⟨⟩|exact rfl|exact .inr rfl|exact .inl rfl|exact fun _ _=>rfl|exact noI|apply And.intro)
 refine brF (decide_eq_false (by omega)) ?_
 conv=>whnf
 by_cases h3:work > 64
 ·refine brT (decide_eq_true (by omega)) ?_
  conv=>whnf
  repeat(first|(refine brF rfl ?_;conv=>whnf)|(refine brT rfl ?_;conv=>whnf))
  repeat'(first|exact ⟨⟩|exact rfl|exact .inr rfl|exact .inl rfl|exact fun _ _=>rfl|exact noI|apply And.intro)
 refine brF (decide_eq_false (by omega)) ?_
 conv=>whnf
 repeat(first|(refine brF rfl ?_;conv=>whnf)|(refine brT rfl ?_;conv=>whnf))
 refine .rel _ (heldq zl l hl hok [_]) (fun r ks' hR=>?_)
 obtain⟨c,H,zz,rfl,rfl,hk,hs⟩:=hR
 conv=>whnf
 refine .rel _ (pnewq 64 (by decide) [_,_,_,_,_]) (fun r ks' hR=>?_)
 obtain⟨rfl,rfl⟩:=hR
 conv=>whnf
 repeat(first|(refine brF rfl ?_;conv=>whnf)|(refine brT rfl ?_;conv=>whnf))
 refine .one (.data _ (qn5 1 q work) rfl (by unfold tnV;repeat'(first|rfl|split)) ?_)
 unfold tnV
 by_cases hn:qc q.nm/\q.cl=1
 case neg =>
  rw[if_neg hn]
  conv=>whnf
  repeat(first|(refine brF rfl ?_;conv=>whnf)|(refine brT rfl ?_;conv=>whnf))
  repeat'(first|exact ⟨⟩|exact rfl|exact .inr rfl|exact .inl rfl|exact fun _ _=>rfl|exact noI|apply And.intro)
 rw[if_pos hn]
 by_cases hw:0<=work/\work<=64
 case neg =>
  rw[if_neg hw]
  conv=>whnf
  repeat(first|(refine brF rfl ?_;conv=>whnf)|(refine brT rfl ?_;conv=>whnf))
  repeat'(first|exact ⟨⟩|exact rfl|exact .inr rfl|exact .inl rfl|exact fun _ _=>rfl|exact noI|apply And.intro)
 rw[if_pos hw]
 conv=>whnf
 repeat(first|(refine brF rfl ?_;conv=>whnf)|(refine brT rfl ?_;conv=>whnf))
 refine .inv TeSt (TeI H work) (fun x=>[(20,iV x.sent)]) (fun x=>x.c.klq 1++[(7,.cells 43 x.t.L)]) (fun x=>x.t.work.toNat) ⟨⟨c,⟨1,q,[q],[],[],work,[]⟩,0⟩,[0,1,2,3,4,5,6,7],⟨hk,ti0 1 q work hw.1,by show work=work - (0:Nat);omega,rfl,Nat.zero_le _⟩,?_⟩ ?_
 ·conv=>whnf
  repeat'(first|exact ⟨⟩|exact rfl|exact(fun _ _ _ _ h=>⟨qb _,h⟩)|exact fun _=>Iff.rfl|exact fun _ _=>rfl|apply And.intro)
  all_goals first|exact qa rfl _|trace_state
 clear hk
 rintro ⟨c,t,sent⟩ ⟨hk,ti,wo,tr,ho⟩
 replace hk:Kn c H:=hk
 replace ti:TI t:=ti
 replace wo:t.work=work - (sent:Int):=wo
 replace tr:t.tries.length=sent:=tr
 replace ho:t.hosts.length<=16:=ho
 have hw0:=ti.work
 conv=>whnf
 refine .rel _ (nextw 64 c H hk hs t ti ⟨by omega,by omega,by omega⟩ zh hints (by omega) now draw hd 1 5 _ rfl rfl) (fun r ks' hR=>?_)
 obtain⟨c1,hk1,rfl,rfl⟩:=hR
 have hL:=next_law hs hints now draw ti
 rw [show uw H hints now draw t=goF H hints now draw 64 t from if_neg (by have:=ti.lo;have:=ti.hi;omega)] at hL
 have hh1:=go_h16 H hints now draw 64 t ho
 generalize goF H hints now draw 64 t=p at hL hh1 ⊢
 obtain⟨t1,sp⟩:=p
 replace hh1:t1.hosts.length<=16:=hh1
 dsimp only at hL ⊢
 have hwk:=w64s sent (by omega)
 cases hL with
 |stop g1 g2 g3 =>
  have hLs:sp.L = .d (.int .u8 sp.kind) :: .d (.int .i64 sp.why) :: (noResL++[.d (.int .u32 sp.addr),.d (.str sp.zone),.d (.str sp.ask.nm),.d (.int .u16 sp.ask.ty),.d (.int .u16 sp.ask.cl)]):=by unfold Sp.L;rw[if_neg (by rw[g1];decide)]
  rw[hLs]
  conv=>whnf
  refine brT (by rw[beq_iff_eq];exact g1) ?_
  conv=>whnf
  rcases g3 with e|e|e
  ·refine brF (by rw[beq_eq_false_iff_ne,e];decide) ?_
   conv=>whnf
   refine brF (by rw[beq_eq_false_iff_ne,e];decide) ?_
   conv=>whnf
   rw[e]
   repeat'(first|exact ⟨⟩|exact rfl|exact .inr rfl|exact .inl rfl|exact fun _ _=>rfl|exact noI|apply And.intro)
  ·refine brT (by rw[beq_iff_eq];exact e) ?_
   conv=>whnf
   repeat(first|(refine brF rfl ?_;conv=>whnf)|(refine brT rfl ?_;conv=>whnf))
   repeat'(first|exact ⟨⟩|exact rfl|exact .inr rfl|exact .inl rfl|exact fun _ _=>rfl|exact noI|apply And.intro)
  ·refine brF (by rw[beq_eq_false_iff_ne,e];decide) ?_
   conv=>whnf
   refine brT (by rw[beq_iff_eq];exact e) ?_
   conv=>whnf
   repeat(first|(refine brF rfl ?_;conv=>whnf)|(refine brT rfl ?_;conv=>whnf))
   repeat'(first|exact ⟨⟩|exact rfl|exact .inr rfl|exact .inl rfl|exact fun _ _=>rfl|exact noI|apply And.intro)
 |done g1 g2 g3 =>
  have hLs:sp.L = .d (.int .u8 sp.kind) :: .d (.int .i64 sp.why) :: (sp.res.L++[.d (.int .u32 sp.addr),.d (.str sp.zone),.d (.str sp.ask.nm),.d (.int .u16 sp.ask.ty),.d (.int .u16 sp.ask.cl)]):=by unfold Sp.L;rw[if_pos g1]
  rw[hLs]
  conv=>whnf
  refine brF (by rw[beq_eq_false_iff_ne,g1];decide) ?_
  conv=>whnf
  refine brT (by rw[beq_iff_eq];exact g1) ?_
  conv=>whnf
  refine .one (.data _ (ja4 sp.res g3.1 g3.2.1 (by have:=g3.2.2;omega)) rfl (qq3 _) ?_)
  rw[show vy sp.res = .tup [.agg (.d (.int .i64 (if sp.res.kind=3 then 3 else 0)) :: .d (.sl (Nat.beq sp.res.chain.length 0) sp.res.chain.length 4 (stsF sp.res.chain)) :: sp.res.vansL),.d (.int .i64 0)] by unfold vy;rw[if_pos g2]]
  obtain⟨x0,x1,x2,z3,n3,s3,f3,hva⟩:∃ x0 x1 x2 z3 n3 s3 f3,sp.res.vansL=[.d (.str x0),.d (.int .u16 x1),.d (.int .u32 x2),.d (.sl z3 n3 s3 f3)]:=by
   unfold LR.vansL
   split
   ·exact⟨_,_,_,_,_,_,_,rfl⟩
   ·exact⟨_,_,_,_,_,_,_,rfl⟩
  rw[hva]
  conv=>whnf
  repeat'(first|exact ⟨⟩|exact rfl|exact .inr rfl|exact .inl rfl|exact fun _ _=>rfl|exact noI|apply And.intro)
 |send g1 g2 g3 g4 g5 g6 g7 g8 g9 g10 =>
  have hLs:sp.L = .d (.int .u8 sp.kind) :: .d (.int .i64 sp.why) :: (noResL++[.d (.int .u32 sp.addr),.d (.str sp.zone),.d (.str sp.ask.nm),.d (.int .u16 sp.ask.ty),.d (.int .u16 sp.ask.cl)]):=by unfold Sp.L;rw[if_neg (by rw[g1];decide)]
  rw[hLs]
  conv=>whnf
  refine brF (by rw[beq_eq_false_iff_ne,g1];decide) ?_
  conv=>whnf
  refine brF (by rw[beq_eq_false_iff_ne,g1];decide) ?_
  conv=>whnf
  rw[hwk]
  refine brF (decide_eq_false (by omega)) ?_
  conv=>whnf
  refine brF (by rw[bne_eq_false_iff_eq,qn _ (by omega)];exact g3) ?_
  conv=>whnf
  refine brF (by rw[bne_eq_false_iff_eq,qn _ (by omega)];omega) ?_
  conv=>whnf
  refine oD (wl sp.ask.nm) rfl rfl ?_
  rw[if_pos g6]
  conv=>whnf
  repeat(first|(refine brF rfl ?_;conv=>whnf)|(refine brT rfl ?_;conv=>whnf))
  refine oD (within_ok sp.ask.nm sp.zone) rfl rfl ?_
  rw[g7]
  conv=>whnf
  repeat(first|(refine brF rfl ?_;conv=>whnf)|(refine brT rfl ?_;conv=>whnf))
  refine .inv TcSt (fun x=>x.i<=t1.tries.length/\x.n=(t1.tries.take x.i).countP (ym sp)) (fun x=>[(25,iV x.n),(154,iV x.i)]) (fun _=>[]) (fun x=>t1.tries.length - x.i) ⟨⟨0,0⟩,[0,1,2,3,4,5,6,7,8,9],⟨Nat.zero_le _,rfl⟩,?_⟩ ?_
  ·conv=>whnf
   repeat'(first|exact ⟨⟩|exact rfl|exact(fun _ _ _ _ h=>⟨qb _,h⟩)|exact fun _=>Iff.rfl|exact fun _ _=>rfl|apply And.intro)
   all_goals first|exact qa rfl _|trace_state
  rintro ⟨i,n⟩ ⟨hi,hn⟩
  replace hi:i<=t1.tries.length:=hi
  replace hn:n=(t1.tries.take i).countP (ym sp):=hn
  have hwi:=w64s i (by omega)
  have hnl:n<=t1.tries.length:=by rw[hn];exact Nat.le_trans List.countP_le_length (by rw[List.length_take];omega)
  have hwn:=w64s n (by omega)
  conv=>whnf
  refine⟨fun c5=>?_,fun c5=>?_⟩
  ·have c5':i<t1.tries.length:=(by have h:(i:Int)<t1.tries.length:=of_decide_eq_true c5;omega)
   obtain⟨y,hy⟩:∃ y,t1.tries.getD i default=y:=⟨_,rfl⟩
   have hcn:(t1.tries.take (i+1)).countP (ym sp)=(t1.tries.take i).countP (ym sp)+if ym sp y then 1 else 0:=by
    rw[List.take_add_one,List.getElem?_eq_getElem c5',List.countP_append,<-hy,List.getD,List.getElem?_eq_getElem c5']
    exact congrArg _ List.countP_singleton
   conv=>whnf
   refine⟨by dsimp only;omega,?_⟩
   conv=>whnf
   rw[Int.toNat_natCast,hy]
   obtain⟨ya,yz,yn,yt⟩:=y
   have hsd:ym sp ⟨ya,yz,yn,yt⟩=(ya == sp.addr && (yt == sp.ask.ty && (qv yn sp.ask.nm && qv yz sp.zone))):=rfl
   by_cases k1:ya=sp.addr
   case neg =>
    have hst:ym sp ⟨ya,yz,yn,yt⟩=false:=by rw[hsd,beq_eq_false_iff_ne.2 k1];rfl
    refine brF (by exact beq_eq_false_iff_ne.2 k1) ?_
    conv=>whnf
    repeat(first|(refine brF rfl ?_;conv=>whnf)|(refine brT rfl ?_;conv=>whnf))
    rw[hwi]
    refine⟨⟨i+1,n⟩,[0,1,2,3,4,5,6,7,8,9],⟨c5',by show n=(t1.tries.take (i+1)).countP (ym sp);rw[hcn,hst];simpa using hn⟩,by show t1.tries.length - (i+1)<t1.tries.length - i;omega,?_⟩
    conv=>whnf
    repeat'(first|exact ⟨⟩|exact rfl|exact(fun _ _ _ _ h=>⟨qb _,h⟩)|exact fun _=>Iff.rfl|exact fun _ _=>rfl|apply And.intro)
    all_goals first|exact qa rfl _|trace_state
   refine brT (by exact beq_iff_eq.2 k1) ?_
   conv=>whnf
   by_cases k2:yt=sp.ask.ty
   case neg =>
    have hst:ym sp ⟨ya,yz,yn,yt⟩=false:=by rw[hsd,beq_eq_false_iff_ne.2 k2,Bool.false_and,Bool.and_false]
    refine brF (by exact beq_eq_false_iff_ne.2 k2) ?_
    conv=>whnf
    repeat(first|(refine brF rfl ?_;conv=>whnf)|(refine brT rfl ?_;conv=>whnf))
    rw[hwi]
    refine⟨⟨i+1,n⟩,[0,1,2,3,4,5,6,7,8,9],⟨c5',by show n=(t1.tries.take (i+1)).countP (ym sp);rw[hcn,hst];simpa using hn⟩,by show t1.tries.length - (i+1)<t1.tries.length - i;omega,?_⟩
    conv=>whnf
    repeat'(first|exact ⟨⟩|exact rfl|exact(fun _ _ _ _ h=>⟨qb _,h⟩)|exact fun _=>Iff.rfl|exact fun _ _=>rfl|apply And.intro)
    all_goals first|exact qa rfl _|trace_state
   refine brT (by exact beq_iff_eq.2 k2) ?_
   conv=>whnf
   refine oD (qi0 yn sp.ask.nm) rfl rfl ?_
   cases k3:qv yn sp.ask.nm with
   |false =>
    have hst:ym sp ⟨ya,yz,yn,yt⟩=false:=by rw[hsd,k3,Bool.false_and,Bool.and_false,Bool.and_false]
    conv=>whnf
    repeat(first|(refine brF rfl ?_;conv=>whnf)|(refine brT rfl ?_;conv=>whnf))
    rw[hwi]
    refine⟨⟨i+1,n⟩,[0,1,2,3,4,5,6,7,8,9],⟨c5',by show n=(t1.tries.take (i+1)).countP (ym sp);rw[hcn,hst];simpa using hn⟩,by show t1.tries.length - (i+1)<t1.tries.length - i;omega,?_⟩
    conv=>whnf
    repeat'(first|exact ⟨⟩|exact rfl|exact(fun _ _ _ _ h=>⟨qb _,h⟩)|exact fun _=>Iff.rfl|exact fun _ _=>rfl|apply And.intro)
    all_goals first|exact qa rfl _|trace_state
   |true =>
    conv=>whnf
    repeat(first|(refine brF rfl ?_;conv=>whnf)|(refine brT rfl ?_;conv=>whnf))
    refine oD (qi0 yz sp.zone) rfl rfl ?_
    cases k4:qv yz sp.zone with
    |false =>
     have hst:ym sp ⟨ya,yz,yn,yt⟩=false:=by rw[hsd,k4,Bool.and_false,Bool.and_false,Bool.and_false]
     conv=>whnf
     repeat(first|(refine brF rfl ?_;conv=>whnf)|(refine brT rfl ?_;conv=>whnf))
     rw[hwi]
     refine⟨⟨i+1,n⟩,[0,1,2,3,4,5,6,7,8,9],⟨c5',by show n=(t1.tries.take (i+1)).countP (ym sp);rw[hcn,hst];simpa using hn⟩,by show t1.tries.length - (i+1)<t1.tries.length - i;omega,?_⟩
     conv=>whnf
     repeat'(first|exact ⟨⟩|exact rfl|exact(fun _ _ _ _ h=>⟨qb _,h⟩)|exact fun _=>Iff.rfl|exact fun _ _=>rfl|apply And.intro)
     all_goals first|exact qa rfl _|trace_state
    |true =>
     have hst:ym sp ⟨ya,yz,yn,yt⟩=true:=by rw[hsd,k3,k4,beq_iff_eq.2 k1,beq_iff_eq.2 k2];rfl
     conv=>whnf
     repeat(first|(refine brF rfl ?_;conv=>whnf)|(refine brT rfl ?_;conv=>whnf))
     rw[hwn,hwi]
     refine⟨⟨i+1,n+1⟩,[0,1,2,3,4,5,6,7,8,9],⟨c5',by show n+1=(t1.tries.take (i+1)).countP (ym sp);rw[hcn,hst,if_pos rfl,<-hn]⟩,by show t1.tries.length - (i+1)<t1.tries.length - i;omega,?_⟩
     conv=>whnf
     repeat'(first|exact ⟨⟩|exact rfl|exact(fun _ _ _ _ h=>⟨qb _,h⟩)|exact fun _=>Iff.rfl|exact fun _ _=>rfl|apply And.intro)
     all_goals first|exact qa rfl _|trace_state
  ·have hia:i=t1.tries.length:=(by have h:¬ (i:Int)<t1.tries.length:=of_decide_eq_false c5;omega)
   rw [hia,List.take_length] at hn
   rw [<-hn] at g8 g9
   conv=>whnf
   refine brF (decide_eq_false (show ¬ ((n:Nat):Int) > 2 by omega)) ?_
   conv=>whnf
   refine brF (decide_eq_false (show ¬ ((n:Nat):Int)<1 by omega)) ?_
   conv=>whnf
   repeat(first|(refine brF rfl ?_;conv=>whnf)|(refine brT rfl ?_;conv=>whnf))
   refine⟨⟨c1,t1,sent+1⟩,[0,1,2,3,4,5,6,7],⟨hk1,g10,by show t1.work=work - ((sent+1:Nat):Int);omega,by show t1.tries.length=sent+1;omega,hh1⟩,by show t1.work.toNat<t.work.toNat;omega,?_⟩
   conv=>whnf
   repeat'(first|exact ⟨⟩|exact rfl|exact(fun _ _ _ _ h=>⟨qb _,h⟩)|exact fun _=>Iff.rfl|exact fun _ _=>rfl|apply And.intro)
   all_goals first|exact qa rfl _|trace_state
end Go.Proofs.YtiiafibkblpbcaaGreat
