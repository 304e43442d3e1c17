/-
  Part of the proof: lemmas about the functions that the row calls, and about the steps of a run. Conditions: those ahead of each lemma.
-/
import Derived.Test.YtiiafibkblpbcaaGreatB2
import Derived.Test.YtiiafibkblpbcaaGreatM4
import Derived.Test.YtiiafibkblpbcaaGreatB1
set_option linter.unusedVariables false
set_option linter.unusedSimpArgs false
set_option maxRecDepth 100000
set_option maxHeartbeats 64000000
namespace Go.Proofs.YtiiafibkblpbcaaGreat
open Go Go.Eng
inductive TurnP (H:List Held) (p:Tk × Option Sp) (s:SV) (x:WX):Prop where
 |stay (c:CSt) (S:List Q):s=ur p.2->Kn c H->S.take p.1.stack.length=p.1.stack->p.1.stack.length<=S.length->x=wx0 c p.1 (.row 6 0 p.1.stack.length) S->TurnP H p s x
 |sent (c:CSt) (S:List Q) (sp:Sp):p.2=some sp->s=ur (some sp)->Kn c H->S.take p.1.stack.length=p.1.stack->p.1.stack.length<=S.length->x = { wx0 c p.1 (.row 6 0 p.1.stack.length) S with ti:=.all 9,a7:=.gone,ex:=[.row 68 4 p.1.tries.length .iff (trsF p.1.tries)] }->TurnP H p s x
 |seek (c:CSt):p.2=none->s=ur none->Kn c H->x=⟨c,p.1,.all 10,.all 7,.all 9,.gone,.row 68 4 p.1.tries.length .iff (trsF p.1.tries),.gone,[.row 9 1 p.1.hosts.length .iff (strs p.1.hosts),.row 27 3 p.1.stack.length .may (qsF p.1.stack)]⟩->TurnP H p s x
theorem turn_ok(rm:Int)(c:CSt)(H:List Held)(hk:Kn c H)(hs:SetsH H)(t:Tk)(ht:TI t)(htl:t.tries.length<=100000/\t.hosts.length<=100000/\t.work<=100000)(S:List Q)(hS:S.take t.stack.length=t.stack)(hSl:t.stack.length<=S.length)(zh:Bool)(hints:List Int)(hh:hints.length<=100000)(now draw:Int)(hd:0<=draw/\draw<18446744073709551616) :
 COk Tryz.prog 49 [.ptr 5 0] (wks rm c t (.row 6 0 t.stack.length) S zh hints now draw) (fun s k=>∃ x:WX,TurnP H (yh H hints now draw t) s x/\k=x.ks rm zh hints now draw):=by
 refine jk (TT:=TT) (IN:=qf [(48,Tryz.f48,1)]) qe (qw qi Tryz.func48 (by kernel_rfl) (by kernel_rfl)) mixed 1000 Tryz.func49 rfl (qh Tryz.func49 (by kernel_rfl) rfl) 90 (by kernel_rfl) ?_
 have hlo:=ht.lo
 have hhi:=ht.hi
 obtain⟨n,hn⟩:∃ n,t.stack.length=n+1:=⟨t.stack.length - 1,by omega⟩
 obtain⟨q,hq⟩:∃ q,t.stack.getLastD default=q:=⟨_,rfl⟩
 have hSq:S.getD n default=q:=by
  rw[<-hq,List.getLastD_eq_getLast?,List.getLast?_eq_getElem?,hn,<-hS,hn,List.getD,List.getElem?_take,if_pos (by omega)]
  rfl
 have hSd:S.take t.stack.dropLast.length=t.stack.dropLast:=by
  rw[List.length_dropLast,List.dropLast_eq_take,hn]
  rw [hn] at hS
  rw[<-hS,List.take_take]
  congr 1
  omega
 have hSdl:t.stack.dropLast.length<=S.length:=by rw[List.length_dropLast];omega
 have hw0:IntKind.i64.wrap ((t.stack.length:Int) - 1)=(n:Int):=by rw[qn _ (by omega)];omega
 conv=>whnf
 rw[hw0]
 refine⟨by omega,?_⟩
 conv=>whnf
 rw[show(0:Nat)+((n:Int)).toNat=n by omega,hSq]
 have g1:=lookq c H hk hs.fitH q now []
 apply Exists.intro
 apply Exists.intro
 refine⟨?_,?_⟩
 ·conv=>whnf
  repeat'(first|exact ⟨⟩|exact⟨rfl,rfl⟩|refine .mem _ _ (g1 [_,_,_,_,_,_,_]) ?_|refine .mem _ _ (g1 [_,_,_,_,_,_,_,_]) ?_|refine .mem _ _ (g1 [_,_,_,_,_,_,_,_,_]) ?_|apply And.intro|(conv=>whnf))
 clear g1
 have hk1:Kn (lkQ H c q now) H:=hk.lkq q now
 have hT:yh H hints now draw t=if (lkF H q now).says then jm t (doneS (lkF H q now)) else if (lkF H q now).kind=0 then jm t (yv 9) else
  match xq now draw t.tries (jz H hints now (lkF H q now).tgt).1 (lkF H q now).tgt q.ty (jz H hints now (lkF H q now).tgt).2.1 with
  |some a=>if t.work=0 then (t,some (yv 11)) else ({ t with work:=t.work - 1,tries:=t.tries++[⟨a,(jz H hints now (lkF H q now).tgt).1,(lkF H q now).tgt,q.ty⟩],zone:=(jz H hints now (lkF H q now).tgt).1 },some (sendS a (jz H hints now (lkF H q now).tgt).1 ⟨(lkF H q now).tgt,q.ty,1⟩))
  |none=>match wp (jz H hints now (lkF H q now).tgt).2.2 t.hosts with
   |some h=>if t.stack.length<6/\t.hosts.length<16 then ({ t with hosts:=t.hosts++[h],stack:=t.stack++[⟨h,1,1⟩] },none) else jm t (yv 12)
   |none=>jm t (yv 12):=by unfold yh;rw[hq];rfl
 rw[hT]
 clear hT
 have hkind:=lkF_kind H q now
 have htgt:(lkF H q now).kind=2->qc (lkF H q now).tgt:=lkF_tgt hs
 generalize lkQ H c q now=c1 at hk1 ⊢
 generalize lkF H q now=r at hkind htgt ⊢
 clear hk
 by_cases hsay:r.says=true
 ·rw[if_pos hsay]
  have hkk:r.kind=1\/r.kind=3\/r.kind=4:=by
   unfold LR.says at hsay
   simpa using hsay
  conv=>whnf
  rcases hkk with e|e|e
  ·refine brT (by rw[beq_iff_eq];exact e) ?_
   conv=>whnf
   refine brT (by rw[beq_iff_eq];exact e) ?_
   conv=>whnf
   repeat(first|(refine brF rfl ?_;conv=>whnf)|(refine brT rfl ?_;conv=>whnf))
   refine .rel _ (qh2 rm c1 t ht S zh hints now draw _ _ _ _ _ _ _ _ _ _ _ _ _ _ _ _ _ _ _ _ _ _) (fun y ks' hR=>?_)
   unfold jm
   by_cases h1:t.stack.length=1
   ·rw [if_pos h1] at hR ⊢
    obtain⟨rfl,rfl⟩:=hR
    conv=>whnf
    refine⟨[0,1,2,3,4,5,6,7,8],_,_,rfl,rfl,?_,?_,_,.stay c1 S rfl hk1 hS hSl rfl,rfl⟩
    ·exact rfl
    ·repeat'(first|exact ⟨⟩|exact rfl|exact(fun _ _ _ _ h=>⟨qb _,h⟩)|exact fun _=>Iff.rfl|exact fun _ _=>rfl|apply And.intro)
     all_goals exact qa rfl _
   ·rw [if_neg h1] at hR ⊢
    obtain⟨rfl,rfl⟩:=hR
    conv=>whnf
    refine⟨[0,1,2,3,4,5,6,7,8],_,_,rfl,rfl,?_,?_,_,.stay c1 S rfl hk1 hSd hSdl rfl,rfl⟩
    ·exact rfl
    ·repeat'(first|exact ⟨⟩|exact rfl|exact(fun _ _ _ _ h=>⟨qb _,h⟩)|exact fun _=>Iff.rfl|exact fun _ _=>rfl|apply And.intro)
     all_goals exact qa rfl _
  ·refine brF (by rw[beq_eq_false_iff_ne,e];decide) ?_
   conv=>whnf
   refine brT (by rw[beq_iff_eq];exact e) ?_
   conv=>whnf
   refine brT (by rw[beq_iff_eq];exact e) ?_
   conv=>whnf
   repeat(first|(refine brF rfl ?_;conv=>whnf)|(refine brT rfl ?_;conv=>whnf))
   refine .rel _ (qh2 rm c1 t ht S zh hints now draw _ _ _ _ _ _ _ _ _ _ _ _ _ _ _ _ _ _ _ _ _ _) (fun y ks' hR=>?_)
   unfold jm
   by_cases h1:t.stack.length=1
   ·rw [if_pos h1] at hR ⊢
    obtain⟨rfl,rfl⟩:=hR
    conv=>whnf
    refine⟨[0,1,2,3,4,5,6,7,8],_,_,rfl,rfl,?_,?_,_,.stay c1 S rfl hk1 hS hSl rfl,rfl⟩
    ·exact rfl
    ·repeat'(first|exact ⟨⟩|exact rfl|exact(fun _ _ _ _ h=>⟨qb _,h⟩)|exact fun _=>Iff.rfl|exact fun _ _=>rfl|apply And.intro)
     all_goals exact qa rfl _
   ·rw [if_neg h1] at hR ⊢
    obtain⟨rfl,rfl⟩:=hR
    conv=>whnf
    refine⟨[0,1,2,3,4,5,6,7,8],_,_,rfl,rfl,?_,?_,_,.stay c1 S rfl hk1 hSd hSdl rfl,rfl⟩
    ·exact rfl
    ·repeat'(first|exact ⟨⟩|exact rfl|exact(fun _ _ _ _ h=>⟨qb _,h⟩)|exact fun _=>Iff.rfl|exact fun _ _=>rfl|apply And.intro)
     all_goals exact qa rfl _
  ·refine brF (by rw[beq_eq_false_iff_ne,e];decide) ?_
   conv=>whnf
   refine brF (by rw[beq_eq_false_iff_ne,e];decide) ?_
   conv=>whnf
   refine brT (by rw[beq_iff_eq];exact e) ?_
   conv=>whnf
   repeat(first|(refine brF rfl ?_;conv=>whnf)|(refine brT rfl ?_;conv=>whnf))
   refine .rel _ (qh2 rm c1 t ht S zh hints now draw _ _ _ _ _ _ _ _ _ _ _ _ _ _ _ _ _ _ _ _ _ _) (fun y ks' hR=>?_)
   unfold jm
   by_cases h1:t.stack.length=1
   ·rw [if_pos h1] at hR ⊢
    obtain⟨rfl,rfl⟩:=hR
    conv=>whnf
    refine⟨[0,1,2,3,4,5,6,7,8],_,_,rfl,rfl,?_,?_,_,.stay c1 S rfl hk1 hS hSl rfl,rfl⟩
    ·exact rfl
    ·repeat'(first|exact ⟨⟩|exact rfl|exact(fun _ _ _ _ h=>⟨qb _,h⟩)|exact fun _=>Iff.rfl|exact fun _ _=>rfl|apply And.intro)
     all_goals exact qa rfl _
   ·rw [if_neg h1] at hR ⊢
    obtain⟨rfl,rfl⟩:=hR
    conv=>whnf
    refine⟨[0,1,2,3,4,5,6,7,8],_,_,rfl,rfl,?_,?_,_,.stay c1 S rfl hk1 hSd hSdl rfl,rfl⟩
    ·exact rfl
    ·repeat'(first|exact ⟨⟩|exact rfl|exact(fun _ _ _ _ h=>⟨qb _,h⟩)|exact fun _=>Iff.rfl|exact fun _ _=>rfl|apply And.intro)
     all_goals exact qa rfl _
 rw[if_neg hsay]
 have n1:r.kind≠1:=fun e=>hsay (by unfold LR.says;rw[e];rfl)
 have n3:r.kind≠3:=fun e=>hsay (by unfold LR.says;rw[e];rfl)
 have n4:r.kind≠4:=fun e=>hsay (by unfold LR.says;rw[e];rfl)
 conv=>whnf
 refine brF (by rw[beq_eq_false_iff_ne];exact n1) ?_
 conv=>whnf
 refine brF (by rw[beq_eq_false_iff_ne];exact n3) ?_
 conv=>whnf
 refine brF (by rw[beq_eq_false_iff_ne];exact n4) ?_
 conv=>whnf
 by_cases h0:r.kind=0
 ·rw[if_pos h0]
  refine brT (by rw[beq_iff_eq];exact h0) ?_
  conv=>whnf
  repeat(first|(refine brF rfl ?_;conv=>whnf)|(refine brT rfl ?_;conv=>whnf))
  refine .rel _ (qh2 rm c1 t ht S zh hints now draw _ _ _ _ _ _ _ _ _ _ _ _ _ _ _ _ _ _ _ _ _ _) (fun y ks' hR=>?_)
  unfold jm
  by_cases h1:t.stack.length=1
  ·rw [if_pos h1] at hR ⊢
   obtain⟨rfl,rfl⟩:=hR
   conv=>whnf
   refine⟨[0,1,2,3,4,5,6,7,8],_,_,rfl,rfl,?_,?_,_,.stay c1 S rfl hk1 hS hSl rfl,rfl⟩
   ·exact rfl
   ·repeat'(first|exact ⟨⟩|exact rfl|exact(fun _ _ _ _ h=>⟨qb _,h⟩)|exact fun _=>Iff.rfl|exact fun _ _=>rfl|apply And.intro)
    all_goals exact qa rfl _
  ·rw [if_neg h1] at hR ⊢
   obtain⟨rfl,rfl⟩:=hR
   conv=>whnf
   refine⟨[0,1,2,3,4,5,6,7,8],_,_,rfl,rfl,?_,?_,_,.stay c1 S rfl hk1 hSd hSdl rfl,rfl⟩
   ·exact rfl
   ·repeat'(first|exact ⟨⟩|exact rfl|exact(fun _ _ _ _ h=>⟨qb _,h⟩)|exact fun _=>Iff.rfl|exact fun _ _=>rfl|apply And.intro)
    all_goals exact qa rfl _
 rw[if_neg h0]
 refine brF (by rw[beq_eq_false_iff_ne];exact h0) ?_
 have hnm:=htgt ((hkind.resolve_left hsay).resolve_left h0)
 clear hkind htgt hsay n1 n3 n4 h0
 obtain⟨hzl,hml⟩:=servers_len hs hints now hnm
 conv=>whnf
 repeat(first|(refine brF rfl ?_;conv=>whnf)|(refine brT rfl ?_;conv=>whnf))
 refine .rel _ (wservers_ok rm c1 H hk1 hs t S zh hints now draw r.tgt hnm _) (fun y ks' hR=>?_)
 obtain⟨zb,zm,c2,rfl,hk2,rfl⟩:=hR
 clear hk1
 generalize jz H hints now r.tgt=z at hzl hml ⊢
 obtain⟨zn,addrs,miss⟩:=z
 replace hzl:addrs.length<=hints.length+4096:=hzl
 replace hml:miss.length<=64:=hml
 dsimp only
 conv=>whnf
 repeat(first|(refine brF rfl ?_;conv=>whnf)|(refine brT rfl ?_;conv=>whnf))
 refine .rel _ (wchoose_ok rm c2 t ht (by omega) S hSl zh hints now draw hd zn r.tgt q.ty 1 zb addrs (by omega) _) (fun y ks' hR=>?_)
 obtain⟨rfl,rfl⟩:=hR
 cases hch:xq now draw t.tries zn r.tgt q.ty addrs with
 |some a =>
  dsimp only
  conv=>whnf
  repeat(first|(refine brF rfl ?_;conv=>whnf)|(refine brT rfl ?_;conv=>whnf))
  refine .rel _ (wsend_ok rm c2 t ht (by omega) S zh hints now draw a zn r.tgt q.ty _) (fun y ks' hR=>?_)
  obtain⟨x,hP,rfl⟩:=hR
  unfold SdP sendT at hP
  by_cases hw:t.work=0
  ·rw [if_pos hw,if_pos hw] at hP
   rw[if_pos hw]
   obtain⟨rfl,rfl⟩:=hP
   conv=>whnf
   refine⟨[0,1,2,3,4,5,6,7,8],_,_,rfl,rfl,?_,?_,_,.stay c2 S rfl hk2 hS hSl rfl,rfl⟩
   ·exact rfl
   ·repeat'(first|exact ⟨⟩|exact rfl|exact(fun _ _ _ _ h=>⟨qb _,h⟩)|exact fun _=>Iff.rfl|exact fun _ _=>rfl|apply And.intro)
    all_goals exact qa rfl _
  ·rw [if_neg hw,if_neg hw] at hP
   rw[if_neg hw]
   obtain⟨rfl,rfl⟩:=hP
   conv=>whnf
   refine⟨[0,1,2,3,4,5,6,7,8,13],_,_,rfl,rfl,?_,?_,_,.sent c2 S _ rfl rfl hk2 hS hSl rfl,rfl⟩
   ·exact rfl
   ·repeat'(first|exact ⟨⟩|exact rfl|exact(fun _ _ _ _ h=>⟨qb _,h⟩)|exact fun _=>Iff.rfl|exact fun _ _=>rfl|apply And.intro)
    all_goals exact qa rfl _
 |none =>
  dsimp only
  conv=>whnf
  repeat(first|(refine brF rfl ?_;conv=>whnf)|(refine brT rfl ?_;conv=>whnf))
  refine .rel _ (wseek_ok rm c2 t ht (by omega) S hS hSl zh hints now draw zm miss (by omega) _) (fun y ks' hR=>?_)
  have hst:(match wp miss t.hosts with
   |some h=>if t.stack.length<6/\t.hosts.length<16 then (({ t with hosts:=t.hosts++[h],stack:=t.stack++[(⟨h,1,1⟩:Q)] }:Tk),none) else jm t (yv 12)
   |none=>jm t (yv 12))=match seekT t miss with
   |some h=>(({ t with hosts:=t.hosts++[h],stack:=t.stack++[(⟨h,1,1⟩:Q)] }:Tk),none)
   |none=>jm t (yv 12):=by
   unfold seekT
   cases wp miss t.hosts with
   |none=>rfl
   |some h =>
    dsimp only
    split <;> rfl
  rw[hst]
  clear hst
  obtain⟨x,hR,rfl⟩:=hR
  unfold SkP at hR
  cases hsk:seekT t miss with
  |some h =>
   rw [hsk] at hR
   obtain⟨rfl,rfl⟩:=hR
   conv=>whnf
   repeat(first|(refine brF rfl ?_;conv=>whnf)|(refine brT rfl ?_;conv=>whnf))
   refine⟨[0,1,2,3,4,5,6,7,8,13,14],_,_,rfl,rfl,?_,?_,_,.seek c2 rfl rfl hk2 rfl,rfl⟩
   ·exact rfl
   ·repeat'(first|exact ⟨⟩|exact rfl|exact(fun _ _ _ _ h=>⟨qb _,h⟩)|exact fun _=>Iff.rfl|exact fun _ _=>rfl|apply And.intro)
    all_goals exact qa rfl _
  |none =>
   rw [hsk] at hR
   obtain⟨rfl,rfl⟩:=hR
   have hk1:=hk2
   obtain⟨c1,rfl⟩:∃ c1,c1=c2:=⟨_,rfl⟩
   conv=>whnf
   repeat(first|(refine brF rfl ?_;conv=>whnf)|(refine brT rfl ?_;conv=>whnf))
   refine .rel _ (qh2 rm c1 t ht S zh hints now draw _ _ _ _ _ _ _ _ _ _ _ _ _ _ _ _ _ _ _ _ _ _) (fun y ks' hR=>?_)
   unfold jm
   by_cases h1:t.stack.length=1
   ·rw [if_pos h1] at hR ⊢
    obtain⟨rfl,rfl⟩:=hR
    conv=>whnf
    refine⟨[0,1,2,3,4,5,6,7,8],_,_,rfl,rfl,?_,?_,_,.stay c1 S rfl hk1 hS hSl rfl,rfl⟩
    ·exact rfl
    ·repeat'(first|exact ⟨⟩|exact rfl|exact(fun _ _ _ _ h=>⟨qb _,h⟩)|exact fun _=>Iff.rfl|exact fun _ _=>rfl|apply And.intro)
     all_goals exact qa rfl _
   ·rw [if_neg h1] at hR ⊢
    obtain⟨rfl,rfl⟩:=hR
    conv=>whnf
    refine⟨[0,1,2,3,4,5,6,7,8],_,_,rfl,rfl,?_,?_,_,.stay c1 S rfl hk1 hSd hSdl rfl,rfl⟩
    ·exact rfl
    ·repeat'(first|exact ⟨⟩|exact rfl|exact(fun _ _ _ _ h=>⟨qb _,h⟩)|exact fun _=>Iff.rfl|exact fun _ _=>rfl|apply And.intro)
     all_goals exact qa rfl _
theorem turnA_ok(rm:Int)(c:CSt)(H:List Held)(hk:Kn c H)(hs:SetsH H)(t:Tk)(ht:TI t)(htl:t.tries.length<=100000/\t.hosts.length<=100000/\t.work<=100000)(zh:Bool)(hints:List Int)(hh:hints.length<=100000)(now draw:Int)(hd:0<=draw/\draw<18446744073709551616) :
 COk Tryz.prog 49 [.ptr 5 0] (wks rm c t (.all 6) t.stack zh hints now draw) (fun s k=>∃ x:WX,TurnP H (yh H hints now draw t) s x/\k=x.ks rm zh hints now draw) :=
 COk.cellPre (i:=5) (j:=4) (s:=.all 6) (s':=.row 6 0 t.stack.length) rfl rfl (fun _ _ _ _ _ hM hd=>hM.allRow rfl hd) (turn_ok rm c H hk hs t ht htl t.stack List.take_length (Nat.le_refl _) zh hints hh now draw hd)
theorem qcl_ok(l:List Q)(hl:l.length<=1000000):COk Tryz.prog 45 [.d (.sl (Nat.beq l.length 0) l.length 3 (qsF l))] [] (fun s k=>s = .all 0/\k=[.row 27 3 l.length .iff (qsF l)]):=by
 have h0:COk Tryz.prog 45 [.d (.sl (Nat.beq l.length 0) l.length 3 (qsF l))] [] (fun s k=>(l=[]/\s=nilS/\k=[])\/(0<l.length/\s = .all 0/\k=[.row 27 3 l.length .may (qsF l)])):=by
  refine jk (TT:=TT) (IN:=qf []) qe qi mixed 1000 Tryz.func45 rfl (qh Tryz.func45 (by kernel_rfl) rfl) 7 (by kernel_rfl) ?_
  conv=>whnf
  cases l with
  |nil =>
   conv=>whnf
   refine brT rfl ?_
   conv=>whnf
   exact⟨[],nilS,[],rfl,rfl,rfl,True.intro,.inl ⟨rfl,rfl,rfl⟩⟩
  |cons a l =>
   conv=>whnf
   refine brF rfl ?_
   conv=>whnf
   refine⟨by omega,?_⟩
   conv=>whnf
   refine⟨[1],.all 0,_,rfl,rfl,rfl,?_,.inr ⟨Nat.succ_pos _,rfl,rfl⟩⟩
   repeat'(first|exact ⟨⟩|exact rfl|exact qu _|exact .inr rfl|exact fun _ _=>rfl|exact noI|apply And.intro)
   all_goals first
    |exact Nat.zero_add _
    |exact fun i hi=>by
     show(if i<0 then _ else _)=_
     rw[if_neg (Nat.not_lt_zero _),Nat.sub_zero]
    |trace_state
 have h1:COk Tryz.prog 45 [.d (.sl (Nat.beq l.length 0) l.length 3 (qsF l))] [] (fun s k=>(l=[]/\s=nilS/\k=[])\/(s = .all 0/\k=[.row 27 3 l.length .iff (qsF l)])):=by
  refine h0.pick ?_
  rintro s k (⟨rfl,rfl,rfl⟩|⟨h,rfl,rfl⟩)
  ·exact⟨[],nilS,[],rfl,rfl,rfl,True.intro,.inl ⟨rfl,rfl,rfl⟩⟩
  ·refine⟨[0],.all 0,[.row 27 3 l.length .iff (qsF l)],rfl,rfl,rfl,?_,.inr ⟨rfl,rfl⟩⟩
   repeat'(first|exact ⟨⟩|exact rfl|exact h|exact fun _ _=>rfl|apply And.intro)
 refine h1.nilRes ?_
 rintro s k (⟨rfl,rfl,rfl⟩|h)
 ·exact .inr ⟨_,_,_,_,_,rfl,rfl,rfl⟩
 ·exact .inl h
theorem tcl_ok(l:List Tr)(hl:l.length<=1000000):COk Tryz.prog 46 [.d (.sl (Nat.beq l.length 0) l.length 4 (trsF l))] [] (fun s k=>s = .all 0/\k=[.row 68 4 l.length .iff (trsF l)]):=by
 have h0:COk Tryz.prog 46 [.d (.sl (Nat.beq l.length 0) l.length 4 (trsF l))] [] (fun s k=>(l=[]/\s=nilS/\k=[])\/(0<l.length/\s = .all 0/\k=[.row 68 4 l.length .may (trsF l)])):=by
  refine jk (TT:=TT) (IN:=qf []) qe qi mixed 1000 Tryz.func46 rfl (qh Tryz.func46 (by kernel_rfl) rfl) 7 (by kernel_rfl) ?_
  conv=>whnf
  cases l with
  |nil =>
   conv=>whnf
   refine brT rfl ?_
   conv=>whnf
   exact⟨[],nilS,[],rfl,rfl,rfl,True.intro,.inl ⟨rfl,rfl,rfl⟩⟩
  |cons a l =>
   conv=>whnf
   refine brF rfl ?_
   conv=>whnf
   refine⟨by omega,?_⟩
   conv=>whnf
   refine⟨[1],.all 0,_,rfl,rfl,rfl,?_,.inr ⟨Nat.succ_pos _,rfl,rfl⟩⟩
   repeat'(first|exact ⟨⟩|exact rfl|exact qu _|exact .inr rfl|exact fun _ _=>rfl|exact noI|apply And.intro)
   all_goals first
    |exact Nat.zero_add _
    |exact fun i hi=>by
     show(if i<0 then _ else _)=_
     rw[if_neg (Nat.not_lt_zero _),Nat.sub_zero]
    |trace_state
 have h1:COk Tryz.prog 46 [.d (.sl (Nat.beq l.length 0) l.length 4 (trsF l))] [] (fun s k=>(l=[]/\s=nilS/\k=[])\/(s = .all 0/\k=[.row 68 4 l.length .iff (trsF l)])):=by
  refine h0.pick ?_
  rintro s k (⟨rfl,rfl,rfl⟩|⟨h,rfl,rfl⟩)
  ·exact⟨[],nilS,[],rfl,rfl,rfl,True.intro,.inl ⟨rfl,rfl,rfl⟩⟩
  ·refine⟨[0],.all 0,[.row 68 4 l.length .iff (trsF l)],rfl,rfl,rfl,?_,.inr ⟨rfl,rfl⟩⟩
   repeat'(first|exact ⟨⟩|exact rfl|exact h|exact fun _ _=>rfl|apply And.intro)
 refine h1.nilRes ?_
 rintro s k (⟨rfl,rfl,rfl⟩|h)
 ·exact .inr ⟨_,_,_,_,_,rfl,rfl,rfl⟩
 ·exact .inl h
theorem scl_ok(l:List (List UInt8))(hl:l.length<=1000000):COk Tryz.prog 47 [.d (.sl (Nat.beq l.length 0) l.length 1 (strs l))] [] (fun s k=>s = .all 0/\k=[.row 9 1 l.length .iff (strs l)]):=by
 have h0:COk Tryz.prog 47 [.d (.sl (Nat.beq l.length 0) l.length 1 (strs l))] [] (fun s k=>(l=[]/\s=nilS/\k=[])\/(0<l.length/\s = .all 0/\k=[.row 9 1 l.length .may (strs l)])):=by
  refine jk (TT:=TT) (IN:=qf []) qe qi mixed 1000 Tryz.func47 rfl (qh Tryz.func47 (by kernel_rfl) rfl) 7 (by kernel_rfl) ?_
  conv=>whnf
  cases l with
  |nil =>
   conv=>whnf
   refine brT rfl ?_
   conv=>whnf
   exact⟨[],nilS,[],rfl,rfl,rfl,True.intro,.inl ⟨rfl,rfl,rfl⟩⟩
  |cons a l =>
   conv=>whnf
   refine brF rfl ?_
   conv=>whnf
   refine⟨by omega,?_⟩
   conv=>whnf
   refine⟨[1],.all 0,_,rfl,rfl,rfl,?_,.inr ⟨Nat.succ_pos _,rfl,rfl⟩⟩
   repeat'(first|exact ⟨⟩|exact rfl|exact qu _|exact .inr rfl|exact fun _ _=>rfl|exact noI|apply And.intro)
   all_goals first
    |exact Nat.zero_add _
    |exact fun i hi=>by
     show(if i<0 then _ else _)=_
     rw[if_neg (Nat.not_lt_zero _),Nat.sub_zero]
    |trace_state
 have h1:COk Tryz.prog 47 [.d (.sl (Nat.beq l.length 0) l.length 1 (strs l))] [] (fun s k=>(l=[]/\s=nilS/\k=[])\/(s = .all 0/\k=[.row 9 1 l.length .iff (strs l)])):=by
  refine h0.pick ?_
  rintro s k (⟨rfl,rfl,rfl⟩|⟨h,rfl,rfl⟩)
  ·exact⟨[],nilS,[],rfl,rfl,rfl,True.intro,.inl ⟨rfl,rfl,rfl⟩⟩
  ·refine⟨[0],.all 0,[.row 9 1 l.length .iff (strs l)],rfl,rfl,rfl,?_,.inr ⟨rfl,rfl⟩⟩
   repeat'(first|exact ⟨⟩|exact rfl|exact h|exact fun _ _=>rfl|apply And.intro)
 refine h1.nilRes ?_
 rintro s k (⟨rfl,rfl,rfl⟩|h)
 ·exact .inr ⟨_,_,_,_,_,rfl,rfl,rfl⟩
 ·exact .inl h
theorem qy9(t:Tk)(s:Sp):(jm t s).1.hosts=t.hosts:=by
 unfold jm
 split <;> rfl
theorem turn_hosts(H:List Held)(hints:List Int)(now draw:Int)(t:Tk):(yh H hints now draw t).1.hosts.length<=t.hosts.length+1:=by
 have lv:∀ s,(jm t s).1.hosts.length<=t.hosts.length+1:=fun s=>by rw[qy9];omega
 unfold yh
 dsimp only
 split
 ·exact lv _
 split
 ·exact lv _
 split
 ·split
  ·exact Nat.le_succ _
  ·exact Nat.le_succ _
 ·split
  ·split
   ·show(t.hosts++[_]).length<=_
    rw[List.length_append];exact Nat.le_refl _
   ·exact lv _
  ·exact lv _
theorem turn_lo(H:List Held)(hints:List Int)(now draw:Int){t:Tk}(ht:TI t):0<(yh H hints now draw t).1.stack.length:=by
 have h0:=ht.lo
 have lv:∀ s,0<(jm t s).1.stack.length:=fun s=>by
  unfold jm
  split
  ·exact h0
  ·show 0<t.stack.dropLast.length
   rw[List.length_dropLast];omega
 unfold yh
 dsimp only
 split
 ·exact lv _
 split
 ·exact lv _
 split
 ·split
  ·exact h0
  ·exact h0
 ·split
  ·split
   ·show 0<(t.stack++[_]).length
    rw[List.length_append];omega
   ·exact lv _
  ·exact lv _
theorem stop_ok(w:Int):FnOk Tryz.prog 48 [.d (.int .i64 w)] (.agg [.d (.int .u8 0),.d (.int .i64 w),.d (.int .u8 0),nilS,.d (.str []),.d (.int .u16 0),.d (.int .u32 0),nilS,.d (.str []),.d (.int .u32 0),.d (.int .u32 0),.d (.str []),.d (.str []),.d (.int .u16 0),.d (.int .u16 0)]):=by
 refine qs (TT:=TT) (IN:=qf []) qe qi mixed 1000 Tryz.func48 rfl (qh Tryz.func48 (by kernel_rfl) rfl) rfl 4 (by kernel_rfl) ?_
 conv=>whnf
 repeat'(first|exact ⟨⟩|exact rfl|exact .inr rfl|exact .inl rfl|exact fun _ _=>rfl|exact noI|apply And.intro)
theorem mapL_sp(σ:Nat->Nat)(s:Sp):mapL σ s.L=s.L:=by
 unfold Sp.L
 split <;> rfl
theorem qr8(σ:Nat->Nat)(o:Option Sp):mapV σ (ur o)=ur o:=by
 cases o with
 |none=>rfl
 |some s =>
  show SV.tup [.agg (mapL σ s.L),.d .tt]=_
  rw[mapL_sp]
  rfl
theorem TurnP.flat{H:List Held}{p:Tk × Option Sp}{s:SV}{x:WX}(h:TurnP H p s x):x.Flat/\∀ σ:Nat->Nat,mapV σ s=s:=by
 cases h with
 |stay c S h1 h2 h3 h4 h5=>exact⟨by rw[h5];exact wx0_flat _ _ _ _,fun σ=>by rw[h1];exact qr8 σ _⟩
 |sent c S sp h0 h1 h2 h3 h4 h5=>exact⟨by rw[h5];exact fun _=>⟨rfl,rfl,rfl,rfl⟩,fun σ=>by rw[h1];exact qr8 σ _⟩
 |seek c h0 h1 h2 h5=>exact⟨by rw[h5];exact fun _=>⟨rfl,rfl,rfl,rfl⟩,fun σ=>by rw[h1];exact qr8 σ _⟩
def siF(fr:Bool)(n:Nat):SV:=match fr with
 |true=>.all 6
 |false=>.row 6 0 n
theorem turnZ_ok(rm:Int)(c:CSt)(H:List Held)(hk:Kn c H)(hs:SetsH H)(t:Tk)(ht:TI t)(htl:t.tries.length<=100000/\t.hosts.length<=100000/\t.work<=100000)(fr:Bool)(S:List Q)(hfr:fr=true->S=t.stack)(hS:S.take t.stack.length=t.stack)(hSl:t.stack.length<=S.length)(zh:Bool)(hints:List Int)(hh:hints.length<=100000)(now draw:Int)(hd:0<=draw/\draw<18446744073709551616)(rest:List KB) :
 COk Tryz.prog 49 [.ptr 5 0] (wks rm c t (siF fr t.stack.length) S zh hints now draw++rest) (fun s k=>∃ x:WX,TurnP H (yh H hints now draw t) s x/\k=(x.sh rest).ks rm zh hints now draw):=by
 cases fr with
 |true =>
  obtain rfl:=hfr rfl
  exact qk4 (turnA_ok rm c H hk hs t ht htl zh hints hh now draw hd) rest (fun σ h=>by show SV.all (σ 6)=_;rw[h 6 (by decide)];try rfl) (fun σ h=>by show[SV.ptr (σ 5) 0]=_;rw[h 5 (by decide)]) (fun s x h=>h.flat)
 |false=>exact qk4 (turn_ok rm c H hk hs t ht htl S hS hSl zh hints hh now draw hd) rest (fun σ h=>by show SV.row (σ 6) 0 _=_;rw[h 6 (by decide)];try rfl) (fun σ h=>by show[SV.ptr (σ 5) 0]=_;rw[h 5 (by decide)]) (fun s x h=>h.flat)
def zTk:List SV:=[.d (.int .i64 0),.d (.str []),.d (.int .u16 0),.d (.int .u16 0),nilS,nilS,nilS,.d (.int .i64 0),.d (.str [])]
theorem qt4(s:Sp):∃ d0 d1 d2 d3 d4 d5 d6 d7 d8 d9 d10 d11 d12 d13 d14,s.L=[.d d0,.d d1,.d d2,.d d3,.d d4,.d d5,.d d6,.d d7,.d d8,.d d9,.d d10,.d d11,.d d12,.d d13,.d d14]:=by
 unfold Sp.L
 split
 ·exact⟨_,_,_,_,_,_,_,_,_,_,_,_,_,_,_,rfl⟩
 ·exact⟨_,_,_,_,_,_,_,_,_,_,_,_,_,_,_,rfl⟩
structure NxSt where
 j:Nat
 c:CSt
 t:Tk
 S:List Q
 fr:Bool
def tkL(t:Tk)(si ti hi:SV):List SV:=[.d (.int .i64 t.id),.d (.str t.ask.nm),.d (.int .u16 t.ask.ty),.d (.int .u16 t.ask.cl),si,ti,hi,.d (.int .i64 t.work),.d (.str t.zone)]
def NextR0(rm:Int)(H:List Held)(zh:Bool)(hints:List Int)(now draw:Int)(p:Tk × Sp)(s:SV)(k:List KB):Prop :=
 ∃ c S si,Kn c H/\S.take p.1.stack.length=p.1.stack/\p.1.stack.length<=S.length/\0<p.1.stack.length/\(si = .row 6 0 p.1.stack.length\/(si = .all 6/\S.length=p.1.stack.length))/\s = .tup [.agg (tkL p.1 si (.all 7) (.all 8)),.agg p.2.L]/\k=wks rm c p.1 si S zh hints now draw
structure NxI(H:List Held)(hints:List Int)(now draw:Int)(t0:Tk)(G:Tk × Sp)(x:NxSt):Prop where
 j:x.j<=64
 k:Kn x.c H
 ti:TI x.t
 fr:x.fr=true->x.S=x.t.stack
 S:x.S.take x.t.stack.length=x.t.stack
 Sl:x.t.stack.length<=x.S.length
 tr:x.t.tries=t0.tries
 ho:x.t.hosts.length<=t0.hosts.length+x.j
 wo:x.t.work=t0.work
 g:G=goF H hints now draw (64 - x.j) x.t
theorem next0_ok(rm:Int)(c:CSt)(H:List Held)(hk:Kn c H)(hs:SetsH H)(t:Tk)(ht:TI t)(htl:t.tries.length<=10000/\t.hosts.length<=10000/\t.work<=10000)(zh:Bool)(hints:List Int)(hh:hints.length<=100000)(now draw:Int)(hd:0<=draw/\draw<18446744073709551616) :
 COk Tryz.prog 14 [.ptr 0 0,.ptr 3 0,.d (.sl zh hints.length 1 (jg hints)),.agg t.L,.d (.int .i64 now),.d (.int .u64 draw)] (c.ks 0++pks rm 3) (NextR0 rm H zh hints now draw (goF H hints now draw 64 t)):=by
 refine jk (TT:=TT) (IN:=qf []) qe qi mixed 1000 Tryz.func14 rfl (qh Tryz.func14 (by kernel_rfl) rfl) 61 (by kernel_rfl) ?_
 have hlo:=ht.lo
 have hhi:=ht.hi
 have hwk:=ht.work
 obtain⟨G,hG⟩:∃ G,G=goF H hints now draw 64 t:=⟨_,rfl⟩
 rw[<-hG]
 conv=>whnf
 refine .rel _ (COk.frameX (qcl_ok t.stack (by omega)) [] rfl rfl rfl) (fun y ks' hR=>?_)
 obtain⟨_,_,⟨rfl,rfl⟩,rfl,rfl⟩:=hR
 conv=>whnf
 refine .rel _ (COk.frameX (tcl_ok t.tries (by omega)) [] rfl rfl rfl) (fun y ks' hR=>?_)
 obtain⟨_,_,⟨rfl,rfl⟩,rfl,rfl⟩:=hR
 conv=>whnf
 refine .rel _ (COk.frameX (scl_ok t.hosts (by omega)) [] rfl rfl rfl) (fun y ks' hR=>?_)
 obtain⟨_,_,⟨rfl,rfl⟩,rfl,rfl⟩:=hR
 conv=>whnf
 refine brF (by rw[beq_eq_false_iff_ne];omega) ?_
 conv=>whnf
 refine brF (decide_eq_false (by omega)) ?_
 conv=>whnf
 refine brF (decide_eq_false (by omega)) ?_
 conv=>whnf
 repeat(first|(refine brF rfl ?_;conv=>whnf)|(refine brT rfl ?_;conv=>whnf))
 refine .inv NxSt (NxI H hints now draw t G) (fun x=>[(9,.any),(12,.ptr 9 0),(13,.ptr 10 0),(14,.ptr 5 0),(17,.any),(19,.any),(20,.any),(21,.any),(23,.any),(24,.any),(25,.any),(27,.any),(28,.any),(29,.any),(30,.any),(34,.any),(35,.any),(40,.any),(46,.any),(52,.any),(53,iV x.j)]) (fun x=>x.c.klq 0++[(5,wC x.t (siF x.fr x.t.stack.length) (.all 7) (.all 8) zh hints now draw),(6,.row 27 3 x.S.length .may (qsF x.S)),(7,.row 68 4 x.t.tries.length .iff (trsF x.t.tries)),(8,.row 9 1 x.t.hosts.length .iff (strs x.t.hosts)),(9,.cells 43 zTk),(10,.cells 60 noS.L),(11,.gone)]) (fun x=>64 - x.j) ⟨⟨0,c,t,t.stack,true⟩,[0,1,2,3,4,11,8,9,10,6,7,5],⟨Nat.zero_le _,hk,ht,fun _=>rfl,List.take_length,Nat.le_refl _,rfl,Nat.le_refl _,rfl,hG⟩,?_⟩ ?_
 ·conv=>whnf
  repeat'(first|exact ⟨⟩|exact rfl|exact(fun _ _ _ _ h=>⟨qb _,h⟩)|exact fun _=>Iff.rfl|exact fun _ _=>rfl|apply And.intro)
  all_goals first|exact qa rfl _|trace_state
 clear hG hk hlo hhi hwk
 rintro ⟨j,c,t1,S,fr⟩ ⟨g1,g2,g3,g4,g5,g6,g7,g8,g9,g10⟩
 replace g1:j<=64:=g1
 replace g2:Kn c H:=g2
 replace g3:TI t1:=g3
 replace g4:fr=true->S=t1.stack:=g4
 replace g5:S.take t1.stack.length=t1.stack:=g5
 replace g6:t1.stack.length<=S.length:=g6
 replace g7:t1.tries=t.tries:=g7
 replace g8:t1.hosts.length<=t.hosts.length+j:=g8
 replace g9:t1.work=t.work:=g9
 replace g10:G=goF H hints now draw (64 - j) t1:=g10
 have hw1:=w64s j (by omega)
 have h7:t1.tries.length=t.tries.length:=by rw[g7]
 conv=>whnf
 refine⟨fun c5=>?_,fun c5=>?_⟩
 ·have c5':j<64:=(by have h:(j:Int)<64:=of_decide_eq_true c5;omega)
  obtain⟨k,hkk⟩:∃ k,64 - j=k+1:=⟨63 - j,by omega⟩
  rw [hkk] at g10
  conv=>whnf
  refine .rel _ (turnZ_ok rm c H g2 hs t1 g3 ⟨by omega,by omega,by omega⟩ fr S g4 g5 g6 zh hints hh now draw hd [_,_,_]) (fun y ks' hR=>?_)
  obtain⟨x,hP,rfl⟩:=hR
  have hlaw:=turn_law hs hints now draw g3
  have hho:=turn_hosts H hints now draw t1
  have hlo2:=turn_lo H hints now draw g3
  unfold goF at g10
  generalize yh H hints now draw t1=p at hP hlaw hho hlo2 g10
  obtain⟨t2,o⟩:=p
  replace hho:t2.hosts.length<=t1.hosts.length+1:=hho
  replace hlo2:0<t2.stack.length:=hlo2
  cases hP with
  |stay c2 S2 p1 p2 p3 p4 p5 =>
   subst p1 p5
   cases o with
   |some sp =>
    replace g10:G=(t2,sp):=g10
    subst g10
    replace hlaw:StepOk t1 t2 sp:=hlaw
    obtain⟨d0,d1,d2,d3,d4,d5,d6,d7,d8,d9,d10,d11,d12,d13,d14,hL⟩:=qt4 sp
    rw[show ur (t2,some sp).2 = .tup [.agg [.d d0,.d d1,.d d2,.d d3,.d d4,.d d5,.d d6,.d d7,.d d8,.d d9,.d d10,.d d11,.d d12,.d d13,.d d14],.d .tt] by rw[<-hL];rfl]
    conv=>whnf
    apply Exists.intro
    apply Exists.intro
    refine⟨?_,?_⟩
    ·conv=>whnf
     repeat'(first|exact ⟨⟩|exact⟨rfl,rfl⟩|apply And.intro|(conv=>whnf))
    conv=>whnf
    refine⟨[0,1,2,3,4,5,6,7,8],.tup [.agg (tkL t2 (.row 6 0 t2.stack.length) (.all 7) (.all 8)),.agg [.d d0,.d d1,.d d2,.d d3,.d d4,.d d5,.d d6,.d d7,.d d8,.d d9,.d d10,.d d11,.d d12,.d d13,.d d14]],wks rm c2 t2 (.row 6 0 t2.stack.length) S2 zh hints now draw,rfl,rfl,?_,?_,c2,S2,_,p2,p3,p4,hlo2,.inl rfl,by rw[hL],rfl⟩
    ·exact rfl
    ·repeat'(first|exact ⟨⟩|exact rfl|exact(fun _ _ _ _ h=>⟨qb _,h⟩)|exact fun _=>Iff.rfl|exact fun _ _=>rfl|apply And.intro)
     all_goals exact qa rfl _
   |none =>
    replace g10:G=goF H hints now draw k t2:=g10
    replace hlaw:OnOk t1 t2:=hlaw
    rw[show ur (t2,none).2 = .tup [.agg noS.L,.d .ff] from rfl]
    conv=>whnf
    repeat(first|(refine brF rfl ?_;conv=>whnf)|(refine brT rfl ?_;conv=>whnf))
    rw[hw1]
    refine⟨⟨j+1,c2,t2,S2,false⟩,[0,1,2,3,4,5,6,7,8,9,10,11],⟨c5',p2,hlaw.ti,(fun e=>by cases e),p3,p4,hlaw.tries.trans g7,by show t2.hosts.length<=t.hosts.length+(j+1);omega,hlaw.work.trans g9,by show G=goF H hints now draw (64 - (j+1)) t2;rw[show 64 - (j+1)=k by omega];exact g10⟩,by show 64 - (j+1)<64 - j;omega,?_⟩
    conv=>whnf
    repeat'(first|exact ⟨⟩|exact rfl|exact(fun _ _ _ _ h=>⟨qb _,h⟩)|exact fun _=>Iff.rfl|exact fun _ _=>rfl|apply And.intro)
    all_goals first|exact qa rfl _|trace_state
  |sent c2 S2 sp p0 p1 p2 p3 p4 p5 =>
   subst p1 p5
   replace p0:o=some sp:=p0
   subst p0
   replace g10:G=(t2,sp):=g10
   subst g10
   obtain⟨d0,d1,d2,d3,d4,d5,d6,d7,d8,d9,d10,d11,d12,d13,d14,hL⟩:=qt4 sp
   rw[show ur (some sp) = .tup [.agg [.d d0,.d d1,.d d2,.d d3,.d d4,.d d5,.d d6,.d d7,.d d8,.d d9,.d d10,.d d11,.d d12,.d d13,.d d14],.d .tt] by rw[<-hL];rfl]
   conv=>whnf
   apply Exists.intro
   apply Exists.intro
   refine⟨?_,?_⟩
   ·conv=>whnf
    repeat'(first|exact ⟨⟩|exact⟨rfl,rfl⟩|apply And.intro|(conv=>whnf))
   conv=>whnf
   refine⟨[0,1,2,3,4,5,6,12,8],.tup [.agg (tkL t2 (.row 6 0 t2.stack.length) (.all 7) (.all 8)),.agg [.d d0,.d d1,.d d2,.d d3,.d d4,.d d5,.d d6,.d d7,.d d8,.d d9,.d d10,.d d11,.d d12,.d d13,.d d14]],wks rm c2 t2 (.row 6 0 t2.stack.length) S2 zh hints now draw,rfl,rfl,?_,?_,c2,S2,_,p2,p3,p4,hlo2,.inl rfl,by rw[hL],rfl⟩
   ·exact rfl
   ·repeat'(first|exact ⟨⟩|exact rfl|exact(fun _ _ _ _ h=>⟨qb _,h⟩)|exact fun _=>Iff.rfl|exact fun _ _=>rfl|apply And.intro)
    all_goals exact qa rfl _
  |seek c2 p0 p1 p2 p5 =>
   subst p1 p5
   replace p0:o=none:=p0
   subst p0
   replace g10:G=goF H hints now draw k t2:=g10
   replace hlaw:OnOk t1 t2:=hlaw
   rw[show ur none = .tup [.agg noS.L,.d .ff] from rfl]
   conv=>whnf
   repeat(first|(refine brF rfl ?_;conv=>whnf)|(refine brT rfl ?_;conv=>whnf))
   rw[hw1]
   refine⟨⟨j+1,c2,t2,t2.stack,true⟩,[0,1,2,3,4,5,13,7,12,9,10,11],⟨c5',p2,hlaw.ti,fun _=>rfl,List.take_length,Nat.le_refl _,hlaw.tries.trans g7,by show t2.hosts.length<=t.hosts.length+(j+1);omega,hlaw.work.trans g9,by show G=goF H hints now draw (64 - (j+1)) t2;rw[show 64 - (j+1)=k by omega];exact g10⟩,by show 64 - (j+1)<64 - j;omega,?_⟩
   conv=>whnf
   repeat'(first|exact ⟨⟩|exact rfl|exact(fun _ _ _ _ h=>⟨qb _,h⟩)|exact fun _=>Iff.rfl|exact fun _ _=>rfl|apply And.intro)
   all_goals first|exact qa rfl _|trace_state
 ·have hj:j=64:=(by have h:¬ (j:Int)<64:=of_decide_eq_false c5;omega)
  rw [show 64 - j=0 by omega] at g10
  replace g10:G=(t1,yv 11):=g10
  subst g10
  conv=>whnf
  refine .data _ (stop_ok 11) rfl rfl ?_
  conv=>whnf
  have hsi:siF fr t1.stack.length = .row 6 0 t1.stack.length\/(siF fr t1.stack.length = .all 6/\S.length=t1.stack.length):=by
   cases fr with
   |true=>exact .inr ⟨rfl,by rw[g4 rfl]⟩
   |false=>exact .inl rfl
  cases fr with
  |true =>
   refine⟨[0,1,2,3,4,5,6,7,8],.tup [.agg (tkL t1 (.all 6) (.all 7) (.all 8)),.agg (yv 11).L],wks rm c t1 (.all 6) S zh hints now draw,rfl,rfl,?_,?_,c,S,_,g2,g5,g6,g3.lo,hsi,rfl,rfl⟩
   ·exact rfl
   ·repeat'(first|exact ⟨⟩|exact rfl|exact(fun _ _ _ _ h=>⟨qb _,h⟩)|exact fun _=>Iff.rfl|exact fun _ _=>rfl|apply And.intro)
    all_goals exact qa rfl _
  |false =>
   refine⟨[0,1,2,3,4,5,6,7,8],.tup [.agg (tkL t1 (.row 6 0 t1.stack.length) (.all 7) (.all 8)),.agg (yv 11).L],wks rm c t1 (.row 6 0 t1.stack.length) S zh hints now draw,rfl,rfl,?_,?_,c,S,_,g2,g5,g6,g3.lo,hsi,rfl,rfl⟩
   ·exact rfl
   ·repeat'(first|exact ⟨⟩|exact rfl|exact(fun _ _ _ _ h=>⟨qb _,h⟩)|exact fun _=>Iff.rfl|exact fun _ _=>rfl|apply And.intro)
    all_goals exact qa rfl _
theorem qn0{b:Bool}{n sz:Nat}{f g:Nat->List DV}(h:∀ i,i<n->f i=g i):DS (.sl b n sz f) (.sl b n sz g) :=
 .sl b n sz f g (fun i hi=>by rw [h i hi]) (fun i j x y hi hx hy=>by rw [h i hi,hy] at hx;cases hx;exact .refl _)
def NextR1(rm:Int)(H:List Held)(p:Tk × Sp)(s:SV)(k:List KB):Prop:=∃ c e,Kn c H/\s = .tup [.agg p.1.L,.agg p.2.L]/\k=c.ks 0++(pks rm 3++[e,.gone,.gone,.gone])
theorem next1_ok(rm:Int)(c:CSt)(H:List Held)(hk:Kn c H)(hs:SetsH H)(t:Tk)(ht:TI t)(htl:t.tries.length<=10000/\t.hosts.length<=10000/\t.work<=10000)(zh:Bool)(hints:List Int)(hh:hints.length<=100000)(now draw:Int)(hd:0<=draw/\draw<18446744073709551616) :
 COk Tryz.prog 14 [.ptr 0 0,.ptr 3 0,.d (.sl zh hints.length 1 (jg hints)),.agg t.L,.d (.int .i64 now),.d (.int .u64 draw)] (c.ks 0++pks rm 3) (NextR1 rm H (goF H hints now draw 64 t)):=by
 refine COk.frozV qe (next0_ok rm c H hk hs t ht htl zh hints hh now draw hd) fun s k h=>?_
 obtain⟨c1,S,si,hk1,hS,hSl,h0,hsi,rfl,rfl⟩:=h
 generalize goF H hints now draw 64 t=p at hS hSl h0 hsi ⊢
 obtain⟨t1,s1⟩:=p
 replace hS:S.take t1.stack.length=t1.stack:=hS
 replace hSl:t1.stack.length<=S.length:=hSl
 replace h0:0<t1.stack.length:=h0
 have hb:Nat.beq t1.stack.length 0=false:=by
  cases h:t1.stack.length with
  |zero=>omega
  |succ n=>rfl
 have hq:∀ i,i<t1.stack.length->qsF S (0+i)=qsF t1.stack i:=fun i hi=>by
  unfold qsF
  rw[Nat.zero_add,List.getD,List.getD,show t1.stack[i]? = S[i]? by rw[<-hS,List.getElem?_take,if_pos hi]]
 have hden:∀ b,b=false->DenTo (.d (.sl b t1.stack.length 3 fun j=>qsF S (0+j))) (.d (.sl (Nat.beq t1.stack.length 0) t1.stack.length 3 (qsF t1.stack))):=fun b e=>by
  rw[e,hb]
  exact .of (.d (qn0 hq))
 obtain⟨d0,d1,d2,d3,d4,d5,d6,d7,d8,d9,d10,d11,d12,d13,d14,hL⟩:=qt4 s1
 dsimp only at hsi ⊢
 rw[hL]
 rcases hsi with rfl|⟨rfl,hSe⟩
 ·refine⟨_,[.agg (tkL t1 (.d (.sl false t1.stack.length 3 fun j=>qsF S (0+j))) (.d (.sl (Nat.beq t1.tries.length 0) t1.tries.length 4 (trsF t1.tries))) (.d (.sl (Nat.beq t1.hosts.length 0) t1.hosts.length 1 (strs t1.hosts)))),.agg [.d d0,.d d1,.d d2,.d d3,.d d4,.d d5,.d d6,.d d7,.d d8,.d d9,.d d10,.d d11,.d d12,.d d13,.d d14]],.tup [.agg t1.L,.agg s1.L],[6,7,8],rfl,?_,?_,c1,wC t1 (.row 6 0 t1.stack.length) (.all 7) (.all 8) zh hints now draw,hk1,rfl,rfl⟩
  ·conv=>whnf
   exact⟨⟨by omega,by omega⟩,rfl,rfl⟩
  ·rw[hL]
   exact DenTo.tup ⟨DenTo.agg ⟨.refl _,.refl _,.refl _,.refl _,hden _ rfl,.refl _,.refl _,.refl _,.refl _,trivial⟩,.refl _,trivial⟩
 ·have hq2:∀ i,i<S.length->qsF S i=qsF t1.stack i:=fun i hi=>by rw[<-hq i (by omega),Nat.zero_add]
  refine⟨_,[.agg (tkL t1 (.d (.sl false S.length 3 (qsF S))) (.d (.sl (Nat.beq t1.tries.length 0) t1.tries.length 4 (trsF t1.tries))) (.d (.sl (Nat.beq t1.hosts.length 0) t1.hosts.length 1 (strs t1.hosts)))),.agg [.d d0,.d d1,.d d2,.d d3,.d d4,.d d5,.d d6,.d d7,.d d8,.d d9,.d d10,.d d11,.d d12,.d d13,.d d14]],.tup [.agg t1.L,.agg s1.L],[6,7,8],rfl,?_,?_,c1,wC t1 (.all 6) (.all 7) (.all 8) zh hints now draw,hk1,rfl,rfl⟩
  ·conv=>whnf
   exact⟨by omega,rfl,rfl⟩
  ·rw[hL]
   refine DenTo.tup ⟨DenTo.agg ⟨.refl _,.refl _,.refl _,.refl _,?_,.refl _,.refl _,.refl _,.refl _,trivial⟩,.refl _,trivial⟩
   rw[hb,<-hSe]
   exact .of (.d (qn0 hq2))
theorem next_ok(rm:Int)(c:CSt)(H:List Held)(hk:Kn c H)(hs:SetsH H)(t:Tk)(ht:TI t)(htl:t.tries.length<=10000/\t.hosts.length<=10000/\t.work<=10000)(zh:Bool)(hints:List Int)(hh:hints.length<=100000)(now draw:Int)(hd:0<=draw/\draw<18446744073709551616) :
 COk Tryz.prog 14 [.ptr 0 0,.ptr 3 0,.d (.sl zh hints.length 1 (jg hints)),.agg t.L,.d (.int .i64 now),.d (.int .u64 draw)] (c.ks 0++pks rm 3) (fun s k=>∃ c1,Kn c1 H/\s = .tup [.agg (goF H hints now draw 64 t).1.L,.agg (goF H hints now draw 64 t).2.L]/\k=c1.ks 0++pks rm 3):=by
 refine(next1_ok rm c H hk hs t ht htl zh hints hh now draw hd).pick ?_
 rintro s k ⟨c1,e,hk1,rfl,rfl⟩
 refine⟨[0,1,2,3,4],.tup [.agg (goF H hints now draw 64 t).1.L,.agg (goF H hints now draw 64 t).2.L],c1.ks 0++pks rm 3,rfl,rfl,?_,?_,c1,hk1,rfl,rfl⟩
 ·generalize (goF H hints now draw 64 t).2=s1
  generalize (goF H hints now draw 64 t).1=t1
  unfold Sp.L
  split <;> exact rfl
 ·repeat'(first|exact ⟨⟩|exact rfl|exact(fun _ _ _ _ h=>⟨qb _,h⟩)|exact fun _=>Iff.rfl|exact fun _ _=>rfl|apply And.intro)
  all_goals exact qa rfl _
theorem sets_held{c:CSt}{L:List Nat}{H:List Held}(hr:c.Rep L H)(hg:Good H)(hp:PutH H):SetsH H:=fun h hh=>by
 obtain⟨h1,h2,h3⟩:=hp h hh
 have hok:=(hg h hh).1
 have htil:0<=h.til/\h.til<=4611686018428436480:=by
  apply Classical.byContradiction
  intro hc
  rw [Held.ok_til hc] at hok;cases hok
 rw [Held.ok_set htil h1] at hok
 simp only [Bool.and_eq_true] at hok
 exact⟨h1,h2,h3,hok.2,(hr.good h hh).1⟩
theorem heldq(z:Bool)(l:List Pu)(hl:l.length<=1048576)(hok:∀ p ∈ l,p.Ok)(pre:List KB):COk Tryz.prog 9 [.d (pusD z l)] pre (fun s k=>∃ (c:CSt) (H:List Held) (zz:Bool),s = .tup [.ptr pre.length 0,w14 64 zz H,.d .tt]/\k=pre++c.ks pre.length/\Kn c H/\SetsH H):=by
 have:=(held16_ok z l hl hok).among pre [] (fun s k _=>Nat.zero_le _) rfl
 have e:pre++(mapB (sig (List.range' pre.length ([]:List KB).length) (pre.length+(([]:List KB).length+([]:List KB).length))) []++[])=pre:=by simp[mapB]
 rw [e] at this
 refine COk.imp (show COk Tryz.prog 9 [.d (pusD z l)] pre _ from this) fun s k ⟨s0,k1,⟨c,L,H,zz,hr,hc,h1,hrm,hle,h4,h5⟩,hs,hk⟩=>?_
 subst hr hc
 refine⟨c,H,zz,hs,?_,h1.kn (by omega),sets_held h1 h4 h5⟩
 rw[hk]
 show pre++([]++([]++mapB _ (c.ks 0)))=_
 rw[qd0 c (σ:=sig (List.range' pre.length ([]:List KB).length) (pre.length+(([]:List KB).length+([]:List KB).length))) (p:=pre.length) rfl rfl]
 rfl
theorem pnewq(rm:Int)(h:1<=rm/\rm<=4096)(pre:List KB):COk Tryz.prog 10 [.d (.int .i64 rm)] pre (fun s k=>s = .tup [.ptr pre.length 0,.d (.int .i64 0)]/\k=pre++pks rm pre.length):=by
 have:=(pnew_ok rm h).among pre [] (fun s k _=>Nat.zero_le _) rfl
 have e:pre++(mapB (sig (List.range' pre.length ([]:List KB).length) (pre.length+(([]:List KB).length+([]:List KB).length))) []++[])=pre:=by simp[mapB]
 rw [e] at this
 refine COk.imp (show COk Tryz.prog 10 [.d (.int .i64 rm)] pre _ from this) fun s k ⟨s0,k1,⟨hr,hc⟩,hs,hk⟩=>?_
 subst hr hc
 exact⟨hs,by rw[hk];rfl⟩
theorem qq3(r:LR):closed (vy r)=true:=by
 unfold vy LR.vansL
 repeat'(first|rfl|split)
theorem ti0(id:Int)(q:Q)(work:Int)(h:0<=work):TI ⟨id,q,[q],[],[],work,[]⟩:=⟨Nat.one_pos,(show 1<=6 by decide),h⟩
theorem nx_go(H:List Held)(hints:List Int)(now draw:Int){t:Tk}(h:TI t):uw H hints now draw t=goF H hints now draw 64 t:=if_neg (by have:=h.lo;have:=h.hi;have:=h.work;omega)
def zeroTk:List SV:=[.d (.int .i64 0),.d (.str []),.d (.int .u16 0),.d (.int .u16 0),nilS,nilS,nilS,.d (.int .i64 0),.d (.str [])]
def tnV(id:Int)(q:Q)(work:Int):SV:=if qc q.nm/\q.cl=1 then (if 0<=work/\work<=64 then .tup [.agg (Tk.L ⟨id,q,[q],[],[],work,[]⟩),.d (.int .i64 0)] else .tup [.agg zeroTk,.d (.int .i64 1)]) else .tup [.agg zeroTk,.d (.int .i64 2)]
theorem qn5(id:Int)(q:Q)(work:Int):FnOk Tryz.prog 11 [.d (.int .i64 id),.agg [.d (.str q.nm),.d (.int .u16 q.ty),.d (.int .u16 q.cl)],.d (.int .i64 work)] (tnV id q work):=by
 refine qs (TT:=TT) (IN:=qf []) qe qi mixed 1000 Tryz.func11 rfl (qh Tryz.func11 (by kernel_rfl) rfl) rfl 28 (by kernel_rfl) ?_
 conv=>whnf
 refine oD (wl q.nm) rfl rfl ?_
 unfold tnV
 by_cases hn:qc q.nm
 case neg =>
  rw[if_neg hn,if_neg (fun e=>hn e.1)]
  conv=>whnf
  repeat(first|(refine brF rfl ?_;conv=>whnf)|(refine brT rfl ?_;conv=>whnf))
  repeat'(first|exact ⟨⟩|exact rfl|exact .inr rfl|exact .inl rfl|exact fun _ _=>rfl|exact noI|apply And.intro)
 rw[if_pos hn]
 conv=>whnf
 repeat(first|(refine brF rfl ?_;conv=>whnf)|(refine brT rfl ?_;conv=>whnf))
 by_cases hc:q.cl=1
 case neg =>
  rw[if_neg (fun e=>hc e.2)]
  refine brT (by rw[bne_iff_ne];exact hc) ?_
  conv=>whnf
  repeat(first|(refine brF rfl ?_;conv=>whnf)|(refine brT rfl ?_;conv=>whnf))
  repeat'(first|exact ⟨⟩|exact rfl|exact .inr rfl|exact .inl rfl|exact fun _ _=>rfl|exact noI|apply And.intro)
 rw[if_pos ⟨hn,hc⟩]
 refine brF (by rw[bne_eq_false_iff_eq];exact hc) ?_
 conv=>whnf
 by_cases h0:0<=work
 case neg =>
  rw[if_neg (fun e=>h0 e.1)]
  refine brT (decide_eq_true (by omega)) ?_
  conv=>whnf
  repeat(first|(refine brF rfl ?_;conv=>whnf)|(refine brT rfl ?_;conv=>whnf))
  repeat'(first|exact ⟨⟩|exact rfl|exact .inr rfl|exact .inl rfl|exact fun _ _=>rfl|exact noI|apply And.intro)
 refine brF (decide_eq_false (by omega)) ?_
 conv=>whnf
 by_cases h6:work<=64
 case neg =>
  rw[if_neg (fun e=>h6 e.2)]
  refine brT (decide_eq_true (by omega)) ?_
  conv=>whnf
  repeat(first|(refine brF rfl ?_;conv=>whnf)|(refine brT rfl ?_;conv=>whnf))
  repeat'(first|exact ⟨⟩|exact rfl|exact .inr rfl|exact .inl rfl|exact fun _ _=>rfl|exact noI|apply And.intro)
 rw[if_pos ⟨h0,h6⟩]
 refine brF (decide_eq_false (by omega)) ?_
 conv=>whnf
 repeat(first|(refine brF rfl ?_;conv=>whnf)|(refine brT rfl ?_;conv=>whnf))
 repeat'(first|exact ⟨⟩|exact rfl|exact .inr rfl|exact .inl rfl|exact fun _ _=>rfl|exact noI|apply And.intro)
 ·exact(show(0:Nat)<3 by decide)
 try exact .inr rfl
 ·exact fun i hi=>by
   have:i=0:=by omega
   subst this
   rfl
theorem nextw(rm:Int)(c:CSt)(H:List Held)(hk:Kn c H)(hs:SetsH H)(t:Tk)(ht:TI t)(htl:t.tries.length<=10000/\t.hosts.length<=10000/\t.work<=10000)(zh:Bool)(hints:List Int)(hh:hints.length<=100000)(now draw:Int)(hd:0<=draw/\draw<18446744073709551616)(p q:Nat)(ks:List KB)(hok:okN (lenB ks) [p,p+1,p+2,q,q+1]=true)(hg:v7 ks [p,p+1,p+2,q,q+1]=c.ks p++pks rm q) :
 COk Tryz.prog 14 [.ptr p 0,.ptr q 0,.d (.sl zh hints.length 1 (jg hints)),.agg t.L,.d (.int .i64 now),.d (.int .u64 draw)] ks (fun s k=>∃ c1,Kn c1 H/\s = .tup [.agg (goF H hints now draw 64 t).1.L,.agg (goF H hints now draw 64 t).2.L]/\k=vz ks [p,p+1,p+2,q,q+1] (c1.ks p++pks rm q)):=by
 have hm:∀ c:CSt,mapB (sig [p,p+1,p+2,q,q+1] (lenB ks)) (c.ks 0++pks rm 3)=c.ks p++pks rm q:=fun c=>by
  have happ:∀ (a b:List KB),mapB (sig [p,p+1,p+2,q,q+1] (lenB ks)) (a++b)=mapB (sig [p,p+1,p+2,q,q+1] (lenB ks)) a++mapB (sig [p,p+1,p+2,q,q+1] (lenB ks)) b:=fun a b=>by
   induction a with
   |nil=>rfl
   |cons x a ih=>simp[mapB,ih]
  rw[happ,qd0 c (σ:=sig [p,p+1,p+2,q,q+1] (lenB ks)) (p:=p) rfl rfl]
  rfl
 refine(COk.frameX (next_ok rm c H hk hs t ht htl zh hints hh now draw hd) [p,p+1,p+2,q,q+1] hok rfl (by rw[hg,hm])).imp fun s k ⟨s0,k0,⟨c1,h1,h2,h3⟩,h4,h5⟩=>?_
 subst h2 h3
 refine⟨c1,h1,?_,by rw[h5,hm]⟩
 rw[h4]
 generalize (goF H hints now draw 64 t).1=t1
 generalize (goF H hints now draw 64 t).2=s1
 unfold Sp.L
 split <;> rfl
def qL:Q:=⟨[1,97,1,98,0],1,1⟩
def lT0:Tk:=⟨3,qL,[qL],[],[],2,[]⟩
def lT1:Tk:=⟨3,qL,[qL],[⟨7,[0],qL.nm,1⟩],[],1,[0]⟩
def lT2:Tk:=⟨3,qL,[qL,⟨[1,110,0],1,1⟩],[⟨7,[0],qL.nm,1⟩,⟨7,[0],[1,110,0],1⟩],[[1,110,0]],0,[0]⟩
def lh1:Held:=⟨[1,98,0],2,9,false,[[1,110,0]],2,false,false,9⟩
def lh2:Held:=⟨qL.nm,1,9,false,[[97,98,99,100]],4,false,false,9⟩
theorem l_go0:goF [] [7] 0 0 64 lT0=(lT1,sendS 7 [0] qL):=by kernel_rfl
theorem l_go1:goF [lh1] [7] 0 0 64 lT1=(lT2,sendS 7 [0] ⟨[1,110,0],1,1⟩):=by kernel_rfl
theorem l_go2:(goF [lh2,lh1] [7] 0 0 64 lT2).2=yv 11:=by kernel_rfl
theorem l_set0:SetsH []:=fun h hh=>by cases hh
theorem l_set1:SetsH [lh1]:=fun h hh=>by
 rw[List.mem_singleton.1 hh]
 exact⟨rfl,rfl,by decide,by kernel_rfl,fun e=>by cases e⟩
theorem l_set2:SetsH [lh2,lh1]:=fun h hh=>by
 rcases List.mem_cons.1 hh with rfl|hh
 ·exact⟨rfl,rfl,by decide,by kernel_rfl,fun e=>by cases e⟩
 ·exact l_set1 h hh
theorem putk{c:CSt}{H:List Held}(hk:Kn c H){h:Held}(hz:h.z=true->h.data.length=0)(httl:0<=h.ttl)(now:Int)(hno:h.no=false)(hnb:h.name=false)(htil:h.til=now+mn h.ttl 604800)(hacc:∀ H1,H1.Perm H->(z6 h.nm h.ty h.ttl h.data h.rank && !refH H1 h (mn h.ttl 604800) now)=true)(hnew:∀ y ∈ H,plEq h y=false)(hr2:H.length<8)(pre rest:List KB) :
 COk Tryz.prog 40 [.ptr pre.length 0,setV h.nm h.ty h.ttl h.z h.data,.d (.int .u8 h.rank),.d (.int .i64 now)] (pre++(c.ks pre.length++rest)) (fun s k=>∃ c1,s = .d .tt/\Kn c1 (h :: H)/\c1.room=c.room/\k=pre++(CSt.ks c1 pre.length++rest)):=by
 obtain⟨L,H1,hr,hp⟩:=hk.rep
 have hlen:=hp.length_eq
 have hroom:=hk.room
 obtain⟨nm,ty,ttl,z,data,rank,no,nb,til⟩:=h
 obtain rfl:no=false:=hno
 obtain rfl:nb=false:=hnb
 obtain rfl:til=now+mn ttl 604800:=htil
 have hput:=put2_ok c L H1 hr (by rw[hlen];omega) nm ty ttl z data rank now hz httl
 have hacc1:=hacc H1 hp
 rw [hacc1] at hput
 have hq:COk Tryz.prog 40 [.ptr 0 0,setV nm ty ttl z data,.d (.int .u8 rank),.d (.int .i64 now)] (c.ks 0) (fun s k=>∃ c1,k=CSt.ks c1 0/\PutQ H1 ⟨nm,ty,ttl,z,data,rank,false,false,now+mn ttl 604800⟩ true c.room s c1):=hput.imp fun _ _ h=>accQ hr h
 refine(ckq hq pre rest _ rfl rfl).imp fun s k ⟨s0,c1,⟨L1,h1,h2,h3⟩,h4,h5⟩=>?_
 subst h1
 refine⟨c1,h4,?_,h3,h5⟩
 have hf:H1.filter (fun y=>!plEq ⟨nm,ty,ttl,z,data,rank,false,false,now+mn ttl 604800⟩ y)=H1:=List.filter_eq_self.2 fun y hy=>by rw[hnew y (hp.mem_iff.1 hy)];rfl
 have h2:c1.Rep L1 (_ :: H1.filter _):=h2
 rw [hf] at h2
 have hkn:=h2.kn (by rw[h3];exact hroom)
 refine⟨hkn.wf,fun a k=>?_,⟨L1,_,h2,hp.cons _⟩,by rw[h3];exact hroom⟩
 rw[hkn.look a k,List.find?_cons,List.find?_cons]
 cases atP a k _ with
 |true=>rfl
 |false=>exact(hr.knl a k).symm.trans (hk.look a k)
theorem hints7(f:Nat->List DV)(h:f=q8 [.int .u32 7] 1):AEq (.d (.sl false 1 1 f)) (.d (.sl false ([7]:List Int).length 1 (jg [7]))):=.d (qn0 fun i hi=>by
 have:i=0:=by have:i<1:=hi;omega
 subst this
 rw[h];rfl)
theorem one_str(x:List UInt8)(f:Nat->List DV)(h:f=q8 [.str x] 1):AEq (.d (.sl false 1 1 f)) (.d (.sl false ([x]:List (List UInt8)).length 1 (strs [x]))):=.d (qn0 fun i hi=>by
 have:i=0:=by have:i<1:=hi;omega
 subst this
 rw[h];rfl)
theorem jc0:FnOk Tryz.prog 8 [] (.d (.bool true)):=by
 refine qs (TT:=TT) (IN:=qf []) qe qi mixed 1000 Tryz.func8 rfl (qh Tryz.func8 (by kernel_rfl) rfl) rfl 153 (by kernel_rfl) ?_
 conv=>whnf
 refine .rel _ (newq 9 (by decide) []) (fun r ks' hR=>?_)
 obtain⟨rfl,c,rfl,hr0,hroom0⟩:=hR
 conv=>whnf
 refine .rel _ (pnewq 9 (by decide) [_,_,_]) (fun r ks' hR=>?_)
 obtain⟨rfl,rfl⟩:=hR
 have hk:Kn c []:=hr0.kn (by rw[hroom0];decide)
 conv=>whnf
 repeat(first|(refine brF rfl ?_;conv=>whnf)|(refine brT rfl ?_;conv=>whnf))
 have tn:=qn5 3 qL 2
 rw [show tnV 3 qL 2 = .tup [.agg lT0.L,.d (.int .i64 0)] by kernel_rfl] at tn
 refine oD tn rfl rfl ?_
 conv=>whnf
 have n1:=nextw 9 c [] hk l_set0 lT0 ⟨by decide,by decide,by decide⟩ ⟨by decide,by decide,by decide⟩ false [7] (by decide) 0 0 (by decide) 0 3
 rw [l_go0] at n1
 refine .rel _ (COk.viewA qe (fr:=[7]) (tys:=[0,0,23,0,0,0]) ((n1 _ rfl rfl).convA (args':=[.ptr 0 0,.ptr 3 0,.d (.sl false 1 1 (q8 [.int .u32 7] 1)),.agg lT0.L,.d (.int .i64 0),.d (.int .u64 0)]) ⟨.refl _,.refl _,hints7 _ rfl,.refl _,.refl _,.refl _,trivial⟩) ?_) (fun y ks' hR=>?_)
 ·conv=>whnf
  exact⟨rfl,rfl⟩
 obtain⟨c1,hk1,rfl,rfl⟩:=hR
 clear n1 hk
 conv=>whnf
 repeat(first|(refine brF rfl ?_;conv=>whnf)|(refine brT rfl ?_;conv=>whnf))
 have p1:=putk hk1 (h:=lh1) (fun e=>by cases e) (by decide) 0 rfl rfl (by decide) (fun H1 hp=>by rw[hp.eq_nil];kernel_rfl) (fun y hy=>by cases hy) (by decide) []
 refine .rel _ (COk.viewA qe (fr:=[9]) (tys:=[0,0,0,0]) ((p1 [_,_,_,_,_,_,_]).convA (args':=[.ptr 0 0,.agg [.d (.str [1,98,0]),.d (.int .u16 2),.d (.int .u32 9),.d (.sl false 1 1 (q8 [.str [1,110,0]] 1))],.d (.int .u8 2),.d (.int .i64 0)]) ⟨.refl _,AEq.aggL ⟨.refl _,.refl _,.refl _,one_str _ _ rfl,trivial⟩,.refl _,.refl _,trivial⟩) ?_) (fun y ks' hR=>?_)
 ·conv=>whnf
  exact⟨rfl,rfl⟩
 obtain⟨c2,rfl,hk2,_,rfl⟩:=hR
 conv=>whnf
 have n2:=nextw 9 c2 [lh1] hk2 l_set1 lT1 ⟨by decide,by decide,by decide⟩ ⟨by decide,by decide,by decide⟩ false [7] (by decide) 0 0 (by decide) 0 3
 rw [l_go1] at n2
 refine .rel _ (COk.viewA qe (fr:=[10]) (tys:=[0,0,23,0,0,0]) ((n2 _ rfl rfl).convA (args':=[.ptr 0 0,.ptr 3 0,.d (.sl false 1 1 (q8 [.int .u32 7] 1)),.agg lT1.L,.d (.int .i64 0),.d (.int .u64 0)]) ⟨.refl _,.refl _,hints7 _ rfl,.refl _,.refl _,.refl _,trivial⟩) ?_) (fun y ks' hR=>?_)
 ·conv=>whnf
  exact⟨rfl,rfl⟩
 obtain⟨c3,hk3,rfl,rfl⟩:=hR
 clear n2 p1
 conv=>whnf
 repeat(first|(refine brF rfl ?_;conv=>whnf)|(refine brT rfl ?_;conv=>whnf))
 have p2:=putk hk3 (h:=lh2) (fun e=>by cases e) (by decide) 0 rfl rfl (by decide) (fun H1 hp=>by rw[List.perm_singleton.1 hp];kernel_rfl) (fun y hy=>by rw[List.mem_singleton.1 hy];kernel_rfl) (by decide) []
 refine .rel _ (COk.viewA qe (fr:=[13]) (tys:=[0,0,0,0]) ((p2 [_,_,_,_,_,_,_,_,_,_,_]).convA (args':=[.ptr 0 0,.agg [.d (.str [1,97,1,98,0]),.d (.int .u16 1),.d (.int .u32 9),.d (.sl false 1 1 (q8 [.str [97,98,99,100]] 1))],.d (.int .u8 4),.d (.int .i64 0)]) ⟨.refl _,AEq.aggL ⟨.refl _,.refl _,.refl _,one_str _ _ rfl,trivial⟩,.refl _,.refl _,trivial⟩) ?_) (fun y ks' hR=>?_)
 ·conv=>whnf
  exact⟨rfl,rfl⟩
 obtain⟨c4,rfl,hk4,_,rfl⟩:=hR
 conv=>whnf
 have n3:=nextw 9 c4 [lh2,lh1] hk4 l_set2 lT2 ⟨by decide,by decide,by decide⟩ ⟨by decide,by decide,by decide⟩ false [7] (by decide) 0 0 (by decide) 0 3
 refine .rel _ (COk.viewA qe (fr:=[14]) (tys:=[0,0,23,0,0,0]) ((n3 _ rfl rfl).convA (args':=[.ptr 0 0,.ptr 3 0,.d (.sl false 1 1 (q8 [.int .u32 7] 1)),.agg lT2.L,.d (.int .i64 0),.d (.int .u64 0)]) ⟨.refl _,.refl _,hints7 _ rfl,.refl _,.refl _,.refl _,trivial⟩) ?_) (fun y ks' hR=>?_)
 ·conv=>whnf
  exact⟨rfl,rfl⟩
 obtain⟨c5,hk5,rfl,rfl⟩:=hR
 rw[l_go2]
 generalize (goF [lh2,lh1] [7] 0 0 64 lT2).1=tz
 clear n3 p2
 conv=>whnf
 repeat(first|(refine brF rfl ?_;conv=>whnf)|(refine brT rfl ?_;conv=>whnf))
 have tn5:=qn5 0 qL 65
 rw [show tnV 0 qL 65 = .tup [.agg zeroTk,.d (.int .i64 1)] by kernel_rfl] at tn5
 refine oD tn5 rfl rfl ?_
 conv=>whnf
 repeat(first|(refine brT rfl ?_;conv=>whnf)|(refine brF rfl ?_;conv=>whnf)|(refine .once ?_;conv=>whnf)|(refine⟨by decide,?_⟩;conv=>whnf)|(refine And.intro (Nat.le_of_ble_eq_true rfl) ?_;conv=>whnf))
 exact rfl
end Go.Proofs.YtiiafibkblpbcaaGreat
