/-
  Part of the proof: lemmas about the functions that the row calls, and about the steps of a run. Conditions: those ahead of each lemma.
-/
import Derived.Shelf.Pu.ToError
import Derived.Shelf.Pu.ToErrorRange
import Derived.Lib.Bytealg
import Derived.Test.YtoefgnnkajhmiaaGreatDoorQ2
import Derived.Test.YtoefgnnkajhmiaaGreatDoorQ1
import Derived.Test.YtoefgnnkajhmiaaGreatDoorP4
set_option linter.unusedVariables false
set_option linter.unusedSimpArgs false
set_option maxRecDepth 100000
set_option maxHeartbeats 64000000
namespace Go.Proofs.YtoefgnnkajhmiaaGreatDoor
open Go Go.Eng
theorem w8n{n:Nat}(h:n<256):IntKind.u8.wrap (n:Int)=((UInt8.ofNat n).toNat:Int):=by rw[qq5 h,gy];omega
theorem digI(c:UInt8):j7 c=true↔48<=(c.toNat:Int)/\(c.toNat:Int)<=57:=by
 unfold j7;rw[lr];omega
theorem dgw(a:Nat)(x:UInt8)(ha:a<=1000)(h1:48<=x.toNat)(h2:x.toNat<=57):IntKind.i64.wrap (IntKind.i64.wrap (10 * (a:Int))+IntKind.i64.wrap (IntKind.u8.wrap ((x.toNat:Int) - 48)))=((10 * a+(x.toNat - 48):Nat):Int):=by
 have e:IntKind.u8.wrap ((x.toNat:Int) - 48)=((x.toNat - 48:Nat):Int):=by rw[gy];omega
 rw[e,qc (10 * (a:Int)) om,qc ((x.toNat - 48:Nat):Int) om,qc _ om];omega
theorem yp1(s:Ls):FnOk Tryz.prog 162 [.d (.str s)] (.tup [.d (.int .u8 ((behB s).1.toNat:Int)),.d (.int .i64 (behB s).2)]):=by
 refine qi (TT:=TT) (IN:=qd []) qe qg mixed 1000 Tryz.func162 rfl (qb Tryz.func162 (by kernel_rfl) rfl) rfl 46 (by kernel_rfl) ?_;cases s with
 |nil =>
  conv=>whnf
  repeat((first|apply Fr|apply Tr);conv=>whnf)
  exact rZ6
 |cons c r =>
  have hc:=c.toNat_lt;conv=>whnf
  apply Fr;conv=>whnf
  have hix:(0:Int)<=0/\(0:Int)<((r.length+1:Nat):Int):=om
  have hb0:qw (c :: r) 0=(c.toNat:Int):=rfl;refine⟨hix,?_⟩;conv=>whnf
  rw[hb0];by_cases h1:48<=c.toNat
  case neg =>
   have he:behB (c :: r)=(c,1):=by
    have:j7 c=false:=by unfold j7;rw[po om]
    simp[behB,this]
   rw[he];refine brT (pn om) ?_;conv=>whnf
   repeat((first|apply Fr|apply Tr);conv=>whnf)
   refine⟨hix,?_⟩;exact rY6
  refine brF (po om) ?_;conv=>whnf
  refine⟨hix,?_⟩;conv=>whnf
  rw[hb0];by_cases h2:c.toNat<=57
  case neg =>
   have he:behB (c :: r)=(c,1):=by
    have:j7 c=false:=by unfold j7;rw[po om]
    simp[behB,this]
   rw[he];refine brT (pn om) ?_;conv=>whnf
   repeat((first|apply Fr|apply Tr);conv=>whnf)
   refine⟨hix,?_⟩;exact rY6
  refine brF (po om) ?_;conv=>whnf
  repeat((first|apply Fr|apply Tr);conv=>whnf)
  have hd:j7 c=true:=(digI c).2 ⟨om,om⟩;have hcase:r=[]\/(∃ d,r=[d])\/∃ d e q,r=d :: e :: q:=by
   match r with
   |[]=>exact .inl rfl
   |[d]=>exact .inr (.inl ⟨d,rfl⟩)
   |d :: e :: q=>exact .inr (.inr ⟨d,e,q,rfl⟩)
  rcases hcase with rfl|⟨d,rfl⟩|⟨d,e,q,rfl⟩
  ·have he:behB [c]=(0,0):=by simp[behB,hd]
   rw[he];apply Tr;exact rY6
  ·have he:behB [c,d]=(0,0):=by simp[behB,hd]
   rw[he];apply Tr;exact rY6
  have hdd:=d.toNat_lt;have hed:=e.toNat_lt;refine brF (po (by show ¬ ((q.length+1+1+1:Nat):Int)<3;omega)) ?_;conv=>whnf
  have hb1:qw (c :: d :: e :: q) (IntKind.i64.wrap (0+1))=(d.toNat:Int):=rfl;have hb2:qw (c :: d :: e :: q) (IntKind.i64.wrap (IntKind.i64.wrap (0+1)+1))=(e.toNat:Int):=rfl;have hn:∀ x:UInt8,x.toNat<48\/57<x.toNat->j7 x=false:=λx hx=>by unfold j7;rw[po om]
  refine .once ?_;conv=>whnf
  apply Tr;conv=>whnf
  refine⟨by show(0:Int)<=0/\(0:Int)<((q.length+1+1+1:Nat):Int);omega,?_⟩;conv=>whnf
  rw[hb0];refine brF (po om) ?_;conv=>whnf
  refine⟨by show(0:Int)<=0/\(0:Int)<((q.length+1+1+1:Nat):Int);omega,?_⟩;conv=>whnf
  rw[hb0];refine brF (po om) ?_;conv=>whnf
  repeat((first|apply Fr|apply Tr);conv=>whnf)
  refine⟨by show(0:Int)<=0/\(0:Int)<((q.length+1+1+1:Nat):Int);omega,?_⟩;conv=>whnf
  rw[hb0,show IntKind.i64.wrap (IntKind.i64.wrap (10 * 0)+IntKind.i64.wrap (IntKind.u8.wrap ((c.toNat:Int) - 48)))=_ from dgw 0 c (by decide) h1 h2];refine .once ?_;conv=>whnf
  apply Tr;conv=>whnf
  refine⟨by show(0:Int)<=1/\(1:Int)<((q.length+1+1+1:Nat):Int);omega,?_⟩;conv=>whnf
  rw[hb1];by_cases ld:48<=d.toNat
  case neg =>
   have he:behB (c :: d :: e :: q)=(0,0):=by simp[behB,hd,hn d om]
   rw[he];refine brT (pn om) ?_;conv=>whnf
   repeat((first|apply Fr|apply Tr);conv=>whnf)
   exact rZ6
  refine brF (po om) ?_;conv=>whnf
  refine⟨by show(0:Int)<=1/\(1:Int)<((q.length+1+1+1:Nat):Int);omega,?_⟩;conv=>whnf
  rw[hb1];by_cases ud:d.toNat<=57
  case neg =>
   have he:behB (c :: d :: e :: q)=(0,0):=by simp[behB,hd,hn d om]
   rw[he];refine brT (pn om) ?_;conv=>whnf
   repeat((first|apply Fr|apply Tr);conv=>whnf)
   exact rZ6
  refine brF (po om) ?_;conv=>whnf
  repeat((first|apply Fr|apply Tr);conv=>whnf)
  have hdd1:j7 d=true:=(digI d).2 ⟨om,om⟩;refine⟨by show(0:Int)<=1/\(1:Int)<((q.length+1+1+1:Nat):Int);omega,?_⟩;conv=>whnf
  rw[hb1,dgw (10 * 0+(c.toNat - 48)) d om ld ud];refine .once ?_;conv=>whnf
  apply Tr;conv=>whnf
  refine⟨by show(0:Int)<=2/\(2:Int)<((q.length+1+1+1:Nat):Int);omega,?_⟩;conv=>whnf
  rw[hb2];by_cases le:48<=e.toNat
  case neg =>
   have he:behB (c :: d :: e :: q)=(0,0):=by simp[behB,hd,hdd1,hn e om]
   rw[he];refine brT (pn om) ?_;conv=>whnf
   repeat((first|apply Fr|apply Tr);conv=>whnf)
   exact rZ6
  refine brF (po om) ?_;conv=>whnf
  refine⟨by show(0:Int)<=2/\(2:Int)<((q.length+1+1+1:Nat):Int);omega,?_⟩;conv=>whnf
  rw[hb2];by_cases ue:e.toNat<=57
  case neg =>
   have he:behB (c :: d :: e :: q)=(0,0):=by simp[behB,hd,hdd1,hn e om]
   rw[he];refine brT (pn om) ?_;conv=>whnf
   repeat((first|apply Fr|apply Tr);conv=>whnf)
   exact rZ6
  refine brF (po om) ?_;conv=>whnf
  repeat((first|apply Fr|apply Tr);conv=>whnf)
  have hed1:j7 e=true:=(digI e).2 ⟨om,om⟩;refine⟨by show(0:Int)<=2/\(2:Int)<((q.length+1+1+1:Nat):Int);omega,?_⟩;conv=>whnf
  rw[hb2,dgw (10 * (10 * 0+(c.toNat - 48))+(d.toNat - 48)) e om le ue];refine .once ?_;conv=>whnf
  apply Fr;conv=>whnf
  have hN:10 * (10 * (10 * 0+(c.toNat - 48))+(d.toNat - 48))+(e.toNat - 48)=100 * (c.toNat - 48)+10 * (d.toNat - 48)+(e.toNat - 48):=om
  rw[hN];have hbe:behB (c :: d :: e :: q)=if 100 * (c.toNat - 48)+10 * (d.toNat - 48)+(e.toNat - 48)<=255 then (UInt8.ofNat (100 * (c.toNat - 48)+10 * (d.toNat - 48)+(e.toNat - 48)),3) else (0,0):=by simp only[behB,hd,hdd1,hed1,if_true]
  rw[hbe];generalize 100 * (c.toNat - 48)+10 * (d.toNat - 48)+(e.toNat - 48)=N;by_cases hN2:N<=255
  ·rw[if_pos hN2];refine brF (po om) ?_;conv=>whnf
   rw[w8n om]
   exact rZ6
  ·rw[if_neg hN2];refine brT (pn om) ?_;exact rY6
theorem jf0(r:Ls):(behB r).2<=r.length:=by
 match r with
 |[]=>simp[behB]
 |[c]=>simp only[behB];split <;> simp
 |[c,d]=>simp only[behB];split <;> simp
 |c :: d :: e :: q =>
  simp only[behB]
  repeat' split
  all_goals simp
def cutV:Option (List Ls)->SV
 |none=>.tup [.any,.d .ff]
 |some l=>.tup [.d (.sl false l.length 1 (strs l)),.d .tt]
structure CtSt where
 at_:Nat
 l:Ls
 ls:List Ls
 m:Nat
 q:Option (Nat × (Nat->List DV))
def CtSt.v(x:CtSt):SV:=match x.q with
 |none=>.all 1
 |some _=>.row 1 0 0
def CtSt.b(x:CtSt):KB:=match x.q with
 |none=>.row 5 1 x.l.length .may (je x.l)
 |some p=>.row 5 1 p.1 .may p.2
theorem rZ13{p:Prop}(h:p:=by repeat'(first|exact ⟨⟩|exact rfl|exact ql _|exact .inr rfl|exact λ_ _=>rfl|exact noI|apply And.intro|(show ls.length+1=(ls++[l]).length;simp)|exact zh ls l _ rfl)):p:=h
theorem rY13{p:Prop}(h:p:=by (conv=>whnf);repeat'(first|exact ⟨⟩|exact rfl|exact ql _|exact .inr rfl|exact λ_ _=>rfl|exact noI|apply And.intro|(show ls.length+1=(ls++[l]).length;simp)|exact zh ls l _ rfl)):p:=h
theorem xt2(s:Ls)(hs:s.length<=1000000):FnOk Tryz.prog 131 [.d (.str s)] (cutV (tcut (s.length+1) s [] [])):=by
 refine qi (TT:=TT) (IN:=qd []) qe qg mixed 1000 Tryz.func131 rfl (qb Tryz.func131 (by kernel_rfl) rfl) rfl 68 (by kernel_rfl) ?_;conv=>whnf
 refine .nilT 4 9 1 (strs []) _ _ rfl ?_;refine .nilT 5 5 1 (je []) _ _ rfl ?_;refine .inv CtSt (λx=>x.at_<=s.length/\s.length<x.at_+x.m/\x.l.length+x.ls.length<=x.at_/\(x.q.isSome=true->x.l=[])/\tcut x.m (s.drop x.at_) x.l x.ls=tcut (s.length+1) s [] []) (λx=>[(4,.all 0),(5,x.v),(6,iV x.at_)]) (λx=>[(0,.row 9 1 x.ls.length .iff (strs x.ls)),(1,x.b)]) (λx=>s.length - x.at_) ⟨⟨0,[],[],s.length+1,none⟩,[0,1],⟨pv _,by show s.length<0+(s.length+1);omega,pv _,λh=>(by cases h),rfl⟩,?_⟩ ?_
 ·exact rY2
 intro x hx;obtain⟨hk,hm,hll,hql,hrest⟩:=hx;show qa3 _ _ _ [(4,.all 0),(5,x.v),(6,iV x.at_)] [(0,.row 9 1 x.ls.length .iff (strs x.ls)),(1,x.b)] _;rcases hxq:x.q with _|⟨qn,qf⟩
 ·rw[show x.v = .all 1 by unfold CtSt.v;rw[hxq],show x.b = .row 5 1 x.l.length .may (je x.l) by unfold CtSt.b;rw[hxq]];rw [hxq] at hql;conv=>whnf
  generalize x.at_=k at hk hm hll hrest ⊢;generalize x.l=l at hll hrest hql ⊢;generalize x.ls=ls at hll hrest ⊢;generalize x.m=m at hm hrest ⊢;obtain⟨m',rfl⟩:∃ m',m=m'+1:=⟨m - 1,om⟩;refine⟨λc0=>?_,λc0=>?_⟩
  ·have c0':k<s.length:=(by have h:(k:Int)<s.length:=px c0;omega);have hsk:s[k]? = some s[k]:=pp c0';have hdr:s.drop k=s[k] :: s.drop (k+1):=lu c0';rw [hdr] at hrest;have hbk:qw s (k:Int)=((s[k].toNat:Nat):Int):=by rw[jl];unfold bt;rw[hsk];rfl
   generalize s[k]=c at hsk hdr hrest hbk;have hc:=c.toNat_lt;have hk1:=w64s k om;simp only [tcut] at hrest;conv=>whnf
   refine⟨om,?_⟩;conv=>whnf
   rw[hbk];by_cases h46:c=46
   ·subst h46;rw [if_pos rfl] at hrest;apply Tr;conv=>whnf
    by_cases hl0:l=[]
    ·subst hl0;rw [if_pos rfl] at hrest;rw[<-hrest];apply Tr;exact rY6
    try exact absurd (hql rfl) hl0
    all_goals
     rw [if_neg hl0] at hrest;have hl1:1<=l.length:=g9.2 hl0;refine brF (by rw[oo];omega) ?_;conv=>whnf
     refine⟨λi _=>⟨_,rfl⟩,?_⟩;rw[xu];conv=>whnf
     refine⟨om,?_⟩;conv=>whnf
     refine⟨om,?_⟩;conv=>whnf
     rw[hk1];refine⟨⟨k+1,[],ls++[l],m',some (l.length,je l)⟩,[3,1],⟨c0',by show s.length<k+1+m';omega,by show 0+(ls++[l]).length<=k+1;rw[pq];show 0+(ls.length+1)<=_;omega,λ_=>rfl,hrest⟩,by show s.length - (k+1)<s.length - k;omega,?_⟩;exact rY13
   have he46:(((c.toNat:Nat):Int) == 46)=false:=by rw[oo];intro h;exact h46 (UInt8.toNat_inj.1 (by show c.toNat=46;omega))
   rw [if_neg h46] at hrest;refine brF he46 ?_;conv=>whnf
   by_cases h92:c=92
   ·subst h92;rw [if_pos rfl] at hrest;apply Tr;conv=>whnf
    rw[hk1];refine⟨om,?_⟩;conv=>whnf
    rw[qb3];generalize hdd:s.drop (k+1)=r at hrest;have hrl:r.length=s.length - (k+1):=by rw[<-hdd,ou]
    refine oD (yp1 r) rfl rfl ?_;have hb2:(behB r).2<=r.length:=jf0 r;generalize hbh:behB r=b at hrest hb2;obtain⟨b1,b2⟩:=b;conv=>whnf
    by_cases hb0:b2=0
    ·subst hb0;rw [if_pos rfl] at hrest;rw[<-hrest];apply Tr;exact rY6
    rw [if_neg hb0] at hrest;refine brF (by rw[oo];show((b2:Nat):Int)≠0;omega) ?_;conv=>whnf
    refine⟨om,?_⟩;conv=>whnf
    have hw2:IntKind.i64.wrap ((k:Int)+IntKind.i64.wrap (((b2:Nat):Int)+1))=((k+1+b2:Nat):Int):=by rw[qc (((b2:Nat):Int)+1) om,qc _ om];omega
    rw[hw2];have hr2:r.drop b2=s.drop (k+1+b2):=by rw[<-hdd,gx]
    replace hrest:tcut m' (s.drop (k+1+b2)) (l++[b1]) ls=tcut (s.length+1) s [] []:=by rw[<-hr2];exact hrest
    refine⟨⟨k+1+b2,l++[b1],ls,m',none⟩,[0,3],⟨by show k+1+b2<=s.length;have:b2<=r.length:=hb2;omega,by show s.length<k+1+b2+m';omega,by show(l++[b1]).length+ls.length<=k+1+b2;rw[pq];show l.length+1+ls.length<=_;omega,λh=>(by cases h),hrest⟩,by show s.length - (k+1+b2)<s.length - k;omega,?_⟩;conv=>whnf
    repeat'(first|exact ⟨⟩|exact rfl|exact ql _|exact .inr rfl|exact λ_ _=>rfl|exact noI|apply And.intro)
    all_goals first
     |(show l.length+1=(l++[b1]).length;simp)
     |exact(λi hi=>j8 l b1 i hi)
     |(show 0+1=(l++[b1]).length;rw[hql rfl];rfl)
     |(
      intro i hi;have:i=0:=om
      subst this;rw[show l=[] from hql rfl];rfl)
   have he92:(((c.toNat:Nat):Int) == 92)=false:=by rw[oo];intro h;exact h92 (UInt8.toNat_inj.1 (by show c.toNat=92;omega))
   rw [if_neg h92] at hrest;refine brF he92 ?_;conv=>whnf
   by_cases h33:33<=c.toNat/\c.toNat<=126
   ·rw [if_pos h33] at hrest;refine brF (po om) ?_;conv=>whnf
    refine brF (po om) ?_;conv=>whnf
    repeat((first|apply Fr|apply Tr);conv=>whnf)
    refine⟨om,?_⟩;conv=>whnf
    rw[hk1];refine⟨⟨k+1,l++[c],ls,m',none⟩,[0,3],⟨c0',by show s.length<k+1+m';omega,by show(l++[c]).length+_<=k+1;rw[pq];show l.length+1+ls.length<=_;omega,λh=>(by cases h),hrest⟩,by show s.length - (k+1)<s.length - k;omega,?_⟩;conv=>whnf
    repeat'(first|exact ⟨⟩|exact rfl|exact ql _|exact .inr rfl|exact λ_ _=>rfl|exact noI|apply And.intro)
    all_goals first
     |(show l.length+1=(l++[c]).length;simp)
     |exact(λi hi=>j8 l c i hi)
     |(show 0+1=(l++[c]).length;rw[hql rfl];rfl)
     |(
      intro i hi;have:i=0:=om
      subst this;rw[show l=[] from hql rfl];rfl)
   ·rw [if_neg h33] at hrest;rw[<-hrest];by_cases h33':c.toNat<33
    ·refine brT (pn om) ?_;conv=>whnf
     repeat((first|apply Fr|apply Tr);conv=>whnf)
     exact rZ6
    ·refine brF (po om) ?_;conv=>whnf
     refine brT (pn om) ?_;conv=>whnf
     repeat((first|apply Fr|apply Tr);conv=>whnf)
     exact rZ6
  ·have c0':k=s.length:=(by have h:¬ (k:Int)<s.length:=py c0;omega);subst c0';rw [f8] at hrest;simp only [tcut] at hrest;conv=>whnf
   by_cases hl0:l=[]
   ·subst hl0;rw [if_pos rfl] at hrest;rw[<-hrest];apply Fr;conv=>whnf
    by_cases hls:ls=[]
    ·rw[if_pos hls];subst hls;exact rY6
    ·rw[if_neg hls];have:=g9.2 hls;conv=>whnf
     refine⟨⟨(by cases ls with
      |nil=>exact absurd rfl hls
      |cons a b=>rfl),rfl,.inr rfl,λi hi=>rfl⟩,(show decide ((ls.length:Int) > 0)=true from pn om),True.intro⟩
   ·try exact absurd (hql rfl) hl0
    all_goals
     have hl1:1<=l.length:=g9.2 hl0;rw [if_neg hl0] at hrest;rw[<-hrest];refine brT (pn om) ?_;conv=>whnf
     refine⟨λi _=>⟨_,rfl⟩,?_⟩;rw[xu];conv=>whnf
     refine⟨om,?_⟩;conv=>whnf
     refine⟨⟨rfl,(show ls.length+1=(ls++[l]).length by simp),.inr rfl,zh ls l _ rfl⟩,(show decide (((ls.length+1:Nat):Int) > 0)=true from pn om),True.intro⟩
 ·rw[show x.v = .row 1 0 0 by unfold CtSt.v;rw[hxq],show x.b = .row 5 1 qn .may qf by unfold CtSt.b;rw[hxq]];rw [hxq] at hql;conv=>whnf
  generalize x.at_=k at hk hm hll hrest ⊢;generalize x.l=l at hll hrest hql ⊢;generalize x.ls=ls at hll hrest ⊢;generalize x.m=m at hm hrest ⊢;obtain⟨m',rfl⟩:∃ m',m=m'+1:=⟨m - 1,om⟩;refine⟨λc0=>?_,λc0=>?_⟩
  ·have c0':k<s.length:=(by have h:(k:Int)<s.length:=px c0;omega);have hsk:s[k]? = some s[k]:=pp c0';have hdr:s.drop k=s[k] :: s.drop (k+1):=lu c0';rw [hdr] at hrest;have hbk:qw s (k:Int)=((s[k].toNat:Nat):Int):=by rw[jl];unfold bt;rw[hsk];rfl
   generalize s[k]=c at hsk hdr hrest hbk;have hc:=c.toNat_lt;have hk1:=w64s k om;simp only [tcut] at hrest;conv=>whnf
   refine⟨om,?_⟩;conv=>whnf
   rw[hbk];by_cases h46:c=46
   ·subst h46;rw [if_pos rfl] at hrest;apply Tr;conv=>whnf
    by_cases hl0:l=[]
    ·subst hl0;rw [if_pos rfl] at hrest;rw[<-hrest];apply Tr;exact rY6
    try exact absurd (hql rfl) hl0
    all_goals
     rw [if_neg hl0] at hrest;have hl1:1<=l.length:=g9.2 hl0;refine brF (by rw[oo];omega) ?_;conv=>whnf
     refine⟨λi _=>⟨_,rfl⟩,?_⟩;rw[xu];conv=>whnf
     refine⟨om,?_⟩;conv=>whnf
     refine⟨om,?_⟩;conv=>whnf
     rw[hk1];refine⟨⟨k+1,[],ls++[l],m',some (l.length,je l)⟩,[3,1],⟨c0',by show s.length<k+1+m';omega,by show 0+(ls++[l]).length<=k+1;rw[pq];show 0+(ls.length+1)<=_;omega,λ_=>rfl,hrest⟩,by show s.length - (k+1)<s.length - k;omega,?_⟩;exact rY13
   have he46:(((c.toNat:Nat):Int) == 46)=false:=by rw[oo];intro h;exact h46 (UInt8.toNat_inj.1 (by show c.toNat=46;omega))
   rw [if_neg h46] at hrest;refine brF he46 ?_;conv=>whnf
   by_cases h92:c=92
   ·subst h92;rw [if_pos rfl] at hrest;apply Tr;conv=>whnf
    rw[hk1];refine⟨om,?_⟩;conv=>whnf
    rw[qb3];generalize hdd:s.drop (k+1)=r at hrest;have hrl:r.length=s.length - (k+1):=by rw[<-hdd,ou]
    refine oD (yp1 r) rfl rfl ?_;have hb2:(behB r).2<=r.length:=jf0 r;generalize hbh:behB r=b at hrest hb2;obtain⟨b1,b2⟩:=b;conv=>whnf
    by_cases hb0:b2=0
    ·subst hb0;rw [if_pos rfl] at hrest;rw[<-hrest];apply Tr;exact rY6
    rw [if_neg hb0] at hrest;refine brF (by rw[oo];show((b2:Nat):Int)≠0;omega) ?_;conv=>whnf
    refine⟨om,?_⟩;conv=>whnf
    have hw2:IntKind.i64.wrap ((k:Int)+IntKind.i64.wrap (((b2:Nat):Int)+1))=((k+1+b2:Nat):Int):=by rw[qc (((b2:Nat):Int)+1) om,qc _ om];omega
    rw[hw2];have hr2:r.drop b2=s.drop (k+1+b2):=by rw[<-hdd,gx]
    replace hrest:tcut m' (s.drop (k+1+b2)) (l++[b1]) ls=tcut (s.length+1) s [] []:=by rw[<-hr2];exact hrest
    refine⟨⟨k+1+b2,l++[b1],ls,m',none⟩,[0,3],⟨by show k+1+b2<=s.length;have:b2<=r.length:=hb2;omega,by show s.length<k+1+b2+m';omega,by show(l++[b1]).length+ls.length<=k+1+b2;rw[pq];show l.length+1+ls.length<=_;omega,λh=>(by cases h),hrest⟩,by show s.length - (k+1+b2)<s.length - k;omega,?_⟩;conv=>whnf
    repeat'(first|exact ⟨⟩|exact rfl|exact ql _|exact .inr rfl|exact λ_ _=>rfl|exact noI|apply And.intro)
    all_goals first
     |(show l.length+1=(l++[b1]).length;simp)
     |exact(λi hi=>j8 l b1 i hi)
     |(show 0+1=(l++[b1]).length;rw[hql rfl];rfl)
     |(
      intro i hi;have:i=0:=om
      subst this;rw[show l=[] from hql rfl];rfl)
   have he92:(((c.toNat:Nat):Int) == 92)=false:=by rw[oo];intro h;exact h92 (UInt8.toNat_inj.1 (by show c.toNat=92;omega))
   rw [if_neg h92] at hrest;refine brF he92 ?_;conv=>whnf
   by_cases h33:33<=c.toNat/\c.toNat<=126
   ·rw [if_pos h33] at hrest;refine brF (po om) ?_;conv=>whnf
    refine brF (po om) ?_;conv=>whnf
    repeat((first|apply Fr|apply Tr);conv=>whnf)
    refine⟨om,?_⟩;conv=>whnf
    rw[hk1];refine⟨⟨k+1,l++[c],ls,m',none⟩,[0,3],⟨c0',by show s.length<k+1+m';omega,by show(l++[c]).length+_<=k+1;rw[pq];show l.length+1+ls.length<=_;omega,λh=>(by cases h),hrest⟩,by show s.length - (k+1)<s.length - k;omega,?_⟩;conv=>whnf
    repeat'(first|exact ⟨⟩|exact rfl|exact ql _|exact .inr rfl|exact λ_ _=>rfl|exact noI|apply And.intro)
    all_goals first
     |(show l.length+1=(l++[c]).length;simp)
     |exact(λi hi=>j8 l c i hi)
     |(show 0+1=(l++[c]).length;rw[hql rfl];rfl)
     |(
      intro i hi;have:i=0:=om
      subst this;rw[show l=[] from hql rfl];rfl)
   ·rw [if_neg h33] at hrest;rw[<-hrest];by_cases h33':c.toNat<33
    ·refine brT (pn om) ?_;conv=>whnf
     repeat((first|apply Fr|apply Tr);conv=>whnf)
     exact rZ6
    ·refine brF (po om) ?_;conv=>whnf
     refine brT (pn om) ?_;conv=>whnf
     repeat((first|apply Fr|apply Tr);conv=>whnf)
     exact rZ6
  ·have c0':k=s.length:=(by have h:¬ (k:Int)<s.length:=py c0;omega);subst c0';rw [f8] at hrest;simp only [tcut] at hrest;conv=>whnf
   by_cases hl0:l=[]
   ·subst hl0;rw [if_pos rfl] at hrest;rw[<-hrest];apply Fr;conv=>whnf
    by_cases hls:ls=[]
    ·rw[if_pos hls];subst hls;exact rY6
    ·rw[if_neg hls];have:=g9.2 hls;conv=>whnf
     refine⟨⟨(by cases ls with
      |nil=>exact absurd rfl hls
      |cons a b=>rfl),rfl,.inr rfl,λi hi=>rfl⟩,(show decide ((ls.length:Int) > 0)=true from pn om),True.intro⟩
   ·try exact absurd (hql rfl) hl0
    all_goals
     have hl1:1<=l.length:=g9.2 hl0;rw [if_neg hl0] at hrest;rw[<-hrest];refine brT (pn om) ?_;conv=>whnf
     refine⟨λi _=>⟨_,rfl⟩,?_⟩;rw[xu];conv=>whnf
     refine⟨om,?_⟩;conv=>whnf
     refine⟨⟨rfl,(show ls.length+1=(ls++[l]).length by simp),.inr rfl,zh ls l _ rfl⟩,(show decide (((ls.length+1:Nat):Int) > 0)=true from pn om),True.intro⟩
theorem jc2:∀ (m:Nat) (r l:Ls) (ls k:List Ls),tcut m r l ls=some k->k≠[]/\k.length<=ls.length+r.length+1
 |0,_,_,_,_,h=>by cases h
 |m+1,[],l,ls,k,h=>by
  simp only [tcut] at h;split at h
  ·split at h
   ·cases h
   ·rename_i h2;cases h;exact⟨h2,om⟩
  ·cases h;exact⟨sm,sm⟩
 |m+1,c :: r,l,ls,k,h=>by
  simp only [tcut] at h;split at h
  ·split at h
   ·cases h
   ·obtain⟨h1,h2⟩:=jc2 m _ _ _ _ h;exact ⟨h1,by simp at h2 ⊢;omega⟩
  ·split at h
   ·split at h
    ·cases h
    ·obtain⟨h1,h2⟩:=jc2 m _ _ _ _ h;exact ⟨h1,by simp at h2 ⊢;omega⟩
   ·split at h
    ·obtain⟨h1,h2⟩:=jc2 m _ _ _ _ h;exact ⟨h1,by simp at h2 ⊢;omega⟩
    ·cases h
theorem qr6{l:List Ls}(h:∀ x ∈ l,okL x):(labs l).length<=64 * l.length:=by
 induction l with
 |nil=>exact pu _
 |cons a l ih =>
  have h1:=h a (l6 ..);have h2:=ih (λx hx=>h x (gt _ hx));show(lab a++labs l).length<=64 * (l.length+1);rw[pq,xm];have:=h1.2;omega
theorem xc4(z:Bool)(l:List Ls)(hl:l.length<=1000000)(hb:¬ (l.all okB=true/\(mk l).length<=255)):FnOk Tryz.prog 132 [.d (.str [0]),.d (.sl z l.length 1 (strs l))] (.tup [.d (.str []),.d (.int .i64 (if l.all okB=true then 7 else 2))]):=by
 refine qi (TT:=TT) (IN:=qd []) qe qg mixed 1000 Tryz.func132 rfl (qb Tryz.func132 (by kernel_rfl) rfl) rfl 53 (by kernel_rfl) ?_;conv=>whnf
 refine oD (zo [0]) rfl rfl ?_;conv=>whnf
 refine⟨λh=>absurd h (by decide),λ_=>?_⟩;conv=>whnf
 have hml:(labs l).length+1=(mk l).length:=by rw[<-x9,pq];rfl
 refine .inv Nat (λi=>i<=l.length/\∀ x ∈ l.take i,okL x) (λi=>[(6,.d (.int .i64 ((labs (l.take i)).length+1:Nat))),(19,.d (.int .i64 i))]) (λ_=>[]) (λi=>l.length - i) ⟨0,[],⟨pv _,λx hx=>by simp at hx⟩,?_⟩ ?_
 ·exact rY6
 intro i hi;obtain⟨hi,hok⟩:=hi;conv=>whnf
 have htl:=qr6 hok;rw [o4] at htl;refine⟨λc1=>?_,λc1=>?_⟩
 ·have c1:(i:Int)<l.length:=px c1;have hil:i<l.length:=om
  obtain⟨q,hq⟩:∃ q,l[i]?.getD []=q:=⟨_,rfl⟩;have hq2:l[i]? = some q:=by rw[<-hq,pp hil];rfl
  have htk:l.take (i+1)=l.take i++[q]:=by rw[o3,hq2];rfl
  have hw1:=w64s i om;have hno:¬ okL q->(if l.all okB=true then (7:Int) else 2)=2:=λhn=>if_neg (λh=>hn (all_ok.1 h q (ov hq2)))
  conv=>whnf
  refine⟨om,?_⟩;conv=>whnf
  rw[pr,hq];by_cases hq0:q.length=0
  ·rw[hno (λh=>by have:=h.1;omega)];refine brT (by rw[oy];omega) ?_;conv=>whnf
   repeat((first|apply Fr|apply Tr);conv=>whnf)
   exact rZ6
  refine brF (by rw[oo];omega) ?_;conv=>whnf
  by_cases hq1:q.length<=63
  case neg =>
   rw[hno (λh=>by have:=h.2;omega)];refine brT (pn om) ?_;conv=>whnf
   repeat((first|apply Fr|apply Tr);conv=>whnf)
   exact rZ6
  refine brF (po om) ?_;conv=>whnf
  refine⟨i+1,[],⟨hil,λx hx=>?_⟩,om,?_⟩
  ·rw [htk] at hx;rcases ow.1 hx with hx|hx
   ·exact hok x hx
   ·simp only [m9] at hx;subst hx;exact⟨om,hq1⟩
  conv=>whnf
  have hcat:labs (l.take (i+1))=labs (l.take i)++lab q:=by rw[htk,ql6]
  rw[hw1,hcat,pq,xm,qc (1+(q.length:Int)) om,qc _ om,show(((labs (l.take i)).length+1:Nat):Int)+(1+(q.length:Int))=(((labs (l.take i)).length+(1+q.length)+1:Nat):Int) by omega]
  exact rZ6
 ·have c1:¬ (i:Int)<l.length:=py c1;rw [gr om] at hok;rw[gr om];have hall:=all_ok.2 hok;rw[if_pos hall];conv=>whnf
  refine brT (pn (by
   have:¬ (mk l).length<=255:=λh=>hb ⟨hall,h⟩
   omega)) ?_
  exact rY6
theorem ym4(s:Ls):FnOk Tryz.prog 98 [.d (.str s)] (.tup [.d (.str (jb s).1),.d (.int .i64 (jb s).2)]):=by
 refine qi (TT:=TT) (IN:=qd []) qe qg mixed 1000 Tryz.func98 rfl (qb Tryz.func98 (by kernel_rfl) rfl) rfl 27 (by kernel_rfl) ?_;conv=>whnf
 refine⟨λh1=>?_,λh1=>?_⟩
 ·have h1:s.length > 2048:=by have:=px h1;omega
  rw[show jb s=([],7) by unfold jb;rw[if_pos h1]];exact rY6
 have h1:¬ s.length > 2048:=by have:=py h1;omega
 conv=>whnf
 refine⟨λh2=>?_,λh2=>?_⟩
 ·have h2:s=[46]:=by simpa using h2
  rw[show jb s=([0],0) by unfold jb;rw[if_neg h1,if_pos h2]];exact rY6
 have h2:s≠[46]:=by simpa using h2
 have he:jb s=match tcut (s.length+1) s [] [] with
  |none=>([],6)
  |some ls=>if ls.all okB=true/\(mk ls).length<=255 then (mk ls,0) else ([],7):=by unfold jb;rw[if_neg h1,if_neg h2];try rfl
 rw[he];conv=>whnf
 refine .one (.data _ (xt2 s om) rfl (by cases tcut (s.length+1) s [] [] <;> rfl) ?_);have ho:=jc2 (s.length+1) s [] [];cases htc:tcut (s.length+1) s [] [] with
 |none =>
  conv=>whnf
  repeat((first|apply Fr|apply Tr);conv=>whnf)
  exact rZ6
 |some ls =>
  obtain⟨o1,o2⟩:=ho ls htc;simp only [mz] at o2;conv=>whnf
  repeat((first|apply Fr|apply Tr);conv=>whnf)
  by_cases hb:ls.all okB=true/\(mk ls).length<=255
  ·refine oD (xl1 false ls o1 (all_ok.1 hb.1) hb.2) rfl rfl ?_;simp only[if_pos hb];conv=>whnf
   repeat((first|apply Fr|apply Tr);conv=>whnf)
   exact rZ6
  ·refine oD (xc4 false ls om hb) rfl rfl ?_;simp only[if_neg hb];by_cases ha:ls.all okB=true
   ·rw[if_pos ha];conv=>whnf
    repeat((first|apply Fr|apply Tr);conv=>whnf)
    exact rZ6
   ·rw[if_neg ha];conv=>whnf
    repeat((first|apply Fr|apply Tr);conv=>whnf)
    exact rZ6
theorem qe1{B:Nat}{w:Ls}{u:Nat}(h:yi B w=some u):u<=2 ^ B - 1:=by
 unfold yi at h;split at h
 ·rename_i v hv;cases h;exact Lib.parseUintB_le hv
 ·cases h
theorem zx5(o:Option Ls):zc3 o = .tup [.d (.str (o.getD [])),.d (.bool o.isSome)]:=by cases o <;> rfl
theorem zb0:∀ (k:Nat) (s:Ls),∀ w ∈ cutN k s,w.length<=s.length
 |0,s,w,h=>by simp [cutN] at h;rw [h];exact pu _
 |k+1,s,w,h=>by
  simp only [cutN] at h;split at h
  ·simp at h;rw [h];exact pu _
  ·rcases pz.1 h with rfl|h
   ·rw[o4];omega
   ·have:=zb0 k _ w h;rw [ou] at this;omega
def qf4(o:Option RR):SV:=match o with
 |some r=>.tup [r.V,.d (.int .i64 0)]
 |none=>.tup [(RR.mk [] 0 0 0 []).V,.d (.int .i64 6)]
theorem zz3(s:Ls)(hs:s.length<=1000000):FnOk Tryz.prog 100 [.d (.str s)] (qf4 (za s)):=by
 refine qi (TT:=TT) (IN:=qd []) qe qg mixed 1000 Tryz.func100 rfl (qb Tryz.func100 (by kernel_rfl) rfl) rfl 100 (by kernel_rfl) ?_;conv=>whnf
 refine oD (zy1 s hs) rfl rfl ?_;have hle:=zb0 5 s;have hpr:za s=match qc9 (cutN 5 s) with
  |some r=>if r.check=true/\r.line=s then some r else none
  |none=>none:=rfl
 generalize cutN 5 s=ws at hle hpr ⊢;conv=>whnf
 by_cases h5:ws.length=5
 case neg =>
  have:qc9 ws=none:=by
   unfold qc9;split
   ·simp at h5
   ·rfl
  rw [this] at hpr;simp only at hpr;rw[hpr];refine brT (by rw[bne_iff_ne];omega) ?_;exact rY6
 refine brF (by rw[bne_eq_false_iff_eq];omega) ?_;obtain⟨w0,w1,w2,w3,w4,rfl⟩:∃ a b c d e,ws=[a,b,c,d,e]:=by
  match ws,h5 with
  |[a,b,c,d,e],_=>exact⟨a,b,c,d,e,rfl⟩
 have l0:=hle w0 sm;have l1:=hle w1 sm;have l2:=hle w2 sm;have l3:=hle w3 sm;have l4:=hle w4 sm;clear hle;simp only [qc9] at hpr;conv=>whnf
 refine⟨sm,?_⟩;conv=>whnf
 refine oD (ym4 w0) rfl rfl ?_;conv=>whnf
 refine⟨sm,?_⟩;conv=>whnf
 refine oD (yf2 w1 om) rfl rfl ?_;conv=>whnf
 refine⟨sm,?_⟩;conv=>whnf
 refine oD (yf3 w2 om) rfl rfl ?_;conv=>whnf
 refine⟨sm,?_⟩;conv=>whnf
 refine oD (yf3 w3 om) rfl rfl ?_;conv=>whnf
 refine⟨sm,?_⟩;conv=>whnf
 have hu:=xg9 w4;rw [zx5] at hu;refine oD hu rfl rfl ?_;conv=>whnf
 by_cases hp:(jb w0).2=0
 case neg =>
  have:za s=none:=by
   rw[hpr];split
   ·rename_i r hr;split at hr
    ·rw [if_neg hp] at hr;cases hr
    ·cases hr
   ·rfl
  rw[this];refine brT (by rw[bne_iff_ne];exact hp) ?_;conv=>whnf
  repeat((first|apply Fr|apply Tr);conv=>whnf)
  exact rZ6
 refine brF (by rw[bne_eq_false_iff_eq];exact hp) ?_;conv=>whnf
 cases hw1:yi 32 w1 with
 |none =>
  have:za s=none:=by
   rw[hpr,hw1]
  rw[this];apply Tr;conv=>whnf
  repeat((first|apply Fr|apply Tr);conv=>whnf)
  exact rZ6
 |some t =>
 have hv1:=jc0 hw1;have hl1:=qe1 hw1;rw[hv1];apply Fr;conv=>whnf
 cases hw2:yi 16 w2 with
 |none =>
  have:za s=none:=by
   rw[hpr,hw2];cases yi 32 w1 <;> rfl
  rw[this];apply Tr;conv=>whnf
  repeat((first|apply Fr|apply Tr);conv=>whnf)
  exact rZ6
 |some c =>
 have hv2:=jc0 hw2;have hl2:=qe1 hw2;rw[hv2];apply Fr;conv=>whnf
 cases hw3:yi 16 w3 with
 |none =>
  have:za s=none:=by
   rw[hpr,hw3];cases yi 32 w1 <;> cases yi 16 w2 <;> rfl
  rw[this];apply Tr;conv=>whnf
  repeat((first|apply Fr|apply Tr);conv=>whnf)
  exact rZ6
 |some y =>
 have hv3:=jc0 hw3;have hl3:=qe1 hw3;rw[hv3];apply Fr;conv=>whnf
 cases hu4:qj5 w4 with
 |none =>
  have:za s=none:=by
   rw[hpr,hw1,hw2,hw3,hu4]
  rw[this];apply Tr;conv=>whnf
  repeat((first|apply Fr|apply Tr);conv=>whnf)
  exact rZ6
 |some d =>
 apply Fr;conv=>whnf
 have hl1:t<=4294967295:=hl1;have hl2:c<=65535:=hl2;have hl3:y<=65535:=hl3;rw[show IntKind.u16.wrap (y:Int)=(y:Int) by rw[IntKind.wrap_u16];omega,show IntKind.u16.wrap (c:Int)=(c:Int) by rw[IntKind.wrap_u16];omega,show IntKind.u32.wrap (t:Int)=(t:Int) by rw[IntKind.wrap_u32'];omega];refine oD (yy5 ⟨(jb w0).1,y,c,t,d⟩ ⟨by constructor <;> simp <;> omega,by constructor <;> simp <;> omega,by constructor <;> simp <;> omega⟩) rfl rfl ?_;rw [hw1,hw2,hw3,hu4] at hpr;simp only [if_pos hp] at hpr;have hV:(RR.mk (jb w0).1 y c t d).V = .agg [.d (.str (jb w0).1),.d (.int .u16 y),.d (.int .u16 c),.d (.int .u32 t),.d (.str d)]:=rfl;cases hck:(RR.mk (jb w0).1 y c t d).check with
 |false =>
  have:za s=none:=by rw[hpr,if_neg (by rw[hck];simp)]
  rw[this,show(RR.mk (jb w0).1 y c t d).lineV=([],2) by unfold RR.lineV;rw[hck];rfl];conv=>whnf
  repeat((first|apply Fr|apply Tr);conv=>whnf)
  exact rZ6
 |true =>
  rw[show(RR.mk (jb w0).1 y c t d).lineV=((RR.mk (jb w0).1 y c t d).line,0) by unfold RR.lineV;rw[hck];rfl];by_cases hl:(RR.mk (jb w0).1 y c t d).line=s
  ·have:za s=some ⟨(jb w0).1,y,c,t,d⟩:=by rw[hpr,if_pos ⟨hck,hl⟩]
   rw[this];conv=>whnf
   repeat((first|apply Fr|apply Tr);conv=>whnf)
   refine brF (by simpa using hl) ?_;exact rY6
  ·have:za s=none:=by rw[hpr,if_neg (λh=>hl h.2)]
   rw[this];conv=>whnf
   repeat((first|apply Fr|apply Tr);conv=>whnf)
   refine brT (by simpa using hl) ?_;exact rY6
theorem xp1{ws:List Ls}{r:RR}(h:qc9 ws=some r):r.In:=by
 unfold qc9 at h;split at h
 ·split at h
  ·rename_i t c y d e1 e2 e3 e4;split at h
   ·cases h;have b1:=qe1 e1;have b2:=qe1 e2;have b3:=qe1 e3;exact⟨⟨Int.natCast_nonneg _,Int.ofNat_le.2 b3⟩,⟨Int.natCast_nonneg _,Int.ofNat_le.2 b2⟩,⟨Int.natCast_nonneg _,Int.ofNat_le.2 b1⟩⟩
   ·cases h
  ·cases h
 ·cases h
theorem xb4{s:Ls}{r:RR}(h:za s=some r):r.In:=by
 unfold za at h;split at h
 ·rename_i q hq;split at h
  ·cases h;exact xp1 hq
  ·cases h
 ·cases h
def rrF(l:List RR)(j:Nat):List DV:=(l.getD j default).enc
def rdB(F:Nat->List SV)(n m:Nat)(G:Nat->List DV):List KB:=[.cells 79 [.all 1,.all 2],.rows 58 2 (n+1) F,.row 32 2 m .iff G]
def recK(F:Nat->List SV)(n m:Nat)(G:Nat->List DV)(l:List RR)(s:Ls):SV × List KB :=
 if 0<m\/l.length=256 then (.d (.bool false),rdB F n m G++[.row 62 5 l.length .iff (rrF l)]) else match za s with
  |none=>(.d (.bool false),rdB F n m G++[.row 62 5 l.length .iff (rrF l)])
  |some r=>(.d (.bool true),rdB (oneS n 1 [.all 4] F) n m G++[.gone,.row 62 5 (l++[r]).length .iff (rrF (l++[r]))])
theorem ja8(x:DV):SubV (.d x) (.d x):=by cases x <;> exact rfl
theorem yj1(ρ:List Nat):∀ ds:List DV,SubL (renL ρ (ds.map .d)) (ds.map .d)
 |[]=>True.intro
 |x :: l=>⟨ja8 x,yj1 ρ l⟩
def DatF(F:Nat->List SV)(n:Nat):Prop:=∀ i,i<n->∃ ds:List DV,F i=ds.map .d
theorem qu1{F F':Nat->List SV}{n:Nat}{ρ:List Nat}(hd:DatF F n)(he:∀ i,i<n->F' i=F i)(hn:SubL (renL ρ (F n)) (F' n)):∀ i,i<n+1->SubL ((λi=>renL ρ (F i)) i) (F' i):=λi hi=>by
 rcases ox i n with h|h
 ·obtain⟨ds,e⟩:=hd i h;rw[he i h];show SubL (renL ρ (F i)) (F i);rw[e];exact yj1 ρ ds
 ·obtain rfl:i=n:=om
  exact hn
theorem je3(F:Nat->List SV)(n:Nat)(x a b:SV)(h:F n=[a,b]):oneS n 1 [x] F n=[a,x]:=by
 unfold oneS;rw[if_pos rfl,h];rfl
theorem qu5(F:Nat->List SV){n i:Nat}(vs:List SV)(h:i<n):oneS n 1 vs F i=F i:=by
 unfold oneS;rw[if_neg om]
theorem jr3(l:List RR)(r:RR)(i:Nat)(hi:i<l.length+1):catF l.length (rrF l) (qs r.enc 5) i=rrF (l++[r]) i:=by
 unfold catF rrF;split
 ·rename_i h;rw[List.getD,List.getD,mn h]
 ·rename_i h;obtain rfl:i=l.length:=om
  rw[ly,List.getD,m7 (pu _),ly];rfl
theorem xu3(F:Nat->List SV)(n m:Nat)(G:Nat->List DV)(l:List RR)(apex s:Ls)(hF:F n=[.d (.str apex),.all 3])(hD:DatF F n)(hn:n<=1000)(hl:l.length<=1000)(hs:s.length<=1000000) :
 COk Tryz.prog 62 [.ptr 0 0,.d (.str s)] (rdB F n m G++[.row 62 5 l.length .iff (rrF l)]) (λr k=>r=(recK F n m G l s).1/\k=(recK F n m G l s).2):=by
 refine yq (TT:=TT) (IN:=qd []) qe qg mixed 1000 Tryz.func62 rfl (qb Tryz.func62 (by kernel_rfl) rfl) 63 (by kernel_rfl) ?_;conv=>whnf
 refine brF (po om) ?_;conv=>whnf
 refine⟨λh1=>?_,λh1=>?_⟩
 ·have h1:0<m:=by have h:(m:Int) > 0:=px h1;omega
  rw[show recK F n m G l s=(.d (.bool false),rdB F n m G++[.row 62 5 l.length .iff (rrF l)]) from if_pos (.inl h1)];conv=>whnf
  repeat((first|apply Fr|apply Tr);conv=>whnf)
  refine⟨[0,1,2,3],_,_,rfl,rfl,?_,?_,rfl,rfl⟩
  ·exact rfl
  ·conv=>whnf
   repeat'(first|exact ⟨⟩|exact rfl|exact(λ_ _ _ _ h=>⟨jq _,h⟩)|exact λ_=>Iff.rfl|exact λ_ _=>rfl|apply And.intro)
   all_goals exact qu1 hD (λ_ _=>rfl) (by rw[hF];exact⟨rfl,rfl,True.intro⟩)
 have h1:¬ 0<m:=by have h:¬ (m:Int) > 0:=py h1;omega
 conv=>whnf
 have hw:IntKind.i64.wrap (((n+1:Nat):Int) - 1)=(n:Int):=by rw[qc _ om];omega
 rw[hw];refine⟨om,?_⟩;conv=>whnf
 rw[pr,hF];conv=>whnf
 refine⟨λh2=>?_,λh2=>?_⟩
 ·have h2:l.length=256:=by simp at h2;omega
  rw[show recK F n m G l s=(.d (.bool false),rdB F n m G++[.row 62 5 l.length .iff (rrF l)]) from if_pos (.inr h2)];conv=>whnf
  repeat((first|apply Fr|apply Tr);conv=>whnf)
  refine⟨[0,1,2,3],_,_,rfl,rfl,?_,?_,rfl,rfl⟩
  ·exact rfl
  ·conv=>whnf
   repeat'(first|exact ⟨⟩|exact rfl|exact(λ_ _ _ _ h=>⟨jq _,h⟩)|exact λ_=>Iff.rfl|exact λ_ _=>rfl|apply And.intro)
   all_goals exact qu1 hD (λ_ _=>rfl) (by rw[hF];exact⟨rfl,rfl,True.intro⟩)
 have h2:¬ l.length=256:=by simp at h2;omega
 have hrk:recK F n m G l s=match za s with
  |none=>(.d (.bool false),rdB F n m G++[.row 62 5 l.length .iff (rrF l)])
  |some r=>(.d (.bool true),rdB (oneS n 1 [.all 4] F) n m G++[.gone,.row 62 5 (l++[r]).length .iff (rrF (l++[r]))]):=if_neg (by rintro (h|h);exact h1 h;exact h2 h)
 rw[hrk];conv=>whnf
 have hpr:=zz3 s hs;cases hp:za s with
 |none =>
  rw [hp] at hpr;refine oD hpr rfl rfl ?_;conv=>whnf
  repeat((first|apply Fr|apply Tr);conv=>whnf)
  refine⟨[0,1,2,3],_,_,rfl,rfl,?_,?_,rfl,rfl⟩
  ·exact rfl
  ·conv=>whnf
   repeat'(first|exact ⟨⟩|exact rfl|exact(λ_ _ _ _ h=>⟨jq _,h⟩)|exact λ_=>Iff.rfl|exact λ_ _=>rfl|apply And.intro)
   all_goals exact qu1 hD (λ_ _=>rfl) (by rw[hF];exact⟨rfl,rfl,True.intro⟩)
 |some r =>
  rw [hp] at hpr;refine oD hpr rfl rfl ?_;conv=>whnf
  repeat((first|apply Fr|apply Tr);conv=>whnf)
  rw[hw];refine⟨om,?_⟩;conv=>whnf
  rw[pr,hF];conv=>whnf
  refine⟨om,?_⟩;conv=>whnf
  refine⟨[0,1,2,3,6],_,_,rfl,rfl,?_,?_,rfl,rfl⟩
  ·exact rfl
  ·conv=>whnf
   repeat'(first|exact ⟨⟩|exact rfl|exact(λ_ _ _ _ h=>⟨jq _,h⟩)|exact λ_=>Iff.rfl|exact λ_ _=>rfl|apply And.intro)
   ·exact qu1 (F:=oneS n 1 [.all 6] F) (F':=oneS n 1 [.all 4] F) (λi hi=>by rw[qu5 _ _ hi];exact hD i hi) (λi hi=>by rw[qu5 _ _ hi,qu5 _ _ hi]) (by rw[je3 F n _ _ _ hF,je3 F n _ _ _ hF];exact⟨rfl,rfl,True.intro⟩)
   ·rw[pq];rfl
   ·exact jr3 l r
def rdD(z:Z)(N:Nat)(Y:Nat->List DV)(m:Nat)(G:Nat->List DV):List KB:=[.cells 79 [.all 1,.all 2],.row 58 2 N z Y,.row 32 2 m .iff G,.gone]
def zonK(z:Z)(N:Nat)(Y:Nat->List DV)(m:Nat)(G:Nat->List DV)(s:Ls):SV × List KB :=
 if 0<m\/N=64\/(jb s).2≠0 then (.d (.bool false),rdD z N Y m G) else
  (.d (.bool true),[.cells 79 [.all 4,.all 2],.gone,.row 32 2 m .iff G,.gone,.row 58 2 (N+1) z (catF N Y (qs [.str (jb s).1,.sl true 0 0 (λ_=>[])] 2))])
theorem kx(n:Nat)(z:Z):SubZ n z z:=by cases z <;> first|exact ⟨⟩|exact rfl|simp[SubZ]
theorem xu1(z:Z)(N:Nat)(Y:Nat->List DV)(m:Nat)(G:Nat->List DV)(s:Ls)(hN:N<=1000) :
 COk Tryz.prog 60 [.ptr 0 0,.d (.str s)] (rdD z N Y m G) (λr k=>r=(zonK z N Y m G s).1/\k=(zonK z N Y m G s).2):=by
 refine yq (TT:=TT) (IN:=qd []) qe qg mixed 1000 Tryz.func60 rfl (qb Tryz.func60 (by kernel_rfl) rfl) 41 (by kernel_rfl) ?_;conv=>whnf
 refine⟨λh1=>?_,λh1=>?_⟩
 ·have h1:0<m:=by have h:(m:Int) > 0:=px h1;omega
  rw[show zonK z N Y m G s=(.d (.bool false),rdD z N Y m G) from if_pos (.inl h1)];conv=>whnf
  repeat((first|apply Fr|apply Tr);conv=>whnf)
  refine⟨[0,1,2,3],_,_,rfl,rfl,?_,?_,rfl,rfl⟩
  ·exact rfl
  ·conv=>whnf
   repeat'(first|exact ⟨⟩|exact rfl|exact(λ_ _ _ _ h=>⟨jq _,h⟩)|exact λ_=>Iff.rfl|exact λ_ _=>rfl|apply And.intro)
   exact kx _ _
 have h1:¬ 0<m:=by have h:¬ (m:Int) > 0:=py h1;omega
 conv=>whnf
 refine⟨λh2=>?_,λh2=>?_⟩
 ·have h2:N=64:=by simp at h2;omega
  rw[show zonK z N Y m G s=(.d (.bool false),rdD z N Y m G) from if_pos (.inr (.inl h2))];conv=>whnf
  repeat((first|apply Fr|apply Tr);conv=>whnf)
  refine⟨[0,1,2,3],_,_,rfl,rfl,?_,?_,rfl,rfl⟩
  ·exact rfl
  ·conv=>whnf
   repeat'(first|exact ⟨⟩|exact rfl|exact(λ_ _ _ _ h=>⟨jq _,h⟩)|exact λ_=>Iff.rfl|exact λ_ _=>rfl|apply And.intro)
   exact kx _ _
 have h2:¬ N=64:=by simp at h2;omega
 conv=>whnf
 refine oD (ym4 s) rfl rfl ?_;conv=>whnf
 by_cases h3:(jb s).2=0
 ·rw[show zonK z N Y m G s=_ from if_neg (by rintro (h|h|h);exact h1 h;exact h2 h;exact h h3),h3];conv=>whnf
  repeat((first|apply Fr|apply Tr);conv=>whnf)
  refine⟨om,?_⟩;conv=>whnf
  refine⟨[0,1,2,3,5],_,_,rfl,rfl,?_,?_,rfl,rfl⟩
  ·exact rfl
  ·conv=>whnf
   repeat'(first|exact ⟨⟩|exact rfl|exact(λ_ _ _ _ h=>⟨jq _,h⟩)|exact λ_=>Iff.rfl|exact λ_ _=>rfl|apply And.intro)
   exact kx _ _
 ·rw[show zonK z N Y m G s=(.d (.bool false),rdD z N Y m G) from if_pos (.inr (.inr h3))];conv=>whnf
  refine brT (by simpa using h3) ?_;conv=>whnf
  refine⟨[0,1,2,3],_,_,rfl,rfl,?_,?_,rfl,rfl⟩
  ·exact rfl
  ·conv=>whnf
   repeat'(first|exact ⟨⟩|exact rfl|exact(λ_ _ _ _ h=>⟨jq _,h⟩)|exact λ_=>Iff.rfl|exact λ_ _=>rfl|apply And.intro)
   exact kx _ _
theorem xv3{n:Nat}(h1:100<=n)(h:n<10000000000):∃ k,2<=k/\k<=9/\10 ^ k<=n/\n<10 ^ (k+1):=by
 by_cases a3:n<1000
 ·exact⟨2,by decide,by decide,h1,a3⟩
 by_cases a4:n<10000
 ·exact⟨3,by decide,by decide,om,a4⟩
 by_cases a5:n<100000
 ·exact⟨4,by decide,by decide,om,a5⟩
 by_cases a6:n<1000000
 ·exact⟨5,by decide,by decide,om,a6⟩
 by_cases a7:n<10000000
 ·exact⟨6,by decide,by decide,om,a7⟩
 by_cases a8:n<100000000
 ·exact⟨7,by decide,by decide,om,a8⟩
 by_cases a9:n<1000000000
 ·exact⟨8,by decide,by decide,om,a9⟩
 ·exact⟨9,by decide,by decide,om,h⟩
theorem rY10{p:Prop}(h:p:=by (conv=>whnf);repeat'(first|exact ⟨⟩|exact rfl|exact λ_=>Iff.rfl|exact λ_ _=>rfl|exact renM_rests _ _|exact(pq ..).symm|exact qi2 _ _|apply And.intro)):p:=h
theorem ze3(s:Ls)(n:Nat)(h:n<10000000000)(hs:s.length<=1099511627776):COk Tryz.prog 119 [.all 0,.d (.int .u64 n),.d (.int .i64 10)] [.row 5 1 s.length .no (je s)] (λr k=>r = .all 1/\k=[.gone,.row 5 1 (s++Lib.decDigits n).length .no (je (s++Lib.decDigits n))]):=by
 refine yq (TT:=TT) (IN:=qd []) qe qg mixed 1000 Tryz.func119 rfl (qb Tryz.func119 (by kernel_rfl) rfl) 33 (by kernel_rfl) ?_;conv=>whnf
 apply Tr;conv=>whnf
 refine⟨λh1=>?_,λh1=>?_⟩
 ·have h1':n<100:=by have:=px h1;omega
  conv=>whnf
  rw[qc (n:Int) om,js5 om];refine oD (yq9 n h1') rfl rfl ?_;conv=>whnf
  have hd:(dig n).length<=3:=by unfold dig;split <;> (try split) <;> simp
  refine⟨om,?_⟩;conv=>whnf
  refine⟨[0,1],_,_,rfl,rfl,?_,?_,rfl,rfl⟩
  ·exact rfl
  ·exact rY10
 have h1':100<=n:=by have:=py h1;omega
 conv=>whnf
 obtain⟨k,k2,k9,hk1,hk2⟩:=xv3 h1' h;refine oD (yh2 n k hk1 hk2 om) rfl rfl ?_;rw[za7 hk1 hk2];have hb:=yv5 n (k+1) om hk2 om;have hks:k=2\/k=3\/k=4\/k=5\/k=6\/k=7\/k=8\/k=9:=om
 rcases hks with rfl|rfl|rfl|rfl|rfl|rfl|rfl|rfl
 all_goals
  conv=>whnf
  refine⟨by decide,?_⟩;conv=>whnf
  refine .rel _ (COk.frameX hb [1] rfl rfl rfl) (λx ks' hR=>?_);obtain⟨_,_,⟨rfl,rfl⟩,rfl,rfl⟩:=hR;conv=>whnf
  refine⟨by decide,?_⟩;conv=>whnf
  refine⟨om,?_⟩;conv=>whnf
  refine⟨[0,2],_,_,rfl,rfl,?_,?_,rfl,rfl⟩
  ·exact rfl
  ·conv=>whnf
   repeat'(first|exact ⟨⟩|exact rfl|exact λ_=>Iff.rfl|exact λ_ _=>rfl|exact renM_rests _ _|exact(pq ..).symm|exact qi2 _ _|apply And.intro)
   ·rw[pq];rfl
   ·intro i hi;refine Eq.trans ?_ (qi2 s _ i hi);unfold catF;split
    ·rfl
    ·have h3:i - s.length=0\/i - s.length=1\/i - s.length=2\/i - s.length=3\/i - s.length=4\/i - s.length=5\/i - s.length=6\/i - s.length=7\/i - s.length=8\/i - s.length=9:=by
      have hi:i<s.length+_:=hi;omega
     have hi:i<s.length+_:=hi;rcases h3 with e|e|e|e|e|e|e|e|e|e <;> first|(exfalso;omega)|(rw[e];rfl)
theorem xz9(s:Ls)(n:Nat)(h:n<10000000000)(hs:s.length<=1099511627776):COk Tryz.prog 87 [.all 0,.d (.int .i64 n),.d (.int .i64 10)] [.row 5 1 s.length .no (je s)] (λr k=>r = .all 1/\k=[.gone,.row 5 1 (s++Lib.decDigits n).length .no (je (s++Lib.decDigits n))]):=by
 refine yq (TT:=TT) (IN:=qd [(120,Tryz.f120,3)]) qe (jv qg Tryz.func120 (by kernel_rfl) (by kernel_rfl)) mixed 1000 Tryz.func87 rfl (qb Tryz.func87 (by kernel_rfl) rfl) 8 (by kernel_rfl) ?_;conv=>whnf
 refine brF (po om) ?_;conv=>whnf
 rw[show IntKind.u64.wrap (n:Int)=n by rw[IntKind.wrap_u64];omega];refine .rel _ (ze3 s n h hs) (λx ks' hR=>?_);obtain⟨rfl,rfl⟩:=hR;conv=>whnf
 refine⟨[0,1],_,_,rfl,rfl,?_,?_,rfl,rfl⟩
 ·exact rfl
 ·exact rY10
def go31:Nat->Ls->Except Int Nat
 |n,[]=>.ok n
 |n,c :: s=>if 48<=c.toNat/\c.toNat<=57 then (if 2147483647<10 * n+(c.toNat - 48) then .error 1 else go31 (10 * n+(c.toNat - 48)) s) else .error 2
def zm(s:Ls):Except Int Nat:=if s=[] then .error 2 else go31 0 s
def ifV(c:Int):SV:=.v (.iface 211 (.int .i64 c))
def kb6:Except Int Nat->SV
 | .ok n=>.tup [.d (.int .u64 n),.v .nilIface]
 | .error c=>.tup [.d (.int .u64 (if c=1 then 2147483647 else 0)),ifV c]
theorem yz8:∀ (s:Ls) (n m:Nat),n<=2147483647->go31 n s = .ok m->m<=2147483647
 |[],n,m,h,e=>by cases e;exact h
 |c :: s,n,m,h,e=>by
  unfold go31 at e;split at e
  ·split at e
   ·cases e
   ·exact yz8 s _ _ om e
  ·cases e
structure St31 where
 n:Nat
 i:Nat
theorem xt6(s:Ls)(hs:s.length<=1099511627776):FnOk Tryz.prog 133 [.d (.str s),.d (.int .i64 10),.d (.int .i64 31)] (kb6 (zm s)):=by
 refine qi (TT:=TT) (IN:=qd [(163,Tryz.f163,1)]) qe (jv qg Tryz.func163 (by kernel_rfl) (by kernel_rfl)) mixed 1000 Tryz.func133 rfl (qb Tryz.func133 (by kernel_rfl) rfl) rfl 169 (by kernel_rfl) ?_;conv=>whnf
 by_cases h0:s=[]
 ·subst h0;apply Tr;exact rY6
 rw[show zm s=go31 0 s from if_neg h0];refine brF (by simpa using h0) ?_;conv=>whnf
 repeat((first|apply Fr|apply Tr);conv=>whnf)
 refine⟨by decide,?_⟩;conv=>whnf
 rw[show IntKind.u64.wrap (IntKind.u64.wrap (1 * 2 ^ min (IntKind.u64.wrap 31).toNat IntKind.u64.bits) - 1)=2147483647 by decide];refine .inv St31 (λx=>x.i<=s.length/\x.n<=2147483647/\go31 x.n (s.drop x.i)=go31 0 s) (λx=>[(12,.d .ff),(13,.d (.int .u64 x.n)),(101,.d (.int .i64 x.i))]) (λ_=>[]) (λx=>s.length - x.i) ⟨⟨0,0⟩,[0],⟨pv _,pv _,rfl⟩,?_⟩ ?_
 ·exact rY6
 intro x hx;obtain⟨hi,hn,hgo⟩:=hx;conv=>whnf
 generalize x.n=n at hn hgo ⊢;generalize x.i=i at hi hgo ⊢;refine⟨λc0=>?_,λc0=>?_⟩
 ·have c0':i<s.length:=(by have h:(i:Int)<s.length:=px c0;omega);obtain⟨c,hc⟩:∃ c,s[i]? = some c:=⟨_,pp c0'⟩;have hb:qw s (i:Int)=(c.toNat:Int):=by unfold qw;rw[pr,hc];rfl
  have hdr:s.drop i=c :: s.drop (i+1):=by
   rw[lu c0'];rw [pp c0'] at hc;cases hc
   rfl
  rw [hdr] at hgo;have hlt:=c.toNat_lt;have hw1:=w64s i om;conv=>whnf
  refine⟨om,?_⟩;conv=>whnf
  rw[pr,hb];by_cases hd:48<=c.toNat/\c.toNat<=57
  ·refine brF (by simp;omega) ?_;conv=>whnf
   refine brT (pn om) ?_;conv=>whnf
   refine brT (pn om) ?_;conv=>whnf
   rw[show IntKind.u8.wrap ((c.toNat:Int) - 48)=((c.toNat - 48:Nat):Int) by rw[gy];omega];refine brF (po (by rw[gy];omega)) ?_;conv=>whnf
   refine brF (po om) ?_;conv=>whnf
   rw[show IntKind.u64.wrap ((n:Int) * IntKind.u64.wrap 10)=((10 * n:Nat):Int) by rw[show IntKind.u64.wrap 10=10 from rfl,IntKind.wrap_u64];omega];rw[show IntKind.u64.wrap (((10 * n:Nat):Int)+IntKind.u64.wrap ((c.toNat - 48:Nat):Int))=((10 * n+(c.toNat - 48):Nat):Int) by rw[IntKind.wrap_u64,IntKind.wrap_u64];omega];refine brF (po om) ?_;conv=>whnf
   by_cases hm:2147483647<10 * n+(c.toNat - 48)
   ·have he:go31 0 s = .error 1:=by rw[<-hgo];unfold go31;rw[if_pos hd,if_pos hm]
    rw[he];refine brT (pn om) ?_;exact rY6
   ·refine brF (po om) ?_;conv=>whnf
    refine⟨⟨10 * n+(c.toNat - 48),i+1⟩,[0],⟨c0',by show 10 * n+(c.toNat - 48)<=_;omega,?_⟩,by show s.length - (i+1)<s.length - _;omega,?_⟩
    ·rw[<-hgo];conv=>rhs;unfold go31
     rw[if_pos hd,if_neg hm]
    conv=>whnf
    rw[hw1];exact rZ6
  ·have he:go31 0 s = .error 2:=by rw[<-hgo];unfold go31;rw[if_neg hd]
   rw[he];by_cases h95:c.toNat=95
   ·rw[h95];conv=>whnf
    repeat(first
     |(refine .once ?_;conv=>whnf)
     |(apply Tr;conv=>whnf)
     |(apply Fr;conv=>whnf)
     |(refine⟨_,rfl,?_⟩;conv=>whnf)
     |(refine⟨by decide,?_⟩;conv=>whnf))
    exact rZ6
   refine brF (by simp;omega) ?_;conv=>whnf
   by_cases a1:48<=c.toNat
   ·refine brT (pn om) ?_;conv=>whnf
    refine brF (po om) ?_;conv=>whnf
    by_cases b1:97<=bits BinOp.or IntKind.u8 (c.toNat:Int) 32
    ·refine brT (pn b1) ?_;conv=>whnf
     by_cases b2:bits BinOp.or IntKind.u8 (c.toNat:Int) 32<=122
     ·refine brT (pn b2) ?_;conv=>whnf
      refine brT (pn (by rw[gy,gy,show IntKind.u8.wrap 10=10 from rfl];omega)) ?_;exact rY6
     ·refine brF (po b2) ?_;exact rY6
    ·refine brF (po b1) ?_;exact rY6
   ·refine brF (po om) ?_;conv=>whnf
    by_cases b1:97<=bits BinOp.or IntKind.u8 (c.toNat:Int) 32
    ·refine brT (pn b1) ?_;conv=>whnf
     by_cases b2:bits BinOp.or IntKind.u8 (c.toNat:Int) 32<=122
     ·refine brT (pn b2) ?_;conv=>whnf
      refine brT (pn (by rw[gy,gy,show IntKind.u8.wrap 10=10 from rfl];omega)) ?_;exact rY6
     ·refine brF (po b2) ?_;exact rY6
    ·refine brF (po b1) ?_;exact rY6
 ·have c0':i=s.length:=(by have h:¬ (i:Int)<s.length:=py c0;omega);subst c0';rw [f8] at hgo;rw[<-hgo];conv=>whnf
  repeat((first|apply Fr|apply Tr);conv=>whnf)
  exact rZ6
theorem FnOk.read{P:Program}{f:FuncId}{al:List SV}{r r':SV}(h:FnOk P f al r)(hr:∀ (w:World) (M:Nat->Prop) (u:Value),Den w M noE r u->Den w M noE r' u):FnOk P f al r' :=
 ⟨h.1,λM w vs hV hM hl hd=>(h.2 M w vs hV hM hl hd).mono λ_ _ ⟨v,h1,h2,h3⟩=>⟨v,h1,h2,hr _ _ _ h3⟩⟩
theorem yq3{w:World}{M:Nat->Prop}{a b b':SV}{u:Value}(h:Den w M noE (.tup [a,b]) u)(hb:∀ v,Den w M noE b v->Den w M noE b' v):Den w M noE (.tup [a,b']) u:=by
 cases h with
 |tup _ vs h1 h2 =>
  match vs,h1 with
  |[x,y],_ =>
   exact .tup _ [x,y] rfl λj s v hs hv=>match j with
    |0=>by cases hs;cases hv;exact h2 0 _ _ rfl rfl
    |1=>by cases hs;cases hv;exact hb _ (h2 1 _ _ rfl rfl)
    |j+2=>by simp at hs
def kc2:Except Int Nat->SV
 | .ok n=>.tup [.d (.int .u64 n),.err false]
 | .error c=>.tup [.d (.int .u64 (if c=1 then 2147483647 else 0)),ifV c]
theorem xm2(s:Ls)(hs:s.length<=1099511627776):FnOk Tryz.prog 133 [.d (.str s),.d (.int .i64 10),.d (.int .i64 31)] (kc2 (zm s)):=by
 have h:=xt6 s hs;cases hn:zm s with
 |ok n =>
  rw [hn] at h;exact FnOk.read h λw M u hu=>yq3 hu λv hv=>by cases hv;exact .err _ _ (λh=>by cases h) (λ_=>rfl)
 |error c=>rw [hn] at h;exact h
theorem yl7{s:Ls}{c:Int}(h:zm s = .error c):c=1\/c=2:=by
 have hg:∀ (s:Ls) (n:Nat),go31 n s = .error c->c=1\/c=2:=λs=>by
  induction s with
  |nil=>intro n e;cases e
  |cons a s ih =>
   intro n e;unfold go31 at e;split at e
   ·split at e
    ·cases e;exact .inl rfl
    ·exact ih _ e
   ·cases e;exact .inr rfl
 unfold zm at h;split at h
 ·cases h;exact .inr rfl
 ·exact hg s 0 h
theorem xh2(fn s:Ls)(hs:s.length<=1099511627776)(c:Int)(hc:c=1\/c=2):FnOk Tryz.prog 134 [.d (.str fn),.d (.str s),.d (.int .i64 10),.d (.int .i64 31),ifV c] (.err true):=by
 refine⟨qb Tryz.func134 (by kernel_rfl) rfl,λM w vs hV hM hl hd=>?_⟩
 match vs,hl with
 |[v0,v1,v2,v3,v4],_ =>
  have h0:=y9 (hd 0 _ v0 rfl rfl);have h1:=y9 (hd 1 _ v1 rfl rfl);have h2:=jh (hd 2 _ v2 rfl rfl);have h3:=jh (hd 3 _ v3 rfl rfl);have h4:=hd 4 _ v4 rfl rfl;subst h0 h1 h2 h3;have hsz:(⟨s.toArray⟩:ByteArray).size=s.length:=rfl;rcases hc with rfl|rfl
  ·obtain⟨t,x,hcl⟩:=qo9 hV 3 (.inr rfl);cases h4;refine(AnyPu.strconv_toError_range { Try.laysPu14 with } ⟨fn.toArray⟩ ⟨s.toArray⟩ 10 31 _ w (by rw[hsz];omega) hcl (.inr ⟨t,x,rfl⟩)).mono ?_
   rintro e w' ⟨N,rfl,_,_,hb⟩
   exact⟨_,rfl,Step.of_below _ hb,.err _ _ (λ_=>⟨_,_,rfl⟩) (λh=>by cases h)⟩
  ·obtain⟨t,x,hcl⟩:=qo9 hV 2 (.inl rfl);cases h4;refine(AnyPu.strconv_toError_syntax { Try.laysPu14 with } ⟨fn.toArray⟩ ⟨s.toArray⟩ 10 31 _ w (by rw[hsz];omega) hcl (.inr ⟨t,x,rfl⟩)).mono ?_
   rintro e w' ⟨N,rfl,_,_,hb⟩
   exact⟨_,rfl,Step.of_below _ hb,.err _ _ (λ_=>⟨_,_,rfl⟩) (λh=>by cases h)⟩
def jg8(s:Ls):Nat:=match zm s with
 | .ok n=>n
 | .error c=>if c=1 then 2147483647 else 0
def qq0(s:Ls):Bool:=match zm s with
 | .ok _=>false
 | .error _=>true
def p31V:Except Int Nat->SV
 | .ok n=>.tup [.d (.int .u64 n),.v .nilIface]
 | .error c=>.tup [.d (.int .u64 (if c=1 then 2147483647 else 0)),.err true]
theorem xy6(s:Ls)(hs:s.length<=1099511627776):FnOk Tryz.prog 99 [.d (.str s),.d (.int .i64 10),.d (.int .i64 31)] (p31V (zm s)):=by
 refine qi (TT:=TT) (IN:=qd []) qe qg mixed 1000 Tryz.func99 rfl (qb Tryz.func99 (by kernel_rfl) rfl) rfl 23 (by kernel_rfl) ?_;have h:=xm2 s hs;cases hn:zm s with
 |ok n =>
  rw [hn] at h;conv=>whnf
  refine oD h rfl rfl ?_;conv=>whnf
  repeat((first|apply Fr|apply Tr);conv=>whnf)
  exact rZ6
 |error c =>
  have hc:=yl7 hn;rw [hn] at h;conv=>whnf
  refine oD h rfl rfl ?_;conv=>whnf
  repeat((first|apply Fr|apply Tr);conv=>whnf)
  refine oD (xh2 _ s hs c hc) rfl rfl ?_;exact rY6
theorem zt8(s:Ls)(hs:s.length<=1099511627776):FnOk Tryz.prog 99 [.d (.str s),.d (.int .i64 10),.d (.int .i64 31)] (.tup [.d (.int .u64 (jg8 s:Nat)),.err (qq0 s)]):=by
 have h:=xy6 s hs;unfold jg8 qq0;cases hn:zm s with
 |ok n =>
  rw [hn] at h;exact FnOk.read h λw M u hu=>yq3 hu λv hv=>by cases hv;exact .err _ _ (λh=>by cases h) (λ_=>rfl)
 |error c =>
  rw [hn] at h;rcases yl7 hn with rfl|rfl
  ·exact h
  ·exact h
theorem zy6(s:Ls)(c:UInt8):FnOk Tryz.prog 97 [.d (.str s),.d (.str [c])] (.d (.int .i64 (Lib.indexByte s c))):=by
 refine⟨qb Tryz.func97 (by kernel_rfl) rfl,λM w vs hV hM hl hd=>?_⟩
 match vs,hl with
 |[v0,v1],_ =>
  have h0:=y9 (hd 0 _ v0 rfl rfl);have h1:=y9 (hd 1 _ v1 rfl rfl);subst h0 h1;refine(Any.stringslite_Index_one { Try.lays143 with } ⟨s.toArray⟩ c w).mono ?_
  rintro e w' ⟨rfl,rfl⟩
  exact⟨_,rfl,Step.refl _ _,.d (.int _ _)⟩
def cutB(s:Ls)(c:UInt8):Ls × Ls × Bool :=
 if Lib.indexByte s c<0 then (s,[],false) else (s.take (Lib.indexByte s c).toNat,s.drop ((Lib.indexByte s c).toNat+1),true)
theorem jj0:∀ (s:Ls) (c:UInt8),Lib.indexByte s c<s.length
 |[],_=>by show(-1:Int)<0;omega
 |b :: s,c=>by
  have h1:=jj0 s c;have h2:=Lib.indexByte_ge s c;simp only[Lib.indexByte,pw];split
  ·omega
  ·split <;> omega
theorem jf1(s:Ls)(c:UInt8)(hs:s.length<=1099511627776):FnOk Tryz.prog 27 [.d (.str s),.d (.str [c])] (.tup [.d (.str (cutB s c).1),.d (.str (cutB s c).2.1),.d (.bool (cutB s c).2.2)]):=by
 refine qi (TT:=TT) (IN:=qd [(59,Tryz.f59,2)]) qe (jv qg Tryz.func59 (by kernel_rfl) (by kernel_rfl)) mixed 1000 Tryz.func27 rfl (qb Tryz.func27 (by kernel_rfl) rfl) rfl 11 (by kernel_rfl) ?_;conv=>whnf
 refine oD (zy6 s c) rfl rfl ?_;have hlt:=jj0 s c;unfold cutB;conv=>whnf
 by_cases h:Lib.indexByte s c<0
 ·refine brF (po om) ?_;rw[if_pos h];conv=>whnf
  exact⟨rfl,rfl,rfl,trivial⟩
 ·rw[if_neg h];refine brT (pn om) ?_;generalize Lib.indexByte s c=i at h hlt ⊢;obtain⟨i,rfl⟩:=Int.eq_ofNat_of_zero_le (by omega:0<=i);conv=>whnf
  refine⟨om,?_⟩;conv=>whnf
  have e1:IntKind.i64.wrap ((i:Int)+(([c]:Ls).length:Nat))=((i+1:Nat):Int):=by rw[qc _ (by simp only[pw,mz];omega)];simp only[pw,mz];omega
  rw[e1];refine⟨om,?_⟩;conv=>whnf
  have e2:sub s 0 (i:Int)=s.take i:=by simp[sub]
  have e3:sub s ((i+1:Nat):Int) (s.length:Int)=s.drop (i+1):=by
   unfold sub;rw[pr,pr,<-ou,mu]
  rw[e2,e3];exact⟨rfl,rfl,rfl,trivial⟩
def atsR:Nat->Ls->Bool->List Int->Option (List Int)
 |0,_,_,l=>some l
 |n+1,r,b,l=>bif b then (match zm (cutB r 32).1 with
  | .ok k=>atsR n (cutB r 32).2.1 (cutB r 32).2.2 (l++[(k:Int)])
  | .error _=>none) else some l
def uh(s:Ls):Option (Int × Bool × List Int):=match yi 32 (cutB s 32).1 with
 |none=>none
 |some a=>match atsR (s.length+1) (cutB s 32).2.1 (cutB s 32).2.2 [] with
  |none=>none
  |some l=>some ((a:Int),Nat.beq l.length 0,l)
theorem qm9(s:Ls)(c:UInt8):(cutB s c).1.length<=s.length/\(cutB s c).2.1.length<=s.length/\((cutB s c).2.2=true->(cutB s c).2.1.length<s.length):=by
 have hl:=jj0 s c;unfold cutB;split
 ·exact⟨pu _,pv _,λh=>by cases h⟩
 ·refine⟨by simp[o4];omega,by simp[ou],λ_=>?_⟩;simp only[ou];omega
structure StH where
 n:Nat
 r:Ls
 b:Bool
 l:List Int
def intF(l:List Int)(j:Nat):List DV:=[.int .i64 (l.getD j 0)]
def hosM(B1 B3:KB)(m:Nat)(G:Nat->List DV):Option (Int × Bool × List Int)->SV × List KB
 |none=>(.d (.bool false),[.cells 79 [.all 1,.all 2],B1,.row 32 2 m .iff G,B3])
 |some h=>(.d (.bool true),[.cells 79 [.all 1,.all 4],B1,.gone,B3,.row 32 2 (m+1) .iff (catF m G (qs (qk6 h) 2))])
def hosK(B1 B3:KB)(m:Nat)(G:Nat->List DV)(s:Ls):SV × List KB:=hosM B1 B3 m G (if m=64 then none else uh s)
def hosA(a:Int):Option (List Int)->Option (Int × Bool × List Int)
 |none=>none
 |some l=>some (a,Nat.beq l.length 0,l)
theorem jp3{s:Ls}{a:Nat}(h:yi 32 (cutB s 32).1=some a):uh s=hosA a (atsR (s.length+1) (cutB s 32).2.1 (cutB s 32).2.2 []):=by
 unfold uh;rw[h];show(match atsR (s.length+1) (cutB s 32).2.1 (cutB s 32).2.2 [] with|none=>none|some l=>some ((a:Int),Nat.beq l.length 0,l))=_;cases atsR (s.length+1) (cutB s 32).2.1 (cutB s 32).2.2 [] <;> rfl
theorem jt0{n k:Nat}{r:Ls}{l:List Int}(h:zm (cutB r 32).1 = .ok k):atsR (n+1) r true l=atsR n (cutB r 32).2.1 (cutB r 32).2.2 (l++[(k:Int)]):=by
 rw[atsR,h];rfl
theorem yv7{n:Nat}{c:Int}{r:Ls}{l:List Int}(h:zm (cutB r 32).1 = .error c):atsR (n+1) r true l=none:=by
 rw[atsR,h];rfl
theorem jq7(n:Nat)(r:Ls)(l:List Int):atsR n r false l=some l:=by cases n <;> rfl
theorem xk5{s:Ls}{k:Nat}(h:zm s = .ok k):k<=2147483647:=by
 unfold zm at h;split at h
 ·cases h
 ·exact yz8 s 0 k om h
theorem xl7(l:List Int)(k:Int)(i:Nat)(hi:i<l.length+1):catF l.length (intF l) (qs [.int .i64 k] 1) i=intF (l++[k]) i:=by
 unfold catF intF;split
 ·rename_i h;rw[List.getD,List.getD,mn h]
 ·rename_i h;obtain rfl:i=l.length:=om
  rw[ly,List.getD,m7 (pu _),ly];rfl
def ZonB(B1 B3:KB):Prop:=(∃ F n l apex,B1 = .rows 58 2 (n+1) F/\B3 = .row 62 5 (List.length l) .iff (rrF l)/\F n=[.d (.str apex),.all 3]/\DatF F n)\/(∃ Y,B1 = .row 58 2 0 .iff Y/\B3 = .gone)
theorem xu5(B1 B3:KB)(hB:ZonB B1 B3)(m:Nat)(G:Nat->List DV)(s:Ls)(hm:m<=1000)(hs:s.length<=1000000) :
 COk Tryz.prog 61 [.ptr 0 0,.d (.str s)] [.cells 79 [.all 1,.all 2],B1,.row 32 2 m .iff G,B3]
  (λr k=>r=(hosK B1 B3 m G s).1/\k=(hosK B1 B3 m G s).2):=by
 have hfin:∀ F n l apex,B1 = .rows 58 2 (n+1) F->B3 = .row 62 5 (List.length l) .iff (rrF l)->F n=[.d (.str apex),.all 3]->DatF F n->∀ ρ:List Nat,posN 3 ρ 0=some 3->∀ i,i<n+1->SubL ((λi=>renL ρ (F i)) i) (F i):=by
  refine λF n l apex _ _ hF hD ρ h3=>qu1 hD (λ_ _=>rfl) ?_
  rw[hF];refine⟨rfl,?_,True.intro⟩;show SubV (match posN 3 ρ 0 with|some p=>SV.all p|none=>.any) _;rw[h3];exact rfl
 refine yq (TT:=TT) (IN:=qd []) qe qg mixed 1000 Tryz.func61 rfl (qb Tryz.func61 (by kernel_rfl) rfl) 67 (by kernel_rfl) ?_;generalize hK:hosK B1 B3 m G s=K;rcases hB with⟨F,n,l,apex,rfl,rfl,hF,hD⟩|⟨Y,rfl,rfl⟩
 all_goals
  conv=>whnf
  refine⟨λh1=>?_,λh1=>?_⟩
  ·have h1:m=64:=by simp at h1;omega
   rw [hosK,if_pos h1] at hK;subst hK;conv=>whnf
   refine⟨[0,1,2,3],_,_,rfl,rfl,?_,?_,rfl,rfl⟩
   ·exact rfl
   ·conv=>whnf
    repeat'(first|exact ⟨⟩|exact rfl|exact(λ_ _ _ _ h=>⟨jq _,h⟩)|exact λ_=>Iff.rfl|exact λ_ _=>rfl|apply And.intro)
    all_goals exact hfin _ _ _ _ rfl rfl hF hD _ (by rfl)
  have h1:¬ m=64:=by simp at h1;omega
  rw [hosK,if_neg h1] at hK;conv=>whnf
  refine oD (jf1 s 32 om) rfl rfl ?_;obtain⟨q1,q2,q3⟩:=qm9 s 32;conv=>whnf
  refine oD (yf2 (cutB s 32).1 om) rfl rfl ?_;conv=>whnf
  refine⟨λh2=>?_,λh2=>?_⟩
  ·have h2:yi 32 (cutB s 32).1=none:=Option.isNone_iff_eq_none.1 h2;rw [show uh s=none by unfold uh;rw [h2]] at hK;subst hK;conv=>whnf
   refine⟨[0,1,2,3],_,_,rfl,rfl,?_,?_,rfl,rfl⟩
   ·exact rfl
   ·conv=>whnf
    repeat'(first|exact ⟨⟩|exact rfl|exact(λ_ _ _ _ h=>⟨jq _,h⟩)|exact λ_=>Iff.rfl|exact λ_ _=>rfl|apply And.intro)
    all_goals exact hfin _ _ _ _ rfl rfl hF hD _ (by rfl)
  obtain⟨a,ha⟩:∃ a,yi 32 (cutB s 32).1=some a:=by
   cases h:yi 32 (cutB s 32).1 with
   |none=>rw [h] at h2;cases h2
   |some a=>exact⟨a,rfl⟩
  have ha2:=qe1 ha;have ha2:a<=4294967295:=ha2;obtain⟨A,hA⟩:∃ A,A=atsR (s.length+1) (cutB s 32).2.1 (cutB s 32).2.2 []:=⟨_,rfl⟩;rw [jp3 ha,<-hA] at hK;rw[show qk1 32 (cutB s 32).1=a from jc0 ha];conv=>whnf
  have hwa:IntKind.u32.wrap (a:Int)=(a:Int):=by rw[IntKind.wrap_u32];omega
  rw[hwa];refine .nilC 4 1 3 1 (λ_=>[]) _ _ _ _ rfl rfl ?_;conv=>whnf
  refine .inv StH (λx=>atsR x.n x.r x.b x.l=A/\(x.b=true->x.r.length<x.n)/\x.r.length<=1000000/\x.l.length+x.n<=s.length+1) (λx=>[(5,.any),(6,.d (.str x.r)),(7,.d (.bool x.b))]) (λx=>[(5,.row 3 1 x.l.length .iff (intF x.l))]) (λx=>x.n) ⟨⟨s.length+1,(cutB s 32).2.1,(cutB s 32).2.2,[]⟩,[0,1,2,3,4,5],⟨hA.symm,λh=>by have h2:=q3 h;exact Nat.lt_succ_of_lt h2,by show(cutB s 32).2.1.length<=_;omega,sm⟩,?_⟩ ?_
  ·conv=>whnf
   repeat'(first|exact ⟨⟩|exact rfl|exact(λ_ _ _ _ h=>⟨jq _,h⟩)|exact λ_=>Iff.rfl|exact λ_ _=>rfl|apply And.intro)
   all_goals first|exact hfin _ _ _ _ rfl rfl hF hD _ (by rfl)|exact noI
  rintro ⟨fu,r,b,q⟩ ⟨i1,i2,i3,i4⟩
  replace i1:atsR fu r b q=A:=i1;replace i2:b=true->r.length<fu:=i2;replace i3:r.length<=1000000:=i3;replace i4:q.length+fu<=s.length+1:=i4;conv=>whnf
  cases b with
  |false =>
   apply Fr;have hA2:A=some q:=by rw[<-i1,jq7]
   rw [hA2] at hK;subst hK;conv=>whnf
   refine⟨om,?_⟩;conv=>whnf
   refine⟨[0,1,2,3,7],_,_,rfl,rfl,?_,?_,rfl,rfl⟩
   ·exact rfl
   ·conv=>whnf
    repeat'(first|exact ⟨⟩|exact rfl|exact(λ_ _ _ _ h=>⟨jq _,h⟩)|exact λ_=>Iff.rfl|exact λ_ _=>rfl|apply And.intro)
    all_goals first|exact hfin _ _ _ _ rfl rfl hF hD _ (by rfl)|exact noI
  |true =>
   apply Tr;obtain⟨fu,rfl⟩:∃ k,fu=k+1:=⟨fu - 1,by have h:r.length<fu:=i2 rfl;omega⟩;have i2:r.length<fu+1:=i2 rfl;conv=>whnf
   refine oD (jf1 r 32 om) rfl rfl ?_;obtain⟨p1,p2,p3⟩:=qm9 r 32;conv=>whnf
   refine oD (zt8 (cutB r 32).1 om) rfl rfl ?_;cases hn:zm (cutB r 32).1 with
   |error c =>
    rw [yv7 hn] at i1;rw[show qq0 (cutB r 32).1=true by unfold qq0;rw[hn]];rw [<-i1] at hK;conv=>whnf
    repeat((first|apply Fr|apply Tr);conv=>whnf)
    subst hK;refine⟨[0,1,2,3],_,_,rfl,rfl,?_,?_,rfl,rfl⟩
    ·exact rfl
    ·conv=>whnf
     repeat'(first|exact ⟨⟩|exact rfl|exact(λ_ _ _ _ h=>⟨jq _,h⟩)|exact λ_=>Iff.rfl|exact λ_ _=>rfl|apply And.intro)
     all_goals exact hfin _ _ _ _ rfl rfl hF hD _ (by rfl)
   |ok k =>
    rw [jt0 hn] at i1;have hk:=xk5 hn;rw[show qq0 (cutB r 32).1=false by unfold qq0;rw[hn],show jg8 (cutB r 32).1=k by unfold jg8;rw[hn]];conv=>whnf
    repeat((first|apply Fr|apply Tr);conv=>whnf)
    rw[show IntKind.i64.wrap (k:Int)=(k:Int) from qc _ om];refine⟨(by omega:(q.length+1) * 8<=70368744177664),?_⟩;conv=>whnf
    refine⟨⟨fu,(cutB r 32).2.1,(cutB r 32).2.2,q++[(k:Int)]⟩,[0,1,2,3,4,7],⟨i1,λh=>by have:=p3 h;show(cutB r 32).2.1.length<fu;omega,by show(cutB r 32).2.1.length<=_;omega,by show(q++[(k:Int)]).length+fu<=_;rw[pq];simp;omega⟩,gw _,?_⟩;conv=>whnf
    repeat'(first|exact ⟨⟩|exact rfl|exact(λ_ _ _ _ h=>⟨jq _,h⟩)|exact λ_=>Iff.rfl|exact λ_ _=>rfl|apply And.intro)
    all_goals first|exact hfin _ _ _ _ rfl rfl hF hD _ (by rfl)|exact(by rw[pq];rfl:q.length+1=(q++[(k:Int)]).length)|exact λj hj=>xl7 q k j hj
def xk:Ls:=[104,111,115,116,32]
theorem xr9(s:Ls)(n:Nat)(h:n<10000000000)(hs:s.length<=1099511627776):COk Tryz.prog 86 [.all 0,.d (.int .u64 n),.d (.int .i64 10)] [.row 5 1 s.length .no (je s)] (λr k=>r = .all 1/\k=[.gone,.row 5 1 (s++Lib.decDigits n).length .no (je (s++Lib.decDigits n))]):=by
 refine yq (TT:=TT) (IN:=qd []) qe qg mixed 1000 Tryz.func86 rfl (qb Tryz.func86 (by kernel_rfl) rfl) 8 (by kernel_rfl) ?_;conv=>whnf
 refine .rel _ (ze3 s n h hs) (λx ks' hR=>?_);obtain⟨rfl,rfl⟩:=hR;conv=>whnf
 refine⟨[0,1],_,_,rfl,rfl,?_,?_,rfl,rfl⟩
 ·exact rfl
 ·exact rY10
theorem xm5:∀ x,x<5->qs ([104,111,115,116,32].map (DV.int .u8)) 1 x=je xk x
 |0,_=>rfl
 |1,_=>rfl
 |2,_=>rfl
 |3,_=>rfl
 |4,_=>rfl
 |x+5,h=>absurd h om
theorem xs0(n:Nat)(h:n<10000000000):COk Tryz.prog 86 [.all 0,.d (.int .u64 n),.d (.int .i64 10)] [.row 5 1 5 .no (qs ([104,111,115,116,32].map (DV.int .u8)) 1)] (λr k=>r = .all 1/\k=[.gone,.row 5 1 (xk++Lib.decDigits n).length .no (je (xk++Lib.decDigits n))]) :=
 COk.rowPre (q:=0) rfl xm5 (xr9 xk n h (by decide))
def atsT(l:List Int):Ls:=l.flatMap λa=>32 :: Lib.decDigits a.toNat
def yj(h:Int × Bool × List Int):Ls:=xk++Lib.decDigits h.1.toNat++atsT h.2.2
def kc3(h:Int × Bool × List Int):SV:=.agg ((qk6 h).map .d)
theorem jq6{l:List Int}(h:∀ a ∈ l,0<=a/\a<10000000000):(atsT l).length<=11 * l.length:=by
 induction l with
 |nil=>exact pu _
 |cons a l ih =>
  have h1:=ih λb hb=>h b (.tail _ hb)
  have h2:=h a (.head _);have h3:=vu a.toNat om;show(32 :: Lib.decDigits a.toNat++atsT l).length<=_;simp only[pq,pw];omega
theorem xw3(b:Ls)(n:Nat)(h:n<10000000000)(hb:b.length<=549755813888):COk Tryz.prog 87 [.all 0,.d (.int .i64 n),.d (.int .i64 10)] [.row 5 1 (b.length+1) .no (catF b.length (je b) (qs [DV.int .u8 32] 1))]
 (λr k=>r = .all 1/\k=[.gone,.row 5 1 (b++32 :: Lib.decDigits n).length .no (je (b++32 :: Lib.decDigits n))]):=by
 have e:(b++[32]).length=b.length+1:=by simp
 have h1:=xz9 (b++[32]) n h om;rw [e] at h1;have h2:=COk.rowPre (k0:=[.row 5 1 (b.length+1) .no (catF b.length (je b) (qs [DV.int .u8 32] 1))]) (q:=0) (g:=catF b.length (je b) (qs [DV.int .u8 32] 1)) rfl (λx hx=>j8 b 32 x hx) h1;exact h2.imp λr k ⟨a,b⟩=>⟨a,by rw[b,mp];rfl⟩
theorem yp2(l:List Int)(a:Int):atsT (l++[a])=atsT l++32 :: Lib.decDigits a.toNat:=by unfold atsT;simp
theorem zp7(h:Int × Bool × List Int)(ha:0<=h.1/\h.1<=4294967295)(hz:∀ a ∈ h.2.2,0<=a/\a<10000000000)(hl:h.2.2.length<=4294967296):FnOk Tryz.prog 50 [kc3 h] (.d (.str (yj h))):=by
 obtain⟨a,z,l⟩:=h;refine qi (TT:=TT) (IN:=qd []) qe qg mixed 1000 Tryz.func50 rfl (qb Tryz.func50 (by kernel_rfl) rfl) rfl 27 (by kernel_rfl) ?_;obtain⟨n,rfl⟩:∃ n:Nat,a=n:=⟨a.toNat,by have:=ha.1;show a=(a.toNat:Int);omega⟩;have hn:n<10000000000:=by have h:(n:Int)<=4294967295:=ha.2;omega
 have hpl:(xk++Lib.decDigits n).length<=15:=by have:=vu n hn;rw[pq];show 5+_<=_;omega
 conv=>whnf
 rw[show IntKind.u64.wrap (n:Int)=n by rw[IntKind.wrap_u64];omega];refine .rel _ (COk.frameX (xs0 n hn) [2] rfl rfl rfl) (λx ks' hR=>?_);obtain⟨_,_,⟨rfl,rfl⟩,rfl,rfl⟩:=hR;conv=>whnf
 have e0:xk++Lib.decDigits n++atsT (l.take 0)=xk++Lib.decDigits n:=by simp[atsT]
 refine .inv Nat (λi=>i<=l.length) (λi=>[(3,.all 3),(11,.any),(15,.d (.int .i64 i))]) (λi=>[(3,.row 5 1 (xk++Lib.decDigits n++atsT (l.take i)).length .no (je (xk++Lib.decDigits n++atsT (l.take i))))]) (λi=>l.length - i) ⟨0,[0,1,2,3],pv _,?_⟩ ?_
 ·conv=>whnf
  repeat'(first|exact ⟨⟩|exact rfl|exact λ_=>Iff.rfl|exact λ_ _=>rfl|exact renM_rests _ _|exact(pq ..).symm|exact qi2 _ _|apply And.intro)
  all_goals first|exact(congrArg List.length e0).symm|(intro i _;rw[e0])
 intro i hi;have hB:(xk++Lib.decDigits n++atsT (l.take i)).length<=549755813888:=by
  have:=jq6 (l:=l.take i) λa ha=>hz a (lv ha)
  have h2:(l.take i).length<=l.length:=by rw[o4];omega
  have h3:l.length<=4294967296:=hl;rw[pq];omega
 obtain⟨B,hBd⟩:∃ B,B=xk++Lib.decDigits n++atsT (l.take i):=⟨_,rfl⟩;rw [<-hBd] at hB ⊢;conv=>whnf
 refine⟨λc0=>?_,λc0=>?_⟩
 ·have c0':i<l.length:=(by have h:(i:Int)<l.length:=px c0;omega);obtain⟨a,hq⟩:∃ a,l.getD i 0=a:=⟨_,rfl⟩;have hq2:l[i]? = some a:=by rw[<-hq,List.getD,pp c0'];rfl
  have hza:=hz a (ov hq2);obtain⟨m,rfl⟩:∃ m:Nat,a=m:=⟨a.toNat,om⟩;have htk:xk++Lib.decDigits n++atsT (l.take (i+1))=B++32 :: Lib.decDigits m:=by
   rw[o3,hq2,hBd];show xk++Lib.decDigits n++atsT (l.take i++[(m:Int)])=_;rw[yp2,mp,mp,mp];rfl
  conv=>whnf
  refine⟨by show 0<=(i:Int)/\(i:Int)<(l.length:Int);omega,?_⟩;conv=>whnf
  refine⟨om,?_⟩;conv=>whnf
  rw[pr];have hg:((↑n,z,l):Int × Bool × List Int).2.2.getD i 0=(m:Int):=hq;rw[hg];refine .rel _ (COk.frameX (xw3 B m om hB) [5] rfl rfl rfl) (λx ks' hR=>?_);obtain⟨_,_,⟨rfl,rfl⟩,rfl,rfl⟩:=hR;conv=>whnf
  have hw1:IntKind.i64.wrap ((i:Int)+1)=((i+1:Nat):Int):=by rw[qc _ (by have:=hl;show _<=(i:Int)+1/\_;have h3:l.length<=4294967296:=hl;omega)];omega
  refine⟨i+1,[0,1,2,6],c0',om,?_⟩;rw[htk];conv=>whnf
  rw[hw1];exact rZ10
 ·have c0':i=l.length:=(by have h:¬ (i:Int)<l.length:=py c0;omega);subst c0';rw [mu] at hBd;have hfin:yj ((n:Int),z,l)=B:=by rw[hBd];rfl
  rw[hfin];conv=>whnf
  refine⟨λi _=>⟨_,rfl⟩,?_⟩;rw[xu];conv=>whnf
  try exact rfl
def y7(z:Zo):Ls:=[122,111,110,101,32]++txtN z.apex
def jy(l:List RR):Ls:=l.flatMap λr=>r.line++[10]
def qk0(z:Zo):Ls:=y7 z++[10]++jy z.rrs
def ya(l:List Zo):Ls:=l.flatMap qk0
def yf(l:List (Int × Bool × List Int)):Ls:=l.flatMap λh=>yj h++[10]
def Fo.text(f:Fo):Ls:=ya f.zones++yf f.hosts
def jd(f:Fo):Ls × Int:=if f.ok then (f.text,0) else ([],2)
structure Fo.In(f:Fo):Prop where
 rr:∀ z ∈ f.zones,∀ r ∈ z.rrs,r.In
 addr:∀ h ∈ f.hosts,0<=h.1/\h.1<=4294967295
 len:∀ h ∈ f.hosts,h.2.2.length<=4294967296
theorem Fo.In.Len{f:Fo}(h:f.In):f.Len:=λa ha=>by have:=h.len a ha;omega
theorem ya5(l:List RR)(r:RR):jy (l++[r])=jy l++r.line++[10]:=by unfold jy;simp
theorem jz5(l:List Zo)(z:Zo):ya (l++[z])=ya l++qk0 z:=by unfold ya;simp
theorem yb7(l:List (Int × Bool × List Int))(h:Int × Bool × List Int):yf (l++[h])=yf l++yj h++[10]:=by unfold yf;simp
theorem jk4{l:List RR}(h:∀ r ∈ l,r.line.length<=9300):(jy l).length<=9301 * l.length:=by
 induction l with
 |nil=>exact pu _
 |cons a l ih =>
  have h1:=ih λb hb=>h b (.tail _ hb)
  have h2:=h a (.head _);show((a.line++[10])++jy l).length<=_;simp only[pq,pw,mz];omega
theorem Zo.ok_rr{z:Zo}(h:z.ok=true):∀ r ∈ z.rrs,r.check=true:=λr hr=>by
 unfold Zo.ok at h;simp only [p7,lr] at h;have:=o7.1 h.2.2.1 r hr;unfold yz at this;simp only [p7] at this;exact this.2.2.2.1
theorem zx2{z:Zo}(h:z.ok=true)(hi:∀ r ∈ z.rrs,r.In):(qk0 z).length<=2400000:=by
 have h1:=Zo.ok_len h;have h2:=qs7 (Zo.ok_name h);have h3:=jk4 (l:=z.rrs) λr hr=>qm5 (Zo.ok_rr h r hr) (hi r hr)
 unfold qk0 y7;simp only[pq,pw,mz];omega
structure Fo.Okf(f:Fo):Prop where
 one:1<=f.zones.length
 nz:f.zones.length<=64
 nh:f.hosts.length<=64
 zone:∀ z ∈ f.zones,z.ok=true
 host:∀ h ∈ f.hosts,∀ a ∈ h.2.2,0<=a/\a<64
abbrev Ho:=Int × Bool × List Int
def qo(zs:List Zo):Zo:=zs.getD (zs.length - 1) default
def zF(zs:List Zo)(q i:Nat):List SV:=if i+1=zs.length then [.d (.str (zs.getD i default).apex),.all q] else (Zo.enc (zs.getD i default)).map .d
def zE(zs:List Zo)(i:Nat):List DV:=(zs.getD i default).enc
def hF(hs:List Ho)(i:Nat):List DV:=qk6 (hs.getD i default)
def zB(q:Nat):List Zo->KB
 |[]=>.row 58 2 0 .iff (zE [])
 |a :: l=>.rows 58 2 (l.length+1) (zF (a :: l) q)
def rB:List Zo->KB
 |[]=>.gone
 |a :: l=>.row 62 5 (qo (a :: l)).rrs.length .iff (rrF (qo (a :: l)).rrs)
def hB(hs:List Ho):KB:=.row 32 2 hs.length .iff (hF hs)
def rdK(zs:List Zo)(hs:List Ho):List KB:=[.cells 79 [.all 1,.all 2],zB 3 zs,hB hs,rB zs]
def uk:List KB:=[.gone,.gone,.gone,.gone]
def wc(zs:List Zo)(hs:List Ho)(s:Ls):Option (List Zo):=if 0<hs.length\/zs.length=64\/(jb s).2≠0 then none else some (zs++[⟨(jb s).1,true,[]⟩])
def recP(zs:List Zo)(hs:List Ho)(s:Ls):Option (List Zo):=if zs=[]\/0<hs.length\/(qo zs).rrs.length=256 then none else match za s with
 |none=>none
 |some r=>some (zs.set (zs.length - 1) ⟨(qo zs).apex,false,(qo zs).rrs++[r]⟩)
def hosP(hs:List Ho)(s:Ls):Option (List Ho):=if hs.length=64 then none else match uh s with
 |none=>none
 |some h=>some (hs++[h])
theorem zc1(a:Zo)(l:List Zo)(q:Nat):DatF (zF (a :: l) q) l.length:=λi hi=>⟨((a :: l).getD i default).enc,by unfold zF;rw[if_neg (by simp only[pw];omega)]⟩
theorem qj3(a:Zo)(l:List Zo)(q:Nat):zF (a :: l) q l.length=[.d (.str (qo (a :: l)).apex),.all q]:=if_pos rfl
def Nz(zs:List Zo):Prop:=∀ z ∈ zs,z.z=Nat.beq z.rrs.length 0
theorem qn9(k:List KB)(hk:k.length=4)(X:Nat->Prop)(w:World)(β:Env)(fp:Nat->Nat->Prop)(hM:Mem X w β fp k):∃ β' fp',Went X w β fp w β' fp' uk:=by
 match k,hk with
 |[a,b,c,d],_=>exact⟨_,_,hM.gone [0,1,2,3]⟩
def ju7(zs:List Zo)(hs:List Ho):List KB:=[.cells 79 [.all 4,.all 2],.gone,hB hs,.gone,.rows 58 2 zs.length (zF zs 5),.row 62 5 0 .iff (rrF [])]
theorem ze6(z:Z)(zs:List Zo)(hs:List Ho)(s:Ls)(hN:zs.length<=1000) :
 COk Tryz.prog 60 [.ptr 0 0,.d (.str s)] (rdD z zs.length (zE zs) hs.length (hF hs)) (λr k=>(wc zs hs s=none/\r = .d (.bool false)/\k=uk)\/∃ zs',wc zs hs s=some zs'/\r = .d (.bool true)/\k=ju7 zs' hs):=by
 refine(xu1 z zs.length (zE zs) hs.length (hF hs) s hN).behind λr k ⟨h1,h2⟩=>.inr ?_
 unfold zonK at h1 h2;unfold wc;split at h1
 ·rename_i h;rw [if_pos h] at h2 ⊢;exact⟨uk,.inl ⟨rfl,h1,rfl⟩,λX w β fp hM=>qn9 k (by rw[h2];rfl) X w β fp hM⟩
 ·rename_i h;rw [if_neg h] at h2 ⊢;refine⟨_,.inr ⟨_,rfl,h1,rfl⟩,λX w β fp hM=>?_⟩;rw [h2] at hM;have hl:(zs++[(⟨(jb s).1,true,[]⟩:Zo)]).length=zs.length+1:=by rw[pq];rfl
  have:=hM.thawNil (i:=4) (p:=zs.length) (c:=1) (e2:=62) (sz2:=5) (g:=rrF []) (sz1:=0) (g1:=λ_=>[]) (F':=zF (zs++[⟨(jb s).1,true,[]⟩]) 5) rfl (gw _) ?_ ?_ ?_
  ·unfold ju7;rw[hl];exact this
  ·intro k hk;unfold catF;split
   ·rfl
   ·obtain rfl:k=zs.length:=om
    rw[ly];rfl
  ·unfold catF;rw[if_neg (cq _),ly];rfl
  ·intro k hk;unfold zF;rw[hl];by_cases hkn:k=zs.length
   ·subst hkn;rw[if_pos rfl,if_pos rfl];unfold catF;rw[if_neg (cq _),ly,List.getD,m7 (pu _),ly];rfl
   ·rw[if_neg om,if_neg hkn];unfold catF;rw[if_pos om,List.getD,mn om]
    rfl
theorem yz9(a:Zo)(l:List Zo)(hs:List Ho)(hz:Nz (a :: l)){X:Nat->Prop}{w:World}{β:Env}{fp:Nat->Nat->Prop}(hM:Mem X w β fp (rdK (a :: l) hs)):∃ β' fp',Went X w β fp w β' fp' (rdD .no (a :: l).length (zE (a :: l)) hs.length (hF hs)):=by
 refine hM.freeze (i:=1) (q:=3) (F:=zF (a :: l) 3) (G:=zE (a :: l)) (n:=l.length+1) rfl rfl (by decide) (λk _=>rfl) ?_;intro k j d hk hd;by_cases hkl:k=l.length
 ·subst hkl;have hzz:=hz (qo (a :: l)) (by
   unfold qo;rw[List.getD,pp sm];exact oz _)
  rw[qj3];match j,hd with
  |0,hd=>cases hd;exact .inl rfl
  |1,hd =>
   cases hd;refine .inr ⟨rfl,?_⟩;show rrsD (qo (a :: l)).z (qo (a :: l)).rrs=_;rw[hzz];rfl
  |j+2,hd=>cases hd
 ·refine .inl ?_;unfold zF;rw[if_neg (by simp only[pw];omega),mw];show Option.map _ ((zE (a :: l) k)[j]?)=_;rw[hd];rfl
theorem xq4(zs:List Zo)(hs:List Ho)(s:Ls)(hN:zs.length<=1000)(hz:Nz zs) :
 COk Tryz.prog 60 [.ptr 0 0,.d (.str s)] (rdK zs hs) (λr k=>(wc zs hs s=none/\r = .d (.bool false)/\k=uk)\/∃ zs',wc zs hs s=some zs'/\r = .d (.bool true)/\k=ju7 zs' hs):=by
 cases zs with
 |nil=>exact ze6 .iff [] hs s hN
 |cons a l=>exact(ze6 .no (a :: l) hs s hN).ahead λX w β fp hM=>yz9 a l hs hz hM
def zg2(zs:List Zo)(hs:List Ho)(G:Nat->List DV):List KB:=[.cells 79 [.all 1,.all 4],zB 3 zs,.gone,rB zs,.row 32 2 hs.length .iff G]
theorem zonB(zs:List Zo):ZonB (zB 3 zs) (rB zs):=by
 cases zs with
 |nil=>exact .inr ⟨_,rfl,rfl⟩
 |cons a l=>exact .inl ⟨_,_,_,_,rfl,rfl,qj3 a l 3,zc1 a l 3⟩
theorem xt7(zs:List Zo)(hs:List Ho)(s:Ls)(hm:hs.length<=1000)(hsl:s.length<=1000000) :
 COk Tryz.prog 61 [.ptr 0 0,.d (.str s)] (rdK zs hs) (λr k=>(hosP hs s=none/\r = .d (.bool false)/\k=uk)\/∃ hs' G,hosP hs s=some hs'/\r = .d (.bool true)/\k=zg2 zs hs' G/\∀ i,i<hs'.length->G i=hF hs' i):=by
 refine(xu5 (zB 3 zs) (rB zs) (zonB zs) hs.length (hF hs) s hm hsl).behind λr k ⟨h1,h2⟩=>?_
 unfold hosK at h1 h2;unfold hosP;by_cases h:hs.length=64
 ·rw [if_pos h] at h1 h2 ⊢;exact .inr ⟨uk,.inl ⟨rfl,h1,rfl⟩,λX w β fp hM=>qn9 k (by rw[h2];rfl) X w β fp hM⟩
 ·rw [if_neg h] at h1 h2 ⊢;cases hp:uh s with
  |none =>
   rw [hp] at h1 h2;exact .inr ⟨uk,.inl ⟨rfl,h1,rfl⟩,λX w β fp hM=>qn9 k (by rw[h2];rfl) X w β fp hM⟩
  |some x =>
   rw [hp] at h1 h2;refine .inl (.inr ⟨_,catF hs.length (hF hs) (qs (qk6 x) 2),rfl,h1,?_,?_⟩)
   ·rw[h2];unfold zg2;rw[pq];rfl
   ·intro i hi;rw [pq] at hi;have hi:i<hs.length+1:=hi;unfold catF hF;split
    ·rename_i h;rw[List.getD,List.getD,mn h]
    ·rename_i h;obtain rfl:i=hs.length:=om
     rw[ly,List.getD,m7 (pu _),ly];rfl
def zf4(zs:List Zo)(hs:List Ho)(F:Nat->List SV):List KB:=[.cells 79 [.all 1,.all 2],.rows 58 2 zs.length F,hB hs,.gone,.row 62 5 (qo zs).rrs.length .iff (rrF (qo zs).rrs)]
theorem rY11{p:Prop}(h:p:=by (conv=>whnf);repeat'(first|exact ⟨⟩|exact rfl|exact(λ_ _ _ _ h=>⟨jq _,h⟩)|exact λ_=>Iff.rfl|exact λ_ _=>rfl|apply And.intro)):p:=h
theorem xn4(hs:List Ho)(s:Ls):COk Tryz.prog 62 [.ptr 0 0,.d (.str s)] (rdK [] hs) (λr k=>r = .d (.bool false)/\k=rdK [] hs):=by
 refine yq (TT:=TT) (IN:=qd []) qe qg mixed 1000 Tryz.func62 rfl (qb Tryz.func62 (by kernel_rfl) rfl) 63 (by kernel_rfl) ?_;conv=>whnf
 repeat((first|apply Fr|apply Tr);conv=>whnf)
 refine⟨[0,1,2,3],_,_,rfl,rfl,?_,?_,rfl,rfl⟩
 ·exact rfl
 ·exact rY11
theorem xy1(zs:List Zo)(hs:List Ho)(s:Ls)(hN:zs.length<=1000)(hl:(qo zs).rrs.length<=1000)(hsl:s.length<=1000000) :
 COk Tryz.prog 62 [.ptr 0 0,.d (.str s)] (rdK zs hs) (λr k=>(recP zs hs s=none/\r = .d (.bool false)/\k=uk)\/∃ zs' F,recP zs hs s=some zs'/\r = .d (.bool true)/\k=zf4 zs' hs F/\zs'.length=zs.length/\∀ i,i<zs'.length->F i=zF zs' 4 i):=by
 cases zs with
 |nil =>
  refine(xn4 hs s).behind λr k ⟨h1,h2⟩=>?_
  exact .inr ⟨uk,.inl ⟨by unfold recP;rw[if_pos (.inl rfl)],h1,rfl⟩,λX w β fp hM=>qn9 k (by rw[h2];rfl) X w β fp hM⟩
 |cons a l =>
  have hlast:=qj3 a l 3;have hN':l.length+1<=1000:=hN;refine(xu3 (zF (a :: l) 3) l.length hs.length (hF hs) (qo (a :: l)).rrs (qo (a :: l)).apex s hlast (zc1 a l 3) om hl hsl).behind λr k ⟨h1,h2⟩=>?_
  unfold recK at h1 h2;unfold recP;by_cases h:0<hs.length\/(qo (a :: l)).rrs.length=256
  ·rw [if_pos h] at h1 h2;rw[if_pos (.inr h)];exact .inr ⟨uk,.inl ⟨rfl,h1,rfl⟩,λX w β fp hM=>qn9 k (by rw[h2];rfl) X w β fp hM⟩
  ·rw [if_neg h] at h1 h2;rw[if_neg (by rintro (h'|h');exact absurd h' sm;exact h h')];cases hp:za s with
   |none =>
    rw [hp] at h1 h2;exact .inr ⟨uk,.inl ⟨rfl,h1,rfl⟩,λX w β fp hM=>qn9 k (by rw[h2];rfl) X w β fp hM⟩
   |some x =>
    rw [hp] at h1 h2;have hset:qo ((a :: l).set ((a :: l).length - 1) ⟨(qo (a :: l)).apex,false,(qo (a :: l)).rrs++[x]⟩)=⟨(qo (a :: l)).apex,false,(qo (a :: l)).rrs++[x]⟩:=by
     conv=>lhs;unfold qo
     rw[lw,List.getD,m5,if_pos rfl,if_pos sm]
     rfl
    refine .inl (.inr ⟨_,oneS l.length 1 [.all 4] (zF (a :: l) 3),rfl,h1,?_,lw,?_⟩)
    ·rw[h2];unfold zf4;rw[hset,lw];rfl
    ·intro i hi;rw [lw] at hi;have hi:i<l.length+1:=hi;by_cases hil:i=l.length
     ·subst hil;rw[je3 _ _ _ _ _ hlast];unfold zF;rw[lw,if_pos (show l.length+1=(a :: l).length from rfl),List.getD,m5,if_pos (show(a :: l).length - 1=l.length from rfl),if_pos sm]
      rfl
     ·rw[qu5 _ _ om];unfold zF;rw[lw,if_neg (by simp only[pw];omega),if_neg (by simp only[pw];omega),List.getD,List.getD,m5,if_neg (by simp only[pw];omega)]
theorem Fo.ok_f{f:Fo}(h:f.ok=true):f.Okf:=by
 unfold Fo.ok at h;simp only [p7,lr] at h;obtain⟨h1,h2,h3,h4,_,_,_,h5⟩:=h;refine⟨h1,h2,h3,o7.1 h4,λa ha b hb=>?_⟩;unfold zi at h5;simp only [p7] at h5;have:=o7.1 (o7.1 h5.2 a ha) b hb;simp only [p7,lr] at this;omega
theorem wsK(b s:Ls)(hs:b.length+s.length<=70368744177664):COk Tryz.prog 20 [.ptr 0 0,.d (.str s)] [bK b] (λr k=>r = .tup [.d (.int .i64 s.length),.v .nilIface]/\k=[pk (Bst.fl (.live (b++s)))]):=by
 cases b with
 |nil =>
  refine(zd3 (xz7 s (by simpa using hs))).imp λr k ⟨b1,h1,h2,h3⟩=>?_
  subst h1 h3;exact⟨h2,rfl⟩
 |cons c r =>
  refine(COk.thing Bst.fl (qw2 (c :: r) s hs) [] [] _ rfl rfl).imp λr k ⟨s0,a1,⟨h1,h2⟩,h3,h4⟩=>?_
  subst h1 h2;exact⟨by rw[h3];rfl,by rw[h4];rfl⟩
theorem wsL(b s:Ls)(hs:b.length+s.length<=70368744177664):COk Tryz.prog 20 [.ptr 0 0,.d (.str s)] [pk (Bst.fl (.live b))] (λr k=>r = .tup [.d (.int .i64 s.length),.v .nilIface]/\k=[pk (Bst.fl (.live (b++s)))]):=by
 refine(COk.thing Bst.fl (qw2 b s hs) [] [] _ rfl rfl).imp λr k ⟨s0,a1,⟨h1,h2⟩,h3,h4⟩=>?_
 subst h1 h2;exact⟨by rw[h3];rfl,by rw[h4];rfl⟩
theorem wbL(b:Ls)(hs:b.length+1<=70368744177664):COk Tryz.prog 21 [.ptr 0 0,.d (.int .u8 10)] [pk (Bst.fl (.live b))] (λr k=>r = .v .nilIface/\k=[pk (Bst.fl (.live (b++[10])))]):=by
 refine(COk.thing Bst.fl (yv b 10 hs) [] [] _ rfl rfl).imp λr k ⟨s0,a1,⟨h1,h2⟩,h3,h4⟩=>?_
 subst h1 h2;exact⟨by rw[h3];rfl,by rw[h4];rfl⟩
theorem yc7{l:List Zo}(h:∀ z ∈ l,z.ok=true/\∀ r ∈ z.rrs,r.In):(ya l).length<=2400000 * l.length:=by
 induction l with
 |nil=>exact pu _
 |cons a l ih =>
  have h1:=ih λb hb=>h b (.tail _ hb)
  have h2:=zx2 (h a (.head _)).1 (h a (.head _)).2;show(qk0 a++ya l).length<=_;simp only[pq,pw];omega
theorem zx1{l:List Zo}(h:1<=l.length):ya l≠[]:=by
 cases l with
 |nil=>exact absurd h sm
 |cons a l=>show(122 :: _)≠[];simp
theorem jb5{h:Int × Bool × List Int}(ha:0<=h.1/\h.1<=4294967295)(hz:∀ a ∈ h.2.2,0<=a/\a<10000000000)(hl:h.2.2.length<=4294967296):(yj h).length<=47244640300:=by
 have h1:=vu h.1.toNat om;have h2:=jq6 hz;unfold yj;simp only[pq];show 5+_+_<=_;omega
theorem yg2{l:List (Int × Bool × List Int)}(h:∀ a ∈ l,(yj a).length<=47244640300):(yf l).length<=47244640301 * l.length:=by
 induction l with
 |nil=>exact pu _
 |cons a l ih =>
  have h1:=ih λb hb=>h b (.tail _ hb)
  have h2:=h a (.head _);show(yj a++[10]++yf l).length<=_;simp only[pq,pw,mz];omega
theorem qt3(f:Fo)(hf:f.Fit)(hi:f.In):FnOk Tryz.prog 8 [f.V] (.tup [.d (.str (jd f).1),.d (.int .i64 (jd f).2)]):=by
 refine qi (TT:=TT) (IN:=qd [(19,Tryz.f19,1),(47,Tryz.f47,2)]) qe (jv (jv qg Tryz.func47 (by kernel_rfl) (by kernel_rfl)) Tryz.func19 (by kernel_rfl) (by kernel_rfl)) mixed 1000 Tryz.func8 rfl (qb Tryz.func8 (by kernel_rfl) rfl) rfl 22 (by kernel_rfl) ?_;conv=>whnf
 refine oD (xd2 f hf hi.Len) rfl rfl ?_;cases hok:f.ok with
 |false =>
  rw[show jd f=([],2) by unfold jd;rw[hok];rfl,if_neg (by decide)];conv=>whnf
  repeat((first|apply Fr|apply Tr);conv=>whnf)
  exact rZ6
 |true =>
  have hk:=Fo.ok_f hok;rw[show jd f=(f.text,0) by unfold jd;rw[hok];rfl,if_pos rfl];conv=>whnf
  repeat((first|apply Fr|apply Tr);conv=>whnf)
  refine .inv Nat (λi=>i<=f.zones.length) (λi=>[(14,.d (.int .i64 i))]) (λi=>[(3,bK (ya (f.zones.take i)))]) (λi=>f.zones.length - i) ⟨0,[0,1,2,3,4,5],pv _,?_⟩ ?_
  ·exact rY11
  intro i hil;have hTl:=yc7 (l:=f.zones.take i) λz hz=>⟨hk.zone z (lv hz),hi.rr z (lv hz)⟩
  have hTk:(f.zones.take i).length<=64:=by have:=hk.nz;rw[o4];omega
  obtain⟨T,hT⟩:∃ T,T=ya (f.zones.take i):=⟨_,rfl⟩;rw [<-hT] at hTl ⊢;rcases T with _|⟨c1,T⟩
  all_goals
   conv=>whnf
   refine⟨λc0=>?_,λc0=>?_⟩
   ·have c0':i<f.zones.length:=(by have h:(i:Int)<f.zones.length:=px c0;omega);obtain⟨z,hz⟩:∃ z,f.zones.getD i default=z:=⟨_,rfl⟩;have hz2:f.zones[i]? = some z:=by rw[<-hz,List.getD,pp c0'];rfl
    have hzm:=ov hz2;have hzo:=hk.zone z hzm;have hzi:=hi.rr z hzm;have hn:=Zo.ok_name hzo;have hnl:=qs7 hn;have hzl:(y7 z).length<=1100:=by unfold y7;rw[pq];show 5+_<=_;omega
    have hrl:=Zo.ok_len hzo;conv=>whnf
    refine⟨om,?_⟩;conv=>whnf
    rw[pr,hz];refine oD (yr9 z.apex) rfl rfl ?_;rw[show ve z.apex=(txtN z.apex,0) from if_pos hn];conv=>whnf
    refine⟨by show 5+(txtN z.apex).length<=_;omega,?_⟩;conv=>whnf
    repeat((first|apply Fr|apply Tr);conv=>whnf)
    first
     |refine .rel _ (COk.frameX (wsK (c1 :: T) (y7 z) (by simp only [pw] at hTl ⊢;omega)) [3] rfl rfl rfl) (λx ks' hR=>?_)
     |refine .rel _ (COk.frameX (wsK [] (y7 z) (by simp only[mz];omega)) [3] rfl rfl rfl) (λx ks' hR=>?_)
    obtain⟨_,_,⟨rfl,rfl⟩,rfl,rfl⟩:=hR;conv=>whnf
    refine .rel _ (COk.frameX (wbL _ (by simp only [pq,pw,mz] at hTl ⊢;omega)) [3] rfl rfl rfl) (λx ks' hR=>?_);obtain⟨_,_,⟨rfl,rfl⟩,rfl,rfl⟩:=hR;conv=>whnf
    repeat((first|apply Fr|apply Tr);conv=>whnf)
    obtain⟨B,hB⟩:∃ B,B=ya (f.zones.take i)++y7 z++[10]:=⟨_,rfl⟩;have hBl:B.length<=2400000 * 64+1101:=by rw [hB,<-hT];simp only [pq,pw,mz] at hTl ⊢;omega
    have hB0:=hB;rw [<-hT] at hB;rw[<-hB];refine .inv Nat (λj=>j<=z.rrs.length) (λj=>[(33,.d (.int .i64 j))]) (λj=>[(3,pk (Bst.fl (.live (B++jy (z.rrs.take j)))))]) (λj=>z.rrs.length - j) ⟨0,[0,1,2,3,4,5,6],pv _,?_⟩ ?_
    ·rw[show B++jy (z.rrs.take 0)=B by simp[jy]];exact rY11
    intro j hj;have hDl:=jk4 (l:=z.rrs.take j) λr hr=>qm5 (Zo.ok_rr hzo r (lv hr)) (hzi r (lv hr))
    have hDk:(z.rrs.take j).length<=256:=by rw[o4];omega
    obtain⟨D,hD⟩:∃ D,D=B++jy (z.rrs.take j):=⟨_,rfl⟩;have hDD:D.length<=B.length+2400000:=by rw[hD,pq];omega
    rw[<-hD];conv=>whnf
    refine⟨λc1=>?_,λc1=>?_⟩
    ·have c1':j<z.rrs.length:=(by have h:(j:Int)<z.rrs.length:=px c1;omega);obtain⟨r,hr⟩:∃ r,z.rrs.getD j default=r:=⟨_,rfl⟩;have hr2:z.rrs[j]? = some r:=by rw[<-hr,List.getD,pp c1'];rfl
     have hrm:=ov hr2;have hrc:=Zo.ok_rr hzo r hrm;have hri:=hzi r hrm;have hrl:=qm5 hrc hri;have htk:B++jy (z.rrs.take (j+1))=D++r.line++[10]:=by rw[o3,hr2,hD];show B++jy (z.rrs.take j++[r])=_;rw[ya5];simp
     have hw1:=w64s j om;conv=>whnf
     refine⟨om,?_⟩;conv=>whnf
     rw[pr,hr];refine oD (yy5 r hri) rfl rfl ?_;rw[show r.lineV=(r.line,0) by unfold RR.lineV;rw[hrc];rfl];conv=>whnf
     repeat((first|apply Fr|apply Tr);conv=>whnf)
     refine .rel _ (COk.frameX (wsL D r.line om) [3] rfl rfl rfl) (λx ks' hR=>?_);obtain⟨_,_,⟨rfl,rfl⟩,rfl,rfl⟩:=hR;conv=>whnf
     refine .rel _ (COk.frameX (wbL (D++r.line) (by rw[pq];omega)) [3] rfl rfl rfl) (λx ks' hR=>?_);obtain⟨_,_,⟨rfl,rfl⟩,rfl,rfl⟩:=hR;conv=>whnf
     repeat((first|apply Fr|apply Tr);conv=>whnf)
     refine⟨j+1,[0,1,2,3,4,5,6],c1',om,?_⟩;rw[htk];conv=>whnf
     rw[hw1];exact rZ11
    ·have c1':j=z.rrs.length:=(by have h:¬ (j:Int)<z.rrs.length:=py c1;omega);subst c1';rw [mu] at hD;have htk:ya (f.zones.take (i+1))=D:=by rw[o3,hz2,hD,hB0];show ya (f.zones.take i++[z])=_;rw[jz5];unfold qk0;simp
     have hDb:bK D=pk (Bst.fl (.live D)):=qo2 (by rw[hD,hB];simp);have hw1:IntKind.i64.wrap ((i:Int)+1)=((i+1:Nat):Int):=by have:=hk.nz;rw[qc _ om];omega
     conv=>whnf
     refine⟨i+1,[0,1,2,3,4,5],c0',om,?_⟩;rw[htk,hDb];conv=>whnf
     rw[hw1];exact rZ11
   ·have c0':i=f.zones.length:=(by have h:¬ (i:Int)<f.zones.length:=py c0;omega);subst c0';rw [mu] at hT hTl;have hne:=zx1 hk.one;try exact absurd hT.symm hne
    all_goals
     obtain⟨P,hP⟩:∃ P,P=c1 :: T:=⟨_,rfl⟩;have hPl:P.length<=2400000 * 64:=by rw[hP];have:=hk.nz;omega
     have hPT:P=ya f.zones:=by rw[hP,hT]
     have hPb:bK (c1 :: T)=pk (Bst.fl (.live P)):=by rw[hP];rfl
     conv=>whnf
     refine .inv Nat (λj=>j<=f.hosts.length) (λj=>[(49,.d (.int .i64 j))]) (λj=>[(3,pk (Bst.fl (.live (P++yf (f.hosts.take j)))))]) (λj=>f.hosts.length - j) ⟨0,[0,1,2,3,4,5],pv _,?_⟩ ?_
     ·rw[show P++yf (f.hosts.take 0)=P by simp[yf],hP];exact rY11
     intro j hj;have hDl:=yg2 (l:=f.hosts.take j) λa ha=>jb5 (hi.addr a (lv ha)) (λb hb=>by have:=hk.host a (lv ha) b hb;omega) (hi.len a (lv ha))
     have hDk:(f.hosts.take j).length<=64:=by have:=hk.nh;rw[o4];omega
     obtain⟨D,hD⟩:∃ D,D=P++yf (f.hosts.take j):=⟨_,rfl⟩;have hDD:D.length<=P.length+47244640301 * 64:=by rw[hD,pq];omega
     rw[<-hD];conv=>whnf
     refine⟨λc1=>?_,λc1=>?_⟩
     ·have c1':j<f.hosts.length:=(by have h:(j:Int)<f.hosts.length:=px c1;omega);obtain⟨r,hr⟩:∃ r,f.hosts.getD j default=r:=⟨_,rfl⟩;have hr2:f.hosts[j]? = some r:=by rw[<-hr,List.getD,pp c1'];rfl
      have hrm:=ov hr2;have hz64:∀ b ∈ r.2.2,0<=b/\b<10000000000:=λb hb=>by have:=hk.host r hrm b hb;omega
      have hrl:=jb5 (hi.addr r hrm) hz64 (hi.len r hrm);have htk:P++yf (f.hosts.take (j+1))=D++yj r++[10]:=by rw[o3,hr2,hD];show P++yf (f.hosts.take j++[r])=_;rw[yb7];simp
      have hw1:IntKind.i64.wrap ((j:Int)+1)=((j+1:Nat):Int):=by have:=hk.nh;rw[qc _ om];omega
      conv=>whnf
      refine⟨om,?_⟩;conv=>whnf
      rw[pr,hr];refine oD (zp7 r (hi.addr r hrm) hz64 (hi.len r hrm)) rfl rfl ?_;conv=>whnf
      repeat((first|apply Fr|apply Tr);conv=>whnf)
      refine .rel _ (COk.frameX (wsL D (yj r) om) [3] rfl rfl rfl) (λx ks' hR=>?_);obtain⟨_,_,⟨rfl,rfl⟩,rfl,rfl⟩:=hR;conv=>whnf
      refine .rel _ (COk.frameX (wbL (D++yj r) (by rw[pq];omega)) [3] rfl rfl rfl) (λx ks' hR=>?_);obtain⟨_,_,⟨rfl,rfl⟩,rfl,rfl⟩:=hR;conv=>whnf
      repeat((first|apply Fr|apply Tr);conv=>whnf)
      refine⟨j+1,[0,1,2,3,4,5],c1',om,?_⟩;rw[htk];conv=>whnf
      rw[hw1];exact rZ11
     ·have c1':j=f.hosts.length:=(by have h:¬ (j:Int)<f.hosts.length:=py c1;omega);subst c1';rw [mu] at hD;have hfin:f.text=D:=by rw[hD,hPT];rfl
      rw[hfin];conv=>whnf
      refine .rel _ (COk.frameX ((COk.thing Bst.fl (jv9 D om) [] [] _ rfl rfl).imp (R':=λr k=>r = .d (.str D)/\k=[pk (Bst.fl .dead)]) λr k ⟨s0,a1,⟨h1,h2⟩,h3,h4⟩=>by subst h1 h2;exact⟨by rw[h3];rfl,by rw[h4];rfl⟩) [3] rfl rfl rfl) (λx ks' hR=>?_);obtain⟨_,_,⟨rfl,rfl⟩,rfl,rfl⟩:=hR;exact rY11
def zq(zs:List Zo)(hs:List Ho)(s:Ls):Option (List Zo × List Ho) :=
 if (cutB s 32).1=[122,111,110,101]/\(cutB s 32).2.2=true then (wc zs hs (cutB s 32).2.1).map λz=>(z,hs)
 else if (cutB s 32).1=[104,111,115,116]/\(cutB s 32).2.2=true then (hosP hs (cutB s 32).2.1).map λh=>(zs,h)
 else (recP zs hs s).map λz=>(z,hs)
def zc:Nat->List Zo->List Ho->Ls->Option (List Zo × List Ho)
 |0,_,_,_=>none
 |n+1,zs,hs,t=>if t=[] then some (zs,hs) else if (cutB t 10).2.2=true then (match zq zs hs (cutB t 10).1 with
  |some p=>zc n p.1 p.2 (cutB t 10).2.1
  |none=>none) else none
def mkF(zs:List Zo)(hs:List Ho):Fo:=⟨Nat.beq zs.length 0,zs,Nat.beq hs.length 0,hs⟩
def nilF:Fo:=⟨true,[],true,[]⟩
def zt(s:Ls):Fo × Int:=match zc (s.length+1) [] [] s with
 |none=>(nilF,6)
 |some p=>if jd (mkF p.1 p.2)=(s,0) then (mkF p.1 p.2,0) else (nilF,6)
structure RdOk(zs:List Zo)(hs:List Ho):Prop where
 nz:Nz zs
 nh:∀ h ∈ hs,h.2.1=Nat.beq h.2.2.length 0
 n64:zs.length<=64
 h64:hs.length<=64
 zl:∀ z ∈ zs,z.apex.length<=255/\z.rrs.length<=256/\∀ r ∈ z.rrs,r.check=true/\r.In
 hl:∀ h ∈ hs,0<=h.1/\h.1<=4294967295/\h.2.2.length<=1000001
theorem RdOk.init:RdOk [] []:=⟨λ_ h=>(by cases h),λ_ h=>(by cases h),by decide,by decide,λ_ h=>(by cases h),λ_ h=>(by cases h)⟩
theorem yf1(s:Ls):(jb s).1.length<=255:=by
 unfold jb;split
 ·exact pv _
 ·split
  ·decide
  ·split
   ·exact pv _
   ·split
    ·rename_i h;exact h.2
    ·exact pv _
theorem jm5{zs:List Zo}(h:zs≠[]):qo zs ∈ zs:=by
 unfold qo;have:0<zs.length:=g9.2 h;rw[List.getD,pp om];exact oz _
theorem RdOk.zone{zs zs':List Zo}{hs:List Ho}{s:Ls}(h:RdOk zs hs)(e:wc zs hs s=some zs'):RdOk zs' hs:=by
 unfold wc at e;split at e
 ·cases e
 ·rename_i hc;cases e;have:=h.n64;refine⟨λz hz=>?_,h.nh,?_,h.h64,λz hz=>?_,h.hl⟩
  ·rcases ow.1 hz with hz|hz
   ·exact h.nz z hz
   ·cases m9.1 hz;rfl
  ·rw[pq];have:zs.length≠64:=λe=>hc (.inr (.inl e))
   simp;omega
  ·rcases ow.1 hz with hz|hz
   ·exact h.zl z hz
   ·cases m9.1 hz;exact⟨yf1 s,pv _,λr hr=>(by cases hr)⟩
theorem RdOk.recd{zs zs':List Zo}{hs:List Ho}{s:Ls}(h:RdOk zs hs)(e:recP zs hs s=some zs'):RdOk zs' hs:=by
 unfold recP at e;split at e
 ·cases e
 ·rename_i hc;have hne:zs≠[]:=λe=>hc (.inl e)
  cases hp:za s with
  |none=>rw [hp] at e;cases e
  |some r =>
   rw [hp] at e;cases e;obtain⟨q1,q2⟩:=zo5 hp;have q3:=xb4 hp;obtain⟨z1,z2,z3⟩:=h.zl _ (jm5 hne);have z4:(qo zs).rrs.length≠256:=λe=>hc (.inr (.inr e))
   refine⟨λz hz=>?_,h.nh,by rw[lw];exact h.n64,h.h64,λz hz=>?_,h.hl⟩
   ·rcases List.mem_or_eq_of_mem_set hz with hz|rfl
    ·exact h.nz z hz
    ·show false=Nat.beq ((qo zs).rrs++[r]).length 0;rw[pq];rfl
   ·rcases List.mem_or_eq_of_mem_set hz with hz|rfl
    ·exact h.zl z hz
    ·refine⟨z1,?_,λx hx=>?_⟩
     ·show((qo zs).rrs++[r]).length<=256;rw[pq];simp;omega
     ·rcases ow.1 hx with hx|hx
      ·exact z3 x hx
      ·cases m9.1 hx;exact⟨q1,q3⟩
theorem yv6:∀ (n:Nat) (r:Ls) (b:Bool) (l q:List Int),atsR n r b l=some q->q.length<=l.length+n
 |0,_,_,l,q,h=>by cases h;exact pu _
 |n+1,r,false,l,q,h=>by cases h;omega
 |n+1,r,true,l,q,h=>by
  cases hn:zm (cutB r 32).1 with
  |error c=>rw [yv7 hn] at h;cases h
  |ok k =>
   rw [jt0 hn] at h;have:=yv6 n _ _ _ _ h;rw [pq] at this;simp at this;omega
theorem xm6{s:Ls}{h:Ho}(hs:s.length<=1000000)(e:uh s=some h):h.2.1=Nat.beq h.2.2.length 0/\0<=h.1/\h.1<=4294967295/\h.2.2.length<=1000001:=by
 cases hw:yi 32 (cutB s 32).1 with
 |none=>unfold uh at e;rw [hw] at e;cases e
 |some a =>
  rw [jp3 hw] at e;have ha:a<=4294967295:=qe1 hw;cases hq:atsR (s.length+1) (cutB s 32).2.1 (cutB s 32).2.2 [] with
  |none=>rw [hq] at e;cases e
  |some q =>
   rw [hq] at e;cases e;have:=yv6 _ _ _ _ _ hq;refine⟨rfl,by show(0:Int)<=a;omega,by show(a:Int)<=_;omega,?_⟩;show q.length<=_;simp at this;omega
theorem RdOk.host{zs:List Zo}{hs hs':List Ho}{s:Ls}(h:RdOk zs hs)(hl:s.length<=1000000)(e:hosP hs s=some hs'):RdOk zs hs':=by
 unfold hosP at e;split at e
 ·cases e
 ·rename_i hc;cases hp:uh s with
  |none=>rw [hp] at e;cases e
  |some r =>
   rw [hp] at e;cases e;have q:=xm6 hl hp;have:=h.h64;refine⟨h.nz,λz hz=>?_,h.n64,by rw[pq];simp;omega,h.zl,λz hz=>?_⟩
   ·rcases ow.1 hz with hz|hz
    ·exact h.nh z hz
    ·cases m9.1 hz;exact q.1
   ·rcases ow.1 hz with hz|hz
    ·exact h.hl z hz
    ·cases m9.1 hz;exact q.2
theorem RdOk.line{zs zs':List Zo}{hs hs':List Ho}{s:Ls}(h:RdOk zs hs)(hl:s.length<=1000000)(e:zq zs hs s=some (zs',hs')):RdOk zs' hs':=by
 have hl2:=(qm9 s 32).2.1;unfold zq at e;split at e
 ·rw [f6] at e;obtain⟨z,e1,e2⟩:=e;cases e2;exact h.zone e1
 ·split at e
  ·rw [f6] at e;obtain⟨z,e1,e2⟩:=e;cases e2;exact h.host om e1
  ·rw [f6] at e;obtain⟨z,e1,e2⟩:=e;cases e2;exact h.recd e1
theorem RdOk.fit{zs:List Zo}{hs:List Ho}(h:RdOk zs hs):(mkF zs hs).Fit:=λz hz=>by
 obtain⟨h1,h2,h3⟩:=h.zl z hz;refine⟨om,λr hr=>?_⟩;obtain⟨q1,q2⟩:=h3 r hr;have:=(ux q1).2.1;have:=ql9 q1;omega
theorem RdOk.in{zs:List Zo}{hs:List Ho}(h:RdOk zs hs):(mkF zs hs).In:=⟨λz hz r hr=>((h.zl z hz).2.2 r hr).2,λx hx=>⟨(h.hl x hx).1,(h.hl x hx).2.1⟩,λx hx=>by have:=(h.hl x hx).2.2;omega⟩
theorem qt7{P:Program}{TT:Nat->Option TI}(hTT:TTok P TT){f:FuncId}{al al':List SV}{tl:List TypeId}{ks:List KB}{r:SV}{fr:List Nat}(hok:FnOk P f al' r)(hview:vx TT ks al tl (λl t=>l=al'/\t=fr))(hcl:xn al'=true)(hsc:scalar r=true):COk P f al ks (λs k=>s=r/\k=ks) :=
 ⟨hok.1,λX w β fp vs hM hl hd=>by
  obtain⟨l',fr',⟨rfl,rfl⟩,e1,e2,e3⟩:=qq3 hTT hM.toMem0 _ _ _ _ hview hl hd;refine(qd5 hok hM.vo.no (λb hb=>hM.mlt b (hM.goneM fr' b hb)) om (e3 fr' (λ_ h=>h)) hcl).mono ?_
  rintro e w' ⟨v,rfl,hst,hden⟩
  exact⟨v,_,_,β,fp,rfl,⟨rfl,rfl⟩,hM.quiet hst,hden.scalar hsc _ _ _⟩⟩
theorem ze9(z:Z)(zs:List Zo)(hs:List Ho)(h:RdOk zs hs)(hz:z = .iff/\zs=[]\/z = .no/\zs≠[]):COk Tryz.prog 8 [.agg [.all 1,.all 2]] [.cells 79 [.all 1,.all 2],.row 58 2 zs.length z (zE zs),hB hs,.gone]
 (λr k=>r = .tup [.d (.str (jd (mkF zs hs)).1),.d (.int .i64 (jd (mkF zs hs)).2)]/\k=[.cells 79 [.all 1,.all 2],.row 58 2 zs.length z (zE zs),hB hs,.gone]):=by
 rcases hz with⟨rfl,rfl⟩|⟨rfl,hz⟩
 ·exact qt7 (TT:=TT) qe (tl:=[25]) (qt3 _ h.fit h.in) ⟨rfl,rfl⟩ rfl rfl
 ·obtain⟨a,l,rfl⟩:∃ a l,zs=a :: l:=by cases zs with|nil=>exact absurd rfl hz|cons a l=>exact⟨a,l,rfl⟩
  exact qt7 (TT:=TT) qe (tl:=[25]) (qt3 _ h.fit h.in) ⟨rfl,rfl⟩ rfl rfl
def zk(zs:List Zo):Z:=if zs=[] then .iff else .no
theorem kb2(zs:List Zo)(hs:List Ho)(h:RdOk zs hs):COk Tryz.prog 8 [.agg [.all 1,.all 2]] (rdK zs hs)
 (λr k=>r = .tup [.d (.str (jd (mkF zs hs)).1),.d (.int .i64 (jd (mkF zs hs)).2)]/\k=[.cells 79 [.all 1,.all 2],.row 58 2 zs.length (zk zs) (zE zs),hB hs,.gone]):=by
 cases zs with
 |nil=>exact ze9 .iff [] hs h (.inl ⟨rfl,rfl⟩)
 |cons a l=>exact(ze9 .no (a :: l) hs h (.inr ⟨rfl,sm⟩)).ahead λX w β fp hM=>yz9 a l hs h.nz hM
theorem xa0{m:Nat}{zs:List Zo}{hs:List Ho}:zc (m+1) zs hs []=some (zs,hs):=rfl
theorem ja9{m:Nat}{zs:List Zo}{hs:List Ho}{t:Ls}(h:t≠[])(h1:(cutB t 10).2.2=false):zc (m+1) zs hs t=none:=by
 unfold zc;rw[if_neg h,if_neg (by rw[h1];decide)]
theorem ql0{m:Nat}{zs:List Zo}{hs:List Ho}{t:Ls}(h:t≠[])(h1:(cutB t 10).2.2=true)(h2:zq zs hs (cutB t 10).1=none):zc (m+1) zs hs t=none:=by
 unfold zc;rw[if_neg h,if_pos h1,h2]
theorem qi1{m:Nat}{zs:List Zo}{hs:List Ho}{t:Ls}{p:List Zo × List Ho}(h:t≠[])(h1:(cutB t 10).2.2=true)(h2:zq zs hs (cutB t 10).1=some p):zc (m+1) zs hs t=zc m p.1 p.2 (cutB t 10).2.1:=by
 conv=>lhs;unfold zc
 rw[if_neg h,if_pos h1,h2]
inductive Short:Ls->Prop
 |last (l:Ls):(10:UInt8) ∉ l->l.length<=1000000->Short l
 |cons (l r:Ls):(10:UInt8) ∉ l->l.length<=1000000->Short r->Short (l++10 :: r)
theorem ys5{c:UInt8}{l:Ls}(h:c ∉ l):∀ b ∈ l,b≠c:=λb hb e=>h (e ▸ hb)
theorem qn0{c:UInt8}(l r:Ls)(h:c ∉ l):cutB (l++c :: r) c=(l,r,true):=by
 unfold cutB;rw[js0 c l r (ys5 h),if_neg om];simp
theorem zb1{c:UInt8}(l:Ls)(h:c ∉ l):cutB l c=(l,[],false):=by
 unfold cutB;rw[jp2 c l (ys5 h),if_pos (by decide)]
theorem Short.cut{t:Ls}(h:Short t):(cutB t 10).1.length<=1000000/\Short (cutB t 10).2.1:=by
 cases h with
 |last _ h1 h2=>rw[zb1 t h1];exact⟨h2,.last _ sm sm⟩
 |cons l r h1 h2 h3=>rw[qn0 l r h1];exact⟨h2,h3⟩
theorem Short.of:∀ (n:Nat) (t:Ls),t.length<=n->n<=1000000->Short t
 |0,t,h,_=>.last t (by rw[dq (Nat.le_zero.1 h)];simp) om
 |n+1,t,h,hn=>by
  by_cases hm:(10:UInt8) ∈ t
  ·obtain⟨l,r,rfl,h1⟩:=List.eq_append_cons_of_mem hm;rw [pq,pw] at h;exact .cons l r h1 om (Short.of n r om om)
  ·exact .last t hm om
theorem xj3(hs:List Ho)(s:Ls):recP [] hs s=none:=if_pos (.inl rfl)
theorem xg5{zs zs':List Zo}{hs:List Ho}{s:Ls}(e:wc zs hs s=some zs'):∃ a l,zs'=a :: l:=by
 unfold wc at e;split at e
 ·cases e
 ·cases e;cases zs with
  |nil=>exact⟨_,_,rfl⟩
  |cons a l=>exact⟨_,_,rfl⟩
theorem zw9{zs zs':List Zo}{hs:List Ho}{s:Ls}(e:wc zs hs s=some zs'):(qo zs').rrs=[]:=by
 unfold wc at e;split at e
 ·cases e
 ·cases e;unfold qo;rw[pq,List.getD,m7 sm];simp
theorem yg0{zs:List Zo}{hs:List Ho}{c:Ls}(h1:((cutB c 32).1 == [122,111,110,101])=true)(h2:(cutB c 32).2.2=true):zq zs hs c=(wc zs hs (cutB c 32).2.1).map λz=>(z,hs):=if_pos ⟨by simpa using h1,h2⟩
theorem yg1{zs:List Zo}{hs:List Ho}{c:Ls}(h1:((cutB c 32).1 == [122,111,110,101])=false)(h2:((cutB c 32).1 == [104,111,115,116])=true)(h3:(cutB c 32).2.2=true):zq zs hs c=(hosP hs (cutB c 32).2.1).map λz=>(zs,z):=by
 unfold zq;rw [if_neg (by rintro ⟨h,_⟩;rw [h] at h1;cases h1),if_pos ⟨by simpa using h2,h3⟩]
theorem xc5(zs:List Zo)(hs:List Ho)(c:Ls):(((cutB c 32).1 == [122,111,110,101])=true/\(cutB c 32).2.2=true)\/(((cutB c 32).1 == [122,111,110,101])=false/\((cutB c 32).1 == [104,111,115,116])=true/\(cutB c 32).2.2=true)\/(zq zs hs c=(recP zs hs c).map (λz=>(z,hs))/\((((cutB c 32).1 == [122,111,110,101])=false/\((cutB c 32).1 == [104,111,115,116])=false)\/(((cutB c 32).1 == [122,111,110,101])=true/\((cutB c 32).1 == [104,111,115,116])=false/\(cutB c 32).2.2=false)\/(((cutB c 32).1 == [122,111,110,101])=false/\((cutB c 32).1 == [104,111,115,116])=true/\(cutB c 32).2.2=false))):=by
 unfold zq;cases hz:((cutB c 32).1 == [122,111,110,101]) <;> cases hh:((cutB c 32).1 == [104,111,115,116]) <;> cases hm:(cutB c 32).2.2
 ·refine .inr (.inr ⟨?_,.inl ⟨rfl,rfl⟩⟩);rw[if_neg sm,if_neg sm]
 ·refine .inr (.inr ⟨?_,.inl ⟨rfl,rfl⟩⟩);rw [if_neg (by rintro ⟨h,_⟩;rw [h] at hz;cases hz),if_neg (by rintro ⟨h,_⟩;rw [h] at hh;cases hh)]
 ·refine .inr (.inr ⟨?_,.inr (.inr ⟨rfl,rfl,rfl⟩)⟩);rw[if_neg sm,if_neg sm]
 ·exact .inr (.inl ⟨rfl,rfl,rfl⟩)
 ·refine .inr (.inr ⟨?_,.inr (.inl ⟨rfl,rfl,rfl⟩)⟩);rw[if_neg sm,if_neg sm]
 ·exact .inl ⟨rfl,rfl⟩
 ·have h1:=(oy).1 hz;have h2:=(oy).1 hh;rw [h1] at h2;exact absurd h2 (by decide)
 ·exact .inl ⟨rfl,rfl⟩
theorem xy2(zs:List Zo)(hs:List Ho):[.cells 79 [.all 2,.all 3],zB 4 zs,hB hs,rB zs]=mapB (sig [1,2,3,4] 5) (rdK zs hs):=by
 cases zs with
 |nil=>rfl
 |cons a l =>
  have:(λi=>mapL (sig [1,2,3,4] 5) (zF (a :: l) 3 i))=zF (a :: l) 4:=by
   funext i;unfold zF;split
   ·rfl
   ·rfl
  show[KB.cells _ _,.rows 58 2 (l.length+1) (zF (a :: l) 4),hB hs,rB (a :: l)]=_;rw[<-this];rfl
theorem ju8{F:Nat->List SV}{zs:List Zo}{q:Nat}{ρ:List Nat}{σ:Nat->Nat}(hF:∀ i,i<zs.length->F i=zF zs q i)(hp:posN (σ q) ρ 0=some 4)(i:Nat)(hi:i<zs.length):SubL (renL ρ (mapL σ (F i))) (zF zs 4 i):=by
 rw[hF i hi];unfold zF;split
 ·refine⟨rfl,?_,True.intro⟩;show SubV (match posN (σ q) ρ 0 with|some p=>SV.all p|none=>.any) _;rw[hp];exact rfl
 ·exact⟨rfl,ja8 _,True.intro⟩
structure StP where
 n:Nat
 t:Ls
 zs:List Zo
 hs:List Ho
theorem jm8(s:Ls)(hs:s.length<=1099511627776)(hS:Short s):FnOk Tryz.prog 10 [.d (.str s)] (.tup [(zt s).1.V,.d (.int .i64 (zt s).2)]):=by
 refine qi (TT:=TT) (IN:=qd [(28,Tryz.f28,2)]) qe (jv qg Tryz.func28 (by kernel_rfl) (by kernel_rfl)) mixed 1000 Tryz.func10 rfl (qb Tryz.func10 (by kernel_rfl) rfl) rfl 44 (by kernel_rfl) ?_;generalize hK:zt s=K;conv=>whnf
 refine .nilC 1 0 58 2 (zE []) _ _ _ _ rfl rfl ?_;conv=>whnf
 refine .nilC 1 1 32 2 (hF []) _ _ _ _ rfl rfl ?_;conv=>whnf
 refine .pad ?_;conv=>whnf
 obtain⟨A,hA⟩:∃ A,A=zc (s.length+1) [] [] s:=⟨_,rfl⟩;unfold zt at hK;rw [<-hA] at hK;refine .inv StP (λx=>zc x.n x.zs x.hs x.t=A/\x.t.length<x.n/\x.t.length<=1099511627776/\Short x.t/\RdOk x.zs x.hs) (λx=>[(5,.d (.str x.t)),(6,.any),(7,.any),(8,.any)]) (λx=>[(2,zB 4 x.zs),(3,hB x.hs),(4,rB x.zs)]) (λx=>x.n) ⟨⟨s.length+1,s,[],[]⟩,[0,1,2,3,4],⟨hA.symm,gw _,hs,hS,.init⟩,?_⟩ ?_
 ·exact rY11
 rintro ⟨n,t,zs,hs⟩ ⟨i1,i2,i3,iS,i4⟩
 replace i1:zc n zs hs t=A:=i1;replace i2:t.length<n:=i2;replace i3:t.length<=1099511627776:=i3;replace iS:Short t:=iS;replace i4:RdOk zs hs:=i4;obtain⟨m,rfl⟩:∃ m,n=m+1:=⟨n - 1,om⟩;obtain⟨c1,c2,c3⟩:=qm9 t 10;obtain⟨c,hc⟩:∃ c,c=(cutB t 10).1:=⟨_,rfl⟩;obtain⟨d1,d2,d3⟩:=qm9 c 32;obtain⟨iS1,iS2⟩:=iS.cut;rw [<-hc] at c1 iS1;have hN:=i4.n64;have hmap:=xy2 zs hs;have hzone:∀ s:Ls,_:=λs=>xq4 zs hs s om i4.nz
 have hhost:∀ s:Ls,s.length<=1000000->_:=λs h=>xt7 zs hs s (by have:=i4.h64;omega) h
 have hrec:∀ s:Ls,s.length<=1000000->_:=λs h=>xy1 zs hs s om (by
  cases zs with
  |nil=>exact pv _
  |cons a l=>have:=(i4.zl _ (jm5 (zs:=a :: l) sm)).2.1;omega) h
 have htext:=kb2 zs hs i4;obtain⟨T,hT⟩:∃ T,T=jd (mkF zs hs):=⟨_,rfl⟩;rw [<-hT] at htext;have hcase:=xc5 zs hs c;rcases zs with _|⟨a,l⟩
 all_goals
  conv=>whnf
  refine⟨λh0=>?_,λh0=>?_⟩
  ·have h0:t≠[]:=by rintro rfl;cases h0
   conv=>whnf
   refine oD (jf1 t 10 om) rfl rfl ?_;rw[<-hc];conv=>whnf
   refine⟨λh1=>?_,λh1=>?_⟩
   ·have h1:(cutB t 10).2.2=false:=by simpa using h1
    rw [ja9 h0 h1] at i1;rw [<-i1] at hK;subst hK;conv=>whnf
    repeat'(first|exact ⟨⟩|exact rfl|exact λ_=>Iff.rfl|exact λ_ _=>rfl|exact renM_ent rfl _|apply And.intro)
    all_goals first|exact .inl rfl|exact noI
   have h1:(cutB t 10).2.2=true:=by simpa using h1
   conv=>whnf
   refine oD (jf1 c 32 om) rfl rfl ?_;conv=>whnf
   rcases hcase with⟨hz,hm⟩|⟨hz,hh,hm⟩|⟨hr,hcase⟩
   ·repeat(first|refine brT hz ?_|refine brT hm ?_;conv=>whnf)
    refine .rel _ (COk.frameX (hzone (cutB c 32).2.1) [1,2,3,4] rfl rfl hmap) (λx ks' hR=>?_);obtain⟨s0,k0,hR,rfl,rfl⟩:=hR;rcases hR with⟨e,rfl,rfl⟩|⟨zs',e,rfl,rfl⟩
    ·rw [ql0 h0 h1 (by rw [<-hc,yg0 hz hm,e];rfl)] at i1;rw [<-i1] at hK;subst hK;conv=>whnf
     repeat((first|apply Fr|apply Tr);conv=>whnf)
     repeat'(first|exact ⟨⟩|exact rfl|exact λ_=>Iff.rfl|exact λ_ _=>rfl|exact renM_ent rfl _|apply And.intro)
     all_goals first|exact .inl rfl|exact noI
    ·rw [qi1 h0 h1 (by rw [<-hc,yg0 hz hm,e];rfl)] at i1;have i5:=i4.zone e;obtain⟨a',l',rfl⟩:=xg5 e;have hrr:=zw9 e;conv=>whnf
     repeat((first|apply Fr|apply Tr);conv=>whnf)
     refine⟨⟨m,(cutB t 10).2.1,a' :: l',hs⟩,[0,1,5,3,6],⟨i1,by have:=c3 h1;show(cutB t 10).2.1.length<m;omega,by show(cutB t 10).2.1.length<=_;omega,iS2,i5⟩,gw _,?_⟩;conv=>whnf
     repeat'(first|exact ⟨⟩|exact rfl|exact(λ_ _ _ _ h=>⟨jq _,h⟩)|exact λ_=>Iff.rfl|exact λ_ _=>rfl|apply And.intro)
     all_goals first|exact λi hi=>ju8 (q:=5) (λ_ _=>rfl) (by rfl) i hi|(rw[hrr];rfl)|exact noI
   ·repeat(first|refine brF hz ?_|refine brT hh ?_|refine brT hm ?_;conv=>whnf)
    refine .rel _ (COk.frameX (hhost (cutB c 32).2.1 om) [1,2,3,4] rfl rfl hmap) (λx ks' hR=>?_);obtain⟨s0,k0,hR,rfl,rfl⟩:=hR;rcases hR with⟨e,rfl,rfl⟩|⟨hs',G,e,rfl,rfl,hG⟩
    ·rw [ql0 h0 h1 (by rw [<-hc,yg1 hz hh hm,e];rfl)] at i1;rw [<-i1] at hK;subst hK;conv=>whnf
     repeat((first|apply Fr|apply Tr);conv=>whnf)
     repeat'(first|exact ⟨⟩|exact rfl|exact λ_=>Iff.rfl|exact λ_ _=>rfl|exact renM_ent rfl _|apply And.intro)
     all_goals first|exact .inl rfl|exact noI
    ·rw [qi1 h0 h1 (by rw [<-hc,yg1 hz hh hm,e];rfl)] at i1;have i5:=i4.host om e;conv=>whnf
     repeat((first|apply Fr|apply Tr);conv=>whnf)
     refine⟨⟨m,(cutB t 10).2.1,_,hs'⟩,[0,1,2,5,4],⟨i1,by have:=c3 h1;show(cutB t 10).2.1.length<m;omega,by show(cutB t 10).2.1.length<=_;omega,iS2,i5⟩,gw _,?_⟩;conv=>whnf
     repeat'(first|exact ⟨⟩|exact rfl|exact(λ_ _ _ _ h=>⟨jq _,h⟩)|exact λ_=>Iff.rfl|exact λ_ _=>rfl|apply And.intro)
     all_goals first|exact λi hi=>ju8 (q:=3) (λ_ _=>rfl) (by rfl) i hi|exact hG
   ·rcases hcase with⟨hz,hh⟩|⟨hz,hh,hm⟩|⟨hz,hh,hm⟩
    all_goals
     repeat(first|refine brF hz ?_|refine brT hz ?_|refine brF hh ?_|refine brT hh ?_|refine brF hm ?_;conv=>whnf)
     refine .rel _ (COk.frameX (hrec c om) [1,2,3,4] rfl rfl hmap) (λx ks' hR=>?_);obtain⟨s0,k0,hR,rfl,rfl⟩:=hR;rcases hR with⟨e,rfl,rfl⟩|⟨zs',F,e,rfl,rfl,hzl,hF⟩
     ·rw [ql0 h0 h1 (by rw [<-hc,hr,e];rfl)] at i1;rw [<-i1] at hK;subst hK;conv=>whnf
      repeat((first|apply Fr|apply Tr);conv=>whnf)
      repeat'(first|exact ⟨⟩|exact rfl|exact λ_=>Iff.rfl|exact λ_ _=>rfl|exact renM_ent rfl _|apply And.intro)
      all_goals first|exact .inl rfl|exact noI
     ·first
       |(rw [xj3] at e;cases e;done)
       |(
        rw [qi1 h0 h1 (by rw [<-hc,hr,e];rfl)] at i1;have i5:=i4.recd e;obtain⟨a',l',rfl⟩:∃ a' l',zs'=a' :: l':=by
         cases zs' with
         |nil=>cases hzl
         |cons a' l'=>exact⟨_,_,rfl⟩
        conv=>whnf
        repeat((first|apply Fr|apply Tr);conv=>whnf)
        refine⟨⟨m,(cutB t 10).2.1,a' :: l',hs⟩,[0,1,2,3,5],⟨i1,by have:=c3 h1;show(cutB t 10).2.1.length<m;omega,by show(cutB t 10).2.1.length<=_;omega,iS2,i5⟩,gw _,?_⟩;conv=>whnf
        repeat'(first|exact ⟨⟩|exact rfl|exact(λ_ _ _ _ h=>⟨jq _,h⟩)|exact λ_=>Iff.rfl|exact λ_ _=>rfl|apply And.intro)
        all_goals exact λi hi=>ju8 (q:=4) hF (by rfl) i hi)
  ·obtain rfl:t=[]:=by
    cases t with
    |nil=>rfl
    |cons x t=>cases h0
   rw [xa0] at i1;rw [<-i1] at hK;replace hK:(if jd (mkF _ hs)=(s,0) then (mkF _ hs,0) else (nilF,6))=K:=hK;rw [<-hT] at hK;conv=>whnf
   refine .rel _ (COk.frameX htext [1,2,3,4] rfl rfl hmap) (λx ks' hR=>?_);obtain⟨s0,k0,⟨rfl,rfl⟩,rfl,rfl⟩:=hR;conv=>whnf
   by_cases g1:T.2=0
   ·refine brF (by rw[g1];rfl) ?_;conv=>whnf
    by_cases g2:T.1=s
    ·rw [if_pos (Prod.ext g2 g1)] at hK;refine brF (by rw[g2];simp) ?_;subst hK;conv=>whnf
     repeat((first|apply Fr|apply Tr);conv=>whnf)
     repeat'(first|exact ⟨⟩|exact rfl|exact λ_=>Iff.rfl|exact λ_ _=>rfl|exact renM_ent rfl _|apply And.intro)
     all_goals exact .inr rfl
    ·rw [if_neg (λh=>g2 (congrArg Prod.fst h))] at hK;refine brT (by simpa using g2) ?_;subst hK;conv=>whnf
     repeat((first|apply Fr|apply Tr);conv=>whnf)
     repeat'(first|exact ⟨⟩|exact rfl|exact λ_=>Iff.rfl|exact λ_ _=>rfl|exact renM_ent rfl _|apply And.intro)
     all_goals first|exact .inl rfl|exact noI
   ·rw [if_neg (λh=>g1 (congrArg Prod.snd h))] at hK;refine brT (by simpa using g1) ?_;subst hK;conv=>whnf
    repeat((first|apply Fr|apply Tr);conv=>whnf)
    repeat'(first|exact ⟨⟩|exact rfl|exact λ_=>Iff.rfl|exact λ_ _=>rfl|exact renM_ent rfl _|apply And.intro)
    all_goals first|exact .inl rfl|exact noI
section
section
variable{α:Type}[Inhabited α]
def eqTo(e:α->α->Bool)(l m:List α)(i:Nat):Bool:=(List.range i).all λj=>e (l.getD j default) (m.getD j default)
def eqL(e:α->α->Bool)(l m:List α):Bool:=l.length == m.length && eqTo e l m l.length
theorem qe0(e:α->α->Bool)(l m:List α)(i:Nat):eqTo e l m (i+1)=(eqTo e l m i && e (l.getD i default) (m.getD i default)):=by
 unfold eqTo;rw[List.range_succ,dn];simp
theorem qe9{e:α->α->Bool}{l m:List α}{i:Nat}(hi:i<l.length)(h:e (l.getD i default) (m.getD i default)=false):eqTo e l m l.length=false:=by
 unfold eqTo;rw[dx];exact⟨i,o8.2 hi,by rw[h];decide⟩
theorem qm8{e:α->α->Bool}(he:∀ a,e a a=true)(l:List α):eqL e l l=true:=by
 unfold eqL eqTo;rw[beq_self_eq_true,p9,o7];exact λj _=>he _
end
def uc(a b:RR):Bool:=a.nm == b.nm && (a.ty == b.ty && (a.cl == b.cl && (a.ttl == b.ttl && a.d == b.d)))
def we(a b:Zo):Bool:=a.apex == b.apex && eqL uc a.rrs b.rrs
def u9(a b:Int):Bool:=a == b
def vj(a b:Ho):Bool:=a.1 == b.1 && eqL u9 a.2.2 b.2.2
def vy(f g:Fo):Bool:=eqL we f.zones g.zones && eqL vj f.hosts g.hosts
theorem xv1(y z:Bool)(l m:List RR)(hl:l.length<=4611686018427387904):FnOk Tryz.prog 36 [.d (rrsD y l),.d (rrsD z m)] (.d (.bool (eqL uc l m))):=by
 refine qi (TT:=TT) (IN:=qd []) qe qg mixed 1000 Tryz.func36 rfl (qb Tryz.func36 (by kernel_rfl) rfl) rfl 24 (by kernel_rfl) ?_;obtain⟨E,hEE⟩:∃ E,E=uc:=⟨_,rfl⟩;rw[<-hEE];have hE:∀ a b:RR,(a.nm == b.nm && (a.ty == b.ty && (a.cl == b.cl && (a.ttl == b.ttl && (a.d == b.d && true)))))=E a b:=λa b=>by rw[hEE];unfold uc;rw[Bool.and_true]
 unfold eqL;conv=>whnf
 by_cases hlen:l.length=m.length
 case neg =>
  rw[show(l.length == m.length)=false by simpa using hlen,lx];refine brT (by rw[bne_iff_ne];omega) ?_;conv=>whnf
  all_goals exact rfl
 rw[show(l.length == m.length)=true by simpa using hlen,p9];refine brF (by rw[bne_eq_false_iff_eq];omega) ?_;conv=>whnf
 refine .inv Nat (λi=>i<=l.length/\eqTo E l m i=true) (λi=>[(13,iV i)]) (λ_=>[]) (λi=>l.length - i) ⟨0,[],⟨pv _,rfl⟩,?_⟩ ?_
 ·exact rY2
 intro i hi;obtain⟨hi,hti⟩:=hi;conv=>whnf
 refine⟨λh1=>?_,λh1=>?_⟩
 ·have h1:i<l.length:=by
   have h:(i:Int)<l.length:=px h1;omega
  have hw1:=w64s i om;have hnx:=qe0 E l m i;rw [hti,p9] at hnx;have hbad:=qe9 (e:=E) (m:=m) h1;have hal:l.getD i default ∈ l:=by rw[List.getD,pp h1];exact oz _
  have hbl:m.getD i default ∈ m:=by rw[List.getD,pp om];exact oz _
  conv=>whnf
  refine⟨om,?_⟩;conv=>whnf
  refine⟨om,?_⟩;conv=>whnf
  rw[pr];generalize l.getD i default=a at hnx hbad hal ⊢;generalize m.getD i default=b at hnx hbad hbl ⊢;rw[hE a b];cases hs:E a b with
  |false =>
   rw[hbad hs];conv=>whnf
   apply Tr;conv=>whnf
   all_goals exact rfl
  |true =>
   conv=>whnf
   apply Fr;conv=>whnf
   rw[hw1];refine⟨i+1,[],⟨h1,by rw[hnx,hs]⟩,om,?_⟩;exact rY2
 ·have h1:i=l.length:=by
   have h:¬ (i:Int)<l.length:=py h1;omega
  subst h1;conv=>whnf
  rw[hti];all_goals exact rfl
theorem xo1(y z:Bool)(l m:List Int)(hl:l.length<=4611686018427387904):FnOk Tryz.prog 39 [.d (.sl y l.length 1 (λj=>[.int .i64 (l.getD j 0)])),.d (.sl z m.length 1 (λj=>[.int .i64 (m.getD j 0)]))] (.d (.bool (eqL u9 l m))):=by
 show FnOk Tryz.prog 39 [.d (.sl y l.length 1 (λj=>[.int .i64 (l.getD j default)])),.d (.sl z m.length 1 (λj=>[.int .i64 (m.getD j default)]))] (.d (.bool (eqL u9 l m)));refine qi (TT:=TT) (IN:=qd []) qe qg mixed 1000 Tryz.func39 rfl (qb Tryz.func39 (by kernel_rfl) rfl) rfl 24 (by kernel_rfl) ?_;obtain⟨E,hEE⟩:∃ E,E=u9:=⟨_,rfl⟩;rw[<-hEE];have hE:∀ a b:Int,(a != b) = !E a b:=λa b=>by rw[hEE];rfl
 unfold eqL;conv=>whnf
 by_cases hlen:l.length=m.length
 case neg =>
  rw[show(l.length == m.length)=false by simpa using hlen,lx];refine brT (by rw[bne_iff_ne];omega) ?_;conv=>whnf
  all_goals exact rfl
 rw[show(l.length == m.length)=true by simpa using hlen,p9];refine brF (by rw[bne_eq_false_iff_eq];omega) ?_;conv=>whnf
 refine .inv Nat (λi=>i<=l.length/\eqTo E l m i=true) (λi=>[(13,iV i)]) (λ_=>[]) (λi=>l.length - i) ⟨0,[],⟨pv _,rfl⟩,?_⟩ ?_
 ·exact rY2
 intro i hi;obtain⟨hi,hti⟩:=hi;conv=>whnf
 refine⟨λh1=>?_,λh1=>?_⟩
 ·have h1:i<l.length:=by
   have h:(i:Int)<l.length:=px h1;omega
  have hw1:=w64s i om;have hnx:=qe0 E l m i;rw [hti,p9] at hnx;have hbad:=qe9 (e:=E) (m:=m) h1;have hal:l.getD i default ∈ l:=by rw[List.getD,pp h1];exact oz _
  have hbl:m.getD i default ∈ m:=by rw[List.getD,pp om];exact oz _
  conv=>whnf
  refine⟨om,?_⟩;conv=>whnf
  refine⟨om,?_⟩;conv=>whnf
  rw[pr];generalize l.getD i default=a at hnx hbad hal ⊢;generalize m.getD i default=b at hnx hbad hbl ⊢;rw[hE a b];cases hs:E a b with
  |false =>
   rw[hbad hs];conv=>whnf
   apply Tr;conv=>whnf
   all_goals exact rfl
  |true =>
   conv=>whnf
   apply Fr;conv=>whnf
   rw[hw1];refine⟨i+1,[],⟨h1,by rw[hnx,hs]⟩,om,?_⟩;exact rY2
 ·have h1:i=l.length:=by
   have h:¬ (i:Int)<l.length:=py h1;omega
  subst h1;conv=>whnf
  rw[hti];all_goals exact rfl
theorem xi4(a b:Zo)(hl:a.rrs.length<=4611686018427387904):FnOk Tryz.prog 35 [.agg [.d (.str a.apex),.d (rrsD a.z a.rrs)],.agg [.d (.str b.apex),.d (rrsD b.z b.rrs)]] (.d (.bool (we a b))):=by
 refine qi (TT:=TT) (IN:=qd []) qe qg mixed 1000 Tryz.func35 rfl (qb Tryz.func35 (by kernel_rfl) rfl) rfl 15 (by kernel_rfl) ?_;unfold we;conv=>whnf
 cases h:a.apex == b.apex with
 |false =>
  apply Fr;conv=>whnf
  all_goals exact rfl
 |true =>
  apply Tr;conv=>whnf
  refine oD (xv1 a.z b.z a.rrs b.rrs hl) rfl rfl ?_;conv=>whnf
  all_goals exact rfl
theorem xi3(a b:Ho)(hl:a.2.2.length<=4611686018427387904):FnOk Tryz.prog 38 [.agg [.d (.int .u32 a.1),.d (.sl a.2.1 a.2.2.length 1 (λj=>[.int .i64 (a.2.2.getD j 0)]))],.agg [.d (.int .u32 b.1),.d (.sl b.2.1 b.2.2.length 1 (λj=>[.int .i64 (b.2.2.getD j 0)]))]] (.d (.bool (vj a b))):=by
 refine qi (TT:=TT) (IN:=qd []) qe qg mixed 1000 Tryz.func38 rfl (qb Tryz.func38 (by kernel_rfl) rfl) rfl 15 (by kernel_rfl) ?_;unfold vj;conv=>whnf
 cases h:a.1 == b.1 with
 |false =>
  apply Fr;conv=>whnf
  all_goals exact rfl
 |true =>
  apply Tr;conv=>whnf
  refine oD (xo1 a.2.1 b.2.1 a.2.2 b.2.2 hl) rfl rfl ?_;conv=>whnf
  all_goals exact rfl
theorem xu8(y z:Bool)(l m:List Zo)(hl:l.length<=4611686018427387904)(hr:∀ a ∈ l,a.rrs.length<=4611686018427387904):FnOk Tryz.prog 34 [.d (qv2 y l),.d (qv2 z m),.fn 35 []] (.d (.bool (eqL we l m))):=by
 refine qi (TT:=TT) (IN:=qd []) qe qg mixed 1000 Tryz.func34 rfl (qb Tryz.func34 (by kernel_rfl) rfl) rfl 29 (by kernel_rfl) ?_;obtain⟨E,hEE⟩:∃ E,E=we:=⟨_,rfl⟩;have hcall:=λa b (h:a ∈ l) (_:b ∈ m)=>xi4 a b (hr a h)
 rw [<-hEE] at hcall ⊢;unfold eqL;conv=>whnf
 by_cases hlen:l.length=m.length
 case neg =>
  rw[show(l.length == m.length)=false by simpa using hlen,lx];refine brT (by rw[bne_iff_ne];omega) ?_;conv=>whnf
  all_goals exact rfl
 rw[show(l.length == m.length)=true by simpa using hlen,p9];refine brF (by rw[bne_eq_false_iff_eq];omega) ?_;conv=>whnf
 refine .inv Nat (λi=>i<=l.length/\eqTo E l m i=true) (λi=>[(17,iV i)]) (λ_=>[]) (λi=>l.length - i) ⟨0,[],⟨pv _,rfl⟩,?_⟩ ?_
 ·exact rY2
 intro i hi;obtain⟨hi,hti⟩:=hi;conv=>whnf
 refine⟨λh1=>?_,λh1=>?_⟩
 ·have h1:i<l.length:=by
   have h:(i:Int)<l.length:=px h1;omega
  have hw1:=w64s i om;have hnx:=qe0 E l m i;rw [hti,p9] at hnx;have hbad:=qe9 (e:=E) (m:=m) h1;have hal:l.getD i default ∈ l:=by rw[List.getD,pp h1];exact oz _
  have hbl:m.getD i default ∈ m:=by rw[List.getD,pp om];exact oz _
  conv=>whnf
  refine⟨om,?_⟩;conv=>whnf
  refine⟨om,?_⟩;conv=>whnf
  rw[pr];generalize l.getD i default=a at hnx hbad hal ⊢;generalize m.getD i default=b at hnx hbad hbl ⊢;refine oD (hcall a b hal hbl) rfl rfl ?_;cases hs:E a b with
  |false =>
   rw[hbad hs];conv=>whnf
   apply Tr;conv=>whnf
   all_goals exact rfl
  |true =>
   conv=>whnf
   apply Fr;conv=>whnf
   rw[hw1];refine⟨i+1,[],⟨h1,by rw[hnx,hs]⟩,om,?_⟩;exact rY2
 ·have h1:i=l.length:=by
   have h:¬ (i:Int)<l.length:=py h1;omega
  subst h1;conv=>whnf
  rw[hti];all_goals exact rfl
theorem xv2(y z:Bool)(l m:List Ho)(hl:l.length<=4611686018427387904)(hr:∀ a ∈ l,a.2.2.length<=4611686018427387904):FnOk Tryz.prog 37 [.d (qw0 y l),.d (qw0 z m),.fn 38 []] (.d (.bool (eqL vj l m))):=by
 refine qi (TT:=TT) (IN:=qd []) qe qg mixed 1000 Tryz.func37 rfl (qb Tryz.func37 (by kernel_rfl) rfl) rfl 29 (by kernel_rfl) ?_;obtain⟨E,hEE⟩:∃ E,E=vj:=⟨_,rfl⟩;have hcall:=λa b (h:a ∈ l) (_:b ∈ m)=>xi3 a b (hr a h)
 rw [<-hEE] at hcall ⊢;unfold eqL;conv=>whnf
 by_cases hlen:l.length=m.length
 case neg =>
  rw[show(l.length == m.length)=false by simpa using hlen,lx];refine brT (by rw[bne_iff_ne];omega) ?_;conv=>whnf
  all_goals exact rfl
 rw[show(l.length == m.length)=true by simpa using hlen,p9];refine brF (by rw[bne_eq_false_iff_eq];omega) ?_;conv=>whnf
 refine .inv Nat (λi=>i<=l.length/\eqTo E l m i=true) (λi=>[(17,iV i)]) (λ_=>[]) (λi=>l.length - i) ⟨0,[],⟨pv _,rfl⟩,?_⟩ ?_
 ·exact rY2
 intro i hi;obtain⟨hi,hti⟩:=hi;conv=>whnf
 refine⟨λh1=>?_,λh1=>?_⟩
 ·have h1:i<l.length:=by
   have h:(i:Int)<l.length:=px h1;omega
  have hw1:=w64s i om;have hnx:=qe0 E l m i;rw [hti,p9] at hnx;have hbad:=qe9 (e:=E) (m:=m) h1;have hal:l.getD i default ∈ l:=by rw[List.getD,pp h1];exact oz _
  have hbl:m.getD i default ∈ m:=by rw[List.getD,pp om];exact oz _
  conv=>whnf
  refine⟨om,?_⟩;conv=>whnf
  refine⟨om,?_⟩;conv=>whnf
  rw[pr];generalize l.getD i default=a at hnx hbad hal ⊢;generalize m.getD i default=b at hnx hbad hbl ⊢;refine oD (hcall a b hal hbl) rfl rfl ?_;cases hs:E a b with
  |false =>
   rw[hbad hs];conv=>whnf
   apply Tr;conv=>whnf
   all_goals exact rfl
  |true =>
   conv=>whnf
   apply Fr;conv=>whnf
   rw[hw1];refine⟨i+1,[],⟨h1,by rw[hnx,hs]⟩,om,?_⟩;exact rY2
 ·have h1:i=l.length:=by
   have h:¬ (i:Int)<l.length:=py h1;omega
  subst h1;conv=>whnf
  rw[hti];all_goals exact rfl
structure Fo.Sm(f:Fo):Prop where
 z:f.zones.length<=4611686018427387904
 r:∀ a ∈ f.zones,a.rrs.length<=4611686018427387904
 h:f.hosts.length<=4611686018427387904
 a:∀ a ∈ f.hosts,a.2.2.length<=4611686018427387904
theorem jp6(f g:Fo)(hf:f.Sm):FnOk Tryz.prog 13 [f.V,g.V] (.d (.bool (vy f g))):=by
 refine qi (TT:=TT) (IN:=qd []) qe qg mixed 1000 Tryz.func13 rfl (qb Tryz.func13 (by kernel_rfl) rfl) rfl 15 (by kernel_rfl) ?_;unfold vy;conv=>whnf
 refine oD (xu8 f.zz g.zz f.zones g.zones hf.z hf.r) rfl rfl ?_;cases h:eqL we f.zones g.zones with
 |false =>
  conv=>whnf
  apply Fr;conv=>whnf
  all_goals exact rfl
 |true =>
  conv=>whnf
  apply Tr;conv=>whnf
  refine oD (xv2 f.hz g.hz f.hosts g.hosts hf.h hf.a) rfl rfl ?_;conv=>whnf
  all_goals exact rfl
end
theorem xo4(n:Nat):∀ b ∈ Lib.decDigits n,b≠10:=λb hb e=>by
 have:=za9 n b hb;rw [e] at this;exact absurd this.1 (by decide)
theorem xe1(c:UInt8):∀ b ∈ escB c,b≠10:=by
 have hd:=jq5 c.toNat c.toNat_lt;have hn:∀ x:UInt8,j7 x=true->x≠10:=λx hx e=>by rw [e] at hx;exact absurd hx (by decide)
 unfold escB;split
 ·rename_i h;intro b hb;simp only [pz,List.mem_nil_iff,or_false] at hb;rcases hb with rfl|rfl
  ·decide
  ·rcases h with rfl|rfl <;> decide
 ·split
  ·rename_i h;intro b hb;simp only [m9] at hb;subst hb;rintro rfl;exact absurd h.1 (by decide)
  ·intro b hb;simp only [pz,List.mem_nil_iff,or_false] at hb;rcases hb with rfl|rfl|rfl|rfl
   ·decide
   ·exact hn _ hd.1
   ·exact hn _ hd.2.1
   ·exact hn _ hd.2.2.1
theorem yo1:∀ l:Ls,∀ b ∈ escL l,b≠10
 |[],b,h=>by cases h
 |c :: l,b,h=>by
  simp only [escL,ow] at h;exact h.elim (xe1 c b) (yo1 l b)
theorem yi9:∀ ls:List Ls,∀ b ∈ txtL ls,b≠10
 |[],b,h=>by cases h
 |l :: ls,b,h=>by
  simp only [txtL,ow,pz] at h;rcases h with h|rfl|h
  ·exact yo1 l b h
  ·decide
  ·exact yi9 ls b h
theorem yi7(n:Ls):∀ b ∈ txtN n,b≠10:=by
 unfold txtN;split
 ·intro b hb;simp at hb;rw [hb];decide
 ·exact yi9 _
theorem yn1:∀ n,n<16->hexC n≠10:=by decide +kernel
theorem yn0:∀ s:Ls,∀ b ∈ hexL s,b≠10
 |[],b,h=>by cases h
 |c :: s,b,h=>by
  simp only [hexL,pz] at h;rcases h with rfl|rfl|h
  ·exact yn1 _ (by have:=c.toNat_lt;omega)
  ·exact yn1 _ om
  ·exact yn0 s b h
theorem xd4(s:Ls):∀ b ∈ hexT s,b≠10:=by
 unfold hexT;split
 ·intro b hb;simp at hb;rw [hb];decide
 ·exact yn0 s
theorem yu1:∀ (s t:Ls) (n m:Nat),go31 n s = .ok m->go31 n (s++t)=go31 m t
 |[],t,n,m,h=>by cases h;rfl
 |c :: s,t,n,m,h=>by
  rw[gz];conv=>lhs;unfold go31
  unfold go31 at h;split at h
  ·rename_i h1;rw[if_pos h1];split at h
   ·cases h
   ·rename_i h2;rw[if_neg h2];exact yu1 s t _ m h
  ·cases h
theorem yu0(n d:Nat)(hd:d<10)(h:10 * n+d<=2147483647):go31 n [UInt8.ofNat (48+d)] = .ok (10 * n+d):=by
 have e:(UInt8.ofNat (48+d)).toNat=48+d:=by rw[UInt8.toNat_ofNat'];omega
 unfold go31;rw[e,if_pos om,if_neg om];unfold go31;rw[show 48+d - 48=d by omega]
theorem xn0(n:Nat):n<=2147483647->go31 0 (Lib.decDigits n) = .ok n:=by
 induction n using Nat.strongRecOn with
 |ind n ih =>
  intro h;by_cases hn:n<10
  ·rw[Lib.decDigits_one hn];have:=yu0 0 n hn om
   rwa [show 10 * 0+n=n by omega] at this
  ·rw[Lib.decDigits,dif_neg hn,yu1 _ _ 0 (n / 10) (ih (n / 10) om om),yu0 _ _ om om];rw[show 10 * (n / 10)+n % 10=n by omega]
theorem xb7{n:Nat}(h:n<=2147483647):zm (Lib.decDigits n) = .ok n:=by
 unfold zm;rw[if_neg (zd7 n),xn0 n h]
theorem yu5(n:Nat):(32:UInt8) ∉ Lib.decDigits n:=λh=>qc0 n 32 h rfl
theorem jb9(x:Int)(l:List Int):atsT (x :: l)=32 :: (Lib.decDigits x.toNat++atsT l):=rfl
def aftH:List Int->Ls
 |[]=>[]
 |x :: l=>Lib.decDigits x.toNat++atsT l
theorem je9(n:Nat)(l:List Int):cutB (Lib.decDigits n++atsT l) 32=(Lib.decDigits n,aftH l,!l.isEmpty):=by
 cases l with
 |nil=>rw[show atsT []=[] from rfl,m6,zb1 _ (yu5 n)];rfl
 |cons x l=>rw[jb9,qn0 _ _ (yu5 n)];rfl
theorem yp3:∀ (l:List Int) (n:Nat) (acc:List Int) (x:Int),l.length<n->(0<=x/\x<=2147483647)->(∀ a ∈ l,0<=a/\a<=2147483647)->atsR n (Lib.decDigits x.toNat++atsT l) true acc=some (acc++x :: l)
 |l,0,_,_,h,_,_=>absurd h (fw _)
 |l,n+1,acc,x,h,hx,hl=>by
  have hnum:zm (cutB (Lib.decDigits x.toNat++atsT l) 32).1 = .ok x.toNat:=by rw[je9];exact xb7 om
  rw[jt0 hnum,je9];have hxx:((x.toNat:Nat):Int)=x:=om
  rw[hxx];cases l with
  |nil=>exact jq7 _ _ _
  |cons y l =>
   have:=yp3 l n (acc++[x]) y (by simp only [pw] at h;omega) (hl y (.head _)) (λa ha=>hl a (.tail _ ha));rw [mp] at this;exact this
theorem xw1(l:List Int):l.length<=(atsT l).length:=by
 induction l with
 |nil=>exact pu _
 |cons x l ih=>rw[jb9];simp only[pw,pq];omega
theorem zv1(a:Nat)(l:List Int)(ha:a<=4294967295)(hl:∀ a ∈ l,0<=a/\a<=2147483647):uh (Lib.decDigits a++atsT l)=some ((a:Int),Nat.beq l.length 0,l):=by
 have hw:yi 32 (cutB (Lib.decDigits a++atsT l) 32).1=some a:=by rw[je9];exact ja7 (by decide) om
 rw[jp3 hw,je9];have hg:=xw1 l;have:atsR ((Lib.decDigits a++atsT l).length+1) (aftH l) (!l.isEmpty) []=some l:=by
  cases l with
  |nil=>exact jq7 _ _ _
  |cons x l =>
   have:=yp3 l ((Lib.decDigits a++atsT (x :: l)).length+1) [] x (by rw [pq];simp only [pw] at hg;omega) (hl x (.head _)) (λa ha=>hl a (.tail _ ha));exact this
 rw[this];rfl
def nzZ(z:Zo):Zo:=⟨z.apex,Nat.beq z.rrs.length 0,z.rrs⟩
def nzH(h:Ho):Ho:=(h.1,Nat.beq h.2.2.length 0,h.2.2)
def HIn(h:Ho):Prop:=(0<=h.1/\h.1<=4294967295)/\∀ a ∈ h.2.2,0<=a/\a<=2147483647
theorem yy6{zs:List Zo}{hs:List Ho}{h:Ho}(hi:HIn h)(hl:hs.length<64):zq zs hs (yj h)=some (zs,hs++[nzH h]):=by
 have e:yj h=[104,111,115,116]++32 :: (Lib.decDigits h.1.toNat++atsT h.2.2):=by unfold yj;rfl
 have hc:cutB (yj h) 32=([104,111,115,116],Lib.decDigits h.1.toNat++atsT h.2.2,true):=by rw[e];exact qn0 _ _ (by decide)
 obtain⟨⟨h1,h2⟩,h3⟩:=hi;unfold zq;rw[hc,if_neg (λh=>absurd (show([104,111,115,116]:Ls)=[122,111,110,101] from h.1) (by decide)),if_pos ⟨rfl,rfl⟩];unfold hosP;rw[if_neg om,zv1 _ _ om h3];rw[show((h.1.toNat:Nat):Int)=h.1 by omega]
 rfl
theorem xt0{zs:List Zo}{z:Zo}(hz:qa z.apex)(hl:zs.length<64):zq zs [] (y7 z)=some (zs++[⟨z.apex,true,[]⟩],[]):=by
 have hc:cutB (y7 z) 32=([122,111,110,101],txtN z.apex,true):=qn0 [122,111,110,101] (txtN z.apex) (by decide);unfold zq;rw[hc,if_pos ⟨rfl,rfl⟩];unfold wc;rw[jb1 hz,if_neg (λh=>h.elim (λh=>absurd h (by decide)) λh=>h.elim (λh=>by omega) λh=>h rfl)]
 rfl
theorem yq2{n:Ls}(h:qa n):∃ s,txtN n=s++[46]:=by
 obtain⟨h1,h2,h3⟩:=y5 h;unfold txtN;split
 ·exact⟨[],rfl⟩
 ·rename_i hne;have hl:labN n≠[]:=λe=>by
   rw [e] at h3;exact hne h3
  generalize labN n=ls at hl;clear h2 h3;induction ls with
  |nil=>exact absurd rfl hl
  |cons l ls ih =>
   cases ls with
   |nil=>exact⟨escL l,rfl⟩
   |cons m ls =>
    obtain⟨s,hs⟩:=ih sm;refine⟨escL l++46 :: s,?_⟩;show escL l++46 :: txtL (m :: ls)=_;rw[hs];simp
theorem xt1{ys:List Zo}{z:Zo}{r:RR}(hr:r.check=true)(hi:r.In)(hl:z.rrs.length<256):zq (ys++[z]) [] r.line=some (ys++[⟨z.apex,false,z.rrs++[r]⟩],[]):=by
 have hc:(cutB r.line 32).1=txtN r.nm:=by
  unfold RR.line;rw[qn0 _ _ (λh=>je1 r.nm 32 h rfl)]
 obtain⟨s,hs⟩:=yq2 (ux hr);have hne:∀ (a b c d:UInt8),d≠46->txtN r.nm≠[a,b,c,d]:=λa b c d hd e=>by
  rw [hs] at e;have:=congrArg List.getLast? e;rw [List.getLast?_append] at this;simp at this;exact hd this.symm
 have hll:qo (ys++[z])=z:=by unfold qo;simp[List.getD]
 unfold zq;rw[hc,if_neg (by rintro ⟨h,_⟩;exact hne _ _ _ _ (by decide) h),if_neg (by rintro ⟨h,_⟩;exact hne _ _ _ _ (by decide) h)];unfold recP;rw [hll,if_neg (λh=>h.elim (λh=>by simp at h) λh=>h.elim (λh=>absurd h (by decide)) λh=>by omega),zt7 hr hi (ql9 hr)];show some _=_;rw[List.set_append_right _ _ sm];simp
theorem ye1:∀ (n m:Nat) (zs:List Zo) (hs:List Ho) (t:Ls),t.length<n->t.length<m->zc n zs hs t=zc m zs hs t
 |0,_,_,_,_,h,_=>absurd h (fw _)
 |_+1,0,_,_,_,_,h=>absurd h (fw _)
 |n+1,m+1,zs,hs,t,h1,h2=>by
  by_cases ht:t=[]
  ·subst ht;rfl
  ·cases hc:(cutB t 10).2.2 with
   |false=>rw[ja9 ht hc,ja9 ht hc]
   |true =>
    have hl:=(qm9 t 10).2.2 hc;cases hp:zq zs hs (cutB t 10).1 with
    |none=>rw[ql0 ht hc hp,ql0 ht hc hp]
    |some p=>rw[qi1 ht hc hp,qi1 ht hc hp];exact ye1 n m _ _ _ om om
def wr(zs:List Zo)(hs:List Ho)(t:Ls):Option (List Zo × List Ho):=zc (t.length+1) zs hs t
theorem qz7{zs:List Zo}{hs:List Ho}{l r:Ls}{p:List Zo × List Ho}(hl:(10:UInt8) ∉ l)(h:zq zs hs l=some p):wr zs hs (l++10 :: r)=wr p.1 p.2 r:=by
 have hc:=qn0 l r hl;unfold wr;rw[qi1 sm (by rw[hc]) (by rw[hc];exact h),hc];exact ye1 _ _ _ _ _ (by rw[pq,pw];show r.length<_;omega) (gw _)
theorem qd8{c:UInt8}{a b:Ls}(h1:c ∉ a)(h2:c ∉ b):c ∉ a++b:=λh=>(ow.1 h).elim h1 h2
theorem qu6{c x:UInt8}{b:Ls}(h1:c≠x)(h2:c ∉ b):c ∉ x :: b:=λh=>(pz.1 h).elim h1 h2
theorem qu8(n:Nat):(10:UInt8) ∉ Lib.decDigits n:=λh=>xo4 n 10 h rfl
theorem yr5(r:RR):(10:UInt8) ∉ r.line:=by
 unfold RR.line;exact qd8 (λh=>yi7 _ 10 h rfl) (qu6 (by decide) (qd8 (qu8 _) (qu6 (by decide) (qd8 (qu8 _) (qu6 (by decide) (qd8 (qu8 _) (qu6 (by decide) λh=>xd4 _ 10 h rfl)))))))
theorem yp7(z:Zo):(10:UInt8) ∉ y7 z:=qd8 (by decide) λh=>yi7 _ 10 h rfl
theorem xz8(l:List Int):(10:UInt8) ∉ atsT l:=by
 induction l with
 |nil=>exact λh=>by cases h
 |cons x l ih=>rw[jb9];exact qu6 (by decide) (qd8 (qu8 _) ih)
theorem yt5(h:Ho):(10:UInt8) ∉ yj h:=qd8 (qd8 (by decide) (qu8 _)) (xz8 _)
theorem yk3:∀ (rs acc:List RR) (ys:List Zo) (apex t:Ls),acc.length+rs.length<=256->(∀ r ∈ rs,r.check=true/\r.In)->wr (ys++[⟨apex,Nat.beq acc.length 0,acc⟩]) [] (jy rs++t)=wr (ys++[⟨apex,Nat.beq (acc++rs).length 0,acc++rs⟩]) [] t
 |[],acc,ys,apex,t,_,_=>by rw[m6];rfl
 |r :: rs,acc,ys,apex,t,hl,h=>by
  simp only [pw] at hl;have e:jy (r :: rs)++t=r.line++10 :: (jy rs++t):=by show(r.line++[10])++jy rs++t=_;simp
  rw[e,qz7 (yr5 r) (xt1 (h r (.head _)).1 (h r (.head _)).2 (by show acc.length<_;omega))];have:=yk3 rs (acc++[r]) ys apex t (by rw[pq];simp;omega) (λx hx=>h x (.tail _ hx));rw [mp] at this;rw[<-List.singleton_append (l:=rs),<-this];rw[show Nat.beq (acc++[r]).length 0=false by rw[pq];rfl]
theorem ya3:∀ (l zs:List Zo) (t:Ls),zs.length+l.length<=64->(∀ z ∈ l,z.ok=true/\∀ r ∈ z.rrs,r.In)->wr zs [] (ya l++t)=wr (zs++l.map nzZ) [] t
 |[],zs,t,_,_=>by rw[List.map_nil,m6];rfl
 |z :: l,zs,t,hl,h=>by
  simp only [pw] at hl;obtain⟨h1,h2⟩:=h z (.head _);have e:ya (z :: l)++t=y7 z++10 :: (jy z.rrs++(ya l++t)):=by show(y7 z++[10]++jy z.rrs++ya l)++t=_;simp
  rw[e,qz7 (yp7 z) (xt0 (Zo.ok_name h1) om)];have h3:=yk3 z.rrs [] zs z.apex (ya l++t) (by have:=Zo.ok_len h1;simp;omega) (λr hr=>⟨Zo.ok_rr h1 r hr,h2 r hr⟩);rw [fq] at h3;show wr (zs++[⟨z.apex,Nat.beq ([]:List RR).length 0,[]⟩]) [] _=_;rw[h3,ya3 l _ t (by rw[pq];simp;omega) (λx hx=>h x (.tail _ hx)),mp]
  rfl
theorem ya4(zs:List Zo):∀ (l hs:List Ho) (t:Ls),hs.length+l.length<=64->(∀ h ∈ l,HIn h)->wr zs hs (yf l++t)=wr zs (hs++l.map nzH) t
 |[],hs,t,_,_=>by rw[List.map_nil,m6];rfl
 |h :: l,hs,t,hl,hi=>by
  simp only [pw] at hl;have e:yf (h :: l)++t=yj h++10 :: (yf l++t):=by show(yj h++[10]++yf l)++t=_;simp
  rw[e,qz7 (yt5 h) (yy6 (hi h (.head _)) om),ya4 zs l _ t (by rw[pq];simp;omega) (λx hx=>hi x (.tail _ hx)),mp]
  rfl
def nzF(f:Fo):Fo:=mkF (f.zones.map nzZ) (f.hosts.map nzH)
theorem jt7(zs:List Zo)(i:Nat):(zs.map nzZ).getD i default=nzZ (zs.getD i default):=by
 rw[List.getD,List.getD,mw];cases zs[i]? <;> rfl
theorem xk4(zs:List Zo)(n:Ls):zj (zs.map nzZ) n=zj zs n:=by
 unfold zj;rw[List.findIdx?_map];rfl
theorem xb6(zs:List Zo)(i:Nat):yt (zs.map nzZ) i=yt zs i:=by
 unfold yt;rw[<-List.map_take,<-List.map_drop,<-du,f7];rfl
theorem xs3(zs:List Zo):qc7 (zs.map nzZ)=qc7 zs:=by
 have h1:∀ i a,v8 (zs.map nzZ) i a=v8 zs i a:=λi a=>by
  unfold v8;rw[xb6];cases zn a (yt zs i) none with
  |none=>rfl
  |some b=>exact xk4 zs _
 unfold qc7;rw[mq];congr 1;funext i;rw[jt7,h1];congr 1;show(match v8 zs i (zs.getD i default).apex with|none=>false|some a=>((zs.map nzZ).getD a default).cutL.any λc=>fold c == fold (nzZ (zs.getD i default)).apex)=_;cases v8 zs i (zs.getD i default).apex with
 |none=>rfl
 |some a=>show(((zs.map nzZ).getD a default).cutL.any _)=_;rw[jt7];rfl
theorem zf5(f:Fo):(nzF f).ok=f.ok:=by
 unfold Fo.ok nzF mkF;simp only[mq,xs3,jt7];have h1:(f.zones.map nzZ).all Zo.ok=f.zones.all Zo.ok:=by rw[List.all_map];rfl
 have h2:(f.zones.map nzZ).map (λz=>fold z.apex)=f.zones.map λz=>fold z.apex:=by rw[f7];rfl
 have h3:zi f.zones.length (f.hosts.map nzH)=zi f.zones.length f.hosts:=by
  unfold zi;rw[f7,List.all_map];rfl
 rw[h1,h2,h3];rfl
theorem yy1(f:Fo):(nzF f).text=f.text:=by
 unfold Fo.text nzF mkF ya yf;simp only[List.flatMap_map]
 rfl
theorem yd9(a:Int):u9 a a=true:=by unfold u9;simp
theorem yd8(a:RR):uc a a=true:=by unfold uc;simp
theorem za4{α:Type}[Inhabited α]{e:α->α->Bool}{g:α->α}(he:∀ a,e a (g a)=true)(l:List α):eqL e l (l.map g)=true:=by
 unfold eqL eqTo;rw[mq,beq_self_eq_true,p9,o7];intro j hj;have hj:=o8.1 hj;have:(l.map g).getD j default=g (l.getD j default):=by
  rw[List.getD,List.getD,mw,pp hj];rfl
 rw[this];exact he _
theorem xs2(f:Fo):vy f (nzF f)=true:=by
 unfold vy;rw[show eqL we f.zones (nzF f).zones=true from za4 (λa=>by unfold we nzZ;rw[beq_self_eq_true,p9];exact qm8 yd8 _) _,p9];exact za4 (λa=>by unfold vj nzH;rw[beq_self_eq_true,p9];exact qm8 yd9 _) _
theorem Fo.Okf.hin{f:Fo}(h:f.Okf)(hi:f.In):∀ x ∈ f.hosts,HIn x:=λx hx=>⟨hi.addr x hx,λa ha=>by have:=h.host x hx a ha;omega⟩
theorem ye0{f:Fo}(hok:f.Okf)(hi:f.In)(t:Ls):wr [] [] (f.text++t)=wr (f.zones.map nzZ) (f.hosts.map nzH) t:=by
 unfold Fo.text;rw[mp,ya3 f.zones [] _ (by have:=hok.nz;simp;omega) (λz hz=>⟨hok.zone z hz,hi.rr z hz⟩),fq];exact ya4 _ f.hosts [] t (by have:=hok.nh;simp;omega) (hok.hin hi)
theorem qy5{f:Fo}(hok:f.ok=true)(hi:f.In):zt f.text=(nzF f,0):=by
 have hk:=Fo.ok_f hok;have h1:=ye0 hk hi [];rw [m6] at h1;unfold zt;rw[show zc (f.text.length+1) [] [] f.text=some (f.zones.map nzZ,f.hosts.map nzH) from h1];show(if jd (nzF f)=(f.text,0) then (nzF f,0) else (nilF,6))=_;rw[if_pos];unfold jd;rw[zf5,hok,if_pos rfl,yy1]
theorem zo6{s:Ls}(h:(zt s).2=0):∃ zs hs,zc (s.length+1) [] [] s=some (zs,hs)/\(zt s).1=mkF zs hs/\jd (mkF zs hs)=(s,0)/\(mkF zs hs).ok=true:=by
 unfold zt at h ⊢;cases hr:zc (s.length+1) [] [] s with
 |none=>rw [hr] at h;cases h
 |some p =>
  rw [hr] at h;by_cases ht:jd (mkF p.1 p.2)=(s,0)
  ·refine⟨p.1,p.2,rfl,by show(if jd (mkF p.1 p.2)=(s,0) then (mkF p.1 p.2,(0:Int)) else (nilF,6)).1=_;rw[if_pos ht],ht,?_⟩;cases ho:(mkF p.1 p.2).ok
   ·unfold jd at ht;rw [ho] at ht;cases ht
   ·rfl
  ·exact absurd h (by show(if jd (mkF p.1 p.2)=(s,0) then (mkF p.1 p.2,(0:Int)) else (nilF,6)).2≠0;rw[if_neg ht];decide)
theorem yr6:∀ (n:Nat) (zs:List Zo) (hs:List Ho) (t:Ls) (p:List Zo × List Ho),RdOk zs hs->Short t->zc n zs hs t=some p->RdOk p.1 p.2
 |0,_,_,_,_,_,_,h=>by cases h
 |n+1,zs,hs,t,p,hk,hS,h=>by
  by_cases ht:t=[]
  ·subst ht;cases h;exact hk
  ·cases hc:(cutB t 10).2.2 with
   |false=>rw [ja9 ht hc] at h;cases h
   |true =>
    cases hp:zq zs hs (cutB t 10).1 with
    |none=>rw [ql0 ht hc hp] at h;cases h
    |some q =>
     rw [qi1 ht hc hp] at h;exact yr6 n _ _ _ p (hk.line hS.cut.1 hp) hS.cut.2 h
def k6(z:Zo):Bool:=decide (z.apex.length<=1000) && (decide (z.rrs.length<=60) && z.rrs.all λr=>decide (r.d.length<=5000) && decide (r.nm.length<=1000))
theorem zs3(z:Zo):FnOk Tryz.prog 18 [z.V] (.d (.int .i64 (if k6 z then 1 else 0))):=by
 refine qi (TT:=TT) (IN:=qd []) qe qg mixed 1000 Tryz.func18 rfl (qb Tryz.func18 (by kernel_rfl) rfl) rfl 32 (by kernel_rfl) ?_;conv=>whnf
 refine⟨λh1=>?_,λh1=>?_⟩
 ·have h1:¬ z.apex.length<=1000:=by
   have h:(z.apex.length:Int) > 1000:=px h1;omega
  rw[show k6 z=false by unfold k6;rw[po h1];rfl];conv=>whnf
  all_goals exact rfl
 have h1:z.apex.length<=1000:=by
  have h:¬ (z.apex.length:Int) > 1000:=py h1;omega
 conv=>whnf
 refine⟨λh2=>?_,λh2=>?_⟩
 ·have h2:¬ z.rrs.length<=60:=by
   have h:(z.rrs.length:Int) > 60:=px h2;omega
  rw[show k6 z=false by unfold k6;rw[po h2,lx,l8]];conv=>whnf
  all_goals exact rfl
 have h2:z.rrs.length<=60:=by
  have h:¬ (z.rrs.length:Int) > 60:=py h2;omega
 have hs:k6 z=z.rrs.all λr=>decide (r.d.length<=5000) && decide (r.nm.length<=1000):=by unfold k6;rw[pn h1,pn h2];rfl
 rw[hs];conv=>whnf
 refine .inv Nat (λi=>i<=z.rrs.length/\(z.rrs.take i).all (λr=>decide (r.d.length<=5000) && decide (r.nm.length<=1000))=true) (λi=>[(18,iV i)]) (λi=>[]) (λi=>z.rrs.length - i) ⟨0,[0],⟨pv _,rfl⟩,?_⟩ ?_
 ·exact rY2
 intro i hi;obtain⟨hi,hti⟩:=hi;conv=>whnf
 refine⟨λh3=>?_,λh3=>?_⟩
 ·have h3:i<z.rrs.length:=by
   have h:(i:Int)<z.rrs.length:=px h3;omega
  have hw1:=w64s i om;obtain⟨r,hr⟩:∃ r,z.rrs.getD i default=r:=⟨_,rfl⟩;have hrl:z.rrs[i]? = some r:=by rw[<-hr,List.getD,pp h3];rfl
  have hbad:(decide (r.d.length<=5000) && decide (r.nm.length<=1000))=false->(z.rrs.all λr=>decide (r.d.length<=5000) && decide (r.nm.length<=1000))=false:=λh=>by
   rw[dx];exact⟨r,ov hrl,by rw[h];decide⟩
  conv=>whnf
  refine⟨om,?_⟩;conv=>whnf
  rw[pr,hr];refine⟨λh4=>?_,λh4=>?_⟩
  ·have h4:¬ r.d.length<=5000:=by
    have h:(r.d.length:Int) > 5000:=px h4;omega
   rw[hbad (by rw[po h4];rfl)];conv=>whnf
   all_goals exact rfl
  have h4:r.d.length<=5000:=by
   have h:¬ (r.d.length:Int) > 5000:=py h4;omega
  conv=>whnf
  refine⟨λh5=>?_,λh5=>?_⟩
  ·have h5:¬ r.nm.length<=1000:=by
    have h:(r.nm.length:Int) > 1000:=px h5;omega
   rw[hbad (by rw[po h5,l8])];conv=>whnf
   all_goals exact rfl
  have h5:r.nm.length<=1000:=by
   have h:¬ (r.nm.length:Int) > 1000:=py h5;omega
  conv=>whnf
  rw[hw1];refine⟨i+1,[0],⟨h3,by rw[o3,hrl,dn,hti];simp[h4,h5]⟩,om,?_⟩;exact rY2
 ·have h3:i=z.rrs.length:=by
   have h:¬ (i:Int)<z.rrs.length:=py h3;omega
  subst h3;rw [mu] at hti;rw[hti];conv=>whnf
  all_goals exact rfl
def Fo.small(f:Fo):Bool:=decide (f.zones.length<=8) && (decide (f.hosts.length<=12) && f.zones.all k6)
theorem yd5(f:Fo):FnOk Tryz.prog 6 [f.V] (.d (.int .i64 (if f.small then 1 else 0))):=by
 refine qi (TT:=TT) (IN:=qd []) qe qg mixed 1000 Tryz.func6 rfl (qb Tryz.func6 (by kernel_rfl) rfl) rfl 25 (by kernel_rfl) ?_;conv=>whnf
 refine⟨λh1=>?_,λh1=>?_⟩
 ·have h1:¬ f.zones.length<=8:=by
   have h:(f.zones.length:Int) > 8:=px h1;omega
  rw[show f.small=false by unfold Fo.small;rw[po h1];rfl];conv=>whnf
  all_goals exact rfl
 have h1:f.zones.length<=8:=by
  have h:¬ (f.zones.length:Int) > 8:=py h1;omega
 conv=>whnf
 refine⟨λh2=>?_,λh2=>?_⟩
 ·have h2:¬ f.hosts.length<=12:=by
   have h:(f.hosts.length:Int) > 12:=px h2;omega
  rw[show f.small=false by unfold Fo.small;rw[po h2,lx,l8]];conv=>whnf
  all_goals exact rfl
 have h2:f.hosts.length<=12:=by
  have h:¬ (f.hosts.length:Int) > 12:=py h2;omega
 have hs:f.small=f.zones.all k6:=by unfold Fo.small;rw[pn h1,pn h2];rfl
 rw[hs];conv=>whnf
 refine .inv Nat (λi=>i<=f.zones.length/\(f.zones.take i).all k6=true) (λi=>[(18,iV i)]) (λi=>[]) (λi=>f.zones.length - i) ⟨0,[0],⟨pv _,rfl⟩,?_⟩ ?_
 ·exact rY2
 intro i hi;obtain⟨hi,hti⟩:=hi;conv=>whnf
 refine⟨λh3=>?_,λh3=>?_⟩
 ·have h3:i<f.zones.length:=by
   have h:(i:Int)<f.zones.length:=px h3;omega
  have hw1:=w64s i om;obtain⟨z,hzd⟩:∃ z,f.zones.getD i default=z:=⟨_,rfl⟩;have hzl:f.zones[i]? = some z:=by rw[<-hzd,List.getD,pp h3];rfl
  conv=>whnf
  refine⟨om,?_⟩;conv=>whnf
  rw[pr,hzd];refine oD (zs3 z) rfl rfl ?_;cases hz:k6 z with
  |false =>
   have hb:f.zones.all k6=false:=by
    rw[dx];exact⟨z,ov hzl,by rw[hz];decide⟩
   rw[hb,if_neg (by decide)];conv=>whnf
   apply Tr;conv=>whnf
   all_goals exact rfl
  |true =>
   rw[if_pos rfl];conv=>whnf
   apply Fr;conv=>whnf
   rw[hw1];refine⟨i+1,[0],⟨h3,by rw[o3,hzl,dn,hti];simp[hz]⟩,om,?_⟩;exact rY2
 ·have h3:i=f.zones.length:=by
   have h:¬ (i:Int)<f.zones.length:=py h3;omega
  subst h3;rw [mu] at hti;rw[hti];conv=>whnf
  all_goals exact rfl
def fvD:Ls:=[0,0]++List.replicate 20 0
def fvS:RR:=⟨[0],6,1,9,fvD⟩
def fvN:RR:=⟨[0],2,1,8,[1,110,0]⟩
def fvF:Fo:=⟨false,[⟨[0],false,[fvS,fvN]⟩],false,[(5,false,[0])]⟩
def fvT:Ls:=fvF.text
def fvH:Ls:=[104,111,115,116,32,53,10]
theorem jv3:fvF.ok=true:=by kernel_rfl
theorem xu2:jd fvF=(fvT,0):=by unfold jd;rw[jv3];rfl
theorem jv4:fvF.In:=⟨λz hz r hr=>by
 simp only [fvF,pz,List.mem_nil_iff,or_false] at hz;subst hz;simp only [pz,List.mem_nil_iff,or_false] at hr;rcases hr with rfl|rfl
 ·exact⟨by decide,by decide,by decide⟩
 ·exact⟨by decide,by decide,by decide⟩,λh hh=>by
 simp only [fvF,pz,List.mem_nil_iff,or_false] at hh;subst hh;decide,λh hh=>by
 simp only [fvF,pz,List.mem_nil_iff,or_false] at hh;subst hh;decide⟩
theorem xn2:zt fvT=(nzF fvF,0):=qy5 jv3 jv4
theorem xz4:zt (fvT++fvH)=(nilF,6):=by
 have h1:=ye0 (Fo.ok_f jv3) jv4 fvH;have e:yj (5,true,[])=[104,111,115,116,32,53]:=by kernel_rfl
 have h3:zq (fvF.zones.map nzZ) (fvF.hosts.map nzH) [104,111,115,116,32,53]=some (fvF.zones.map nzZ,fvF.hosts.map nzH++[nzH (5,true,[])]):=e ▸ yy6 (hs:=fvF.hosts.map nzH) (h:=(5,true,[])) ⟨by decide,λa ha=>by cases ha⟩ (by decide);have h2:wr (fvF.zones.map nzZ) (fvF.hosts.map nzH) fvH=some (fvF.zones.map nzZ,fvF.hosts.map nzH++[nzH (5,true,[])]):=qz7 (l:=[104,111,115,116,32,53]) (r:=[]) (by decide) h3;rw [h2] at h1;unfold zt;rw[show zc ((fvT++fvH).length+1) [] [] (fvT++fvH)=_ from h1];show(if jd (mkF (fvF.zones.map nzZ) (fvF.hosts.map nzH++[nzH (5,true,[])]))=(fvT++fvH,0) then _ else (nilF,(6:Int)))=_;rw[if_neg];unfold jd;rw[show(mkF (fvF.zones.map nzZ) (fvF.hosts.map nzH++[nzH (5,true,[])])).ok=false by kernel_rfl];exact λh=>absurd (congrArg Prod.snd h) (by decide)
theorem xz2:jd nilF=([],2):=by kernel_rfl
theorem fv_same:vy fvF (nzF fvF)=true/\vy fvF nilF=false:=⟨xs2 _,by kernel_rfl⟩
theorem qo8:fvT=([122,111,110,101,32,46,10,46,32,57,32,49,32,54,32,48,48,48,48,48,48,48,48,48,48,48,48,48,48,48,48,48,48,48,48,48,48,48,48,48,48,48,48,48,48,48,48,48,48,48,48,48,48,48,48,48,48,48,48,10,46,32,56,32,49,32,50,32,48,49,54,101,48,48,10,104,111,115,116,32,53,32,48,10]:Ls):=by kernel_rfl
theorem xn1:Short fvT:=Short.of 1000 _ (by rw[qo8];decide) (by decide)
theorem xd5:Short (fvT++fvH):=Short.of 1000 _ (by rw[qo8];decide) (by decide)
theorem xz3:fvF.Fit:=λz hz=>by
 simp only [fvF,pz,List.mem_nil_iff,or_false] at hz;subst hz;refine⟨by decide,λr hr=>?_⟩;simp only [pz,List.mem_nil_iff,or_false] at hr;rcases hr with rfl|rfl <;> decide
theorem zg3:fvF.Sm:=⟨by decide,λa ha=>by
 simp only [fvF,pz,List.mem_nil_iff,or_false] at ha;subst ha;decide,by decide,λa ha=>by
 simp only [fvF,pz,List.mem_nil_iff,or_false] at ha;subst ha;decide⟩
def fvR1:List DV:=fvS.enc++fvN.enc
def fvZr:List DV:=[.str [0],.sl false 2 5 (qs fvR1 5)]
def fvHr:List DV:=[.int .u32 5,.sl false 1 1 (qs [.int .i64 0] 1)]
def fvG:SV:=.agg [.d (.sl false 1 2 (qs fvZr 2)),.d (.sl false 1 2 (qs fvHr 2))]
theorem kc6:DS (.sl false 2 5 (qs fvR1 5)) (rrsD false [fvS,fvN]):=DS.rows λi hi=>(match i,hi with
 |0,_=>DSL.refl _
 |1,_=>DSL.refl _)
theorem jv5:AEq fvG fvF.V:=AEq.aggL ⟨.d (DS.rows λi hi=>(match i,hi with
 |0,_=>⟨.refl _,kc6,trivial⟩)),.d (DS.rows λi hi=>(match i,hi with
 |0,_=>⟨.refl _,DS.rows λi hi=>(match i,hi with
  |0,_=>DSL.refl _),trivial⟩)),trivial⟩
theorem zg4:AEq (.agg [nilS,nilS]) nilF.V:=AEq.aggL ⟨.none _ _ _ _ _,.none _ _ _ _ _,trivial⟩
theorem ql3:FnOk Tryz.prog 7 [] (.d (.bool true)):=by
 have c1:=(qt3 fvF xz3 jv4).convA (args':=[fvG]) ⟨jv5,trivial⟩;rw [xu2] at c1;have c2:=jm8 fvT (by rw[qo8];decide) xn1;rw [xn2] at c2;have c3:=jm8 (fvT++fvH) (by rw[qo8];decide) xd5;rw [xz4] at c3;have c4:=(qt3 nilF (λz hz=>by cases hz) ⟨λz hz=>(by cases hz),λz hz=>(by cases hz),λz hz=>(by cases hz)⟩).convA (args':=[.agg [nilS,nilS]]) ⟨zg4,trivial⟩;rw [xz2] at c4;have c5:=(jp6 fvF (nzF fvF) zg3).convA (args':=[fvG,(nzF fvF).V]) ⟨jv5,.refl _,trivial⟩;rw [fv_same.1] at c5;have c6:=(jp6 fvF nilF zg3).convA (args':=[fvG,.agg [nilS,nilS]]) ⟨jv5,zg4,trivial⟩;rw [fv_same.2] at c6;refine qi (TT:=TT) (IN:=qd []) qe qg mixed 1000 Tryz.func7 rfl (qb Tryz.func7 (by kernel_rfl) rfl) rfl 76 (by kernel_rfl) ?_;conv=>whnf
 refine⟨by decide,?_⟩;conv=>whnf
 refine⟨λi _=>⟨0,rfl⟩,?_⟩;conv=>whnf
 refine⟨by decide,?_⟩;conv=>whnf
 refine .fz [3,5] [(4,58,fvZr.map .d),(6,32,fvHr.map .d)] ⟨⟨_,rfl,?_,rfl⟩,⟨_,rfl,?_,rfl⟩,True.intro⟩ ?_
 ·conv=>whnf
  exact⟨rfl,rfl⟩
 ·conv=>whnf
  exact⟨rfl,rfl⟩
 refine .still [4,6] [(7,25,[.d (.sl false 1 2 (qs fvZr 2)),.d (.sl false 1 2 (qs fvHr 2))])] (.tup [.d (.str fvT),.d (.int .i64 0)]) _ ⟨⟨_,rfl,?_,rfl⟩,True.intro⟩ ?_ c1 rfl rfl ?_
 ·conv=>whnf
  exact⟨rfl,rfl⟩
 ·conv=>whnf
  exact⟨rfl,rfl⟩
 conv=>whnf
 refine oD c2 rfl rfl ?_;conv=>whnf
 refine⟨by rw[qo8];decide,?_⟩;conv=>whnf
 refine oD c3 rfl rfl ?_;conv=>whnf
 refine oD c4 rfl rfl ?_;conv=>whnf
 refine brT (by rw[qo8];rfl) ?_;conv=>whnf
 repeat(first|(apply Tr;conv=>whnf)|(apply Fr;conv=>whnf)|(refine .once ?_;conv=>whnf)|(refine⟨by decide,?_⟩;conv=>whnf)|(refine And.intro (au rfl) ?_;conv=>whnf))
 refine oD c5 rfl rfl ?_;conv=>whnf
 repeat(first|(apply Tr;conv=>whnf)|(apply Fr;conv=>whnf)|(refine .once ?_;conv=>whnf)|(refine⟨by decide,?_⟩;conv=>whnf)|(refine And.intro (au rfl) ?_;conv=>whnf))
 refine oD c6 rfl rfl ?_;conv=>whnf
 repeat(first|(apply Tr;conv=>whnf)|(apply Fr;conv=>whnf)|(refine .once ?_;conv=>whnf)|(refine⟨by decide,?_⟩;conv=>whnf)|(refine And.intro (au rfl) ?_;conv=>whnf))
 all_goals exact rfl
def xx3:Option (List Ls)->SV
 |none=>.tup [.any,.d .ff]
 |some l=>.tup [.d (.sl false l.length 1 (strs l)),.d .tt]
structure SpSt where
 at_:Nat
 l:List Ls
 m:Nat
set_option maxRecDepth 100000 in
theorem qa8(s:Ls):FnOk Tryz.prog 56 [.d (.str s)] (xx3 (ja s)):=by
 refine qi (TT:=TT) (IN:=qd []) qe qg mixed 1000 Tryz.func56 rfl (qb Tryz.func56 (by kernel_rfl) rfl) rfl 52 (by kernel_rfl) ?_;conv=>whnf
 refine⟨λh1=>?_,λh1=>?_⟩
 ·have h1:(s.length:Int) > 255:=px h1;have e:ja s=none:=by unfold ja;rw[if_pos om]
  rw[e];exact rY3
 have h1:¬ (s.length:Int) > 255:=py h1;have e:ja s=u3 (s.length+1) s:=by unfold ja;rw[if_neg om]
 have hw:∀ n:Int,-9223372036854775808<=n/\n<=9223372036854775807->IntKind.i64.wrap n=n:=λn h=>qc n h
 conv=>whnf
 refine .csT 4 0 9 1 (λ_=>[]) rfl rfl ?_;refine .inv SpSt (λx=>x.at_<=s.length/\s.length<x.at_+x.m/\x.l.length<=x.at_/\(u3 x.m (s.drop x.at_)).map (x.l ++ ·)=u3 (s.length+1) s) (λx=>[(4,.all 1),(5,.d (.int .i64 x.at_))]) (λx=>[(1,.row 9 1 x.l.length .no (strs x.l))]) (λx=>s.length - x.at_) ⟨⟨0,[],s.length+1⟩,[0,1],⟨pv _,by show s.length<0+(s.length+1);omega,pv _,sm⟩,?_⟩ ?_
 ·conv=>whnf
  repeat'(first|exact ⟨⟩|exact rfl|(intro i hi;exact absurd hi (fw _))|exact λ_ _=>rfl|apply And.intro)
 intro x hx;obtain⟨hk,hm,hll,hrest⟩:=hx;conv=>whnf
 generalize x.at_=k at hk hm hll hrest ⊢;generalize x.l=l at hll hrest ⊢;generalize x.m=m at hm hrest ⊢;have hdl:(s.drop k).length=s.length - k:=by simp
 have hd0:bt (s.drop k) 0=bt s k:=by rw[qf8];rfl
 have hbl:=vm s k;obtain⟨m',rfl⟩:∃ m',m=m'+1:=⟨m - 1,om⟩;conv at hrest=>lhs;unfold u3
 rw [hdl,hd0] at hrest;refine⟨λc0=>?_,λc0=>?_⟩
 ·have c0':k<s.length:=(by have h:(k:Int)<s.length:=px c0;omega);rw [if_neg om] at hrest;conv=>whnf
  refine⟨om,?_⟩;conv=>whnf
  rw[jl,hw _ om];refine⟨λc1=>?_,λc1=>?_⟩
  ·have c1:bt s k=0:=by
    have h:(bt s k:Int)=0:=by simpa using c1
    omega
   rw [if_pos c1] at hrest;conv=>whnf
   rw[hw ((s.length:Int) - 1) om];by_cases hz:s.length - k=1
   ·rw [if_pos hz] at hrest;rw[e,<-hrest];conv=>whnf
    refine⟨?_,?_,True.intro⟩
    ·exact⟨rfl,sm,.inr rfl,λi hi=>by simp⟩
    ·show((k:Int) == (s.length:Int) - 1)=true;simp;omega
   ·rw [if_neg hz] at hrest;rw[e,<-hrest];conv=>whnf
    refine⟨True.intro,?_,True.intro⟩;show((k:Int) == (s.length:Int) - 1)=false;simp;omega
  have c1:bt s k≠0:=by
   have h:(bt s k:Int)≠0:=by simpa using c1
   omega
  rw [if_neg c1] at hrest;conv=>whnf
  refine⟨λc2=>?_,λc2=>?_⟩
  ·have c2:(bt s k:Int) > 63:=px c2;rw [if_pos (.inl om)] at hrest;rw[e,<-hrest];conv=>whnf
   exact⟨True.intro,rfl,True.intro⟩
  have c2:¬ (bt s k:Int) > 63:=py c2;conv=>whnf
  rw[hw ((k:Int)+1) om,hw ((k:Int)+1+bt s k) om];refine⟨λc3=>?_,λc3=>?_⟩
  ·have c3:(k:Int)+1+bt s k > s.length:=px c3;rw [if_pos (.inr om)] at hrest;rw[e,<-hrest];conv=>whnf
   exact⟨True.intro,rfl,True.intro⟩
  have c3:¬ (k:Int)+1+bt s k > s.length:=py c3;rw [if_neg om] at hrest;conv=>whnf
  rw[hw ((k:Int)+1) om,hw ((k:Int)+1+bt s k) om];refine⟨om,?_⟩;conv=>whnf
  refine⟨om,?_⟩;conv=>whnf
  rw[hw (1+(bt s k:Int)) om,hw ((k:Int)+(1+bt s k)) om,show(k:Int)+(1+(bt s k:Int))=((k+(1+bt s k):Nat):Int) by omega];refine⟨⟨k+(1+bt s k),l++[(s.drop (k+1)).take (bt s k)],m'⟩,[0,3],⟨by show k+(1+bt s k)<=_;omega,by show s.length<k+(1+bt s k)+m';omega,by show(l++[_]).length<=k+(1+bt s k);rw[pq];show l.length+1<=_;omega,?_⟩,by show s.length - (k+(1+bt s k))<s.length - k;omega,?_⟩
  ·rw[<-hrest,gx,gx];simp[Function.comp_def]
  conv=>whnf
  repeat'(first|exact ⟨⟩|exact rfl|apply And.intro)
  ·simp
  ·refine zh _ _ _ ?_;show[DV.str _]=[DV.str _];congr 2;unfold sub;rw[show((k:Int)+1+(bt s k:Int)).toNat - ((k:Int)+1).toNat=bt s k by omega,show((k:Int)+1).toNat=k+1 by omega]
 ·have c0':k=s.length:=(by have h:¬ (k:Int)<s.length:=py c0;omega);rw [if_pos om] at hrest;rw[e,<-hrest];conv=>whnf
  exact⟨True.intro,rfl,True.intro⟩
set_option maxRecDepth 100000 in
theorem qd4(s:Ls):FnOk Tryz.prog 89 [.d (.str s)] (.d (.int .i64 (if qa s then 0 else 2))):=by
 refine qi (TT:=TT) (IN:=qd []) qe qg mixed 1000 Tryz.func89 rfl (qb Tryz.func89 (by kernel_rfl) rfl) rfl 11 (by kernel_rfl) ?_;conv=>whnf
 refine .one (.data _ (qa8 s) rfl (by cases ja s <;> rfl) ?_);have hn:=wy s;cases hl:ja s with
 |none =>
  have:¬ qa s:=λh=>by rw [hn,hl] at h;cases h
  rw[if_neg this];conv=>whnf
  try exact rfl
 |some ls =>
  have:qa s:=hn.2 (by rw[hl];rfl);rw[if_pos this];conv=>whnf
  try exact rfl
theorem qd7(s:Ls)(hs:s.length<9223372036854775808):FnOk Tryz.prog 92 [.d (.str s)] (.d (.str (fold s))):=by
 refine qi (TT:=TT) (IN:=qd []) qe qg mixed 1000 Tryz.func92 rfl (qb Tryz.func92 (by kernel_rfl) rfl) rfl 28 (by kernel_rfl) ?_;conv=>whnf
 refine .inv Nat (λk=>k<=s.length) (λk=>[(10,.d (.int .i64 k))]) (λk=>[(0,.row 5 1 s.length .no (λj=>[.int .u8 (mix s k j)]))]) (λk=>s.length - k) ⟨0,[0],om,?_⟩ ?_
 ·conv=>whnf
  repeat'(first|exact ⟨⟩|exact rfl|apply And.intro)
  intro i hi;simp[mix,jl]
 intro k hk;have hk1:k<s.length->IntKind.i64.wrap ((k:Int)+1)=((k+1:Nat):Int):=λ_=>by rw[qc _ om];omega
 conv=>whnf
 refine⟨λhlt=>?_,λhge=>?_⟩
 ·have hlt':k<s.length:=by simpa using hlt
  conv=>whnf
  refine⟨by simp;omega,?_⟩;have hmk:mix s k (Int.toNat (k:Int))=(bt s k:Int):=by simp[mix]
  have hb:=vm s k;conv=>whnf
  have stay:¬ (65<=bt s k/\bt s k<=90)->∀ i,i<s.length->[DV.int IntKind.u8 (mix s k i)]=[DV.int IntKind.u8 (mix s (k+1) i)]:=λhn i hi=>by
   unfold mix;by_cases e:i=k
   ·subst e;rw [if_neg om,if_pos om,uz,if_neg (by unfold bt at hn;exact hn)]
    rfl
   ·by_cases e2:i<k
    ·rw[if_pos e2,if_pos om]
    ·rw[if_neg e2,if_neg om]
  rw[hmk];refine⟨λh1=>?_,λh1=>?_⟩
  ·conv=>whnf
   refine⟨λh2=>?_,λh2=>?_⟩
   ·conv=>whnf
    refine⟨by simp;omega,?_⟩;conv=>whnf
    refine⟨k+1,[0],om,by show s.length - (k+1)<s.length - k;omega,?_⟩;conv=>whnf
    repeat'(first|exact ⟨⟩|exact rfl|apply And.intro)
    all_goals first
     |exact congrArg SV.d (congrArg (DV.int _) (hk1 hlt'))
     |exact stay (by simp at h1 h2;omega)
     |(
      intro i hi;show oneF _ _ _ _ i=_;unfold oneF mix;simp at h1 h2;by_cases e:i=k
      ·subst e;simp only[pr,if_true,putD,ax];rw [if_pos om,uz,if_pos (by unfold bt at h1 h2;omega),gy];unfold bt at *;congr 2;omega
      ·rw[if_neg (by simpa using e)];show[DV.int _ _]=[DV.int _ _];by_cases e2:i<k
       ·rw[if_pos e2,if_pos om]
       ·rw[if_neg e2,if_neg om])
   ·conv=>whnf
    refine⟨k+1,[0],om,by show s.length - (k+1)<s.length - k;omega,?_⟩;conv=>whnf
    repeat'(first|exact ⟨⟩|exact rfl|apply And.intro)
    all_goals first
     |exact congrArg SV.d (congrArg (DV.int _) (hk1 hlt'))
     |exact stay (by simp at h1 h2;omega)
     |(
      intro i hi;show oneF _ _ _ _ i=_;unfold oneF mix;simp at h1 h2;by_cases e:i=k
      ·subst e;simp only[pr,if_true,putD,ax];rw [if_pos om,uz,if_pos (by unfold bt at h1 h2;omega),gy];unfold bt at *;congr 2;omega
      ·rw[if_neg (by simpa using e)];show[DV.int _ _]=[DV.int _ _];by_cases e2:i<k
       ·rw[if_pos e2,if_pos om]
       ·rw[if_neg e2,if_neg om])
  ·conv=>whnf
   refine⟨k+1,[0],om,by show s.length - (k+1)<s.length - k;omega,?_⟩;conv=>whnf
   repeat'(first|exact ⟨⟩|exact rfl|apply And.intro)
   all_goals first
    |exact congrArg SV.d (congrArg (DV.int _) (hk1 hlt'))
    |exact stay (by simp at h1;omega)
    |(
     intro i hi;show oneF _ _ _ _ i=_;unfold oneF mix;simp at h1;by_cases e:i=k
     ·subst e;simp only[pr,if_true,putD,ax];rw [if_pos om,uz,if_pos (by unfold bt at h1;omega),gy];unfold bt at *;congr 2;omega
     ·rw[if_neg (by simpa using e)];show[DV.int _ _]=[DV.int _ _];by_cases e2:i<k
      ·rw[if_pos e2,if_pos om]
      ·rw[if_neg e2,if_neg om])
 ·have hke:k=s.length:=by simp at hge;omega
  subst hke;conv=>whnf
  refine⟨λi _=>⟨_,rfl⟩,?_⟩;conv=>whnf
  refine congrArg DV.str ?_;unfold j5 fold;apply ay;intro i;rw[mw,mw];by_cases hi:i<s.length
  ·rw[c8 hi,pp hi];simp[mix,hi]
  ·rw[g8 (by simp;omega),g8 om]
   rfl
theorem qd6(a b:Ls):FnOk Tryz.prog 53 [.d (.str a),.d (.str b)] (.d (.bool (qp a b))):=by
 refine qi (TT:=TT) (IN:=qd []) qe qg mixed 1000 Tryz.func53 rfl (qb Tryz.func53 (by kernel_rfl) rfl) rfl 18 (by kernel_rfl) ?_;conv=>whnf
 refine oD (qd4 a) rfl rfl ?_;by_cases ha:qa a
 ·rw[if_pos ha];conv=>whnf
  apply Tr;conv=>whnf
  refine oD (qd4 b) rfl rfl ?_;by_cases hb:qa b
  ·rw[if_pos hb];conv=>whnf
   apply Tr;conv=>whnf
   refine oD (qd7 a (qy2 ha)) rfl rfl ?_;conv=>whnf
   refine oD (qd7 b (qy2 hb)) rfl rfl ?_;rw[show qp a b=(fold a == fold b) by unfold qp;rw[pn ha,pn hb];rfl];conv=>whnf
   try exact rfl
  ·rw[if_neg hb,show qp a b=false by unfold qp;rw[po hb,lx,l8]];conv=>whnf
   apply Fr;conv=>whnf
   repeat(first|(apply Fr;conv=>whnf))
   try exact rfl
 ·rw[if_neg ha,show qp a b=false by unfold qp;rw[po ha,lx]];conv=>whnf
  apply Fr;conv=>whnf
  repeat(first|(apply Fr;conv=>whnf))
  try exact rfl
def vw(a b:Ls):Bool:=decide (qa a) && (decide (qa b) && decide (jp (qr a) (qr b)<0))
theorem jc6{n:Ls}{l:List Ls}(h:ja n=some l):labN n=l:=by unfold labN;rw[h];rfl
theorem yd3{a:Ls}(h:qa a):ja (fold a)=some (fl a):=by
 have h2:=wi h;obtain⟨l,hl⟩:=ru.1 ((wy _).1 h2);have:=jc6 hl;rw [qs1 h] at this;rw[hl,this]
theorem jc1{a b:Ls}(h:¬ (qa a/\qa b)):vw a b=false:=by
 unfold vw;by_cases ha:qa a
 ·rw[po (λhb=>h ⟨ha,hb⟩),lx,l8]
 ·rw[po ha,lx]
theorem xa4(a b:Ls)(ha0:a.length<=2000000)(hb0:b.length<=2000000):FnOk Tryz.prog 157 [.d (.str a),.d (.str b)] (.d (.bool (vw a b))):=by
 refine qi (TT:=TT) (IN:=qd []) qe qg mixed 1000 Tryz.func157 rfl (qb Tryz.func157 (by kernel_rfl) rfl) rfl 75 (by kernel_rfl) ?_;conv=>whnf
 refine oD (qd7 a om) rfl rfl ?_;conv=>whnf
 refine .one (.data _ (qa8 (fold a)) (by cases ja (fold a) <;> rfl) (by cases ja (fold a) <;> rfl) ?_);have hcA:=qd4 a;have hcB:=qd4 b;have hsA:qa a->ja (fold a)=some (fl a):=yd3;have hsB:qa b->ja (fold b)=some (fl b):=yd3;cases hA:ja (fold a) with
 |none =>
  rw [jc1 (λh=>by rw [hsA h.1] at hA;cases hA)];conv=>whnf
  refine oD (qd7 b om) rfl rfl ?_;conv=>whnf
  refine .one (.data _ (qa8 (fold b)) (by cases ja (fold b) <;> rfl) (by cases ja (fold b) <;> rfl) ?_);cases hB:ja (fold b) <;> (conv=>whnf)
  all_goals
   repeat((first|apply Fr|apply Tr);conv=>whnf)
   try exact rfl
 |some la =>
  conv=>whnf
  refine oD (qd7 b om) rfl rfl ?_;conv=>whnf
  refine .one (.data _ (qa8 (fold b)) (by cases ja (fold b) <;> rfl) (by cases ja (fold b) <;> rfl) ?_);cases hB:ja (fold b) with
  |none =>
   rw [jc1 (λh=>by rw [hsB h.2] at hB;cases hB)];conv=>whnf
   repeat((first|apply Fr|apply Tr);conv=>whnf)
   repeat'(first|exact ⟨⟩|exact rfl|exact λ_=>Iff.rfl|exact λ_ _=>rfl|exact renM_ent rfl _|apply And.intro)
  |some lb =>
   conv=>whnf
   repeat((first|apply Fr|apply Tr);conv=>whnf)
   refine oD hcA rfl rfl ?_;by_cases ha:qa a
   case neg =>
    rw[if_neg ha,jc1 (λh=>ha h.1)];conv=>whnf
    repeat((first|apply Fr|apply Tr);conv=>whnf)
    repeat'(first|exact ⟨⟩|exact rfl|exact λ_=>Iff.rfl|exact λ_ _=>rfl|exact renM_ent rfl _|apply And.intro)
   rw[if_pos ha];conv=>whnf
   repeat((first|apply Fr|apply Tr);conv=>whnf)
   refine oD hcB rfl rfl ?_;by_cases hb:qa b
   case neg =>
    rw[if_neg hb,jc1 (λh=>hb h.2)];conv=>whnf
    repeat((first|apply Fr|apply Tr);conv=>whnf)
    repeat'(first|exact ⟨⟩|exact rfl|exact λ_=>Iff.rfl|exact λ_ _=>rfl|exact renM_ent rfl _|apply And.intro)
   rw[if_pos hb,show vw a b=decide (jp la.reverse lb.reverse<0) by
    unfold vw qr;rw[pn ha,pn hb,<-oq ((hsA ha).symm.trans hA),<-oq ((hsB hb).symm.trans hB)];rfl]
   have hla:la.length<=255:=by
    have:=jc3 ha;unfold qr at this
    rwa [d9,oq ((hsA ha).symm.trans hA)] at this
   have hlb:lb.length<=255:=by
    have:=jc3 hb;unfold qr at this
    rwa [d9,oq ((hsB hb).symm.trans hB)] at this
   clear hsA hsB hcA hcB hA hB ha hb;conv=>whnf
   repeat((first|apply Fr|apply Tr);conv=>whnf)
   refine .inv Nat (λi=>i<=la.length/\i<=lb.length/\jp (la.reverse.drop i) (lb.reverse.drop i)=jp la.reverse lb.reverse) (λi=>[(9,iV (i+1))]) (λ_=>[]) (λi=>la.length - i) ⟨0,[],⟨pv _,pv _,rfl⟩,?_⟩ ?_
   ·exact rY6
   intro i hi;obtain⟨hi1,hi2,hi3⟩:=hi;generalize jp la.reverse lb.reverse=Y at hi3 ⊢;have hw1:IntKind.i64.wrap (((i+1:Nat):Int)+1)=((i+1+1:Nat):Int):=by rw[qc _ om];omega
   conv=>whnf
   refine⟨λc0=>?_,λc0=>?_⟩
   ·have c0':i<la.length:=(by have h:((i+1:Nat):Int)<=la.length:=px c0;omega);have cr:i<la.reverse.length:=by rw[d9];exact c0'
    have hq1:IntKind.i64.wrap ((la.length:Int) - ((i+1:Nat):Int))=((la.length - (i+1):Nat):Int):=by rw[qc _ om];omega
    rw [lu cr] at hi3;conv=>whnf
    by_cases hlt:i<lb.length
    case neg =>
     rw [show lb.reverse.drop i=[] from d5 (by rw [d9];omega)] at hi3;simp only [jp] at hi3;rw[<-hi3];refine brF (po om) ?_;conv=>whnf
     rw[po om];try exact rfl
    have dr:i<lb.reverse.length:=by rw[d9];exact hlt
    have hq2:IntKind.i64.wrap ((lb.length:Int) - ((i+1:Nat):Int))=((lb.length - (i+1):Nat):Int):=by rw[qc _ om];omega
    rw [lu dr] at hi3;simp only [jp] at hi3;have e1:la.reverse[i]=la[la.length - (i+1)]?.getD []:=by
     rw[List.getElem_reverse,pp om];show _=la[la.length - (i+1)];congr 1;omega
    have e2:lb.reverse[i]=lb[lb.length - (i+1)]?.getD []:=by
     rw[List.getElem_reverse,pp om];show _=lb[lb.length - (i+1)];congr 1;omega
    rw [e1,e2] at hi3;refine brT (pn om) ?_;conv=>whnf
    rw[hq1];refine⟨om,?_⟩;conv=>whnf
    rw[hq2];refine⟨om,?_⟩;conv=>whnf
    rw[pr,pr];generalize la[la.length - (i+1)]?.getD []=x at hi3 ⊢;generalize lb[lb.length - (i+1)]?.getD []=y at hi3 ⊢;by_cases hc:x=y
    ·subst hc;rw [if_neg (by unfold cmpS;simp [qj8])] at hi3;refine brF sm ?_;conv=>whnf
     rw[hw1];refine⟨i+1,[],⟨c0',hlt,hi3⟩,om,?_⟩;exact rY6
    ·have hz:cmpS x y≠0:=λh=>hc (xe7 h)
     rw [if_pos hz] at hi3;rw[<-hi3];refine brT (by simp[hc]) ?_;conv=>whnf
     have hl:decide (cmpS x y<0)=Op.bytesLess x y:=by
      unfold cmpS;cases Op.bytesLess x y
      ·rw[if_neg (by decide),if_neg hc];rfl
      ·rfl
     rw[hl];try exact rfl
   ·have c0':i=la.length:=(by have h:¬ ((i+1:Nat):Int)<=la.length:=py c0;omega);rw [show la.reverse.drop i=[] from d5 (by rw [d9];omega)] at hi3;conv=>whnf
    by_cases hlt:i<lb.length
    ·have dr:i<lb.reverse.length:=by rw[d9];exact hlt
     rw [lu dr] at hi3;simp only [jp] at hi3;rw[<-hi3,pn (show(la.length:Int)<lb.length by omega)];try exact rfl
    ·rw [d5 (by rw [d9];omega)] at hi3;simp only [jp] at hi3;rw[<-hi3,po (show ¬ (la.length:Int)<lb.length by omega)];try exact rfl
set_option maxRecDepth 100000 in
theorem xl2{q:Ls}(h:q.length<=255):w8 [IntKind.u8.wrap (q.length:Int)]=[UInt8.ofNat q.length]:=by
 show[UInt8.ofNat (IntKind.u8.wrap (q.length:Int)).toNat]=_;have:(IntKind.u8.wrap (q.length:Int)).toNat=q.length:=by rw[gy];omega
 rw[this]
theorem xl4{l:List Ls}(hs:∀ x ∈ l,x.length<=255):(labs l).length<=256 * l.length:=by
 induction l with
 |nil=>exact pu _
 |cons a l ih =>
  have h1:=hs a (l6 ..);have h2:=ih (λx hx=>hs x (gt _ hx));show(lab a++labs l).length<=256 * (l.length+1);rw[pq,xm];omega
theorem qr9(z:Bool)(l:List Ls)(hl:l.length<=100000)(hs:∀ x ∈ l,x.length<=255):FnOk Tryz.prog 64 [.d (.sl z l.length 1 (strs l))] (.d (.str (mk l))):=by
 refine qi (TT:=TT) (IN:=qd []) qe qg mixed 1000 Tryz.func64 rfl (qb Tryz.func64 (by kernel_rfl) rfl) rfl 23 (by kernel_rfl) ?_;conv=>whnf
 refine .inv Nat (λi=>i<=l.length) (λi=>[(3,.d (.str (labs (l.take i)))),(8,.d (.int .i64 i))]) (λ_=>[]) (λi=>l.length - i) ⟨0,[],pv _,?_⟩ ?_
 ·exact rY6
 intro i hi;conv=>whnf
 have hll:=xl4 (l:=l.take i) (λx hx=>hs x (lv hx));have htl:(l.take i).length<=l.length:=by rw[o4];omega
 refine⟨λc1=>?_,λc1=>?_⟩
 ·have c1:(i:Int)<l.length:=px c1;have hil:i<l.length:=om
  obtain⟨q,hq⟩:∃ q,l[i]?.getD []=q:=⟨_,rfl⟩;have hq2:l[i]? = some q:=by rw[<-hq,pp hil];rfl
  have htk:l.take (i+1)=l.take i++[q]:=by rw[o3,hq2];rfl
  have hql:=hs q (ov hq2);have hw1:=w64s i om;conv=>whnf
  refine⟨om,?_⟩;conv=>whnf
  rw[pr,hq,xl2 hql];refine⟨by simp only[pw,mz];omega,?_⟩;conv=>whnf
  refine⟨by simp only[pq,pw,mz];omega,?_⟩;conv=>whnf
  refine⟨i+1,[],hil,om,?_⟩;conv=>whnf
  rw[hw1];have hcat:labs (l.take i)++([UInt8.ofNat q.length]++q)=labs (l.take (i+1)):=by rw[htk,ql6];rfl
  rw[hcat];exact rZ6
 ·have c1:¬ (i:Int)<l.length:=py c1;rw [gr om] at hll ⊢;conv=>whnf
  refine⟨by show(labs l).length+1<=_;omega,?_⟩;conv=>whnf
  exact congrArg DV.str (x9 l)
def r1wI(a b:Ls):Bool:=match ja a,ja b with
 |some l,some m=>decide (m.length<=l.length) && (fold (mk (l.drop (l.length - m.length))) == fold b)
 |_,_=>false
def r1cI(a:Ls):Nat:=match ja a with
 |some l=>l.length
 |none=>0
def r2dI(a b:Ls):Int:=if r1wI a b then (r1cI a:Int) - (r1cI b:Int) else -1
theorem jm6{a:Ls}{l:List Ls}(h:ja a=some l):l.length<=255/\∀ x ∈ l,x.length<=255:=by
 have hn:qa a:=(wy a).2 (by rw[h];rfl);have e:=jc6 h;obtain⟨_,h2,_⟩:=y5 hn;rw [e] at h2;refine ⟨?_,λx hx=>by have:=h2 x hx;unfold okL at this;omega⟩;have:=jc3 hn;unfold qr fl at this;rw [d9,mq,e] at this;exact this
theorem zd4:∀ (l:List Ls),(∀ x ∈ l,x.length<=255)->(mk l).length<=l.length * 256+1
 |[],_=>pu _
 |a :: l,h=>by
  have h1:=zd4 l (λx hx=>h x (by simp[hx]));have h2:=h a sm;have:(mk (a :: l)).length=1+a.length+(mk l).length:=qy0 a l;rw[this,pw];omega
theorem qz9(a:Ls):FnOk Tryz.prog 95 [.d (.str a)] (iV (r1cI a)):=by
 refine qi (TT:=TT) (IN:=qd []) qe qg mixed 1000 Tryz.func95 rfl (qb Tryz.func95 (by kernel_rfl) rfl) rfl 13 (by kernel_rfl) ?_;unfold r1cI;conv=>whnf
 refine .one (.data _ (qa8 a) (by cases ja a <;> rfl) (by cases ja a <;> rfl) ?_);cases hA:ja a with
 |none =>
  conv=>whnf
  repeat((first|apply Fr|apply Tr);conv=>whnf)
  all_goals exact rfl
 |some l =>
  conv=>whnf
  repeat((first|apply Fr|apply Tr);conv=>whnf)
  all_goals exact rfl
theorem jj6(a b:Ls)(hb:b.length<=2000000):FnOk Tryz.prog 94 [.d (.str a),.d (.str b)] (.d (.bool (r1wI a b))):=by
 refine qi (TT:=TT) (IN:=qd []) qe qg mixed 1000 Tryz.func94 rfl (qb Tryz.func94 (by kernel_rfl) rfl) rfl 42 (by kernel_rfl) ?_;conv=>whnf
 refine .one (.data _ (qa8 a) (by cases ja a <;> rfl) (by cases ja a <;> rfl) ?_);cases hA:ja a with
 |none =>
  rw[show r1wI a b=false by unfold r1wI;rw[hA]];conv=>whnf
  refine .one (.data _ (qa8 b) (by cases ja b <;> rfl) (by cases ja b <;> rfl) ?_);cases hB:ja b <;> (conv=>whnf)
  all_goals
   repeat((first|apply Fr|apply Tr);conv=>whnf)
   try exact rfl
 |some l =>
  obtain⟨l1,l2⟩:=jm6 hA;conv=>whnf
  refine .one (.data _ (qa8 b) (by cases ja b <;> rfl) (by cases ja b <;> rfl) ?_);cases hB:ja b with
  |none =>
   rw[show r1wI a b=false by unfold r1wI;rw[hA,hB]];conv=>whnf
   repeat((first|apply Fr|apply Tr);conv=>whnf)
   all_goals exact rfl
  |some m =>
   rw[show r1wI a b=(decide (m.length<=l.length) && (fold (mk (l.drop (l.length - m.length))) == fold b)) by unfold r1wI;rw[hA,hB]];obtain⟨m1,m2⟩:=jm6 hB;conv=>whnf
   refine⟨λh1=>?_,λh1=>?_⟩
   ·have h1:m.length<=l.length:=by
     have h:(l.length:Int) >= m.length:=px h1;omega
    rw[pn h1,p9];have hw:IntKind.i64.wrap ((l.length:Int) - (m.length:Int))=((l.length - m.length:Nat):Int):=by rw[qc _ om];omega
    conv=>whnf
    rw[hw];refine⟨om,?_⟩;conv=>whnf
    have hsl:(DV.sl false ((l.length:Int) - ((l.length - m.length:Nat):Int)).toNat 1 λj=>strs l (((l.length - m.length:Nat):Int).toNat+j))=DV.sl false (l.drop (l.length - m.length)).length 1 (strs (l.drop (l.length - m.length))):=by
     rw[ou,show((l.length:Int) - ((l.length - m.length:Nat):Int)).toNat=l.length - (l.length - m.length) by omega];congr 1;funext j;unfold strs;rw[m8,pr]
    rw[hsl];have hK:(l.drop (l.length - m.length)).length<=255/\∀ x ∈ l.drop (l.length - m.length),x.length<=255:=⟨by rw[ou];omega,λx hx=>l2 x (d8 hx)⟩;generalize l.drop (l.length - m.length)=K at hK ⊢;refine oD (qr9 false K om hK.2) rfl rfl ?_;have hmk:=zd4 K hK.2;conv=>whnf
    refine oD (qd7 (mk K) om) rfl rfl ?_;conv=>whnf
    refine oD (qd7 b om) rfl rfl ?_;conv=>whnf
    repeat((first|apply Fr|apply Tr);conv=>whnf)
    all_goals exact rfl
   ·have h1:¬ m.length<=l.length:=by
     have h:¬ (l.length:Int) >= m.length:=py h1;omega
    rw[po h1,lx];conv=>whnf
    repeat((first|apply Fr|apply Tr);conv=>whnf)
    all_goals exact rfl
theorem yx6(a:Ls):r1cI a<=255:=by
 unfold r1cI;cases h:ja a with
 |none=>exact pv _
 |some l=>exact(jm6 h).1
theorem ye5(a b:Ls)(hb:b.length<=2000000):FnOk Tryz.prog 121 [.d (.str a),.d (.str b)] (.d (.int .i64 (r2dI a b))):=by
 refine qi (TT:=TT) (IN:=qd []) qe qg mixed 1000 Tryz.func121 rfl (qb Tryz.func121 (by kernel_rfl) rfl) rfl 12 (by kernel_rfl) ?_;unfold r2dI;conv=>whnf
 refine oD (jj6 a b hb) rfl rfl ?_;have h1:=yx6 a;have h2:=yx6 b;cases r1wI a b with
 |false =>
  rw[if_neg (by decide)];conv=>whnf
  repeat((first|apply Fr|apply Tr);conv=>whnf)
  all_goals exact rfl
 |true =>
  rw[if_pos rfl];conv=>whnf
  apply Fr;conv=>whnf
  refine oD (qz9 a) rfl rfl ?_;conv=>whnf
  refine oD (qz9 b) rfl rfl ?_;conv=>whnf
  rw[qc _ om];all_goals exact rfl
def cntB(n:Ls):List Ls->Nat
 |[]=>0
 |d :: D=>if vw d n then cntB n D+1 else 0
def insB(D:List Ls)(n:Ls):List Ls:=if cntB n D<D.length/\qp (D.getD (cntB n D) []) n=true then D else D.take (cntB n D)++n :: D.drop (cntB n D)
def zv(l:List Ls):List Ls:=l.foldl (λD n=>if qa n then insB D n else D) []
theorem js8(n:Ls):∀ D,cntB n D<=D.length
 |[]=>pu 0
 |d :: D=>by
  unfold cntB;split
  ·exact Nat.succ_le_succ (js8 n D)
  ·exact pv _
theorem yo8(n:Ls):∀ D k,k<=cntB n D->k<D.length->(k<cntB n D↔vw (D.getD k []) n=true)
 |[],k,_,h=>absurd h (fw _)
 |d :: D,0,_,_=>by
  show 0<cntB n (d :: D)↔vw d n=true;unfold cntB;split
  ·rename_i h;simp[h]
  ·rename_i h;simp[h]
 |d :: D,k+1,hk,hl=>by
  have hk':=hk;unfold cntB at hk';split at hk'
  ·rename_i h;have e:cntB n (d :: D)=cntB n D+1:=by show(if vw d n then _ else _)=_;rw[if_pos h]
   rw[e];have:=yo8 n D k om (by simpa using hl);show k+1<cntB n D+1↔vw (D.getD k []) n=true;rw[<-this];omega
  ·omega
theorem xl9(D:List Ls)(n:Ls):(insB D n).length<=D.length+1:=by
 unfold insB;split
 ·omega
 ·have:=js8 n D;rw[pq,o4,pw,ou];omega
theorem yt4{D:List Ls}{n x:Ls}(h:x ∈ insB D n):x ∈ D\/x=n:=by
 unfold insB at h;split at h
 ·exact .inl h
 ·rcases ow.1 h with h|h
  ·exact .inl (lv h)
  ·rcases pz.1 h with h|h
   ·exact .inr h
   ·exact .inl (d8 h)
theorem yd4(l:List Ls)(n:Ls):zv (l++[n])=if qa n then insB (zv l) n else zv l:=by
 unfold zv;rw[List.foldl_append];rfl
theorem yj8(l:List Ls):(zv l).length<=l.length:=by
 have:∀ (l D:List Ls),(l.foldl (λD n=>if qa n then insB D n else D) D).length<=l.length+D.length:=by
  intro l;induction l with
  |nil=>intro D;show D.length<=0+D.length;omega
  |cons a l ih =>
   intro D;refine gn (ih _) ?_;rw[pw];show l.length+(if qa a then insB D a else D).length<=_;split
   ·have:=xl9 D a;omega
   ·omega
 exact this l []
theorem yj7{l:List Ls}{x:Ls}:x ∈ zv l->qa x:=by
 have:∀ (l D:List Ls),(∀ x ∈ D,qa x)->∀ x ∈ l.foldl (λD n=>if qa n then insB D n else D) D,qa x:=by
  intro l;induction l with
  |nil=>exact λD h=>h
  |cons a l ih =>
   intro D h;refine ih _ ?_;show ∀ x ∈ (if qa a then insB D a else D),qa x;split
   ·rename_i ha;exact λx hx=>(yt4 hx).elim (h x) (λe=>e ▸ ha)
   ·exact h
 exact this l [] (λx hx=>by cases hx) x
theorem jr0(l:List Ls)(i:Nat):strs l i=[.str (l[i]?.getD [])]:=rfl
theorem yt3(D:List Ls)(x:Ls)(k:Nat)(hk:k<=D.length)(i:Nat):catF (0+((k:Int) - 0).toNat+1) (catF (0+((k:Int) - 0).toNat) (catF 0 (qs [] 1) λj=>strs D (Int.toNat 0+j)) (qs [DV.str x] 1)) (λj=>strs D ((k:Int).toNat+j)) i=strs (D.take k++x :: D.drop k) i:=by
 rw[show 0+((k:Int) - 0).toNat=k by omega,pr];rw[jr0];unfold catF;rcases co i k with h|h|h
 ·rw[if_pos om,if_pos h,if_neg om];rw[mn (by simp;omega),List.getElem?_take_of_lt h];show strs D (Int.toNat 0+(i - 0))=_;rw[jr0];simp
 ·subst h;rw[if_pos om,if_neg om,ly];rw[m7 (by simp;omega)];rw[show i - (D.take i).length=0 by simp;omega]
  rfl
 ·rw[if_neg om];rw[m7 (by simp;omega)];rw[show i - (D.take k).length=(i - k - 1)+1 by simp;omega];rw[List.getElem?_cons_succ,m8];show strs D (k+(i - (k+1)))=_;rw[jr0,show i - (k+1)=i - k - 1 by omega]
def zzS:List Ls->Z
 |[]=>.iff
 |_ :: _=>.no
theorem yw4(l m:List Ls)(x:Ls):zzS (l++x :: m) = .no:=by cases l <;> rfl
theorem xa3(z:Bool)(l:List Ls)(hn:l.length<=100000):FnOk Tryz.prog 122 [.d (.sl z l.length 1 (strs l))] (.d (.sl (zv l).isEmpty (zv l).length 1 (strs (zv l)))):=by
 refine qi (TT:=TT) (IN:=qd []) qe qg mixed 1000 Tryz.func122 rfl (qb Tryz.func122 (by kernel_rfl) rfl) rfl 60 (by kernel_rfl) ?_;conv=>whnf
 refine .nilT 3 9 1 (strs []) _ _ rfl ?_;conv=>whnf
 refine .inv Nat (λi=>i<=l.length) (λi=>[(11,iV i),(3,.all 0)]) (λi=>[(0,.row 9 1 (zv (l.take i)).length (zzS (zv (l.take i))) (strs (zv (l.take i))))]) (λi=>l.length - i) ⟨0,[0],pv _,?_⟩ ?_
 ·exact rY2
 intro i hi;conv=>whnf
 refine⟨λh1=>?_,λh1=>?_⟩
 ·have h1:i<l.length:=by
   have h:(i:Int)<l.length:=px h1;omega
  obtain⟨r,hr⟩:∃ r,l[i]?.getD []=r:=⟨_,rfl⟩;have hrl:l[i]? = some r:=by rw[<-hr,pp h1];rfl
  have htk:l.take (i+1)=l.take i++[r]:=by rw[o3,hrl];rfl
  have hw1:=w64s i om;have hnx:=yd4 (l.take i) r;rw [<-htk] at hnx;have hDm:∀ x ∈ zv (l.take i),qa x:=λx hx=>yj7 hx
  have hDl:(zv (l.take i)).length<=i:=gn (yj8 _) (by rw[o4];omega);conv=>whnf
  refine⟨om,?_⟩;conv=>whnf
  rw[pr,hr];refine oD (qd4 r) rfl rfl ?_;by_cases hck:qa r;case neg =>
   rw [if_neg hck] at hnx;rw[if_neg hck];conv=>whnf
   apply Tr;conv=>whnf
   rw[hw1];refine⟨i+1,[0],h1,om,?_⟩;rw[hnx];exact rY2
  rw [if_pos hck] at hnx;rw[if_pos hck];conv=>whnf
  apply Fr;conv=>whnf
  generalize zv (l.take i)=D at hnx hDm hDl ⊢;have hcl:=js8 r D;refine .inv Nat (λk=>k<=cntB r D) (λk=>[(6,iV k)]) (λ_=>[(0,.row 9 1 D.length (zzS D) (strs D))]) (λk=>D.length - k) ⟨0,[0],pv _,?_⟩ ?_
  ·exact rY2
  intro k hk;have hkw:=w64s k om;have hspec:=yo8 r D k hk;have hDk:∀ h:k<D.length,(D.getD k []).length<=255:=λh=>(hDm _ (by rw[fy,pp h];exact oz h)).2.1
  have hge:D.getD k []=D[k]?.getD []:=fy ..;rw [hge] at hspec hDk;conv=>whnf
  refine⟨λh6=>?_,λh6=>?_⟩
  ·have h6r:=h6;have h6:k<D.length:=by
    have h:(k:Int)<D.length:=px h6;omega
   conv=>whnf
   refine⟨om,?_⟩;conv=>whnf
   rw[pr];refine oD (xa4 (D[k]?.getD []) r (by have:=hDk h6;omega) (by have:=hck.2.1;omega)) rfl rfl ?_;cases h7:vw (D[k]?.getD []) r with
   |true =>
    have hk2:=(hspec h6).2 h7;conv=>whnf
    apply Tr;conv=>whnf
    rw[hkw];refine⟨k+1,[0],hk2,om,?_⟩;exact rY2
   |false =>
    have hk2:k=cntB r D:=by
     have:=mt (hspec h6).1 (by rw[h7];decide);omega
    conv=>whnf
    apply Fr;conv=>whnf
    refine brT h6r ?_;conv=>whnf
    refine⟨om,?_⟩;conv=>whnf
    rw[pr];refine oD (qd6 (D[k]?.getD []) r) rfl rfl ?_;cases h8:qp (D[k]?.getD []) r with
    |true =>
     have hins:insB D r=D:=by unfold insB;rw[<-hk2,if_pos ⟨h6,by rw[hge];exact h8⟩]
     rw [hins] at hnx;conv=>whnf
     apply Tr;conv=>whnf
     rw[hw1];refine⟨i+1,[0],h1,om,?_⟩;rw[hnx];exact rY2
    |false =>
     have hins:insB D r=D.take k++r :: D.drop k:=by unfold insB;rw [<-hk2,if_neg (λh=>by rw [hge,h8] at h;cases h.2)]
     conv=>whnf
     apply Fr;conv=>whnf
     rw [hins] at hnx;refine⟨om,?_⟩;conv=>whnf
     repeat(refine And.intro om ?_;conv=>whnf)
     rw[hw1];refine⟨i+1,[5],h1,om,?_⟩;rw[hnx];conv=>whnf
     repeat'(first|exact ⟨⟩|exact rfl|exact ql _|exact .inr rfl|exact λ_ _=>rfl|exact noI|apply And.intro)
     ·simp only[pq,o4,pw,ou];omega
     ·rw[yw4];exact True.intro
     ·exact λx hx=>yt3 D r k om x
  ·have h6r:=h6;have h6:k=D.length:=by
    have h:¬ (k:Int)<D.length:=py h6;omega
   have hins:insB D r=D.take k++r :: D.drop k:=by unfold insB;rw[show cntB r D=k by omega,if_neg (λh=>by omega)]
   conv=>whnf
   refine brF h6r ?_;conv=>whnf
   rw [hins] at hnx;refine⟨om,?_⟩;conv=>whnf
   repeat(refine And.intro om ?_;conv=>whnf)
   rw[hw1];refine⟨i+1,[5],h1,om,?_⟩;rw[hnx];conv=>whnf
   repeat'(first|exact ⟨⟩|exact rfl|exact ql _|exact .inr rfl|exact λ_ _=>rfl|exact noI|apply And.intro)
   ·simp only[pq,o4,pw,ou];omega
   ·rw[yw4];exact True.intro
   ·exact λx hx=>yt3 D r k om x
 ·have h1:i=l.length:=by
   have h:¬ (i:Int)<l.length:=py h1;omega
  subst h1;rw[mu];generalize zv l=D;cases D <;> (conv=>whnf) <;> repeat'(first|exact ⟨⟩|exact rfl|exact λ_ _=>rfl|exact .inr rfl|apply And.intro)
theorem yn7(s t:Ls):∀ (ls pre:List Ls) (m:Nat),(∀ l ∈ pre,okL l)->(∀ l ∈ ls,okL l)->s=labs pre++(mk ls++t)->(labs pre++mk ls).length<=255->256<=m+(labs pre).length ->
 km s m (labs pre).length=(labs pre++mk ls).length
 |[],pre,m,hp,_,hs,hl,hm=>by
  cases m with
  |zero=>rw [pq] at hl;omega
  |succ m =>
   have hl1:(labs pre++mk []).length=(labs pre).length+1:=by rw[pq];rfl
   have hb:bt s (labs pre).length=0:=by
    rw[hs];unfold bt;rw[m7 (pu _),ly];rfl
   have hsl:(labs pre).length<s.length:=by rw[hs,pq];have:=qj6 [];rw[pq];omega
   have htk:s.take ((labs pre).length+1)=mk pre:=by
    have:labs pre++(mk []++t)=(labs pre++[0])++t:=by simp[mk]
    rw[hs,this,List.take_left' sm];exact x9 pre
   unfold km;rw[if_pos ⟨hsl,om⟩,if_pos hb,htk,if_pos ((qr7 _).2 ⟨by rw[<-x9];simpa[mk] using hl,pre,hp,rfl⟩),hl1]
 |l :: ls,pre,m,hp,hls,hs,hl,hm=>by
  have hol:=hls l (l6 ..);have h1:=hol.1;have hml:=qy0 l ls;have hmp:=qj6 ls;have hll:(labs (pre++[l])).length=(labs pre).length+1+l.length:=by rw[ql6,pq,xm];omega
  rw [pq] at hl;cases m with
  |zero=>omega
  |succ m =>
   have hb:bt s (labs pre).length=l.length:=by
    have:=qf8 s (labs pre).length 0;rw [d6] at this;rw[<-this,hs,rt];show bt (lab l++mk ls++t) 0=_;rw[mp];exact v6 l _ hol
   have hsl:(labs pre).length<s.length:=by rw[hs,pq,pq];omega
   have hcat:labs (pre++[l])++mk ls=labs pre++mk (l :: ls):=by rw[ql6,mp];rfl
   unfold km;rw[if_pos ⟨hsl,om⟩,if_neg (by rw[hb];omega),hb,<-hll];rw[yn7 s t ls (pre++[l]) m (λx hx=>by
    rcases ow.1 hx with hx|hx
    ·exact hp x hx
    ·rw[m9.1 hx];exact hol) (λx hx=>hls x (gt _ hx)) (by
    rw[hs,<-mp,<-mp,hcat]) (by rw[hcat,pq];exact hl) om,hcat]
theorem xd8{s:Ls}{k:Nat}(hk:k<=s.length)(h:qa (s.take k)):jr s=k:=by
 obtain⟨h1,ls,h2,h3⟩:=(qr7 _).1 h;have hlen:(mk ls).length=k:=by rw[<-h3,o4];omega
 have h1:(mk ls).length<=255:=by rw[<-h3];exact h1
 have:=yn7 s (s.drop k) ls [] 256 (λl hl=>by cases hl) h2 (by show s=[]++(mk ls++s.drop k);rw[<-h3];simp) (by show([]++mk ls).length<=255;simp;omega) om;unfold jr;have e:([]++mk ls:Ls).length=k:=by simpa using hlen
 exact this.trans e
theorem zq0{s:Ls}(h:∀ k,k<=s.length->k<=255->¬ qa (s.take k)):jr s=0:=by
 have hl:=jb7 s;cases hf:jr s with
 |zero=>rfl
 |succ n =>
  have:=zq1 s 256 0 (by show jr s≠0;omega);exact absurd this (h _ hl.1 hl.2)
def xy5:Option (Nat × Nat × Nat)->SV
 |some p=>.tup [.d (.int .i64 (2 * p.1:Nat)),.d (.int .i64 p.2.1),.d (.int .i64 (4 * p.2.2:Nat)),.d .tt]
 |none=>.tup [.d (.int .i64 0),.d (.int .i64 0),.d (.int .i64 0),.d .ff]
theorem jk7(t:Int):FnOk Tryz.prog 125 [.d (.int .u16 t)] (xy5 (ji t)):=by
 refine qi (TT:=TT) (IN:=qd []) qe qg mixed 1000 Tryz.func125 rfl (qb Tryz.func125 (by kernel_rfl) rfl) rfl 16 (by kernel_rfl) ?_;have fin1:t=2\/t=5\/t=12->ji t=some (0,1,0):=λh=>by unfold ji;rw[if_pos h]
 conv=>whnf
 refine⟨λh1=>?_,λh1=>?_⟩
 ·rw[fin1 (.inl (by simpa using h1))];conv=>whnf
  try (refine brT h1 ?_;conv=>whnf)
  exact rZ3
 simp only [oo,ne_eq] at h1;conv=>whnf
 refine⟨λh2=>?_,λh2=>?_⟩
 ·rw[fin1 (.inr (.inl (by simpa using h2)))];conv=>whnf
  try (refine brT h2 ?_;conv=>whnf)
  exact rZ3
 simp only [oo,ne_eq] at h2;conv=>whnf
 refine⟨λh3=>?_,λh3=>?_⟩
 ·rw[fin1 (.inr (.inr (by simpa using h3)))];conv=>whnf
  try (refine brT h3 ?_;conv=>whnf)
  exact rZ3
 simp only [oo,ne_eq] at h3;conv=>whnf
 refine⟨λh4=>?_,λh4=>?_⟩
 ·have:ji t=some (1,1,0):=by unfold ji;simp at h4;simp [h4]
  rw[this];exact rY3
 simp only [oo,ne_eq] at h4;conv=>whnf
 refine⟨λh5=>?_,λh5=>?_⟩
 ·have:ji t=some (3,1,0):=by unfold ji;simp at h5;simp [h5]
  rw[this];exact rY3
 simp only [oo,ne_eq] at h5;conv=>whnf
 refine⟨λh6=>?_,λh6=>?_⟩
 ·have:ji t=some (0,2,5):=by unfold ji;simp at h6;simp [h6]
  rw[this];exact rY3
 simp only [oo,ne_eq] at h6;have:ji t=none:=by unfold ji;simp[h1,h2,h3,h4,h5,h6]
 rw[this];exact rY3
def qb9(s:Ls):SV:=if jr s=0 then .tup [.any,.d .ff] else .tup [.d (.str (s.take (jr s))),.d .tt]
set_option maxRecDepth 100000 in
theorem zt4(s:Ls)(_hs:s.length<=2000000):FnOk Tryz.prog 159 [.d (.str s)] (qb9 s):=by
 refine qi (TT:=TT) (IN:=qd []) qe qg mixed 1000 Tryz.func159 rfl (qb Tryz.func159 (by kernel_rfl) rfl) rfl 22 (by kernel_rfl) ?_;conv=>whnf
 refine .inv Nat (λi=>1<=i/\i<=256/\∀ j,j<i->j<=s.length->¬ qa (s.take j)) (λi=>[(4,.d (.int .i64 i))]) (λ_=>[]) (λi=>256 - i) ⟨1,[],⟨pu _,om,λj hj _ h=>?_⟩,?_⟩ ?_
 ·have:j=0:=om
  subst this;have:=h.1;simp at this
 ·exact rY6
 intro i hi;obtain⟨h1,h2,h3⟩:=hi;conv=>whnf
 have done_:(s.length<i\/255<i)->qb9 s = .tup [.any,.d .ff]:=λhc=>by
  unfold qb9;rw[if_pos (zq0 λk hk hk2=>h3 k om hk)]
 refine⟨λc1=>?_,λc1=>?_⟩
 ·have c1:(i:Int)<=s.length:=px c1;conv=>whnf
  refine⟨λc2=>?_,λc2=>?_⟩
  ·have c2:(i:Int)<=255:=px c2;conv=>whnf
   refine⟨om,?_⟩;have hsub:sub s 0 (i:Int)=s.take i:=by unfold sub;simp
   rw[hsub];conv=>whnf
   refine oD (qd4 (s.take i)) rfl rfl ?_;by_cases hn:qa (s.take i)
   ·have e:qb9 s = .tup [.d (.str (s.take i)),.d .tt]:=by
     unfold qb9;rw[xd8 om hn,if_neg om]
    rw[if_pos hn,e];conv=>whnf
    apply Tr;conv=>whnf
    refine⟨om,?_⟩;rw[hsub];exact rY3
   ·rw[if_neg hn];conv=>whnf
    apply Fr;conv=>whnf
    have hw1:=w64s i om;refine⟨i+1,[],⟨om,om,λj hj hjl=>?_⟩,om,?_⟩
    ·by_cases hji:j=i
     ·rw[hji];exact hn
     ·exact h3 j om hjl
    conv=>whnf
    rw[hw1];exact rZ6
  ·have c2:¬ (i:Int)<=255:=py c2;rw[done_ (.inr om)];exact rY3
 ·have c1:¬ (i:Int)<=s.length:=py c1;rw[done_ (.inl om)];exact rY3
def xx4:Option (Ls × List Ls × Ls)->SV
 |none=>.tup [.any,.any,.any,.d .ff]
 |some (x,l,r)=>.tup [.d (.str x),.d (.sl (Nat.beq l.length 0) l.length 1 (strs l)),.d (.str r),.d .tt]
structure R4St where
 i:Nat
 l:List Ls
 r:Ls
set_option maxRecDepth 100000 in
theorem jk6(t:Int)(p:Nat × Nat × Nat)(hp:ji t=some p)(s:Ls)(hs:s.length<=2000000):FnOk Tryz.prog 126 [.d (.int .u16 t),.d (.str s)] (xx4 (cutF p.1 p.2.1 p.2.2 s)):=by
 refine qi (TT:=TT) (IN:=qd []) qe qg mixed 1000 Tryz.func126 rfl (qb Tryz.func126 (by kernel_rfl) rfl) rfl 58 (by kernel_rfl) ?_;obtain⟨p1,p2,p3⟩:=qs3 hp;have hpt:=jk7 t;rw [hp] at hpt;conv=>whnf
 refine oD hpt rfl rfl ?_;conv=>whnf
 refine⟨λh1=>?_,λh1=>?_⟩
 ·have h1:(s.length:Int)<(2 * p.1:Nat):=px h1;have e:cutF p.1 p.2.1 p.2.2 s=none:=by unfold cutF;rw[if_pos om]
  rw[e];exact rY3
 have h1:¬ (s.length:Int)<(2 * p.1:Nat):=py h1;have hcut:cutF p.1 p.2.1 p.2.2 s=(kg p.2.1 (s.drop (2 * p.1))).bind λq=>if q.2.length=4 * p.2.2 then some (s.take (2 * p.1),q.1,q.2) else none:=by unfold cutF;rw[if_neg om]
 have hsub0:sub s ((2 * p.1:Nat):Int) (s.length:Int)=s.drop (2 * p.1):=by
  unfold sub;rw[pr,pr,gr (by rw[ou];omega)]
 conv=>whnf
 refine⟨om,?_⟩;rw[hsub0];conv=>whnf
 refine .nilT 13 9 1 (λ_=>[]) _ _ rfl ?_;refine .inv R4St (λx=>NAt p.2.1 (s.drop (2 * p.1)) x.i x.l x.r) (λx=>[(12,.d (.str x.r)),(13,.all 0),(14,.d (.int .i64 x.i))]) (λx=>[(0,.row 9 1 x.l.length .iff (strs x.l))]) (λx=>p.2.1 - x.i) ⟨⟨0,[],s.drop (2 * p.1)⟩,[0],NAt.zero _ _,?_⟩ ?_
 ·conv=>whnf
  repeat'(first|exact ⟨⟩|exact rfl|(intro i hi;exact absurd hi (fw _))|exact λ_ _=>rfl|apply And.intro)
 intro x hN;conv=>whnf
 generalize x.i=i at hN ⊢;generalize x.l=l at hN ⊢;generalize x.r=r at hN ⊢;have hlen:=hN.len;have hile:=hN.le;have hsh:=hN.short;rw [ou] at hsh;refine⟨λc1=>?_,λc1=>?_⟩
 ·have c1:(i:Int)<p.2.1:=px c1;obtain⟨s1,s2⟩:=hN.step om;have hf:=zt4 r om;have hfl:=jb7 r;conv=>whnf
  by_cases h0:jr r=0
  ·have e:cutF p.1 p.2.1 p.2.2 s=none:=by rw[hcut,s1 h0];rfl
   have ef:qb9 r = .tup [.any,.d .ff]:=by unfold qb9;rw[if_pos h0]
   rw [ef] at hf;refine oD hf rfl rfl ?_;rw[e];exact rY3
  ·have ef:qb9 r = .tup [.d (.str (r.take (jr r))),.d .tt]:=by unfold qb9;rw[if_neg h0]
   rw [ef] at hf;have htl:(r.take (jr r)).length=jr r:=by rw[o4];omega
   have hsub1:sub r ((jr r:Nat):Int) (r.length:Int)=r.drop (jr r):=by
    unfold sub;rw[pr,pr,gr (by rw[ou];omega)]
   refine oD hf rfl rfl ?_;conv=>whnf
   refine⟨om,?_⟩;conv=>whnf
   rw[htl];refine⟨om,?_⟩;rw[hsub1];have hw1:=w64s i om;conv=>whnf
   refine⟨⟨i+1,l++[r.take (jr r)],r.drop (jr r)⟩,[2],s2 h0,by show p.2.1 - (i+1)<p.2.1 - i;omega,?_⟩;conv=>whnf
   rw[hw1];repeat'(first|exact ⟨⟩|exact rfl|apply And.intro)
   ·simp
   ·exact zh _ _ _ rfl
 ·have c1:¬ (i:Int)<p.2.1:=py c1;have hi:i=p.2.1:=om
  subst hi;have hl:=hN.last;have hsub2:sub s 0 ((2 * p.1:Nat):Int)=s.take (2 * p.1):=by unfold sub;rw[pr];simp
  conv=>whnf
  refine⟨om,?_⟩;rw[hsub2];conv=>whnf
  by_cases hr:r.length=4 * p.2.2
  ·have e:cutF p.1 p.2.1 p.2.2 s=some (s.take (2 * p.1),l,r):=by rw[hcut,hl];show(if r.length=4 * p.2.2 then _ else _)=_;rw[if_pos hr]
   rw[e];conv=>whnf
   refine⟨rfl,⟨rfl,rfl,.inr rfl,λ_ _=>rfl⟩,rfl,?_,True.intro⟩;show((r.length:Int) == ((4 * p.2.2:Nat):Int))=true;simp;omega
  ·have e:cutF p.1 p.2.1 p.2.2 s=none:=by rw[hcut,hl];show(if r.length=4 * p.2.2 then _ else _)=_;rw[if_neg hr]
   rw[e];conv=>whnf
   refine⟨True.intro,True.intro,True.intro,?_,True.intro⟩;show((r.length:Int) == ((4 * p.2.2:Nat):Int))=false;simp;omega
set_option maxRecDepth 100000 in
theorem zt2(s:Ls)(hs:s.length<=2000000):FnOk Tryz.prog 124 [.d (.str s)] (.tup [.any,.d (.bool (wk s))]):=by
 refine qi (TT:=TT) (IN:=qd []) qe qg mixed 1000 Tryz.func124 rfl (qb Tryz.func124 (by kernel_rfl) rfl) rfl 30 (by kernel_rfl) ?_;conv=>whnf
 refine .nilT 4 9 1 (λ_=>[]) _ _ rfl ?_;conv=>whnf
 refine .inv (Nat × List Ls) (λp=>TAt s p.1 p.2) (λp=>[(0,.d (.str (s.drop p.1))),(4,.all 0)]) (λp=>[(0,.row 9 1 p.2.length .iff (strs p.2))]) (λp=>s.length - p.1) ⟨(0,[]),[0],TAt.zero s,?_⟩ ?_
 ·conv=>whnf
  repeat'(first|exact ⟨⟩|exact rfl|apply And.intro)
  intro i hi;exact absurd hi sm
 intro p hk;have hk0:p.1<=s.length:=hk.1;have hk2:p.2.length<=p.1:=hk.2.1;have hby:=vm s p.1;have hlen:(s.drop p.1).length=s.length - p.1:=by simp
 conv=>whnf
 refine⟨λhne=>?_,λheq=>?_⟩
 ·have hlt:p.1<s.length:=by
   rcases ox p.1 s.length with e|e
   ·exact e
   ·rw [d5 e] at hne;simp at hne
  obtain⟨e1,e2⟩:=TAt.step hk hlt;have hb0:qw (s.drop p.1) 0=(bt s p.1:Int):=by
   rw[show(0:Int)=((0:Nat):Int) from rfl,jl];simp[bt]
  conv=>whnf
  refine⟨om,?_⟩;have hsz:IntKind.i64.wrap (1+IntKind.i64.wrap (qw (s.drop p.1) 0))=((1+bt s p.1:Nat):Int):=by rw[hb0];simp(disch:=omega) only[qc];omega
  conv=>whnf
  rw[hsz];refine⟨λhgt=>?_,λhle=>?_⟩
  ·conv=>whnf
   refine⟨True.intro,?_,True.intro⟩;have:wk s=false:=by unfold wk;rw [e1 (by simp at hgt;omega)]
   rw[this];exact rfl
  ·have hle':p.1+1+bt s p.1<=s.length:=by simp at hle;omega
   conv=>whnf
   refine⟨om,?_⟩;conv=>whnf
   refine⟨om,?_⟩;conv=>whnf
   refine⟨om,?_⟩;conv=>whnf
   refine⟨(p.1+1+bt s p.1,p.2++[(s.drop (p.1+1)).take (bt s p.1)]),[2],e2 hle',by show s.length - (p.1+1+bt s p.1)<s.length - p.1;omega,?_⟩;conv=>whnf
   repeat'(first|exact ⟨⟩|exact rfl|apply And.intro)
   ·refine congrArg SV.d (congrArg DV.str ?_);show sub (s.drop p.1) _ _=s.drop (p.1+1+bt s p.1);simp only[sub,pr,gx];rw[gr (by simp;omega)];congr 1;omega
   ·simp
   ·refine zh _ _ _ ?_;show[DV.str _]=[DV.str _];congr 2;simp only[sub,pr,gx];rw[show(1:Int).toNat=1 from rfl];congr 1;omega
 ·have hke:p.1=s.length:=by
   simp at heq;omega
  conv=>whnf
  refine⟨True.intro,?_,True.intro⟩;have:wk s=decide (0<p.2.length):=by unfold wk;rw[TAt.last hk hke]
  rw[this];refine congrArg DV.bool ?_;simp
set_option maxRecDepth 100000 in
theorem ye3(t:Int)(s:Ls)(hs:s.length<=2000000):FnOk Tryz.prog 96 [.d (.int .u16 t),.d (.str s)] (.d (.int .i64 (jh9 (jf t s)))):=by
 refine qi (TT:=TT) (IN:=qd []) qe qg mixed 1000 Tryz.func96 rfl (qb Tryz.func96 (by kernel_rfl) rfl) rfl 49 (by kernel_rfl) ?_;conv=>whnf
 refine⟨λh1=>?_,λh1=>?_⟩
 ·have h1:t=1:=by simpa using h1
  have hg:jn t s=((s.length:Int) == ((4:Nat):Int)):=by unfold jn;rw[if_pos h1,jh7]
  conv=>whnf
  refine⟨λk1=>?_,λk1=>?_⟩
  ·have hgood:jn t s=false:=by rw[hg];simpa using k1
   have e:jf t s=false:=by unfold jf;rw[hgood,l8]
   rw[e];conv=>whnf
   exact rfl
  have hgood:jn t s=true:=by rw[hg];simpa using k1
  conv=>whnf
  refine⟨λk2=>?_,λk2=>?_⟩
  ·have k2:(s.length:Int) > 4096:=px k2;have e:jf t s=false:=by unfold jf;rw[po om];rfl
   rw[e];conv=>whnf
   exact rfl
  ·have k2:¬ (s.length:Int) > 4096:=py k2;have e:jf t s=true:=by unfold jf;rw[pn om,hgood];rfl
   rw[e];conv=>whnf
   exact rfl
 have h1:¬ t=1:=by simpa using h1
 conv=>whnf
 refine⟨λh2=>?_,λh2=>?_⟩
 ·have h2:t=28:=by simpa using h2
  have hg:jn t s=((s.length:Int) == ((16:Nat):Int)):=by unfold jn;rw[if_neg h1,if_pos h2,jh7]
  conv=>whnf
  refine⟨λk1=>?_,λk1=>?_⟩
  ·have hgood:jn t s=false:=by rw[hg];simpa using k1
   have e:jf t s=false:=by unfold jf;rw[hgood,l8]
   rw[e];conv=>whnf
   exact rfl
  have hgood:jn t s=true:=by rw[hg];simpa using k1
  conv=>whnf
  refine⟨λk2=>?_,λk2=>?_⟩
  ·have k2:(s.length:Int) > 4096:=px k2;have e:jf t s=false:=by unfold jf;rw[po om];rfl
   rw[e];conv=>whnf
   exact rfl
  ·have k2:¬ (s.length:Int) > 4096:=py k2;have e:jf t s=true:=by unfold jf;rw[pn om,hgood];rfl
   rw[e];conv=>whnf
   exact rfl
 have h2:¬ t=28:=by simpa using h2
 conv=>whnf
 refine⟨λh3=>?_,λh3=>?_⟩
 ·have h3:t=16:=by simpa using h3
  have hg:jn t s=wk s:=by unfold jn;rw[if_neg h1,if_neg h2,if_pos h3]
  conv=>whnf
  refine oD (zt2 s hs) rfl rfl ?_;conv=>whnf
  refine⟨λk1=>?_,λk1=>?_⟩
  ·have hgood:jn t s=false:=by rw[hg];simpa using k1
   have e:jf t s=false:=by unfold jf;rw[hgood,l8]
   rw[e];conv=>whnf
   exact rfl
  have hgood:jn t s=true:=by rw[hg];simpa using k1
  conv=>whnf
  refine⟨λk2=>?_,λk2=>?_⟩
  ·have k2:(s.length:Int) > 4096:=px k2;have e:jf t s=false:=by unfold jf;rw[po om];rfl
   rw[e];conv=>whnf
   exact rfl
  ·have k2:¬ (s.length:Int) > 4096:=py k2;have e:jf t s=true:=by unfold jf;rw[pn om,hgood];rfl
   rw[e];conv=>whnf
   exact rfl
 have h3:¬ t=16:=by simpa using h3
 conv=>whnf
 have hpt:=jk7 t;cases hf:ji t with
 |none =>
  have hgood:jn t s=true:=by unfold jn;rw[if_neg h1,if_neg h2,if_neg h3,hf]
  rw [hf] at hpt;refine oD hpt rfl rfl ?_;conv=>whnf
  refine⟨λk2=>?_,λk2=>?_⟩
  ·have k2:(s.length:Int) > 4096:=px k2;have e:jf t s=false:=by unfold jf;rw[po om];rfl
   rw[e];conv=>whnf
   exact rfl
  ·have k2:¬ (s.length:Int) > 4096:=py k2;have e:jf t s=true:=by unfold jf;rw[pn om,hgood];rfl
   rw[e];conv=>whnf
   exact rfl
 |some p =>
  rw [hf] at hpt;have hsp:=jk6 t p hf s hs;refine oD hpt rfl rfl ?_;conv=>whnf
  cases hc:cutF p.1 p.2.1 p.2.2 s with
  |none =>
   have hgood:jn t s=false:=by unfold jn;rw[if_neg h1,if_neg h2,if_neg h3,hf];show(cutF p.1 p.2.1 p.2.2 s).isSome=false;rw[hc];rfl
   have e:jf t s=false:=by unfold jf;rw[hgood,l8]
   rw [hc] at hsp;refine oD hsp rfl rfl ?_;rw[e];conv=>whnf
   repeat((first|apply Fr|apply Tr);conv=>whnf)
   try exact rfl
  |some q =>
   obtain⟨x,l,r⟩:=q;have hgood:jn t s=true:=by unfold jn;rw[if_neg h1,if_neg h2,if_neg h3,hf];show(cutF p.1 p.2.1 p.2.2 s).isSome=true;rw[hc];rfl
   rw [hc] at hsp;refine oD hsp rfl rfl ?_;conv=>whnf
   refine⟨λk2=>?_,λk2=>?_⟩
   ·have k2:(s.length:Int) > 4096:=px k2;have e:jf t s=false:=by unfold jf;rw[po om];rfl
    rw[e];conv=>whnf
    exact rfl
   ·have k2:¬ (s.length:Int) > 4096:=py k2;have e:jf t s=true:=by unfold jf;rw[pn om,hgood];rfl
    rw[e];conv=>whnf
    exact rfl
theorem zv5{t:Int}{p:Nat × Nat × Nat}(h:ji t=some p):0<p.2.1:=by
 unfold ji at h
 repeat'(split at h)
 all_goals first|(cases h;decide)|cases h
theorem yg4{t:Int}{p:Nat × Nat × Nat}(h:ji t=some p):t≠1/\t≠28/\t≠16:=by
 refine⟨?_,?_,?_⟩ <;> (rintro rfl;cases h)
def xy7:Option (Ls × List Ls × Ls)->SV
 |none=>nilS
 |some (_,l,_)=>.d (.sl (Nat.beq l.length 0) l.length 1 (strs l))
def wh(t:Int)(s:Ls):Option (Ls × List Ls × Ls):=(z7 t s).map (·.2)
theorem yf8{t:Int}{s:Ls}{p:Nat × Nat × Nat}(hf:ji t=some p)(hr:jf t s=true):∃ q,cutF p.1 p.2.1 p.2.2 s=some q/\wh t s=some q:=by
 obtain⟨n1,n2,n3⟩:=yg4 hf;unfold jf jn at hr;rw [if_neg n1,if_neg n2,if_neg n3,hf] at hr;simp only [p7,lr] at hr;obtain⟨q,hq⟩:=ru.1 hr.2;refine⟨q,hq,?_⟩;unfold wh z7;rw[if_pos hr.1,hf];show Option.map _ ((cutF p.1 p.2.1 p.2.2 s).map _)=_;rw[hq];rfl
theorem ym5{t:Int}{s:Ls}{p:Nat × Nat × Nat}(hf:ji t=some p)(hr:jf t s=false):wh t s=none:=by
 obtain⟨n1,n2,n3⟩:=yg4 hf;unfold jf jn at hr;rw [if_neg n1,if_neg n2,if_neg n3,hf] at hr;unfold wh z7;split
 ·rename_i h;rw [pn h,p9] at hr;have:cutF p.1 p.2.1 p.2.2 s=none:=by
   have hr:(cutF p.1 p.2.1 p.2.2 s).isSome=false:=hr;cases e:cutF p.1 p.2.1 p.2.2 s
   ·rfl
   ·rw [e] at hr;cases hr
  rw[hf];show Option.map _ ((cutF p.1 p.2.1 p.2.2 s).map _)=_;rw[this];rfl
 ·rfl
theorem yf9{t:Int}{s:Ls}(hf:ji t=none):wh t s=none:=by
 unfold wh z7;rw[hf];split <;> rfl
theorem zt3(t:Int)(s:Ls)(hs:s.length<=2000000):FnOk Tryz.prog 186 [.d (.int .u16 t),.d (.str s)] (xy7 (wh t s)):=by
 refine qi (TT:=TT) (IN:=qd []) qe qg mixed 1000 Tryz.func186 rfl (qb Tryz.func186 (by kernel_rfl) rfl) rfl 35 (by kernel_rfl) ?_;have hpt:=jk7 t;cases hf:ji t with
 |none =>
  rw [hf] at hpt;rw[yf9 hf];conv=>whnf
  refine oD hpt rfl rfl ?_;conv=>whnf
  repeat(first|(apply Tr;conv=>whnf))
  try exact rfl
  try repeat'(first|exact ⟨⟩|exact rfl|exact .inr rfl|exact .inl rfl|exact λ_ _=>rfl|exact noI|apply And.intro)
 |some p =>
  rw [hf] at hpt;conv=>whnf
  refine oD hpt rfl rfl ?_;conv=>whnf
  refine oD (ye3 t s hs) rfl rfl ?_;cases hr:jf t s with
  |false =>
   rw[ym5 hf hr];conv=>whnf
   repeat(first|(apply Tr;conv=>whnf))
   try exact rfl
   try repeat'(first|exact ⟨⟩|exact rfl|exact .inr rfl|exact .inl rfl|exact λ_ _=>rfl|exact noI|apply And.intro)
  |true =>
   obtain⟨q,hq,hl⟩:=yf8 hf hr;rw[hl];conv=>whnf
   apply Fr;conv=>whnf
   have hsp:=jk6 t p hf s hs;rw [hq] at hsp;refine oD hsp rfl rfl ?_;conv=>whnf
   exact⟨rfl,rfl,.inr rfl,λ_ _=>rfl⟩
theorem zs8{t:Int}{s:Ls}(h:wh t s=none):xj t s=s:=by
 unfold wh at h;unfold xj;cases e:z7 t s with
 |none=>rfl
 |some q=>rw [e] at h;cases h
theorem zs7{t:Int}{s x r:Ls}{l:List Ls}(h:wh t s=some (x,l,r)):xj t s=x++fold l.flatten++r:=by
 unfold wh at h;unfold xj;cases e:z7 t s with
 |none=>rw [e] at h;cases h
 |some q =>
  rw [e] at h;obtain⟨q1,q2⟩:=q;have h:q2=(x,l,r):=oq h;subst h;show x++fold (Lib.join l [])++r=_;rw[jc7]
theorem yk8(t:Int)(s:Ls)(hs:s.length<=2000000):FnOk Tryz.prog 158 [.d (.int .u16 t),.d (.str s)] (.d (.str (xj t s))):=by
 refine qi (TT:=TT) (IN:=qd []) qe qg mixed 1000 Tryz.func158 rfl (qb Tryz.func158 (by kernel_rfl) rfl) rfl 39 (by kernel_rfl) ?_;conv=>whnf
 refine .one (.data _ (zt3 t s hs) (by cases wh t s <;> rfl) (by cases wh t s <;> rfl) ?_);cases hl:wh t s with
 |none =>
  rw[zs8 hl];conv=>whnf
  apply Tr;conv=>whnf
  try exact rfl
 |some q =>
  obtain⟨x,l,r⟩:=q;have hft:∃ p,ji t=some p:=by
   cases e:ji t with
   |none=>rw [yf9 e] at hl;cases hl
   |some p=>exact⟨p,rfl⟩
  obtain⟨p,hf⟩:=hft;have hr:jf t s=true:=by
   cases e:jf t s
   ·rw [ym5 hf e] at hl;cases hl
   ·rfl
  obtain⟨q,hq,hl2⟩:=yf8 hf hr;rw [hl] at hl2;have hqe:=oq hl2;subst hqe;have hcat:l.length=p.2.1/\x.length+(l.flatten.length+r.length)<=2000000:=by
   unfold cutF at hq;split at hq
   ·cases hq
   ·rename_i h2;cases e:kg p.2.1 (s.drop (2 * p.1)) with
    |none=>rw [e] at hq;cases hq
    |some w =>
     rw [e] at hq;simp only [dt] at hq;split at hq
     ·simp only [gu,Prod.mk.injEq] at hq;obtain⟨rfl,rfl,rfl⟩:=hq;obtain⟨e1,e2⟩:=yf7 _ _ w.1 w.2 e;refine⟨e1,?_⟩;rw[e2];simp;omega
     ·cases hq
  have hpos:=zv5 hf;have hle100:=(qs3 hf).2.1;have hfol:∀ z:Ls,(fold z).length=z.length:=jp7;rw[zs7 hl];conv=>whnf
  refine brF (by cases l with|nil=>simp at hcat;omega|cons a l=>simp;omega) ?_;conv=>whnf
  have hsp:=jk6 t p hf s hs;rw [hq] at hsp;refine oD hsp rfl rfl ?_;conv=>whnf
  refine .inv Nat (λi=>i<=l.length) (λi=>[(29,iV i),(6,.d (.str (x++fold (l.take i).flatten)))]) (λ_=>[]) (λi=>l.length - i) ⟨0,[],pv _,?_⟩ ?_
  ·conv=>whnf
   rw[show x++fold (l.take 0).flatten=x by simp[fold]]
   exact rZ6
  intro i hi;conv=>whnf
  refine⟨λc5=>?_,λc5=>?_⟩
  ·have c5':i<l.length:=(by have h:(i:Int)<l.length:=px c5;omega);have hw1:=w64s i om;obtain⟨y,hy⟩:∃ y,l[i]?.getD []=y:=⟨_,rfl⟩;have hly:l[i]=y:=by rw[<-hy,pp c5'];rfl
   have htk:(l.take (i+1)).flatten=(l.take i).flatten++y:=by
    rw[o3,pp c5',hly];simp
   have hle:(l.take i).flatten.length+y.length<=2000000:=by
    have h1:l.flatten=(l.take (i+1)).flatten++(l.drop (i+1)).flatten:=by rw[<-List.flatten_append,f9]
    have h2:=congrArg List.length h1;rw [htk] at h2;simp only [pq] at h2;omega
   conv=>whnf
   refine⟨om,?_⟩;conv=>whnf
   rw[pr,hy];refine oD (qd7 y om) rfl rfl ?_;conv=>whnf
   refine⟨by rw[pq,hfol,hfol];omega,?_⟩;conv=>whnf
   rw[hw1];refine⟨i+1,[],c5',om,?_⟩;rw[htk,show x++fold ((l.take i).flatten++y)=(x++fold (l.take i).flatten)++fold y by unfold fold;rw[du,mp]];exact rY6
  ·have hia:i=l.length:=(by have h:¬ (i:Int)<l.length:=py c5;omega);subst hia;rw[mu];conv=>whnf
   refine⟨by rw[pq,hfol];omega,?_⟩;conv=>whnf
   try exact rfl
theorem qz8(r:RR)(hd:r.d.length<=2000000):FnOk Tryz.prog 57 [r.V] (.d (.int .i64 (jh9 r.check))):=by
 refine qi (TT:=TT) (IN:=qd []) qe qg mixed 1000 Tryz.func57 rfl (qb Tryz.func57 (by kernel_rfl) rfl) rfl 24 (by kernel_rfl) ?_;conv=>whnf
 refine oD (qd4 r.nm) rfl rfl ?_;by_cases hn:qa r.nm
 ·rw[if_pos hn];conv=>whnf
  apply Fr;conv=>whnf
  refine oD (ye3 r.ty r.d hd) rfl rfl ?_;cases hc:jf r.ty r.d
  ·have e:r.check=false:=by simp[RR.check,hc]
   rw[e];conv=>whnf
   repeat((first|apply Fr|apply Tr);conv=>whnf)
   try exact rfl
  ·conv=>whnf
   apply Fr;conv=>whnf
   refine⟨λc1=>?_,λc1=>?_⟩
   ·have c1':¬ r.ty=41:=by simpa using c1
    conv=>whnf
    refine⟨λc2=>?_,λc2=>?_⟩
    ·have c2':¬ r.ttl<=2147483647:=by
      have:r.ttl > 2147483647:=px c2;omega
     have e:r.check=false:=by simp[RR.check,c1',c2']
     rw[e];conv=>whnf
     exact rfl
    ·have c2':r.ttl<=2147483647:=by
      have:¬ r.ttl > 2147483647:=py c2;omega
     have e:r.check=true:=by simp[RR.check,hn,hc,c2']
     rw[e];conv=>whnf
     exact rfl
   ·have c1':r.ty=41:=by simpa using c1
    have e:r.check=true:=by
     simp only[RR.check,hn,hc,decide_true,p9,cn,oy];exact .inr c1'
    rw[e];conv=>whnf
    exact rfl
 ·rw[if_neg hn];have e:r.check=false:=by simp[RR.check,hn]
  rw[e];conv=>whnf
  repeat((first|apply Fr|apply Tr);conv=>whnf)
  try exact rfl
theorem xd{a b:Ls}(ha:qa a)(hb:qa b):qp a b=(fold a == fold b):=by unfold qp;rw[pn ha,pn hb];rfl
theorem yv1{r:RR}(h:r.check=true):qa r.nm:=by
 unfold RR.check at h;simp only [p7,lr] at h;exact h.1.1
def wq(a b:RR):Bool:=a.check && (b.check && (fold a.nm == fold b.nm && (a.ty == b.ty && (a.cl == b.cl && (xj a.ty a.d == xj b.ty b.d && true)))))
theorem zt1(a b:RR)(hda:a.d.length<=2000000)(hdb:b.d.length<=2000000):FnOk Tryz.prog 123 [a.V,b.V] (.d (.bool (wq a b))):=by
 refine qi (TT:=TT) (IN:=qd []) qe qg mixed 1000 Tryz.func123 rfl (qb Tryz.func123 (by kernel_rfl) rfl) rfl 45 (by kernel_rfl) ?_;conv=>whnf
 refine .data _ (qz8 a hda) rfl rfl ?_;cases ha:a.check with
 |false =>
  rw[show wq a b=false by unfold wq;rw[ha];rfl];conv=>whnf
  repeat((first|apply Fr|apply Tr);conv=>whnf)
  repeat'(first|exact ⟨⟩|exact rfl|exact λ_=>Iff.rfl|exact λ_ _=>rfl|exact renM_ent rfl _|apply And.intro)
 |true =>
  conv=>whnf
  repeat((first|apply Fr|apply Tr);conv=>whnf)
  refine .data _ (qz8 b hdb) rfl rfl ?_;cases hb:b.check with
  |false =>
   rw[show wq a b=false by unfold wq;rw[ha,hb];rfl];conv=>whnf
   repeat((first|apply Fr|apply Tr);conv=>whnf)
   repeat'(first|exact ⟨⟩|exact rfl|exact λ_=>Iff.rfl|exact λ_ _=>rfl|exact renM_ent rfl _|apply And.intro)
  |true =>
   have e:wq a b=(fold a.nm == fold b.nm && (a.ty == b.ty && (a.cl == b.cl && (xj a.ty a.d == xj b.ty b.d && true)))):=by
    unfold wq;rw[ha,hb];rfl
   rw[e];conv=>whnf
   repeat((first|apply Fr|apply Tr);conv=>whnf)
   refine .data _ (qd6 a.nm b.nm) rfl rfl ?_;rw[xd (yv1 ha) (yv1 hb)];by_cases h1:fold a.nm=fold b.nm;case neg =>
    rw[show(fold a.nm == fold b.nm)=false by simp[h1]];conv=>whnf
    repeat((first|apply Fr|apply Tr);conv=>whnf)
    exact rZ6
   rw[show(fold a.nm == fold b.nm)=true by simp[h1],p9];conv=>whnf
   repeat((first|apply Fr|apply Tr);conv=>whnf)
   by_cases h2:a.ty=b.ty
   case neg =>
    rw[show(a.ty == b.ty)=false by simp[h2]];conv=>whnf
    repeat((first|apply Fr|apply Tr);conv=>whnf)
    exact rZ6
   rw[show(a.ty == b.ty)=true by simp[h2],p9];conv=>whnf
   repeat((first|apply Fr|apply Tr);conv=>whnf)
   by_cases h3:a.cl=b.cl
   case neg =>
    rw[show(a.cl == b.cl)=false by simp[h3]];conv=>whnf
    repeat((first|apply Fr|apply Tr);conv=>whnf)
    exact rZ6
   rw[show(a.cl == b.cl)=true by simp[h3],p9];conv=>whnf
   repeat((first|apply Fr|apply Tr);conv=>whnf)
   refine .data _ (yk8 a.ty a.d hda) rfl rfl ?_;conv=>whnf
   refine .data _ (yk8 b.ty b.d hdb) rfl rfl ?_;conv=>whnf
   rw[Bool.and_true];repeat'(first|exact ⟨⟩|exact rfl|exact λ_=>Iff.rfl|exact λ_ _=>rfl|exact renM_ent rfl _|apply And.intro)
def p22(z:Zo)(r:RR):Bool:=r.ty == 2 && decide (r2dI r.nm z.apex > 0)
def t22(z:Zo)(i:Nat):List Ls:=((z.rrs.take i).filter (p22 z)).map (·.nm)
theorem xh6{z:Zo}{i:Nat}{r:RR}(h:z.rrs[i]? = some r):t22 z (i+1)=if p22 z r then t22 z i++[r.nm] else t22 z i:=by
 unfold t22;rw[o3,h];cases hp:p22 z r <;> simp[hp]
theorem yx1(z:Zo)(i:Nat):(t22 z i).length<=i:=by
 unfold t22;rw[mq];exact gn (cx _ _) (by rw[o4];omega)
def c22(z:Zo):List Ls:=zv (t22 z z.rrs.length)
theorem ye6(z:Zo)(hzl:z.rrs.length<=100000)(ha:z.apex.length<=100000):FnOk Tryz.prog 90 [z.V] (.d (.sl (c22 z).isEmpty (c22 z).length 1 (strs (c22 z)))):=by
 refine qi (TT:=TT) (IN:=qd []) qe qg mixed 1000 Tryz.func90 rfl (qb Tryz.func90 (by kernel_rfl) rfl) rfl 31 (by kernel_rfl) ?_;conv=>whnf
 refine .nilT 3 9 1 (strs []) _ _ rfl ?_;conv=>whnf
 refine .inv Nat (λi=>i<=z.rrs.length) (λi=>[(9,iV i),(3,.all 1)]) (λi=>[(1,.row 9 1 (t22 z i).length .iff (strs (t22 z i)))]) (λi=>z.rrs.length - i) ⟨0,[0,1],pv _,?_⟩ ?_
 ·exact rY2
 intro i hi;have htl:=yx1 z i;conv=>whnf
 refine⟨λh1=>?_,λh1=>?_⟩
 ·have h1:i<z.rrs.length:=by
   have h:(i:Int)<z.rrs.length:=px h1;omega
  have hw1:=w64s i om;obtain⟨r,hr⟩:∃ r,z.rrs.getD i default=r:=⟨_,rfl⟩;have hrl:z.rrs[i]? = some r:=by rw[<-hr,List.getD,pp h1];rfl
  have hnx:=xh6 hrl;conv=>whnf
  refine⟨om,?_⟩;conv=>whnf
  rw[pr,hr];refine⟨λg1=>?_,λg1=>?_⟩
  ·have g1:(r.ty == 2)=true:=g1;conv=>whnf
   refine oD (ye5 r.nm z.apex om) rfl rfl ?_;conv=>whnf
   refine⟨λg2=>?_,λg2=>?_⟩
   ·have g2:decide (r2dI r.nm z.apex > 0)=true:=g2;rw [show p22 z r=true by unfold p22;rw [g1,g2];rfl,if_pos rfl] at hnx;conv=>whnf
    refine⟨om,?_⟩;conv=>whnf
    rw[hw1];refine⟨i+1,[0,4],h1,om,?_⟩;rw[hnx];conv=>whnf
    repeat'(first|exact ⟨⟩|exact rfl|exact ql _|exact .inr rfl|exact λ_ _=>rfl|exact noI|apply And.intro|(show _+1=(_++[_]).length;simp;done)|exact zh _ _ _ rfl)
   ·have g2:decide (r2dI r.nm z.apex > 0)=false:=g2;rw [show p22 z r=false by unfold p22;rw [g1,g2];rfl,if_neg (by decide)] at hnx;conv=>whnf
    rw[hw1];refine⟨i+1,[0,1],h1,om,?_⟩;rw[hnx];exact rY2
  ·have g1:(r.ty == 2)=false:=g1;rw [show p22 z r=false by unfold p22;rw [g1];rfl,if_neg (by decide)] at hnx;conv=>whnf
   rw[hw1];refine⟨i+1,[0,1],h1,om,?_⟩;rw[hnx];exact rY2
 ·have h1:i=z.rrs.length:=by
   have h:¬ (i:Int)<z.rrs.length:=py h1;omega
  subst h1;unfold c22;generalize t22 z z.rrs.length=N at htl ⊢;conv=>whnf
  refine .one (.frz _ _ [1] (xa3 (Nat.beq N.length 0) N om) ?_ rfl rfl ?_)
  ·conv=>whnf
   exact⟨rfl,rfl⟩
  exact rY3
end Go.Proofs.YtoefgnnkajhmiaaGreatDoor
