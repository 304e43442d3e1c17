/-
  Part of the proof: lemmas about the functions that the row calls, and about the steps of a run. Conditions: those ahead of each lemma.
-/
import Derived.Test.YtnfoihdifohkeaaGreatB3
import Derived.Test.YtnfoihdifohkeaaGreatB2
set_option linter.unusedVariables false
set_option linter.unusedSimpArgs false
set_option maxRecDepth 100000
set_option maxHeartbeats 64000000
namespace Go.Proofs.YtnfoihdifohkeaaGreat
open Go Go.Eng
def p22(z:Zo)(r:RR):Bool:=r.ty == 2 && decide (r2dI r.nm z.apex > 0)
def t22(z:Zo)(i:Nat):List (List UInt8):=((z.rrs.take i).filter (p22 z)).map (·.nm)
theorem zz1{z:Zo}{i:Nat}{r:RR}(h:z.rrs[i]? = some r):t22 z (i+1)=if p22 z r then t22 z i++[r.nm] else t22 z i:=by
 unfold t22
 rw[mr,h];cases hp:p22 z r <;> simp[hp]
theorem yt8(z:Zo)(i:Nat):(t22 z i).length<=i:=by
 unfold t22
 rw[o4];exact o7 (fq _ _) (by rw[m9];omega)
def c22(z:Zo):List (List UInt8):=xw (t22 z z.rrs.length)
theorem zm3(z:Zo)(hzl:z.rrs.length<=100000)(ha:z.apex.length<=100000):FnOk Tryz.prog 48 [z.V] (.d (.sl (c22 z).isEmpty (c22 z).length 1 (strs (c22 z)))):=by
 refine qp (TT:=TT) (IN:=qh []) qk qj mixed 1000 Tryz.func48 rfl (qi Tryz.func48 (by kernel_rfl) rfl) rfl 31 (by kernel_rfl) ?_
 conv=>whnf
 refine .nilT 3 9 1 (strs []) _ _ rfl ?_;conv=>whnf
 refine .inv Nat (fun i=>i<=z.rrs.length) (fun i=>[(9,iV i),(3,.all 1)]) (fun i=>[(1,.row 9 1 (t22 z i).length .iff (strs (t22 z i)))]) (fun i=>z.rrs.length - i) ⟨0,[0,1],pu _,?_⟩ ?_
 ·conv=>whnf
  repeat'(first|exact ⟨⟩|exact rfl|exact qa _|exact .inr rfl|exact fun _ _=>rfl|exact noI|apply And.intro)
 intro i hi;have htl:=yt8 z i
 conv=>whnf
 refine⟨fun h1=>?_,fun h1=>?_⟩
 ·have h1:i<z.rrs.length:=by
   have h:(i:Int)<z.rrs.length:=of_decide_eq_true h1
   omega
  have hw1:=w64s i (by omega)
  obtain⟨r,hr⟩:∃ r,z.rrs.getD i default=r:=⟨_,rfl⟩;have hrl:z.rrs[i]? = some r:=by rw[<-hr,List.getD,pn h1];rfl
  have hnx:=zz1 hrl
  conv=>whnf
  refine⟨by omega,?_⟩
  conv=>whnf
  rw[pp,hr];refine⟨fun g1=>?_,fun g1=>?_⟩
  ·have g1:(r.ty == 2)=true:=g1
   conv=>whnf
   refine od (yd7 r.nm z.apex (by omega)) rfl rfl ?_
   conv=>whnf
   refine⟨fun g2=>?_,fun g2=>?_⟩
   ·have g2:decide (r2dI r.nm z.apex > 0)=true:=g2
    rw [show p22 z r=true by unfold p22;rw [g1,g2];rfl,if_pos rfl] at hnx
    conv=>whnf
    refine⟨by omega,?_⟩
    conv=>whnf
    rw[hw1];refine⟨i+1,[0,4],h1,by omega,?_⟩
    rw[hnx];conv=>whnf
    repeat'(first|exact ⟨⟩|exact rfl|exact qa _|exact .inr rfl|exact fun _ _=>rfl|exact noI|apply And.intro)
    all_goals first
     |(show _+1=(_++[_]).length;simp;done)
     |exact kp _ _ _ rfl
   ·have g2:decide (r2dI r.nm z.apex > 0)=false:=g2
    rw [show p22 z r=false by unfold p22;rw [g1,g2];rfl,if_neg (by decide)] at hnx
    conv=>whnf
    rw[hw1];refine⟨i+1,[0,1],h1,by omega,?_⟩
    rw[hnx];conv=>whnf
    repeat'(first|exact ⟨⟩|exact rfl|exact qa _|exact .inr rfl|exact fun _ _=>rfl|exact noI|apply And.intro)
  ·have g1:(r.ty == 2)=false:=g1
   rw [show p22 z r=false by unfold p22;rw [g1];rfl,if_neg (by decide)] at hnx
   conv=>whnf
   rw[hw1];refine⟨i+1,[0,1],h1,by omega,?_⟩
   rw[hnx];conv=>whnf
   repeat'(first|exact ⟨⟩|exact rfl|exact qa _|exact .inr rfl|exact fun _ _=>rfl|exact noI|apply And.intro)
 ·have h1:i=z.rrs.length:=by
   have h:¬ (i:Int)<z.rrs.length:=of_decide_eq_false h1
   omega
  subst h1;unfold c22
  generalize t22 z z.rrs.length=N at htl ⊢;conv=>whnf
  refine .one (.frz _ _ [1] (zs6 (Nat.beq N.length 0) N (by omega)) ?_ rfl rfl ?_)
  ·conv=>whnf
   exact⟨rfl,rfl⟩
  conv=>whnf
  repeat'(first|exact ⟨⟩|exact rfl|exact .inr rfl|exact .inl rfl|exact fun _ _=>rfl|exact noI|apply And.intro)
theorem zm2(z:Zo)(hz:z.Fit)(hzl:z.rrs.length<=100000)(ha:z.apex.length<=100000)(i:Nat)(hi:i<z.rrs.length)(y:Bool)(C:List (List UInt8))(hC:C.length<=100000)(hCl:∀ x ∈ C,x.length<=100000) :
 COk Tryz.prog 49 [z.V,iV i,.d (.sl y C.length 1 (strs C))] [] (fun s k=>(s = .d .ff\/s = .d .tt)/\k=[]):=by
 refine j7 (TT:=TT) (IN:=qh []) qk qj mixed 1000 Tryz.func49 rfl (qi Tryz.func49 (by kernel_rfl) rfl) 129 (by kernel_rfl) ?_
 obtain⟨r,hr⟩:∃ r,z.rrs.getD i default=r:=⟨_,rfl⟩;have hrl:z.rrs[i]? = some r:=by rw[<-hr,List.getD,pn hi];rfl
 obtain⟨hrn,hrd⟩:=hz r (py hrl);have c1:=jk7 r (by omega)
 have c2:=jz7 r.nm z.apex (by omega)
 have c3:=qn6 r.nm z.apex
 conv=>whnf
 refine⟨by omega,?_⟩
 conv=>whnf
 rw[pp,hr];refine od c1 rfl rfl ?_;conv=>whnf
 repeat'(first
  |exact⟨[],.d .ff,[],rfl,rfl,rfl,True.intro,.inl rfl,rfl⟩
  |exact⟨[],.d .tt,[],rfl,rfl,rfl,True.intro,.inr rfl,rfl⟩
  |(refine od c2 rfl rfl ?_;(conv=>whnf))
  |(refine od c3 rfl rfl ?_;(conv=>whnf))
  |(refine And.intro (fun _=>?_) (fun _=>?_) <;> (conv=>whnf)))
 all_goals
  refine .inv Nat (fun j=>j<=z.rrs.length) (fun j=>[(60,iV j)]) (fun j=>[]) (fun j=>z.rrs.length - j) ⟨0,[0,1],pu _,?_⟩ ?_
  ·conv=>whnf
   repeat'(first|exact ⟨⟩|exact rfl|exact qa _|exact .inr rfl|exact fun _ _=>rfl|exact noI|apply And.intro)
  intro j hj;conv=>whnf
  refine⟨fun h1=>?_,fun h1=>?_⟩
  ·have h1:j<z.rrs.length:=by
    have h:(j:Int)<z.rrs.length:=of_decide_eq_true h1
    omega
   have hw2:=w64s j (by omega)
   obtain⟨r2,hr2⟩:∃ r2,z.rrs.getD j default=r2:=⟨_,rfl⟩;have hrl2:z.rrs[j]? = some r2:=by rw[<-hr2,List.getD,pn h1];rfl
   obtain⟨hrn2,hrd2⟩:=hz r2 (py hrl2);have c4:=zl8 r2 r (by omega) (by omega)
   have c5:=qn6 r2.nm r.nm
   conv=>whnf
   refine⟨by omega,?_⟩
   conv=>whnf
   rw[pp,hr2];repeat'(first
    |exact⟨[],.d .ff,[],rfl,rfl,rfl,True.intro,.inl rfl,rfl⟩
    |exact⟨[],.d .tt,[],rfl,rfl,rfl,True.intro,.inr rfl,rfl⟩
    |(refine od c4 rfl rfl ?_;(conv=>whnf))
    |(refine od c5 rfl rfl ?_;(conv=>whnf))
    |(refine And.intro (fun _=>?_) (fun _=>?_) <;> (conv=>whnf)))
   all_goals
    rw[hw2];refine⟨j+1,[0,1],h1,by omega,?_⟩
    conv=>whnf
    repeat'(first|exact ⟨⟩|exact rfl|exact qa _|exact .inr rfl|exact fun _ _=>rfl|exact noI|apply And.intro)
  ·conv=>whnf
   repeat'(refine And.intro (fun _=>?_) (fun _=>?_) <;> (conv=>whnf))
   all_goals
    refine .inv Nat (fun j=>j<=C.length) (fun j=>[(103,iV j)]) (fun j=>[]) (fun j=>C.length - j) ⟨0,[0,1],pu _,?_⟩ ?_
    ·conv=>whnf
     repeat'(first|exact ⟨⟩|exact rfl|exact qa _|exact .inr rfl|exact fun _ _=>rfl|exact noI|apply And.intro)
    intro j hj;conv=>whnf
    refine⟨fun h1=>?_,fun h1=>?_⟩
    ·have h1:j<C.length:=by
      have h:(j:Int)<C.length:=of_decide_eq_true h1
      omega
     have hw2:=w64s j (by omega)
     obtain⟨x,hx⟩:∃ x,C[j]?.getD []=x:=⟨_,rfl⟩;have hxl:x.length<=100000:=hCl x (by rw[<-hx,pn h1];exact d5 h1)
     have c4:=qn6 r.nm x
     have c5:=yd7 r.nm x (by omega)
     conv=>whnf
     refine⟨by omega,?_⟩
     conv=>whnf
     rw[pp,hx];repeat'(first
      |exact⟨[],.d .ff,[],rfl,rfl,rfl,True.intro,.inl rfl,rfl⟩
      |exact⟨[],.d .tt,[],rfl,rfl,rfl,True.intro,.inr rfl,rfl⟩
      |(refine od c4 rfl rfl ?_;(conv=>whnf))
      |(refine od c5 rfl rfl ?_;(conv=>whnf))
      |(refine And.intro (fun _=>?_) (fun _=>?_) <;> (conv=>whnf)))
     all_goals
      rw[hw2];refine⟨j+1,[0,1],h1,by omega,?_⟩
      conv=>whnf
      repeat'(first|exact ⟨⟩|exact rfl|exact qa _|exact .inr rfl|exact fun _ _=>rfl|exact noI|apply And.intro)
    ·conv=>whnf
     first
      |exact⟨[],.d .ff,[],rfl,rfl,rfl,True.intro,.inl rfl,rfl⟩
      |exact⟨[],.d .tt,[],rfl,rfl,rfl,True.intro,.inr rfl,rfl⟩
structure C22S where
 i:Nat
 a:Nat
 b:Nat
theorem zk8(z:Zo):(c22 z).length<=z.rrs.length:=o7 (yi0 _) (yt8 z _)
theorem zg2(z:Zo)(hz:z.Fit)(hzl:z.rrs.length<=100000)(ha:z.apex.length<=100000) :
 COk Tryz.prog 20 [z.V] [] (fun s k=>(s = .d (.int .i64 0)\/s = .d (.int .i64 2))/\k=[]):=by
 refine j7 (TT:=TT) (IN:=qh []) qk qj mixed 1000 Tryz.func20 rfl (qi Tryz.func20 (by kernel_rfl) rfl) 56 (by kernel_rfl) ?_
 have hc:=zk8 z
 have hcm:∀ x ∈ c22 z,x.length<=100000:=fun x hx=>by have:=(yh9 hx).2.1;omega
 have hcu:=zm3 z hzl ha
 generalize c22 z=C at hc hcm hcu;conv=>whnf
 refine od (qf1 z.apex) rfl rfl ?_;by_cases hn:qb z.apex;case neg =>
  rw[if_neg hn];conv=>whnf
  refine brT rfl ?_;conv=>whnf
  exact⟨[],.d (.int .i64 2),[],rfl,rfl,rfl,True.intro,.inr rfl,rfl⟩
 rw[if_pos hn];conv=>whnf
 refine brF rfl ?_;conv=>whnf
 refine⟨fun h1=>?_,fun h1=>?_⟩
 ·conv=>whnf
  exact⟨[],.d (.int .i64 2),[],rfl,rfl,rfl,True.intro,.inr rfl,rfl⟩
 conv=>whnf
 refine od hcu rfl rfl ?_;conv=>whnf
 refine .inv C22S (fun s=>s.i<=z.rrs.length/\s.a<=s.i/\s.b<=s.i) (fun s=>[(23,iV s.i),(4,iV s.a),(5,iV s.b)]) (fun s=>[]) (fun s=>z.rrs.length - s.i) ⟨⟨0,0,0⟩,[0],⟨pu _,pu _,pu _⟩,?_⟩ ?_
 ·conv=>whnf
  repeat'(first|exact ⟨⟩|exact rfl|exact qa _|exact .inr rfl|exact fun _ _=>rfl|exact noI|apply And.intro)
 intro s hs;obtain⟨hi,hsa,hsb⟩:=hs;conv=>whnf
 generalize s.i=i at hi hsa hsb ⊢;generalize s.a=a at hsa ⊢;generalize s.b=b at hsb ⊢;refine⟨fun h2=>?_,fun h2=>?_⟩
 ·have h2:i<z.rrs.length:=by
   have h:(i:Int)<z.rrs.length:=of_decide_eq_true h2
   omega
  have hw1:=w64s i (by omega)
  have hwa:=w64s a (by omega)
  have hwb:=w64s b (by omega)
  obtain⟨r,hr⟩:∃ r,z.rrs.getD i default=r:=⟨_,rfl⟩;have c5:=qn6 r.nm z.apex
  conv=>whnf
  refine⟨by omega,?_⟩
  conv=>whnf
  rw[pp,hr];refine .rel _ (COk.frameX (zm2 z hz hzl ha i h2 C.isEmpty C (by omega) hcm) [] rfl rfl rfl) (fun x ks' hR=>?_)
  obtain⟨s0,k0,⟨hs0,rfl⟩,rfl,rfl⟩:=hR;rcases hs0 with rfl|rfl
  ·conv=>whnf
   first
    |exact⟨[],.d (.int .i64 2),[],rfl,rfl,rfl,True.intro,.inr rfl,rfl⟩
    |(
     refine brT rfl ?_;conv=>whnf
     exact⟨[],.d (.int .i64 2),[],rfl,rfl,rfl,True.intro,.inr rfl,rfl⟩)
  ·conv=>whnf
   try (refine brF rfl ?_;conv=>whnf)
   repeat'(first
    |(refine od c5 rfl rfl ?_;(conv=>whnf))
    |(refine And.intro (fun _=>?_) (fun _=>?_) <;> (conv=>whnf)))
   all_goals
    try rw[hwa]
    try rw[hwb]
    rw[hw1];first
     |(
      refine⟨⟨i+1,a,b⟩,[0],⟨h2,by show a<=i+1;omega,by show b<=i+1;omega⟩,by show _ - (i+1)<_;omega,?_⟩
      conv=>whnf
      repeat'(first|exact ⟨⟩|exact rfl|exact qa _|exact .inr rfl|exact fun _ _=>rfl|exact noI|apply And.intro)
      done)
     |(
      refine⟨⟨i+1,a+1,b⟩,[0],⟨h2,by show a+1<=i+1;omega,by show b<=i+1;omega⟩,by show _ - (i+1)<_;omega,?_⟩
      conv=>whnf
      repeat'(first|exact ⟨⟩|exact rfl|exact qa _|exact .inr rfl|exact fun _ _=>rfl|exact noI|apply And.intro)
      done)
     |(
      refine⟨⟨i+1,a,b+1⟩,[0],⟨h2,by show a<=i+1;omega,by show b+1<=i+1;omega⟩,by show _ - (i+1)<_;omega,?_⟩
      conv=>whnf
      repeat'(first|exact ⟨⟩|exact rfl|exact qa _|exact .inr rfl|exact fun _ _=>rfl|exact noI|apply And.intro)
      done)
     |(
      refine⟨⟨i+1,a+1,b+1⟩,[0],⟨h2,by show a+1<=i+1;omega,by show b+1<=i+1;omega⟩,by show _ - (i+1)<_;omega,?_⟩
      conv=>whnf
      repeat'(first|exact ⟨⟩|exact rfl|exact qa _|exact .inr rfl|exact fun _ _=>rfl|exact noI|apply And.intro)
      done)
 ·conv=>whnf
  repeat'(first
   |exact⟨[],.d (.int .i64 2),[],rfl,rfl,rfl,True.intro,.inr rfl,rfl⟩
   |exact⟨[],.d (.int .i64 0),[],rfl,rfl,rfl,True.intro,.inl rfl,rfl⟩
   |(refine And.intro (fun _=>?_) (fun _=>?_) <;> (conv=>whnf)))
theorem yj9{zs:List Zo}{ty:Int}:∀ (k:Nat) (n:List UInt8) (c:List St),(ofF zs ty k n c).why=0->∃ t,(ofF zs ty k n c).chain=c++t
 |0,_,_,h=>absurd (show(9:Int)=0 from h) (by decide)
 |k+1,n,c,h=>by
  unfold ofF at h ⊢
  split at h
  ·rename_i hn
   rw[if_pos hn];cases hd:yn zs n 300 0 with
   |none=>rw [hd] at h;exact absurd (show (12:Int)=0 from h) (by decide)
   |some a =>
    rw [hd] at h;simp only at h ⊢
    by_cases h1:(qc n ty (zs.getD a default).rrs).2=0
    ·rw[if_pos h1];exact⟨[],(mv _).symm⟩
    ·rw [if_neg h1] at h ⊢;by_cases h2:ty=5\/(qc n 5 (zs.getD a default).rrs).2≠0\/(qc n 5 (zs.getD a default).rrs).1.data.length=0
     ·rw[if_pos h2];exact⟨[],(mv _).symm⟩
     ·rw [if_neg h2] at h ⊢;by_cases h3:c.length >= 8
      ·rw [if_pos h3] at h;exact absurd (show(9:Int)=0 from h) (by decide)
      ·rw [if_neg h3] at h ⊢;obtain⟨t,ht⟩:=yj9 k _ _ h;exact⟨(qc n 5 (zs.getD a default).rrs).1 :: t,by rw[ht,gv];rfl⟩
  ·exact absurd (show(2:Int)=0 from h) (by decide)
theorem zq3{f:Fo}{n:List UInt8}(h:(vb f n).2=0):qb n:=by
 apply Classical.byContradiction;intro hn;unfold vb u0 at h
 split at h
 ·first
   |exact absurd (show(2:Int)=0 from h) (by decide)
   |(rw [if_neg hn] at h;exact absurd (show (2:Int)=0 from h) (by decide))
 ·exact absurd (show(2:Int)=0 from h) (by decide)
theorem ze2(f:Fo)(hl:f.Len)(q:Q):FnOk Tryz.prog 5 [f.V,q.V] (.d (.bool true)):=by
 refine qp (TT:=TT) (IN:=qh []) qk qj mixed 1000 Tryz.func5 rfl (qi Tryz.func5 (by kernel_rfl) rfl) rfl 145 (by kernel_rfl) ?_
 conv=>whnf
 refine od zn7 rfl rfl ?_;conv=>whnf
 refine brF rfl ?_;conv=>whnf
 refine od (zk9 f) rfl rfl ?_;cases hs:f.small with
 |false =>
  rw[if_neg (by decide)]
  conv=>whnf
  repeat(first|(refine brT rfl ?_;conv=>whnf)|(refine brF rfl ?_;conv=>whnf)|(refine .once ?_;conv=>whnf)|(refine⟨by decide,?_⟩;conv=>whnf)|(refine And.intro (lx rfl) ?_;conv=>whnf))
  all_goals exact rfl
 |true =>
 have hf:=Fo.fit_small hs
 rw[if_pos rfl];conv=>whnf
 refine brF rfl ?_;conv=>whnf
 refine od (yl0 f hf hl) rfl rfl ?_;cases hok:f.ok with
 |false =>
  rw[if_neg (by decide)]
  conv=>whnf
  repeat(first|(refine brT rfl ?_;conv=>whnf)|(refine brF rfl ?_;conv=>whnf)|(refine .once ?_;conv=>whnf)|(refine⟨by decide,?_⟩;conv=>whnf)|(refine And.intro (lx rfl) ?_;conv=>whnf))
  all_goals exact rfl
 |true =>
 obtain⟨⟨h1,h2,h3⟩,hz,ho,hr,_,_⟩:=Fo.parts hok;rw[if_pos rfl];conv=>whnf
 refine brF rfl ?_;conv=>whnf
 refine⟨fun h4=>?_,fun h4=>?_⟩
 ·conv=>whnf
  all_goals exact rfl
 conv=>whnf
 refine od (jt6 f hf hl ⟨q.nm,q.ty,1⟩) rfl rfl ?_;rw[show ofR f ⟨q.nm,q.ty,1⟩=ofF f.zones q.ty 20 q.nm [] by unfold ofR;rw[if_pos hok]]
 obtain⟨V,hV⟩:∃ V,ofF f.zones q.ty 20 q.nm []=V:=⟨_,rfl⟩;rw[hV];conv=>whnf
 refine od (jp9 f hf hl q.nm) rfl rfl ?_;obtain⟨Z,hZ⟩:∃ Z,vb f q.nm=Z:=⟨_,rfl⟩;rw[hZ];conv=>whnf
 refine⟨fun g1=>?_,fun g1=>?_⟩
 ·conv=>whnf
  all_goals exact rfl
 have g1:V.why=0:=by simpa using g1
 conv=>whnf
 refine⟨fun g2=>?_,fun g2=>?_⟩
 ·conv=>whnf
  all_goals exact rfl
 have g2:Z.2=0:=by simpa using g2
 have hn:qb q.nm:=zq3 (f:=f) (by rw[hZ];exact g2)
 obtain ⟨at_,z,e1,_,hza,hwz,hcut⟩:=(yc5 hok hn).resolve_right (fun h=>by have:=h.1;rw [hZ] at this;rw [this] at g2;cases g2)
 rw [hZ] at e1;subst e1;have hlt:at_<f.zones.length:=(po.1 hza).1;have hzd:f.zones.getD at_ default=z:=by rw[o8,hza];rfl
 have hzm:=py hza
 have hzf:=hf z hzm
 have hzo:=hz z hzm
 have hzn:=Zo.ok_len hzo
 have hbnd:(0:Int)<=(at_:Int)/\(at_:Int)<(f.zones.length:Int):=⟨by omega,by omega⟩
 have hkc2:=@zn8 f hok at_ z hza q.nm hwz q.ty 20 (by omega) [] (pu _)
 have hko:=xj0 (z:=z) (q:=⟨q.nm,q.ty,1⟩) hn rfl hzo hwz
 have hsa:=xh6 z hzf.2 ⟨q.nm,q.ty,1⟩
 generalize j9 z ⟨q.nm,q.ty,1⟩=K at hkc2 hko;obtain⟨⟨hKl,hKo⟩,_,hcase⟩:=hkc2;rw [hV] at hcase;have hcase:(K.kind=1/\K.ans.ok=true/\V=⟨K.chain,K.ans,0,0⟩)\/(K.kind=2/\∃ t,V.chain=K.chain++t)\/((K.kind=3/\V=⟨[],St.no,3,0⟩\/K.kind=4/\V=⟨[],St.no,0,0⟩)/\K.chain=[]/\K.ans=St.no):=by
  rcases hcase with⟨c1,c2,c3⟩|⟨c1,_,_,c4⟩|c|⟨_,_,c3,_⟩
  ·exact .inl ⟨c1,c2,c3 (by show 0+_<=8;omega)⟩
  ·refine .inr (.inl ⟨c1,?_⟩);have h5:=c4 (by show 0+_<=8;omega)
   rw[h5];exact yj9 _ _ _ (by rw[<-h5];exact g1)
  ·exact .inr (.inr c)
  ·rw [hcut] at c3;cases c3
 have hpre:∃ t,V.chain=K.chain++t:=by
  rcases hcase with⟨_,_,c⟩|⟨_,c⟩|⟨_,c,_⟩
  ·exact⟨[],by rw[c,mv]⟩
  ·exact c
  ·exact⟨V.chain,by rw[c];rfl⟩
 conv=>whnf
 refine⟨hbnd,?_⟩;conv=>whnf
 rw[pp,hzd];refine .rel _ (COk.frameX (zg2 z hzf.2 (by omega) hzf.1) [] rfl rfl rfl) (fun x ks' hR=>?_)
 obtain⟨s0,k0,⟨hs0,rfl⟩,rfl,rfl⟩:=hR;rcases hs0 with rfl|rfl
 case inr =>
  conv=>whnf
  repeat(first|(refine brT rfl ?_;conv=>whnf)|(refine brF rfl ?_;conv=>whnf)|(refine .once ?_;conv=>whnf)|(refine⟨by decide,?_⟩;conv=>whnf)|(refine And.intro (lx rfl) ?_;conv=>whnf))
  all_goals exact rfl
 conv=>whnf
 refine brF rfl ?_;conv=>whnf
 refine⟨hbnd,?_⟩;conv=>whnf
 rw[pp,hzd];refine .data _ hsa rfl rfl ?_;conv=>whnf
 refine⟨hbnd,?_⟩;conv=>whnf
 rw[pp,hzd];refine .data _ hko rfl rfl ?_;conv=>whnf
 have hle:K.chain.length<=V.chain.length:=by
  obtain⟨t,ht⟩:=hpre;rw[ht,p7];omega
 have hsame:∀ i,i<K.chain.length->V.chain.getD i default=K.chain.getD i default:=fun i hi=>by
  obtain⟨t,ht⟩:=hpre;rw[ht,o8,o8,p9 hi]
 clear hpre;refine brF (decide_eq_false (by omega)) ?_
 conv=>whnf
 refine .inv Nat (fun i=>i<=K.chain.length) (fun i=>[(83,iV i)]) (fun i=>[]) (fun i=>K.chain.length - i) ⟨0,[0,1,2,3],pu _,?_⟩ ?_
 ·conv=>whnf
  repeat'(first|exact ⟨⟩|exact rfl|exact qa _|exact .inr rfl|exact fun _ _=>rfl|exact noI|apply And.intro)
 intro i hi;conv=>whnf
 refine⟨fun g3=>?_,fun g3=>?_⟩
 ·have g3:i<K.chain.length:=by
   have h:(i:Int)<K.chain.length:=of_decide_eq_true g3
   omega
  have hw1:=w64s i (by omega)
  obtain⟨S,hS⟩:∃ S,K.chain.getD i default=S:=⟨_,rfl⟩;have hSk:S.ok=true:=hKo S (by rw[<-hS,o8,pn g3];exact d5 g3)
  have hVS:=hsame i g3
  rw [hS] at hVS;have hsy:=qv0 S S
  rw [yi3 hSk] at hsy;conv=>whnf
  refine⟨by omega,?_⟩
  conv=>whnf
  rw[pp,hS];refine⟨by omega,?_⟩
  conv=>whnf
  rw[hVS];refine .data _ hsy rfl rfl ?_;conv=>whnf
  refine brF rfl ?_;conv=>whnf
  rw[hw1];refine⟨i+1,[0,1,2,3],g3,by omega,?_⟩
  conv=>whnf
  repeat'(first|exact ⟨⟩|exact rfl|exact qa _|exact .inr rfl|exact fun _ _=>rfl|exact noI|apply And.intro)
 ·conv=>whnf
  rcases hcase with⟨c1,c2,c3⟩|⟨c1,c2⟩|⟨⟨c1,c3⟩|⟨c1,c3⟩,c4,c5⟩
  ·have kb:∀ m:Int,(K.kind == m)=((1:Int) == m):=fun m=>by rw[c1]
   have hsy:=qv0 K.ans K.ans
   rw [yi3 c2] at hsy;subst c3;repeat(first|(refine brT (kb _) ?_;conv=>whnf)|(refine brF (kb _) ?_;conv=>whnf))
   refine brT (by simp) ?_
   conv=>whnf
   refine od hsy rfl rfl ?_;conv=>whnf
   all_goals exact rfl
  ·have kb:∀ m:Int,(K.kind == m)=((2:Int) == m):=fun m=>by rw[c1]
   repeat(first|(refine brT (kb _) ?_;conv=>whnf)|(refine brF (kb _) ?_;conv=>whnf))
   rw[kb 2];all_goals exact rfl
  ·have kb:∀ m:Int,(K.kind == m)=((3:Int) == m):=fun m=>by rw[c1]
   subst c3;repeat(first|(refine brT (kb _) ?_;conv=>whnf)|(refine brF (kb _) ?_;conv=>whnf))
   repeat(first|(refine brT rfl ?_;conv=>whnf)|(refine brF rfl ?_;conv=>whnf)|(refine .once ?_;conv=>whnf)|(refine⟨by decide,?_⟩;conv=>whnf)|(refine And.intro (lx rfl) ?_;conv=>whnf))
   all_goals exact rfl
  ·have kb:∀ m:Int,(K.kind == m)=((4:Int) == m):=fun m=>by rw[c1]
   subst c3;repeat(first|(refine brT (kb _) ?_;conv=>whnf)|(refine brF (kb _) ?_;conv=>whnf))
   repeat(first|(refine brT rfl ?_;conv=>whnf)|(refine brF rfl ?_;conv=>whnf)|(refine .once ?_;conv=>whnf)|(refine⟨by decide,?_⟩;conv=>whnf)|(refine And.intro (lx rfl) ?_;conv=>whnf))
   all_goals exact rfl
end Go.Proofs.YtnfoihdifohkeaaGreat
