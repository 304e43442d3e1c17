/-
  Part of the proof: lemmas about the functions that the row calls, and about the steps of a run. Conditions: those ahead of each lemma.
-/
import Derived.Laws.BitsAllLaws
import Derived.Test.YtnfoihdifohkeaaGreatB2
import Derived.Test.YtnfoihdifohkeaaGreatB1
import Derived.Test.YtnfoihdifohkeaaGreatM4
set_option linter.unusedVariables false
set_option linter.unusedSimpArgs false
set_option maxRecDepth 100000
set_option maxHeartbeats 64000000
namespace Go.Proofs.YtnfoihdifohkeaaGreat
open Go Go.Eng
def recT(s:St)(d:List UInt8):RR:=⟨s.nm,s.ty,1,s.ttl,d⟩
def jf(s:St):List RR:=if s.ok then s.data.map (recT s) else []
theorem zu7{s:St}{i:Nat}{d:List UInt8}(h:s.data[i]? = some d):(s.data.take (i+1)).map (recT s)=(s.data.take i).map (recT s)++[recT s d]:=by
 rw[mr,h,fx];rfl
theorem jk6(s:St):FnOk Tryz.prog 23 [s.V] (.d (rrsD (!s.ok) (jf s))):=by
 refine qp (TT:=TT) (IN:=qh []) qk qj mixed 1000 Tryz.func23 rfl (qi Tryz.func23 (by kernel_rfl) rfl) rfl 32 (by kernel_rfl) ?_
 conv=>whnf
 refine od (ja4 s.nm s.ty s.ttl s.z s.data) rfl rfl ?_;rw[show x6 s.nm s.ty s.ttl s.data=s.ok from rfl];unfold jf;cases hok:s.ok with
 |false =>
  rw[if_neg (by decide)]
  conv=>whnf
  refine brT rfl ?_;conv=>whnf
  repeat'(first|exact ⟨⟩|exact rfl|exact .inr rfl|exact .inl rfl|exact fun _ _=>rfl|exact noI|apply And.intro)
 |true =>
  have hl:=((St.ok_iff s).1 hok).2.2.1
  rw[if_pos rfl];conv=>whnf
  refine brF rfl ?_;conv=>whnf
  refine⟨⟨br 0,by omega,by omega,by omega⟩,?_⟩
  conv=>whnf
  refine .inv Nat (fun i=>i<=s.data.length) (fun i=>[(12,.any),(16,iV i),(3,.all 1)]) (fun i=>[(1,.row 94 5 ((s.data.take i).map (recT s)).length .no (fun j=>(((s.data.take i).map (recT s)).getD j default).enc))]) (fun i=>s.data.length - i) ⟨0,[0,1],pu _,?_⟩ ?_
  ·conv=>whnf
   repeat'(first|exact ⟨⟩|exact rfl|exact qa _|exact .inr rfl|exact fun _ _=>rfl|exact noI|apply And.intro)
  intro i hi;conv=>whnf
  refine⟨fun h1=>?_,fun h1=>?_⟩
  ·have h1:i<s.data.length:=by
    have h:(i:Int)<s.data.length:=of_decide_eq_true h1
    omega
   have hw1:=w64s i (by omega)
   have hli:s.data[i]? = some (s.data[i]?.getD []):=by rw[pn h1];rfl
   have hlen:((s.data.take i).map (recT s)).length=i:=by rw[o4,m9];omega
   conv=>whnf
   refine⟨by omega,?_⟩
   conv=>whnf
   rw[pp];generalize s.data[i]?.getD []=d at hli ⊢;have hnx:=zu7 hli
   refine⟨by omega,?_⟩
   conv=>whnf
   rw[hw1];refine⟨i+1,[0,3],h1,by omega,?_⟩
   rw[hnx];conv=>whnf
   repeat'(first|exact ⟨⟩|exact rfl|exact qa _|exact .inr rfl|exact fun _ _=>rfl|exact noI|apply And.intro)
   all_goals first
    |(show _+1=(_++[_]).length;simp;done)
    |exact fun j hj=>jg0 _ (recT s d) j hj
  ·have h1:i=s.data.length:=by
    have h:¬ (i:Int)<s.data.length:=of_decide_eq_false h1
    omega
   subst h1;rw[mz];conv=>whnf
   repeat'(first|exact ⟨⟩|exact rfl|exact .inr rfl|exact .inl rfl|exact fun _ _=>rfl|exact noI|apply And.intro)
def xl1(C:List (List UInt8 × Nat)):KB:=.map [.str] false false (aenc strK intV C)
theorem qc3{ρ:List Nat}(C:List (List UInt8 × Nat)):renM ρ (aenc strK intV C)=aenc strK intV C:=ql1 (fun _=>rfl) C
def vh:List RR->Option RR
 |[]=>none
 |r :: l=>if r.ty=6 then some r else vh l
def noRR:RR:=⟨[],0,0,0,[]⟩
def k7(z:Zo):RR × Int:=if z.ok then (match vh z.rrs with
 |some r=>(r,0)
 |none=>(noRR,3)) else (noRR,2)
theorem zo2{l:List RR}{i:Nat}{r:RR}(h:l[i]? = some r)(hr:r.ty≠6)(hd:vh (l.drop i)=vh l):vh (l.drop (i+1))=vh l:=by
 have hi:i<l.length:=(po.1 h).1
 have e:l.drop i=r :: l.drop (i+1):=by rw [ly hi];congr 1;rw [pn hi] at h;exact pw h
 rw[<-hd,e];unfold vh
 rw[if_neg hr];cases List.drop (i+1) l <;> rfl
theorem yn7(z:Zo)(hz:z.Fit):FnOk Tryz.prog 110 [z.V] (.tup [(k7 z).1.V,.d (.int .i64 (k7 z).2)]):=by
 refine qp (TT:=TT) (IN:=qh []) qk qj mixed 1000 Tryz.func110 rfl (qi Tryz.func110 (by kernel_rfl) rfl) rfl 29 (by kernel_rfl) ?_
 conv=>whnf
 refine .rel _ (ql5 z hz _) (fun r ks' hR=>?_)
 obtain⟨S,N,rfl,rfl⟩:=hR;unfold k7
 cases h:z.ok with
 |false =>
  conv=>whnf
  refine brT rfl ?_;conv=>whnf
  repeat'(first|exact ⟨⟩|exact rfl|exact .inr rfl|exact .inl rfl|exact fun _ _=>rfl|exact noI|apply And.intro)
 |true =>
  have hl:=z.ok_len h
  rw[if_pos rfl];conv=>whnf
  refine brF rfl ?_;conv=>whnf
  refine .inv Nat (fun i=>i<=z.rrs.length/\vh (z.rrs.drop i)=vh z.rrs) (fun i=>[(20,iV i)]) (fun i=>[]) (fun i=>z.rrs.length - i) ⟨0,[0,1,2,3,4],⟨pu _,rfl⟩,?_⟩ ?_
  ·conv=>whnf
   repeat'(first|exact ⟨⟩|exact rfl|exact qa _|exact .inr rfl|exact fun _ _=>rfl|exact noI|apply And.intro)
   all_goals first
    |exact qo _
    |exact qn _
    |exact qc3 _
  intro i hi;obtain⟨hi,hd⟩:=hi;conv=>whnf
  refine⟨fun h2=>?_,fun h2=>?_⟩
  ·have h2:i<z.rrs.length:=by
    have h:(i:Int)<z.rrs.length:=of_decide_eq_true h2
    omega
   have hw1:=w64s i (by omega)
   obtain⟨r,hr⟩:∃ r,z.rrs.getD i default=r:=⟨_,rfl⟩;have hrl:z.rrs[i]? = some r:=by rw[<-hr,List.getD,pn h2];rfl
   conv=>whnf
   refine⟨by omega,?_⟩
   conv=>whnf
   rw[pp,hr];refine⟨fun h3=>?_,fun h3=>?_⟩
   ·have h3:r.ty=6:=by simpa using h3
    have hh:vh z.rrs=some r:=by
     have e:z.rrs.drop i=r :: z.rrs.drop (i+1):=by rw [ly h2];congr 1;rw [pn h2] at hrl;exact pw hrl
     rw[<-hd,e];unfold vh
     rw[if_pos h3]
    rw[hh];conv=>whnf
    repeat'(first|exact ⟨⟩|exact rfl|exact .inr rfl|exact .inl rfl|exact fun _ _=>rfl|exact noI|apply And.intro)
   ·have h3:r.ty≠6:=by simpa using h3
    conv=>whnf
    rw[hw1];refine⟨i+1,[0,1,2,3,4],⟨h2,zo2 hrl h3 hd⟩,by omega,?_⟩
    conv=>whnf
    repeat'(first|exact ⟨⟩|exact rfl|exact qa _|exact .inr rfl|exact fun _ _=>rfl|exact noI|apply And.intro)
    all_goals first
     |exact qo _
     |exact qn _
     |exact qc3 _
  ·have h2:i=z.rrs.length:=by
    have h:¬ (i:Int)<z.rrs.length:=of_decide_eq_false h2
    omega
   subst h2;rw [ao] at hd;rw[<-hd];conv=>whnf
   repeat'(first|exact ⟨⟩|exact rfl|exact .inr rfl|exact .inl rfl|exact fun _ _=>rfl|exact noI|apply And.intro)
def uy(D:List (List UInt8))(r:RR):Bool:=r.ty == 1 && D.any (fun h=>fold h == fold r.nm)
def qx3(z:Zo)(s:St):List RR:=if z.ok && (s.ty == 2 && s.ok) then z.rrs.filter (uy s.data) else []
structure GInv(D:List (List UInt8))(C:List (List UInt8 × Nat)):Prop where
 has:∀ k,(aget C k).isSome=D.any (fun h=>fold h == k)
 le:∀ k v,aget C k=some v->1<=v/\v<=D.length
theorem GInv.zero:GInv [] []:=⟨fun _=>rfl,fun _ _ h=>by cases h⟩
theorem GInv.put{D:List (List UInt8)}{C:List (List UInt8 × Nat)}(h:GInv D C)(d:List UInt8){v:Nat}(hv:(aget C (fold d)).getD 0=v):GInv (D++[d]) (aput C (fold d) (v+1)):=by
 refine⟨fun k=>?_,fun k w hw=>?_⟩
 ·rw[qo6,List.any_append,<-h.has];by_cases hk:k=fold d
  ·rw[if_pos hk,hk];simp
  ·rw[if_neg hk];have:(fold d == k)=false:=by simpa using fun e=>hk e.symm
   simp[this]
 ·rw [qo6] at hw;rw[p7,rz];split at hw
  ·simp only [mp] at hw
   cases hg:aget C (fold d) with
   |none=>rw [hg] at hv;simp at hv;omega
   |some x =>
    rw [hg] at hv;simp at hv
    have:=h.le _ _ hg
    omega
  ·have:=h.le k w hw
   omega
theorem zi3{α:Type}{p:α->Bool}{l:List α}{i:Nat}{r:α}(h:l[i]? = some r):(l.take (i+1)).filter p=if p r then (l.take i).filter p++[r] else (l.take i).filter p:=by
 rw[mr,h];cases hp:p r <;> simp[hp]
theorem zy5(z:Zo)(hz:z.Fit)(s:St)(hs:∀ d ∈ s.data,d.length<=100000):FnOk Tryz.prog 41 [z.V,s.V] (.d (rrsD (qx3 z s).isEmpty (qx3 z s))):=by
 refine qp (TT:=TT) (IN:=qh []) qk qj mixed 1000 Tryz.func41 rfl (qi Tryz.func41 (by kernel_rfl) rfl) rfl 67 (by kernel_rfl) ?_
 conv=>whnf
 refine .rel _ (ql5 z hz _) (fun r ks' hR=>?_)
 obtain⟨S,N,rfl,rfl⟩:=hR;unfold qx3
 cases h:z.ok with
 |false =>
  rw[lz,if_neg (by decide)]
  conv=>whnf
  refine brT rfl ?_;conv=>whnf
  repeat'(first|exact ⟨⟩|exact rfl|exact .inr rfl|exact .inl rfl|exact fun _ _=>rfl|exact noI|apply And.intro)
 |true =>
  have hl:=z.ok_len h
  rw[m6];conv=>whnf
  refine brF rfl ?_;conv=>whnf
  refine⟨fun h1=>?_,fun h1=>?_⟩
  ·have h1:(s.ty == 2)=false:=by simpa using h1
   rw[h1,lz,if_neg (by decide)]
   conv=>whnf
   repeat'(first|exact ⟨⟩|exact rfl|exact .inr rfl|exact .inl rfl|exact fun _ _=>rfl|exact noI|apply And.intro)
  have h1:(s.ty == 2)=true:=by simpa using h1
  rw[h1,m6];conv=>whnf
  refine od (ja4 s.nm s.ty s.ttl s.z s.data) rfl rfl ?_;rw[show x6 s.nm s.ty s.ttl s.data=s.ok from rfl];cases hok:s.ok with
  |false =>
   rw[if_neg (by decide)]
   conv=>whnf
   refine brT rfl ?_;conv=>whnf
   repeat'(first|exact ⟨⟩|exact rfl|exact .inr rfl|exact .inl rfl|exact fun _ _=>rfl|exact noI|apply And.intro)
  |true =>
   have hdl:=((St.ok_iff s).1 hok).2.2.1.2
   rw[if_pos rfl];conv=>whnf
   refine brF rfl ?_;conv=>whnf
   refine .inv (Nat × List (List UInt8 × Nat)) (fun x=>x.1<=s.data.length/\GInv (s.data.take x.1) x.2) (fun x=>[(34,iV x.1)]) (fun x=>[(5,xl1 x.2)]) (fun x=>s.data.length - x.1) ⟨(0,[]),[0,1,2,3,4,5],⟨pu _,GInv.zero⟩,?_⟩ ?_
   ·conv=>whnf
    repeat'(first|exact ⟨⟩|exact rfl|exact qa _|exact .inr rfl|exact fun _ _=>rfl|exact noI|apply And.intro)
    all_goals first
     |exact qo _
     |exact qn _
     |exact qc3 _
   intro x hx;obtain⟨hi,hI⟩:=hx;conv=>whnf
   generalize x.1=i at hi hI ⊢;generalize x.2=C at hI ⊢;refine⟨fun h2=>?_,fun h2=>?_⟩
   ·have h2:i<s.data.length:=by
     have h:(i:Int)<s.data.length:=of_decide_eq_true h2
     omega
    have hw1:=w64s i (by omega)
    have hli:s.data[i]? = some (s.data[i]?.getD []):=by rw[pn h2];rfl
    conv=>whnf
    refine⟨by omega,?_⟩
    conv=>whnf
    rw[pp];generalize s.data[i]?.getD []=d at hli ⊢;have hdlen:=hs d (py hli);have htk:s.data.take (i+1)=s.data.take i++[d]:=by rw[mr,hli];rfl
    have htl:(s.data.take i).length=i:=by rw[m9];omega
    refine od (zx d (by omega)) rfl rfl ?_
    conv=>whnf
    have hfs:=zv (ev:=intV) yt C (fold d)
    refine⟨_,hfs,?_⟩;cases hg:aget C (fold d) with
    |none =>
     have hput:=qa5 (ev:=intV) yt C (fold d) 1
     conv=>whnf
     refine⟨_,hput,?_⟩;conv=>whnf
     rw[hw1];refine⟨(i+1,aput C (fold d) 1),[0,1,2,3,4,5],⟨h2,by rw[htk];exact hI.put d (v:=0) (by rw[hg];rfl)⟩,by show _ - (i+1)<_;omega,?_⟩
     conv=>whnf
     repeat'(first|exact ⟨⟩|exact rfl|exact qa _|exact .inr rfl|exact fun _ _=>rfl|exact noI|apply And.intro)
     all_goals first
      |exact qo _
      |exact qn _
      |exact qc3 _
    |some v =>
     have hvb:=hI.le _ _ hg
     have hwv:=w64s v (by omega)
     have hput:=qa5 (ev:=intV) yt C (fold d) (v+1)
     conv=>whnf
     rw[hwv];refine⟨_,hput,?_⟩;conv=>whnf
     rw[hw1];refine⟨(i+1,aput C (fold d) (v+1)),[0,1,2,3,4,5],⟨h2,by rw[htk];exact hI.put d (v:=v) (by rw[hg];rfl)⟩,by show _ - (i+1)<_;omega,?_⟩
     conv=>whnf
     repeat'(first|exact ⟨⟩|exact rfl|exact qa _|exact .inr rfl|exact fun _ _=>rfl|exact noI|apply And.intro)
     all_goals first
      |exact qo _
      |exact qn _
      |exact qc3 _
   ·have h2:i=s.data.length:=by
     have h:¬ (i:Int)<s.data.length:=of_decide_eq_false h2
     omega
    subst h2;rw [mz] at hI;conv=>whnf
    refine .nilT 10 94 5 (fun _=>[]) _ _ rfl ?_
    conv=>whnf
    refine .inv Nat (fun i=>i<=z.rrs.length) (fun i=>[(48,iV i),(10,.all 6)]) (fun i=>[(6,.row 94 5 ((z.rrs.take i).filter (uy s.data)).length .iff (fun j=>(((z.rrs.take i).filter (uy s.data)).getD j default).enc))]) (fun i=>z.rrs.length - i) ⟨0,[0,1,2,3,4,5,6],pu _,?_⟩ ?_
    ·conv=>whnf
     repeat'(first|exact ⟨⟩|exact rfl|exact qa _|exact .inr rfl|exact fun _ _=>rfl|exact noI|apply And.intro)
     all_goals first
      |exact qo _
      |exact qn _
      |exact qc3 _
    intro i hi;conv=>whnf
    refine⟨fun h2=>?_,fun h2=>?_⟩
    ·have h2:i<z.rrs.length:=by
      have h:(i:Int)<z.rrs.length:=of_decide_eq_true h2
      omega
     have hw1:=w64s i (by omega)
     obtain⟨r,hr⟩:∃ r,z.rrs.getD i default=r:=⟨_,rfl⟩;have hrl:z.rrs[i]? = some r:=by rw[<-hr,List.getD,pn h2];rfl
     have hnx:=zi3 (p:=uy s.data) hrl
     have hfl:((z.rrs.take i).filter (uy s.data)).length<=i:=o7 (fq _ _) (by rw[m9];omega)
     conv=>whnf
     refine⟨by omega,?_⟩
     conv=>whnf
     rw[pp,hr];refine⟨fun h3=>?_,fun h3=>?_⟩
     ·have h3:(r.ty == 1)=true:=h3
      have hrn:=(hz r (py hrl)).1
      conv=>whnf
      refine od (zx r.nm (by omega)) rfl rfl ?_
      conv=>whnf
      have hfs:=zv (ev:=intV) yt C (fold r.nm)
      have hhas:=hI.has (fold r.nm)
      refine⟨_,hfs,?_⟩;cases hg:aget C (fold r.nm) with
      |none =>
       rw [hg] at hhas;rw [show uy s.data r=false by unfold uy;rw [h3,<-hhas];rfl,if_neg (by decide)] at hnx
       conv=>whnf
       refine brF rfl ?_;conv=>whnf
       rw[hw1];refine⟨i+1,[0,1,2,3,4,5,6],h2,by omega,?_⟩
       rw[hnx];conv=>whnf
       repeat'(first|exact ⟨⟩|exact rfl|exact qa _|exact .inr rfl|exact fun _ _=>rfl|exact noI|apply And.intro)
       all_goals first
        |exact qo _
        |exact qn _
        |exact qc3 _
      |some v =>
       rw [hg] at hhas;have hvb:=hI.le _ _ hg
       rw [show uy s.data r=true by unfold uy;rw [h3,<-hhas];rfl,if_pos rfl] at hnx
       conv=>whnf
       refine brT (decide_eq_true (by show((v:Nat):Int) > 0;omega)) ?_
       conv=>whnf
       refine⟨by omega,?_⟩
       conv=>whnf
       rw[hw1];refine⟨i+1,[0,1,2,3,4,5,9],h2,by omega,?_⟩
       rw[hnx];conv=>whnf
       repeat'(first|exact ⟨⟩|exact rfl|exact qa _|exact .inr rfl|exact fun _ _=>rfl|exact noI|apply And.intro)
       all_goals first
        |exact qo _
        |exact qn _
        |exact qc3 _
        |(show _+1=(_++[_]).length;simp;done)
        |exact fun j hj=>jg0 _ r j hj
     ·have h3:(r.ty == 1)=false:=h3
      rw [show uy s.data r=false by unfold uy;rw [h3];rfl,if_neg (by decide)] at hnx
      conv=>whnf
      rw[hw1];refine⟨i+1,[0,1,2,3,4,5,6],h2,by omega,?_⟩
      rw[hnx];conv=>whnf
      repeat'(first|exact ⟨⟩|exact rfl|exact qa _|exact .inr rfl|exact fun _ _=>rfl|exact noI|apply And.intro)
      all_goals first
       |exact qo _
       |exact qn _
       |exact qc3 _
    ·have h2:i=z.rrs.length:=by
      have h:¬ (i:Int)<z.rrs.length:=of_decide_eq_false h2
      omega
     subst h2;rw[mz];conv=>whnf
     repeat'(first|exact ⟨⟩|exact rfl|exact .inr rfl|exact .inl rfl|exact fun _ _=>rfl|exact noI|apply And.intro)
     all_goals first
      |exact yq _
      |exact .inr rfl
      |exact fun _ _=>rfl
set_option maxRecDepth 100000 in
theorem zt0(y:Bool)(a:List Q)(h:y=true->a=[])(ha:a.length<=1000000):FnOk Tryz.prog 73 [.d (qsD y a)] (.d (qsD y a)):=by
 refine qp (TT:=TT) (IN:=qh []) qk qj mixed 1000 Tryz.func73 rfl (qi Tryz.func73 (by kernel_rfl) rfl) rfl 7 (by kernel_rfl) ?_
 conv=>whnf
 refine⟨fun h1=>?_,fun h1=>?_⟩
 ·have h1:y=true:=h1
  rw[h h1,h1];conv=>whnf
  exact⟨rfl,rfl,.inl rfl,fun i hi=>absurd hi (gr _)⟩
 ·have h1:y=false:=h1
  rw[h1];conv=>whnf
  refine⟨by omega,?_⟩
  conv=>whnf
  refine⟨rfl,oo _,.inr rfl,fun i hi=>?_⟩
  unfold catF
  rw[if_neg (gr _),r7]
def Msg.reply(m:Msg)(code:Int):Msg:=⟨m.id,Go.bits BinOp.or IntKind.u16 (Go.bits BinOp.and IntKind.u16 m.bits 30976) (Go.bits BinOp.or IntKind.u16 32768 (IntKind.u16.wrap (Go.bits BinOp.and IntKind.i64 code 15))),m.za,m.asks,true,[],true,[],true,[]⟩
set_option maxRecDepth 100000 in
theorem qk5(m:Msg)(code:Int)(h:m.za=true->m.asks=[])(ha:m.asks.length<=1000000):FnOk Tryz.prog 37 [.agg m.cells,.d (.int .i64 code)] (.agg (m.reply code).cells):=by
 refine qp (TT:=TT) (IN:=qh []) qk qj mixed 1000 Tryz.func37 rfl (qi Tryz.func37 (by kernel_rfl) rfl) rfl 20 (by kernel_rfl) ?_
 conv=>whnf
 refine .data _ (zt0 m.za m.asks h ha) rfl rfl ?_;conv=>whnf
 repeat'(first|exact ⟨⟩|exact rfl|exact .inr rfl|exact .inl rfl|exact fun _ _=>rfl|exact noI|apply And.intro)
def Msg.code(m:Msg):Int:=IntKind.i64.wrap (Go.bits BinOp.and IntKind.u16 m.bits 15)
theorem yv7(m:Msg):FnOk Tryz.prog 30 [.agg m.cells] (.d (.int .i64 m.code)):=by
 refine qp (TT:=TT) (IN:=qh []) qk qj mixed 1000 Tryz.func30 rfl (qi Tryz.func30 (by kernel_rfl) rfl) rfl 6 (by kernel_rfl) ?_
 conv=>whnf
 exact rfl
def Msg.op(m:Msg):Int:=(IntKind.i64.wrap (Go.bits BinOp.and IntKind.u16 m.bits 30720)).fdiv (2 ^ 11)
theorem xn8(m:Msg):FnOk Tryz.prog 38 [.agg m.cells] (.d (.int .i64 m.op)):=by
 refine qp (TT:=TT) (IN:=qh []) qk qj mixed 1000 Tryz.func38 rfl (qi Tryz.func38 (by kernel_rfl) rfl) rfl 7 (by kernel_rfl) ?_
 conv=>whnf
 refine⟨by decide,?_⟩
 conv=>whnf
 exact rfl
def ve(z:Zo)(ty:Int):Nat->List UInt8->List RR->List RR × Option (List UInt8)
 |0,_,l=>(l,none)
 |k+1,n,l=>if (getZ z n ty).2=0 then (l++jf (getZ z n ty).1,none)
  else if (getZ z n 5).2≠0\/(getZ z n 5).1.data.length=0 then (l,some n)
  else if qd ((getZ z n 5).1.data.headD []) z.apex=false\/(cutQ z ((getZ z n 5).1.data.headD [])).2=0 then (l++jf (getZ z n 5).1,none)
  else ve z ty k ((getZ z n 5).1.data.headD []) (l++jf (getZ z n 5).1)
def orB(a b:Int):Int:=Go.bits BinOp.or IntKind.u16 a b
def Msg.cutM(m:Msg)(z:Zo)(c:St):Msg:={ m.reply 0 with zh:=!c.ok,heads:=jf c,ze:=(qx3 z c).isEmpty,extra:=qx3 z c }
def k9(z:Zo):List RR:=if (k7 z).2=0 then [(k7 z).1] else []
def Msg.tellM(m:Msg)(z:Zo)(x:List RR × Option (List UInt8)):Msg:=match x.2 with
 |none=>{ m.reply 0 with bits:=orB (m.reply 0).bits 1024,zs:=x.1.isEmpty,says:=x.1 }
 |some n=>{ m.reply 0 with bits:=if yz z n then orB (m.reply 0).bits 1024 else orB (orB (m.reply 0).bits 1024) 3,zs:=x.1.isEmpty,says:=x.1,zh:=(k9 z).isEmpty,heads:=k9 z }
def ansF(z:Zo)(m:Msg):Msg:=match m.asks with
 |[q]=>if ¬ qb q.nm then m.reply 1 else if m.op≠0 then m.reply 4 else if q.cl≠1\/z.ok=false\/qd q.nm z.apex=false then m.reply 5
  else if (cutQ z q.nm).2=0 then m.cutM z (cutQ z q.nm).1 else m.tellM z (ve z q.ty 8 q.nm [])
 |_=>m.reply 1
theorem yl9{nm:List UInt8}{t:Int}{l:List RR}{d:List UInt8}(h:d ∈ (qc nm t l).1.data):∃ r ∈ l,r.d=d:=by
 unfold qc at h
 split at h
 ·split at h
  ·cases h
  ·have hd:d ∈ uh (qx t) ((qv nm t l).map (·.d)):=fy h
   obtain⟨i,hi⟩:=(ji8 t (qv nm t l)).from hd
   obtain⟨r,hr,rfl⟩:=o5.1 (py hi);unfold qv at hr;exact⟨r,(l9.1 (l9.1 hr).1).1,rfl⟩
 ·cases h
theorem xd6{z:Zo}{nm:List UInt8}{t:Int}{d:List UInt8}(h:d ∈ (getZ z nm t).1.data):∃ r ∈ z.rrs,r.d=d:=by
 unfold getZ at h
 split at h
 ·exact yl9 h
 ·cases h
theorem xe9{z:Zo}{nm:List UInt8}{d:List UInt8}(h:d ∈ (cutQ z nm).1.data):∃ r ∈ z.rrs,r.d=d:=by
 unfold cutQ at h
 split at h
 ·split at h
  ·cases h
  ·exact yl9 h
 ·cases h
theorem yo9(s:St):(jf s).length<=64:=by
 unfold jf
 split
 ·rename_i h
  rw[o4];exact((St.ok_iff s).1 h).2.2.1.2
 ·exact pu _
theorem vt{α:Type}(l m:List α):Nat.beq (l.length+m.length) 0=(l++m).isEmpty:=by cases l <;> cases m <;> rfl
theorem wt{l m:List RR}(j:Nat)(hj:j<l.length+m.length):catF l.length (fun j=>(l.getD j default).enc) (fun j=>(m.getD j default).enc) j=((l++m).getD j default).enc:=by
 unfold catF
 split
 ·rename_i h
  show(l.getD j default).enc=_
  rw[o8,o8,p9 h]
 ·show(m.getD (j - l.length) default).enc=_
  rw[o8,o8,oz (by omega)]
structure TlS where
 k:Nat
 n:List UInt8
 l:List RR
theorem zx9(z:Zo)(hz:z.Fit)(m:Msg)(h:m.za=true->m.asks=[])(ha:m.asks.length<=1000000):FnOk Tryz.prog 15 [z.V,.agg m.cells] (.agg (ansF z m).cells):=by
 refine qp (TT:=TT) (IN:=qh [(42,Tryz.f42,3),(76,Tryz.f76,2),(77,Tryz.f77,3)]) qk (jj (jj (jj qj Tryz.func77 (by kernel_rfl) (by kernel_rfl)) Tryz.func76 (by kernel_rfl) (by kernel_rfl)) Tryz.func42 (by kernel_rfl) (by kernel_rfl)) mixed 1000 Tryz.func15 rfl (qi Tryz.func15 (by kernel_rfl) rfl) rfl 83 (by kernel_rfl) ?_
 conv=>whnf
 refine⟨fun h1=>?_,fun h1=>?_⟩
 ·have h1:m.asks.length≠1:=by
   have h:((m.asks.length:Nat):Int)≠1:=by simpa using h1
   omega
  rw[show ansF z m=m.reply 1 by
   unfold ansF
   split
   ·rename_i q hq;rw [hq] at h1;exact absurd rfl h1
   ·rfl]
  conv=>whnf
  refine od (qk5 m 1 h ha) rfl rfl ?_;conv=>whnf
  repeat'(first|exact ⟨⟩|exact rfl|exact .inr rfl|exact .inl rfl|exact fun _ _=>rfl|exact noI|apply And.intro)
 have h1:m.asks.length=1:=by
  have h:((m.asks.length:Nat):Int)=1:=by simpa using h1
  omega
 obtain⟨q,hq⟩:∃ q,m.asks=[q]:=by
  cases hm:m.asks with
  |nil=>rw [hm] at h1;simp at h1
  |cons q l =>
   rw [hm] at h1;have:l=[]:=fu (by simpa using h1)
   exact⟨q,by rw[this]⟩
 have hans:ansF z m=if ¬ qb q.nm then m.reply 1 else if m.op≠0 then m.reply 4 else if q.cl≠1\/z.ok=false\/qd q.nm z.apex=false then m.reply 5
  else if (cutQ z q.nm).2=0 then m.cutM z (cutQ z q.nm).1 else m.tellM z (ve z q.ty 8 q.nm []):=by
  unfold ansF
  rw[hq]
 have hqd:m.asks.getD 0 default=q:=by rw[hq];rfl
 conv=>whnf
 refine⟨⟨br 0,by show(0:Int)<(m.asks.length:Int);omega⟩,?_⟩
 conv=>whnf
 rw[show(0:Int).toNat=0 from rfl,hqd];refine od (zw q.nm) rfl rfl ?_;by_cases hn:qb q.nm;case neg =>
  rw [if_pos hn] at hans;rw[if_neg hn,hans];conv=>whnf
  refine brT rfl ?_;conv=>whnf
  refine od (qk5 m 1 h ha) rfl rfl ?_;conv=>whnf
  repeat'(first|exact ⟨⟩|exact rfl|exact .inr rfl|exact .inl rfl|exact fun _ _=>rfl|exact noI|apply And.intro)
 rw [if_neg (fun h=>h hn)] at hans
 rw[if_pos hn];conv=>whnf
 refine brF rfl ?_;conv=>whnf
 refine⟨⟨br 0,by show(0:Int)<(m.asks.length:Int);omega⟩,?_⟩
 conv=>whnf
 rw[show(0:Int).toNat=0 from rfl,hqd];refine od (xn8 m) rfl rfl ?_;conv=>whnf
 refine⟨fun h2=>?_,fun h2=>?_⟩
 ·have h2:m.op≠0:=by simpa using h2
  rw [if_pos h2] at hans;rw[hans];conv=>whnf
  refine od (qk5 m 4 h ha) rfl rfl ?_;conv=>whnf
  repeat'(first|exact ⟨⟩|exact rfl|exact .inr rfl|exact .inl rfl|exact fun _ _=>rfl|exact noI|apply And.intro)
 have h2:¬ m.op≠0:=by simpa using h2
 rw [if_neg h2] at hans;conv=>whnf
 refine⟨fun h3=>?_,fun h3=>?_⟩
 ·have h3:q.cl≠1:=by simpa using h3
  rw [if_pos (.inl h3)] at hans;rw[hans];conv=>whnf
  refine od (qk5 m 5 h ha) rfl rfl ?_;conv=>whnf
  repeat'(first|exact ⟨⟩|exact rfl|exact .inr rfl|exact .inl rfl|exact fun _ _=>rfl|exact noI|apply And.intro)
 have h3:¬ q.cl≠1:=by simpa using h3
 conv=>whnf
 refine od (yg9 z hz) rfl rfl ?_;cases hok:z.ok with
 |false =>
  rw [if_pos (.inr (.inl hok))] at hans;rw[hans,if_neg (by decide)]
  conv=>whnf
  refine brT rfl ?_;conv=>whnf
  refine od (qk5 m 5 h ha) rfl rfl ?_;conv=>whnf
  repeat'(first|exact ⟨⟩|exact rfl|exact .inr rfl|exact .inl rfl|exact fun _ _=>rfl|exact noI|apply And.intro)
 |true =>
  rw[if_pos rfl];conv=>whnf
  refine brF rfl ?_;conv=>whnf
  refine od (qa1 q.nm z.apex) rfl rfl ?_;cases hw:qd q.nm z.apex with
  |false =>
   rw [if_pos (.inr (.inr hw))] at hans;rw[hans];conv=>whnf
   refine brT rfl ?_;conv=>whnf
   refine od (qk5 m 5 h ha) rfl rfl ?_;conv=>whnf
   repeat'(first|exact ⟨⟩|exact rfl|exact .inr rfl|exact .inl rfl|exact fun _ _=>rfl|exact noI|apply And.intro)
  |true =>
   rw [if_neg (fun h=>h.elim h3 (fun h=>h.elim (fun h=>by rw [hok] at h;cases h) (fun h=>by rw [hw] at h;cases h)))] at hans
   conv=>whnf
   refine brF rfl ?_;conv=>whnf
   refine od (qk5 m 0 h ha) rfl rfl ?_;conv=>whnf
   refine od (jr1 z hz q.nm) rfl rfl ?_;have hcd:∀ d ∈ (cutQ z q.nm).1.data,d.length<=100000:=fun d hd=>by obtain⟨r,hr,rfl⟩:=xe9 hd;exact(hz r hr).2
   generalize hcq:cutQ z q.nm=cq at hans hcd ⊢;conv=>whnf
   refine⟨fun h4=>?_,fun h4=>?_⟩
   ·have h4:cq.2=0:=by simpa using h4
    rw [if_pos h4] at hans;rw[hans];conv=>whnf
    refine od (jk6 cq.1) rfl rfl ?_;conv=>whnf
    refine od (zy5 z hz cq.1 hcd) rfl rfl ?_;conv=>whnf
    repeat'(first|exact ⟨⟩|exact rfl|exact .inr rfl|exact .inl rfl|exact fun _ _=>rfl|exact noI|apply And.intro)
   have h4:¬ cq.2=0:=by simpa using h4
   rw [if_neg h4] at hans;rw[hans];clear hans;conv=>whnf
   refine .nilC 4 3 94 5 (fun _=>[]) _ _ _ _ rfl rfl ?_
   refine .inv TlS (fun s=>ve z q.ty s.k s.n s.l=ve z q.ty 8 q.nm []/\s.k<=8/\s.n.length<=100000/\s.l.length<=(8 - s.k) * 64) (fun s=>[(15,.d (.int .i64 ((8 - s.k:Nat):Int))),(6,.d (.str s.n))]) (fun s=>[(4,.cells 87 [.d (.int .u16 (m.reply 0).id),.d (.int .u16 (orB (m.reply 0).bits 1024)),.d (qsD (m.reply 0).za (m.reply 0).asks),.all 8,.d (rrsD true []),.d (rrsD true [])]),(8,.row 94 5 s.l.length .iff (fun j=>(s.l.getD j default).enc))]) (fun s=>s.k) ⟨⟨8,q.nm,[]⟩,[0,1,2,3,4,5,6,7,8],⟨rfl,pq _,by have:=hn.2.1;show q.nm.length<=100000;omega,pu _⟩,?_⟩ ?_
   ·conv=>whnf
    repeat'(first|exact ⟨⟩|exact rfl|exact qa _|exact .inr rfl|exact fun _ _=>rfl|exact noI|apply And.intro)
   intro s hs;obtain⟨ht,hk,hnl,hll⟩:=hs;conv=>whnf
   generalize s.k=k at ht hk hll ⊢;generalize s.n=n at ht hnl ⊢;generalize s.l=l at ht hll ⊢;generalize ve z q.ty 8 q.nm []=T at ht ⊢;refine⟨fun h5=>?_,fun h5=>?_⟩
   ·have h5:((8 - k:Nat):Int)<8:=of_decide_eq_true h5
    obtain⟨k,rfl⟩:∃ k',k=k'+1:=⟨k - 1,by omega⟩
    have hw1:IntKind.i64.wrap (((8 - (k+1):Nat):Int)+1)=((8 - k:Nat):Int):=by rw[qe _ (by omega)];omega
    have e1:ve z q.ty (k+1) n l=if (getZ z n q.ty).2=0 then (l++jf (getZ z n q.ty).1,none)
     else if (getZ z n 5).2≠0\/(getZ z n 5).1.data.length=0 then (l,some n)
     else if qd ((getZ z n 5).1.data.headD []) z.apex=false\/(cutQ z ((getZ z n 5).1.data.headD [])).2=0 then (l++jf (getZ z n 5).1,none)
     else ve z q.ty k ((getZ z n 5).1.data.headD []) (l++jf (getZ z n 5).1):=rfl
    conv=>whnf
    refine od (je4 z hz n q.ty hnl) rfl rfl ?_;generalize getZ z n q.ty=g1 at e1 ⊢;conv=>whnf
    refine⟨fun h6=>?_,fun h6=>?_⟩
    ·have h6:g1.2=0:=by simpa using h6
     rw [if_pos h6] at e1;rw[<-ht,e1];have hrl:=yo9 g1.1
     conv=>whnf
     have hrec:=jk6 g1.1
     apply Exists.intro;apply Exists.intro;refine⟨?_,?_⟩
     ·conv=>whnf
      repeat'(first|exact ⟨⟩|exact⟨rfl,rfl⟩|refine .data _ hrec rfl rfl ?_|refine And.intro (by omega) ?_|apply And.intro|(conv=>whnf))
     conv=>whnf
     repeat'(first|exact ⟨⟩|exact rfl|exact .inr rfl|exact .inl rfl|exact fun _ _=>rfl|exact noI|apply And.intro)
     all_goals first
      |exact yq _
      |exact vt _ _
      |exact .inr rfl
      |exact(p7 ..).symm
      |exact fun j hj=>wt j hj
      |exact fun _ _=>rfl
      |(intro j hj;match j,hj with|0,_=>rfl)
    have h6:¬ g1.2=0:=by simpa using h6
    rw [if_neg h6] at e1;conv=>whnf
    refine od (je4 z hz n 5 hnl) rfl rfl ?_;have hgd:∀ d ∈ (getZ z n 5).1.data,d.length<=100000:=fun d hd=>by obtain⟨r,hr,rfl⟩:=xd6 hd;exact(hz r hr).2
    generalize getZ z n 5=g2 at e1 hgd ⊢;obtain⟨L,e2⟩:=g2;have hhd:L.data.headD []=L.data[0]?.getD []:=by cases L.data <;> rfl
    have hno:(e2≠0\/L.data.length=0)->T=(l,some n):=fun h=>by rw[<-ht,e1,if_pos h]
    have hyes:¬ (e2≠0\/L.data.length=0)->T=if qd (L.data[0]?.getD []) z.apex=false\/(cutQ z (L.data[0]?.getD [])).2=0 then (l++jf L,none) else ve z q.ty k (L.data[0]?.getD []) (l++jf L):=fun h=>by rw[<-ht,e1,if_neg h,hhd]
    clear e1;conv=>whnf
    refine⟨fun h7=>?_,fun h7=>?_⟩
    ·have h7:e2≠0:=by simpa using h7
     rw[hno (.inl h7)];conv=>whnf
     refine od (yn7 z hz) rfl rfl ?_;conv=>whnf
     refine⟨fun d1=>?_,fun d1=>?_⟩
     ·have d1:(k7 z).2=0:=by simpa using d1
      have hdn:k9 z=[(k7 z).1]:=by unfold k9;rw[if_pos d1]
      rw[show m.tellM z (l,some n)=⟨(m.reply 0).id,if yz z n then orB (m.reply 0).bits 1024 else orB (orB (m.reply 0).bits 1024) 3,(m.reply 0).za,(m.reply 0).asks,l.isEmpty,l,false,[(k7 z).1],true,[]⟩ by unfold Msg.tellM;rw[hdn];rfl]
      conv=>whnf
      refine⟨by omega,?_⟩
      conv=>whnf
      refine od (qj4 z hz n) rfl rfl ?_;cases yz z n with
      |true =>
       rw[if_pos rfl];conv=>whnf
       refine brF rfl ?_;conv=>whnf
       repeat'(first|exact ⟨⟩|exact rfl|exact .inr rfl|exact .inl rfl|exact fun _ _=>rfl|exact noI|apply And.intro)
       all_goals first
        |exact yq _
        |exact vt _ _
        |exact .inr rfl
        |exact(p7 ..).symm
        |exact fun j hj=>wt j hj
        |exact fun _ _=>rfl
        |(intro j hj;match j,hj with|0,_=>rfl)
      |false =>
       rw[if_neg (by decide)]
       conv=>whnf
       refine brT rfl ?_;conv=>whnf
       repeat'(first|exact ⟨⟩|exact rfl|exact .inr rfl|exact .inl rfl|exact fun _ _=>rfl|exact noI|apply And.intro)
       all_goals first
        |exact yq _
        |exact vt _ _
        |exact .inr rfl
        |exact(p7 ..).symm
        |exact fun j hj=>wt j hj
        |exact fun _ _=>rfl
        |(intro j hj;match j,hj with|0,_=>rfl)
     ·have d1:¬ (k7 z).2=0:=by simpa using d1
      have hdn:k9 z=[]:=by unfold k9;rw[if_neg d1]
      rw[show m.tellM z (l,some n)=⟨(m.reply 0).id,if yz z n then orB (m.reply 0).bits 1024 else orB (orB (m.reply 0).bits 1024) 3,(m.reply 0).za,(m.reply 0).asks,l.isEmpty,l,true,[],true,[]⟩ by unfold Msg.tellM;rw[hdn];rfl]
      conv=>whnf
      refine od (qj4 z hz n) rfl rfl ?_;cases yz z n with
      |true =>
       rw[if_pos rfl];conv=>whnf
       refine brF rfl ?_;conv=>whnf
       repeat'(first|exact ⟨⟩|exact rfl|exact .inr rfl|exact .inl rfl|exact fun _ _=>rfl|exact noI|apply And.intro)
       all_goals first
        |exact yq _
        |exact vt _ _
        |exact .inr rfl
        |exact(p7 ..).symm
        |exact fun j hj=>wt j hj
        |exact fun _ _=>rfl
        |(intro j hj;match j,hj with|0,_=>rfl)
      |false =>
       rw[if_neg (by decide)]
       conv=>whnf
       refine brT rfl ?_;conv=>whnf
       repeat'(first|exact ⟨⟩|exact rfl|exact .inr rfl|exact .inl rfl|exact fun _ _=>rfl|exact noI|apply And.intro)
       all_goals first
        |exact yq _
        |exact vt _ _
        |exact .inr rfl
        |exact(p7 ..).symm
        |exact fun j hj=>wt j hj
        |exact fun _ _=>rfl
        |(intro j hj;match j,hj with|0,_=>rfl)
    have h7:e2=0:=by simpa using h7
    conv=>whnf
    refine⟨fun h8=>?_,fun h8=>?_⟩
    ·have h8:L.data.length=0:=by
      have h:(L.data.length:Int)=0:=by simpa using h8
      omega
     rw[hno (.inr h8)];conv=>whnf
     refine od (yn7 z hz) rfl rfl ?_;conv=>whnf
     refine⟨fun d1=>?_,fun d1=>?_⟩
     ·have d1:(k7 z).2=0:=by simpa using d1
      have hdn:k9 z=[(k7 z).1]:=by unfold k9;rw[if_pos d1]
      rw[show m.tellM z (l,some n)=⟨(m.reply 0).id,if yz z n then orB (m.reply 0).bits 1024 else orB (orB (m.reply 0).bits 1024) 3,(m.reply 0).za,(m.reply 0).asks,l.isEmpty,l,false,[(k7 z).1],true,[]⟩ by unfold Msg.tellM;rw[hdn];rfl]
      conv=>whnf
      refine⟨by omega,?_⟩
      conv=>whnf
      refine od (qj4 z hz n) rfl rfl ?_;cases yz z n with
      |true =>
       rw[if_pos rfl];conv=>whnf
       refine brF rfl ?_;conv=>whnf
       repeat'(first|exact ⟨⟩|exact rfl|exact .inr rfl|exact .inl rfl|exact fun _ _=>rfl|exact noI|apply And.intro)
       all_goals first
        |exact yq _
        |exact vt _ _
        |exact .inr rfl
        |exact(p7 ..).symm
        |exact fun j hj=>wt j hj
        |exact fun _ _=>rfl
        |(intro j hj;match j,hj with|0,_=>rfl)
      |false =>
       rw[if_neg (by decide)]
       conv=>whnf
       refine brT rfl ?_;conv=>whnf
       repeat'(first|exact ⟨⟩|exact rfl|exact .inr rfl|exact .inl rfl|exact fun _ _=>rfl|exact noI|apply And.intro)
       all_goals first
        |exact yq _
        |exact vt _ _
        |exact .inr rfl
        |exact(p7 ..).symm
        |exact fun j hj=>wt j hj
        |exact fun _ _=>rfl
        |(intro j hj;match j,hj with|0,_=>rfl)
     ·have d1:¬ (k7 z).2=0:=by simpa using d1
      have hdn:k9 z=[]:=by unfold k9;rw[if_neg d1]
      rw[show m.tellM z (l,some n)=⟨(m.reply 0).id,if yz z n then orB (m.reply 0).bits 1024 else orB (orB (m.reply 0).bits 1024) 3,(m.reply 0).za,(m.reply 0).asks,l.isEmpty,l,true,[],true,[]⟩ by unfold Msg.tellM;rw[hdn];rfl]
      conv=>whnf
      refine od (qj4 z hz n) rfl rfl ?_;cases yz z n with
      |true =>
       rw[if_pos rfl];conv=>whnf
       refine brF rfl ?_;conv=>whnf
       repeat'(first|exact ⟨⟩|exact rfl|exact .inr rfl|exact .inl rfl|exact fun _ _=>rfl|exact noI|apply And.intro)
       all_goals first
        |exact yq _
        |exact vt _ _
        |exact .inr rfl
        |exact(p7 ..).symm
        |exact fun j hj=>wt j hj
        |exact fun _ _=>rfl
        |(intro j hj;match j,hj with|0,_=>rfl)
      |false =>
       rw[if_neg (by decide)]
       conv=>whnf
       refine brT rfl ?_;conv=>whnf
       repeat'(first|exact ⟨⟩|exact rfl|exact .inr rfl|exact .inl rfl|exact fun _ _=>rfl|exact noI|apply And.intro)
       all_goals first
        |exact yq _
        |exact vt _ _
        |exact .inr rfl
        |exact(p7 ..).symm
        |exact fun j hj=>wt j hj
        |exact fun _ _=>rfl
        |(intro j hj;match j,hj with|0,_=>rfl)
    have h8:¬ L.data.length=0:=by
     have h:¬ (L.data.length:Int)=0:=by simpa using h8
     omega
    have hT:=hyes (fun h=>h.elim (fun h=>h h7) h8)
    have hrl:=yo9 L
    have hrec:=jk6 L
    conv=>whnf
    apply Exists.intro;apply Exists.intro;refine⟨?_,?_⟩
    ·conv=>whnf
     repeat'(first|exact ⟨⟩|exact⟨rfl,rfl⟩|refine .data _ hrec rfl rfl ?_|refine And.intro (by omega) ?_|apply And.intro|(conv=>whnf))
    conv=>whnf
    refine⟨⟨br 0,by show(0:Int)<(L.data.length:Int);omega⟩,?_⟩
    conv=>whnf
    refine od (qa1 _ z.apex) rfl rfl ?_;have hdl:(L.data[0]?.getD []).length<=100000:=by
     cases hL:L.data with
     |nil=>rw [hL] at h8;exact absurd rfl h8
     |cons a b=>exact hgd a (by rw[show(L,e2).1.data=L.data from rfl,hL];simp)
    rw[show L.data[(0:Int).toNat]?.getD []=L.data[0]?.getD [] from rfl];generalize L.data[0]?.getD []=n2 at hT hdl ⊢;cases h9:qd n2 z.apex with
    |false =>
     rw [if_pos (.inl h9)] at hT;rw[hT];conv=>whnf
     refine brT rfl ?_;conv=>whnf
     repeat'(first|exact ⟨⟩|exact rfl|exact .inr rfl|exact .inl rfl|exact fun _ _=>rfl|exact noI|apply And.intro)
     all_goals first
      |exact yq _
      |exact vt _ _
      |exact .inr rfl
      |exact(p7 ..).symm
      |exact fun j hj=>wt j hj
      |exact fun _ _=>rfl
      |(intro j hj;match j,hj with|0,_=>rfl)
    |true =>
     conv=>whnf
     refine brF rfl ?_;conv=>whnf
     refine od (jr1 z hz n2) rfl rfl ?_;generalize cutQ z n2=cq2 at hT ⊢;conv=>whnf
     refine⟨fun h10=>?_,fun h10=>?_⟩
     ·have h10:cq2.2=0:=by simpa using h10
      rw [if_pos (.inr h10)] at hT;rw[hT];conv=>whnf
      repeat'(first|exact ⟨⟩|exact rfl|exact .inr rfl|exact .inl rfl|exact fun _ _=>rfl|exact noI|apply And.intro)
      all_goals first
       |exact yq _
       |exact vt _ _
       |exact .inr rfl
       |exact(p7 ..).symm
       |exact fun j hj=>wt j hj
       |exact fun _ _=>rfl
       |(intro j hj;match j,hj with|0,_=>rfl)
     ·have h10:¬ cq2.2=0:=by simpa using h10
      rw [if_neg (fun h=>h.elim (fun h=>by rw [h9] at h;cases h) h10)] at hT
      conv=>whnf
      rw[hw1];refine⟨⟨k,n2,l++jf L⟩,[0,1,2,3,4,5,6,7,12],⟨hT.symm,by show k<=8;omega,hdl,by show(l++jf L).length<=(8 - k) * 64;rw[p7];omega⟩,l8 k,?_⟩
      conv=>whnf
      repeat'(first|exact ⟨⟩|exact rfl|exact qa _|exact .inr rfl|exact fun _ _=>rfl|exact noI|apply And.intro)
      all_goals first
       |exact(p7 ..).symm
       |exact fun j hj=>wt j hj
   ·have h5:¬ ((8 - k:Nat):Int)<8:=of_decide_eq_false h5
    have hk0:k=0:=by omega
    subst hk0;rw[<-ht,show ve z q.ty 0 n l=(l,none) from rfl];conv=>whnf
    repeat'(first|exact ⟨⟩|exact rfl|exact .inr rfl|exact .inl rfl|exact fun _ _=>rfl|exact noI|apply And.intro)
    all_goals first
     |exact yq _
     |exact vt _ _
     |exact .inr rfl
     |exact(p7 ..).symm
     |exact fun j hj=>wt j hj
     |exact fun _ _=>rfl
     |(intro j hj;match j,hj with|0,_=>rfl)
def yk(ty:Int)(L:List RR):Nat->List UInt8->List St->List St × List UInt8
 |0,n,c=>(c,n)
 |k+1,n,c=>if ty=5\/(qc n ty L).2=0\/(qc n 5 L).2≠0\/(qc n 5 L).1.data.length=0 then (c,n) else yk ty L k ((qc n 5 L).1.data.headD []) (c++[(qc n 5 L).1])
theorem yr4{nm:List UInt8}{t:Int}{l:List RR}{d:List UInt8}(h:d ∈ (qc nm t l).1.data):∃ r ∈ l,r.d=d:=by
 unfold qc at h
 split at h
 ·split at h
  ·cases h
  ·have hd:d ∈ uh (qx t) ((qv nm t l).map (·.d)):=fy h
   obtain⟨i,hi⟩:=(ji8 t (qv nm t l)).from hd
   obtain⟨r,hr,rfl⟩:=o5.1 (py hi);unfold qv at hr;exact⟨r,(l9.1 (l9.1 hr).1).1,rfl⟩
 ·cases h
structure ChS where
 k:Nat
 n:List UInt8
 c:List St
def u5(l:List RR):Prop:=l.length<=100000/\∀ r ∈ l,r.nm.length<=100000/\r.d.length<=100000
theorem xf3(q:Q)(hq:q.nm.length<=100000)(z:Bool)(L:List RR)(hL:u5 L):FnOk Tryz.prog 31 [.agg [.d (.str q.nm),.d (.int .u16 q.ty),.d (.int .u16 q.cl)],.d (rrsD z L)] (.tup [.d (stsD (yk q.ty L 8 q.nm []).1.isEmpty (yk q.ty L 8 q.nm []).1),.d (.str (yk q.ty L 8 q.nm []).2)]):=by
 refine qp (TT:=TT) (IN:=qh []) qk qj mixed 1000 Tryz.func31 rfl (qi Tryz.func31 (by kernel_rfl) rfl) rfl 52 (by kernel_rfl) ?_
 conv=>whnf
 refine .nilT 6 47 4 (fun _=>[]) _ _ rfl ?_
 conv=>whnf
 refine .inv ChS (fun s=>yk q.ty L s.k s.n s.c=yk q.ty L 8 q.nm []/\s.c.length+s.k=8/\s.n.length<=100000) (fun s=>[(6,.all 1),(7,.d (.str s.n))]) (fun s=>[(1,.row 47 4 s.c.length .iff (fun j=>(s.c.getD j default).enc))]) (fun s=>s.k) ⟨⟨8,q.nm,[]⟩,[0,1],⟨rfl,rfl,hq⟩,?_⟩ ?_
 ·conv=>whnf
  repeat'(first|exact ⟨⟩|exact rfl|exact qa _|exact .inr rfl|exact fun _ _=>rfl|exact noI|apply And.intro)
 intro s hs;obtain⟨ht,hk,hn⟩:=hs;conv=>whnf
 generalize s.k=k at ht hk ⊢;generalize s.n=n at ht hn ⊢;generalize s.c=c at ht hk ⊢;generalize yk q.ty L 8 q.nm []=T at ht ⊢;refine⟨fun h1=>?_,fun h1=>?_⟩
 ·have h1:c.length<8:=by
   have h:(c.length:Int)<8:=of_decide_eq_true h1
   omega
  obtain⟨k,rfl⟩:∃ k',k=k'+1:=⟨k - 1,by omega⟩
  have e1:yk q.ty L (k+1) n c=if q.ty=5\/(qc n q.ty L).2=0\/(qc n 5 L).2≠0\/(qc n 5 L).1.data.length=0 then (c,n) else yk q.ty L k ((qc n 5 L).1.data.headD []) (c++[(qc n 5 L).1]):=rfl
  conv=>whnf
  refine od (qp2 n q.ty z L hL.1 hn (fun r hr=>(hL.2 r hr).1)) rfl rfl ?_
  generalize qc n q.ty L=g1 at e1 ⊢;conv=>whnf
  refine⟨fun h2=>?_,fun h2=>?_⟩
  ·have h2r:=h2
   have h2:q.ty=5:=by simpa using h2
   rw [if_pos (.inl h2)] at e1;rw[<-ht,e1];conv=>whnf
   refine brT h2r ?_;conv=>whnf
   repeat'(first|exact ⟨⟩|exact rfl|exact .inr rfl|exact .inl rfl|exact fun _ _=>rfl|exact noI|apply And.intro)
   all_goals first
    |exact yq _
    |exact .inr rfl
    |exact fun _ _=>rfl
  have h2:¬ q.ty=5:=by simpa using h2
  conv=>whnf
  refine⟨fun h3=>?_,fun h3=>?_⟩
  ·have h3:g1.2=0:=by simpa using h3
   rw [if_pos (.inr (.inl h3))] at e1;rw[<-ht,e1];conv=>whnf
   repeat'(first|exact ⟨⟩|exact rfl|exact .inr rfl|exact .inl rfl|exact fun _ _=>rfl|exact noI|apply And.intro)
   all_goals first
    |exact yq _
    |exact .inr rfl
    |exact fun _ _=>rfl
  have h3:¬ g1.2=0:=by simpa using h3
  conv=>whnf
  refine od (qp2 n 5 z L hL.1 hn (fun r hr=>(hL.2 r hr).1)) rfl rfl ?_
  have hgd:∀ d ∈ (qc n 5 L).1.data,d.length<=100000:=fun d hd=>by obtain⟨r,hr,rfl⟩:=yr4 hd;exact(hL.2 r hr).2
  generalize qc n 5 L=g2 at e1 hgd ⊢;obtain⟨X,e2⟩:=g2;have hhd:X.data.headD []=X.data[0]?.getD []:=by cases X.data <;> rfl
  rw [show (X,e2).1.data.headD []=X.data[0]?.getD [] from hhd] at e1;conv=>whnf
  refine⟨fun h4=>?_,fun h4=>?_⟩
  ·have h4:e2≠0:=by simpa using h4
   rw [if_pos (.inr (.inr (.inl h4)))] at e1;rw[<-ht,e1];conv=>whnf
   repeat'(first|exact ⟨⟩|exact rfl|exact .inr rfl|exact .inl rfl|exact fun _ _=>rfl|exact noI|apply And.intro)
   all_goals first
    |exact yq _
    |exact .inr rfl
    |exact fun _ _=>rfl
  have h4:e2=0:=by simpa using h4
  conv=>whnf
  refine⟨fun h5=>?_,fun h5=>?_⟩
  ·have h5:X.data.length=0:=by
    have h:(X.data.length:Int)=0:=by simpa using h5
    omega
   rw [if_pos (.inr (.inr (.inr h5)))] at e1;rw[<-ht,e1];conv=>whnf
   repeat'(first|exact ⟨⟩|exact rfl|exact .inr rfl|exact .inl rfl|exact fun _ _=>rfl|exact noI|apply And.intro)
   all_goals first
    |exact yq _
    |exact .inr rfl
    |exact fun _ _=>rfl
  have h5:¬ X.data.length=0:=by
   have h:¬ (X.data.length:Int)=0:=by simpa using h5
   omega
  rw [if_neg (fun h=>h.elim h2 (fun h=>h.elim h3 (fun h=>h.elim (fun h=>h h4) h5)))] at e1
  conv=>whnf
  refine⟨by omega,?_⟩
  conv=>whnf
  refine⟨⟨br 0,by show(0:Int)<(X.data.length:Int);omega⟩,?_⟩
  conv=>whnf
  have hdl:(X.data[0]?.getD []).length<=100000:=by
   cases hL:X.data with
   |nil=>rw [hL] at h5;exact absurd rfl h5
   |cons a b=>exact hgd a (by rw[show(X,e2).1.data=X.data from rfl,hL];simp)
  refine⟨⟨k,X.data[0]?.getD [],c++[X]⟩,[0,5],⟨by rw[<-ht,e1],by show(c++[X]).length+k=8;rw[p7,rz];omega,hdl⟩,l8 k,?_⟩
  conv=>whnf
  repeat'(first|exact ⟨⟩|exact rfl|exact qa _|exact .inr rfl|exact fun _ _=>rfl|exact noI|apply And.intro)
  all_goals first
   |(show _+1=(_++[_]).length;simp;done)
   |exact fun j hj=>yw5 _ _ j hj
 ·have h1:¬ c.length<8:=by
   have h:¬ (c.length:Int)<8:=of_decide_eq_false h1
   omega
  have hk0:k=0:=by omega
  subst hk0;rw[<-ht,show yk q.ty L 0 n c=(c,n) from rfl];conv=>whnf
  repeat'(first|exact ⟨⟩|exact rfl|exact .inr rfl|exact .inl rfl|exact fun _ _=>rfl|exact noI|apply And.intro)
  all_goals first
   |exact yq _
   |exact .inr rfl
   |exact fun _ _=>rfl
section
theorem yj5{a b:List UInt8}(h:fold a=fold b)(t:Int)(l:List RR):qv a t l=qv b t l:=by
 unfold qv
 congr 1
 congr 1
 funext r
 unfold jy
 rw[h,ya6 h]
theorem zg5(n:List UInt8)(t:Int)(l m:List RR):qv n t (l++m)=qv n t l++qv n t m:=by
 unfold qv
 rw[f8,f8]
theorem pick_mem{n:List UInt8}{t:Int}{l:List RR}{r:RR}:r ∈ qv n t l↔r ∈ l/\r.ty=t/\fold r.nm=fold n/\ju r=true:=by
 unfold qv jy
 rw[l9,l9];simp only[px,beq_iff_eq]
 constructor
 ·rintro ⟨⟨h1,h2,h3,h4⟩,h5⟩;exact⟨h1,h2,h4,h5⟩
 ·rintro ⟨h1,h2,h4,h5⟩;exact⟨⟨h1,h2,ya6 h4,h4⟩,h5⟩
theorem find_ok_iff{n:List UInt8}{t:Int}{l:List RR}:(qc n t l).2=0↔qb n/\qv n t l≠[]:=by
 unfold qc
 split
 ·rename_i hn
  cases hp:qv n t l with
  |nil=>simp
  |cons a b=>simp[hn]
 ·rename_i hn
  simp[hn]
theorem js0{n:List UInt8}{t:Int}{l:List RR}(hn:qb n)(h:qv n t l≠[]):qc n t l=(qh4 n t (qv n t l),0):=by
 unfold qc
 rw[if_pos hn,if_neg (by simpa using h)]
theorem yl8{a b:List UInt8}(ha:qb a)(hb:qb b)(h:fold a=fold b)(t:Int)(l:List RR):(qc a t l).2=0↔(qc b t l).2=0:=by
 rw[find_ok_iff,find_ok_iff,yj5 h t l];exact⟨fun h=>⟨hb,h.2⟩,fun h=>⟨ha,h.2⟩⟩
theorem yr3{n:List UInt8}{t:Int}{l:List RR}(hn:qb n){d:List UInt8}{ttl:Int}(h:qv n t l≠[])(hall:∀ r ∈ qv n t l,r.d=d/\r.ttl=ttl):qc n t l=(⟨n,t,ttl,false,[d]⟩,0):=by
 rw[js0 hn h];have hF:=jb4 (qx t) ((qv n t l).map (·.d))
 have hm:((qv n t l).getD 0 default) ∈ qv n t l:=by
  cases hP:qv n t l with
  |nil=>exact absurd hP h
  |cons a P=>simp
 have hd:uh (qx t) ((qv n t l).map (·.d))=[d]:=by
  have hlen:=hF.len (by simpa using h)
  have hall2:∀ x ∈ uh (qx t) ((qv n t l).map (·.d)),x=d:=fun x hx=>by
   obtain⟨i,hi⟩:=hF.from hx;obtain⟨r,hr,rfl⟩:=o5.1 (py hi);exact(hall r hr).1
  have hrise:=hF.rise
  generalize uh (qx t) ((qv n t l).map (·.d))=D at hlen hall2 hrise
  match D,hlen,hall2,hrise with
  |[x],_,h2,_=>rw[h2 x (by simp)]
  |x :: y :: D,_,h2,h3 =>
   have h4:=(gz.1 h3).1 y (by simp)
   rw [h2 x (by simp),h2 y (by simp),x9] at h4
   cases h4
 unfold qh4 wm
 rw[hd,(hall _ hm).2,jl1 _ (fun r hr=>(hall r hr).2)]
 rfl
theorem jn5{s:St}(hok:s.ok=true){n:List UInt8}(hn:n=s.nm){l:List RR}(h:qv n s.ty l=s.data.map (recT s)):qc n s.ty l=(⟨s.nm,s.ty,s.ttl,false,s.data⟩,0):=by
 obtain⟨k1,k2,k3,k4,k5⟩:=(St.ok_iff s).1 hok;subst hn;have hne:s.data≠[]:=fun e=>by rw [e] at k3;simp at k3
 have hp:qv s.nm s.ty l≠[]:=by rw[h];simpa using hne
 rw[js0 k1 hp,h];unfold qh4 wm
 have e1:(s.data.map (recT s)).map (·.d)=s.data:=by rw[dn];exact List.map_id _
 rw[e1];have e2:uh (qx s.ty) s.data=s.data:=Firsts.uniq (jb4 _ _) (Firsts.self k5)
 rw[e2,gt k3.2];have e3:((s.data.map (recT s)).getD 0 default).ttl=s.ttl:=by
  cases hd:s.data with
  |nil=>exact absurd hd hne
  |cons a b=>rfl
 rw[e3,jl1 _ (fun r hr=>by obtain⟨d,_,rfl⟩:=o5.1 hr;rfl)]
def inZ(z:Zo)(n:List UInt8):Bool:=qd n z.apex && (cutQ z n).2 != 0
theorem xe8{z:Zo}{a b:List UInt8}(ha:qb a)(hb:qb b)(h:fold a=fold b):z.cut a=none↔z.cut b=none:=by
 unfold Zo.cut
 rw[topCut_none,topCut_none];constructor
 ·intro k c hc;rw[<-qr9 ha hb h];exact k c hc
 ·intro k c hc;rw[qr9 ha hb h];exact k c hc
theorem ym7{z:Zo}(hz:z.ok=true)(n:List UInt8):(cutQ z n).2=0↔z.cut n≠none:=by
 rcases jb9 hz n with⟨h1,h2,_⟩|⟨c,h1,h2,_⟩
 ·rw[h1,h2];simp
 ·rw[h1,h2];simp
theorem qp1{z:Zo}(hz:z.ok=true){n:List UInt8}:inZ z n=true↔qd n z.apex=true/\z.cut n=none:=by
 unfold inZ
 rw[px,bne_iff_ne,Ne,ym7 hz];constructor
 ·rintro ⟨h1,h2⟩;exact⟨h1,Classical.not_not.1 h2⟩
 ·rintro ⟨h1,h2⟩;exact⟨h1,fun h=>h h2⟩
theorem xd2{z:Zo}(hz:z.ok=true){a b:List UInt8}(ha:qb a)(hb:qb b)(h:fold a=fold b):inZ z a=inZ z b:=by
 rw[lw,qp1 hz,qp1 hz,qr9 ha hb h,xe8 ha hb h]
inductive Fin3 where
 |ans|deny|off
deriving DecidableEq
def ql(z:Zo)(ty:Int):Nat->List UInt8->List St × List UInt8 × Fin3
 |0,n=>([],n,.off)
 |k+1,n=>if (qc n ty z.rrs).2=0 then ([],n,.ans)
  else if (qc n 5 z.rrs).2≠0 then ([],n,.deny)
  else if inZ z ((qc n 5 z.rrs).1.data.headD []) then ((qc n 5 z.rrs).1 :: (ql z ty k ((qc n 5 z.rrs).1.data.headD [])).1,(ql z ty k ((qc n 5 z.rrs).1.data.headD [])).2)
  else ([(qc n 5 z.rrs).1],(qc n 5 z.rrs).1.data.headD [],.off)
theorem jn6{n:List UInt8}{t:Int}{l:List RR}(h:(qc n t l).2=0)(ht:t≠41):(qc n t l).1.data.length≠0:=by
 have:=((St.ok_iff _).1 (ws h ht).1).2.2.1.1
 omega
def yf(z:Zo)(ty:Int)(x:List St × List UInt8 × Fin3):List RR:=x.1.flatMap jf++(if x.2.2 = .ans then jf (qc x.2.1 ty z.rrs).1 else [])
theorem jk1{z:Zo}(hz:z.ok=true)(ty:Int):∀ (k:Nat) (n:List UInt8) (l:List RR),ve z ty k n l=(l++yf z ty (ql z ty k n),if (ql z ty k n).2.2 = .deny then some (ql z ty k n).2.1 else none)
 |0,n,l=>by
  show(l,none)=(l++yf z ty ([],n,Fin3.off),none)
  unfold yf
  simp
 |k+1,n,l=>by
  have hg:∀ t,getZ z n t=qc n t z.rrs:=fun t=>by unfold getZ;rw[if_pos hz]
  unfold ve ql
  rw[hg,hg];by_cases h1:(qc n ty z.rrs).2=0
  ·rw[if_pos h1,if_pos h1];unfold yf
   simp
  ·rw[if_neg h1,if_neg h1];by_cases h2:(qc n 5 z.rrs).2≠0
   ·rw[if_pos (.inl h2),if_pos h2];unfold yf;simp
   ·have h2':(qc n 5 z.rrs).2=0:=Classical.not_not.1 h2
    rw[if_neg (fun h=>h.elim h2 (jn6 h2' (by decide))),if_neg h2]
    cases h3:inZ z ((qc n 5 z.rrs).1.data.headD []) with
    |false =>
     have:qd ((qc n 5 z.rrs).1.data.headD []) z.apex=false\/(cutQ z ((qc n 5 z.rrs).1.data.headD [])).2=0:=by
      unfold inZ at h3
      rw [rq,bne_eq_false_iff_eq] at h3;exact h3
     rw[if_pos this,if_neg (by decide)]
     unfold yf
     simp
    |true =>
     have:¬ (qd ((qc n 5 z.rrs).1.data.headD []) z.apex=false\/(cutQ z ((qc n 5 z.rrs).1.data.headD [])).2=0):=by
      unfold inZ at h3
      rw [px,bne_iff_ne] at h3;rintro (h|h)
      ·rw [h3.1] at h;cases h
      ·exact h3.2 h
     rw[if_neg this,if_pos rfl,jk1 hz ty k];unfold yf
     simp[gv]
theorem yn4{z:Zo}(hz:z.ok=true){n:List UInt8}(h:(qc n 5 z.rrs).2=0):∃ r ∈ z.rrs,qv n 5 z.rrs=[r]/\qc n 5 z.rrs=(⟨n,5,r.ttl,false,[r.d]⟩,0)/\r.ty=5/\fold r.nm=fold n:=by
 obtain⟨hn,hp⟩:=find_ok_iff.1 h;obtain⟨r,hr⟩:=r8 _ hp;obtain⟨m1,m2,m3,m4⟩:=pick_mem.1 hr;have hs:=Zo.ok_sound hz
 unfold xu at hs
 simp only [px,gn] at hs
 have hf:=hs.2.2 r m1
 unfold jb at hf
 have hal:0<cntZ w5 z.rrs (fold r.nm):=js5 m1 (by simp[w5,m2]) rfl
 have hone:¬ 1<cntZ anyR z.rrs (fold r.nm):=fun h=>by rw [if_pos ⟨hal,h⟩] at hf;cases hf
 have hlen:(qv n 5 z.rrs).length<=1:=by
  have h1:(qv n 5 z.rrs).length<=cntZ anyR z.rrs (fold r.nm):=by
   unfold qv cntZ
   refine o7 (fq _ _) ?_;have e:z.rrs.filter (jy n 5)=(z.rrs.filter fun x=>fold x.nm == fold r.nm && anyR x).filter (jy n 5):=by
    rw[List.filter_filter];apply List.filter_congr;intro x _;unfold jy anyR
    rw[m3];cases (x.ty == 5) <;> cases (x.nm.length == n.length) <;> cases (fold x.nm == fold n) <;> rfl
   rw[e];exact fq _ _
  omega
 have he:qv n 5 z.rrs=[r]:=by
  match hP:qv n 5 z.rrs,hlen,hr with
  |[x],_,hm=>rw[gp.1 hm]
 refine⟨r,m1,he,yr3 hn hp (fun x hx=>?_),m2,m3⟩
 rw [he] at hx;rw[gp.1 hx];exact⟨rfl,rfl⟩
def SOk(z:Zo)(ty:Int)(S:List RR):Prop:=∀ r ∈ S,(qb r.nm/\inZ z r.nm=true)/\((r.ty=5/\(qc r.nm 5 z.rrs).2=0/\∀ x ∈ qv r.nm 5 z.rrs,x.d=r.d/\x.ttl=r.ttl)\/(r.ty=ty/\(qc r.nm ty z.rrs).2=0))
section
variable{z:Zo}{ty:Int}{S:List RR}
theorem SOk.none_ty(h:SOk z ty S)(h5:ty≠5){m:List UInt8}(hf:(qc m ty z.rrs).2≠0):(qc m ty S).2≠0:=by
 intro e;obtain⟨hm,hp⟩:=find_ok_iff.1 e;obtain⟨r,hr⟩:=r8 _ hp;obtain⟨m1,m2,m3,_⟩:=pick_mem.1 hr;obtain⟨⟨k1,_⟩,k2⟩:=h r m1;rcases k2 with⟨k2,_⟩|⟨_,k2⟩
 ·exact h5 (m2.symm.trans k2)
 ·exact hf ((yl8 k1 hm m3 ty z.rrs).1 k2)
theorem SOk.none_5(h:SOk z ty S)(h5:ty≠5){m:List UInt8}(hf:(qc m 5 z.rrs).2≠0):(qc m 5 S).2≠0:=by
 intro e;obtain⟨hm,hp⟩:=find_ok_iff.1 e;obtain⟨r,hr⟩:=r8 _ hp;obtain⟨m1,m2,m3,_⟩:=pick_mem.1 hr;obtain⟨⟨k1,_⟩,k2⟩:=h r m1;rcases k2 with⟨_,k2,_⟩|⟨k2,_⟩
 ·exact hf ((yl8 k1 hm m3 5 z.rrs).1 k2)
 ·exact h5 (k2.symm.trans m2)
theorem SOk.off(h:SOk z ty S)(hz:z.ok=true){m:List UInt8}(ho:inZ z m=false)(t:Int):(qc m t S).2≠0:=by
 intro e;obtain⟨hm,hp⟩:=find_ok_iff.1 e;obtain⟨r,hr⟩:=r8 _ hp;obtain⟨m1,_,m3,_⟩:=pick_mem.1 hr;obtain⟨⟨k1,k2⟩,_⟩:=h r m1;rw [xd2 hz k1 hm m3,ho] at k2;cases k2
theorem SOk.link(h:SOk z ty S)(hz:z.ok=true)(h5:ty≠5){n:List UInt8}(hf:(qc n 5 z.rrs).2=0)(hp:qv n 5 S≠[]):qc n 5 S=qc n 5 z.rrs:=by
 obtain⟨r0,_,he,hfe,_,_⟩:=yn4 hz hf;rw[hfe];refine yr3 (find_ok_iff.1 hf).1 hp (fun x hx=>?_)
 obtain⟨m1,m2,m3,_⟩:=pick_mem.1 hx;rcases(h x m1).2 with⟨_,_,k3⟩|⟨k2,_⟩
 ·have:=k3 r0 (by rw[yj5 m3,he];simp)
  exact⟨this.1.symm,this.2.symm⟩
 ·exact absurd (k2.symm.trans m2) h5
theorem qc5{s:St}(hok:s.ok=true):qv s.nm s.ty (jf s)=s.data.map (recT s)/\jf s=s.data.map (recT s)/\s.data≠[]:=by
 obtain⟨k1,k2,k3,k4,k5⟩:=(St.ok_iff s).1 hok;have e:jf s=s.data.map (recT s):=by unfold jf;rw[if_pos hok]
 refine ⟨?_,e,fun h=>by rw [h] at k3;simp at k3⟩
 rw[e];unfold qv
 rw[List.filter_filter,tn];intro r hr;obtain⟨d,hd,rfl⟩:=o5.1 hr;unfold jy ju RR.check recT
 simp[k1,k4 d hd,k2]
theorem je5(hz:z.ok=true){n:List UInt8}{t:Int}(h:(qc n t z.rrs).2=0):t≠41:=by
 obtain⟨r,hr,e⟩:=xj9 h;have:=Zo.ok_take hz hr
 unfold zr at this
 simp only [px,bne_iff_ne] at this
 rw[<-e];exact this.2.1
theorem xa2{k:Nat}{n:List UInt8}:(yf z ty (ql z ty k n))=(ql z ty k n).1.flatMap jf++(if (ql z ty k n).2.2 = .ans then jf (qc (ql z ty k n).2.1 ty z.rrs).1 else []):=rfl
theorem xb1{n:List UInt8}{t:Int}{l m:List RR}(h:∀ r ∈ l,r ∈ m)(hp:qv n t l≠[]):qv n t m≠[]:=by
 obtain⟨r,hr⟩:=r8 _ hp;obtain⟨m1,m2⟩:=pick_mem.1 hr;intro e;have:r ∈ qv n t m:=pick_mem.2 ⟨h r m1,m2⟩
 rw [e] at this;cases this
theorem yl7(hz:z.ok=true){n:List UInt8}{t:Int}(h:(qc n t z.rrs).2=0){S:List RR}(hS:∀ r ∈ jf (qc n t z.rrs).1,r ∈ S):qv n t S≠[]:=by
 obtain⟨k1,k2,k3,k4⟩:=ws h (je5 hz h);obtain⟨p1,p2,p3⟩:=qc5 k1;rw [k2,k3] at p1;refine xb1 hS ?_;rw[p1];simpa using p3
theorem yb8(hz:z.ok=true)(h5:ty≠5)(hS:SOk z ty S):∀ (k:Nat) (n:List UInt8) (c:List St),(∀ r ∈ yf z ty (ql z ty k n),r ∈ S)->yk ty S k n c=(c++(ql z ty k n).1,(ql z ty k n).2.1)
 |0,n,c,_=>by
  show(c,n)=(c++[],n)
  rw[mv]
 |k+1,n,c,hs=>by
  have e1:yk ty S (k+1) n c=if ty=5\/(qc n ty S).2=0\/(qc n 5 S).2≠0\/(qc n 5 S).1.data.length=0 then (c,n) else yk ty S k ((qc n 5 S).1.data.headD []) (c++[(qc n 5 S).1]):=rfl
  rw[e1];unfold ql at hs ⊢
  by_cases h1:(qc n ty z.rrs).2=0
  ·rw [if_pos h1] at hs ⊢;unfold yf at hs
   have hp:=yl7 hz h1 (S:=S) (fun r hr=>hs r (by simpa using hr))
   rw[if_pos (.inr (.inl (find_ok_iff.2 ⟨(find_ok_iff.1 h1).1,hp⟩)))];simp
  ·rw [if_neg h1] at hs ⊢;have h1':=hS.none_ty h5 h1
   by_cases h2:(qc n 5 z.rrs).2≠0
   ·rw[if_pos h2];rw[if_pos (.inr (.inr (.inl (hS.none_5 h5 h2))))];simp
   ·have h2':(qc n 5 z.rrs).2=0:=Classical.not_not.1 h2
    rw [if_neg h2] at hs ⊢;have hp:qv n 5 S≠[]:=by
     refine yl7 hz h2' (fun r hr=>hs r ?_)
     unfold yf
     split <;> simp[hr]
    have hl:=hS.link hz h5 h2' hp
    rw[hl,if_neg (fun h=>h.elim h5 (fun h=>h.elim h1' (fun h=>h.elim h2 (jn6 h2' (by decide)))))]
    cases h3:inZ z ((qc n 5 z.rrs).1.data.headD []) with
    |true =>
     rw [h3,if_pos rfl] at hs;rw[if_pos rfl,yb8 hz h5 hS k _ _ (fun r hr=>hs r (by
      unfold yf at hr ⊢
      simp only[ay,gv]
      exact List.mem_append_right _ hr))]
     simp
    |false =>
     rw[if_neg (by decide)]
     cases k with
     |zero=>rfl
     |succ k =>
      have e2:∀ m (c:List St),yk ty S (k+1) m c=if ty=5\/(qc m ty S).2=0\/(qc m 5 S).2≠0\/(qc m 5 S).1.data.length=0 then (c,m) else yk ty S k ((qc m 5 S).1.data.headD []) (c++[(qc m 5 S).1]):=fun _ _=>rfl
      rw[e2,if_pos (.inr (.inr (.inl (hS.off hz h3 5))))]
theorem yu0(hz:z.ok=true)(h5:ty≠5):∀ (k:Nat) (n:List UInt8),inZ z n=true->SOk z ty (yf z ty (ql z ty k n))
 |0,n,_=>by
  unfold ql yf
  intro r hr;simp at hr
 |k+1,n,hn=>by
  have hnn:qb n:=(zd ((qp1 hz).1 hn).1).1
  unfold ql
  by_cases h1:(qc n ty z.rrs).2=0
  ·rw[if_pos h1];unfold yf
   intro r hr;simp only [List.flatMap_nil,az,if_true] at hr
   obtain⟨k1,k2,k3,_⟩:=ws h1 (je5 hz h1);rw [(qc5 k1).2.1] at hr;obtain⟨d,_,rfl⟩:=o5.1 hr;have e:(recT (qc n ty z.rrs).1 d).nm=n:=k2;rw[e];exact⟨⟨hnn,hn⟩,.inr ⟨k3,h1⟩⟩
  ·rw[if_neg h1];by_cases h2:(qc n 5 z.rrs).2≠0
   ·rw[if_pos h2];unfold yf
    intro r hr;simp at hr
   ·have h2':(qc n 5 z.rrs).2=0:=Classical.not_not.1 h2
    rw[if_neg h2];have hlink:∀ r ∈ jf (qc n 5 z.rrs).1,(qb r.nm/\inZ z r.nm=true)/\((r.ty=5/\(qc r.nm 5 z.rrs).2=0/\∀ x ∈ qv r.nm 5 z.rrs,x.d=r.d/\x.ttl=r.ttl)\/(r.ty=ty/\(qc r.nm ty z.rrs).2=0)):=by
     intro r hr;obtain⟨r0,_,he,hfe,_,_⟩:=yn4 hz h2';obtain⟨k1,k2,k3,_⟩:=ws h2' (by decide)
     rw [(qc5 k1).2.1] at hr;obtain⟨d,hd,rfl⟩:=o5.1 hr;have e:(recT (qc n 5 z.rrs).1 d).nm=n:=k2;rw[e];refine⟨⟨hnn,hn⟩,.inl ⟨k3,h2',fun x hx=>?_⟩⟩
     rw [he] at hx;rw[gp.1 hx];rw [hfe] at hd ⊢;exact⟨(gp.1 hd).symm,rfl⟩
    cases h3:inZ z ((qc n 5 z.rrs).1.data.headD []) with
    |true =>
     rw[if_pos rfl];intro r hr;unfold yf at hr
     simp only [ay,gv] at hr
     rcases ox.1 hr with hr|hr
     ·exact hlink r hr
     ·exact yu0 hz h5 k _ h3 r hr
    |false =>
     rw[if_neg (by decide)]
     intro r hr;unfold yf at hr
     simp only [ay,List.flatMap_nil,mv] at hr
     exact hlink r (by simpa using hr)
theorem jo4(hz:z.ok=true)(h5:ty≠5):∀ (k:Nat) (n:List UInt8),(ql z ty k n).2.2 = .ans->(qc (ql z ty k n).2.1 ty z.rrs).2=0/\∀ r ∈ (ql z ty k n).1.flatMap jf,r.ty=5
 |0,n,h=>by cases h
 |k+1,n,h=>by
  unfold ql at h ⊢
  by_cases h1:(qc n ty z.rrs).2=0
  ·rw[if_pos h1];exact ⟨h1,fun r hr=>by simp at hr⟩
  ·rw [if_neg h1] at h ⊢;by_cases h2:(qc n 5 z.rrs).2≠0
   ·rw [if_pos h2] at h;cases h
   ·have h2':(qc n 5 z.rrs).2=0:=Classical.not_not.1 h2
    rw [if_neg h2] at h ⊢;split at h
    ·rename_i h3
     rw[if_pos h3];obtain⟨q1,q2⟩:=jo4 hz h5 k _ h;refine⟨q1,fun r hr=>?_⟩
     simp only [ay] at hr
     rcases ox.1 hr with hr|hr
     ·obtain⟨k1,k2,k3,_⟩:=ws h2' (by decide)
      rw [(qc5 k1).2.1] at hr;obtain⟨d,_,rfl⟩:=o5.1 hr;exact k3
     ·exact q2 r hr
    ·cases h
theorem yx6{n:List UInt8}{t:Int}{l:List RR}(h:(qc n t l).2=0):(qc n t l).1.z=false:=by
 obtain⟨h1,h2⟩:=find_ok_iff.1 h;rw[js0 h1 h2];rfl
theorem xg1(hz:z.ok=true)(h5:ty≠5){k:Nat}{n:List UInt8}(h:(ql z ty k n).2.2 = .ans):qc (ql z ty k n).2.1 ty (yf z ty (ql z ty k n))=((qc (ql z ty k n).2.1 ty z.rrs).1,0):=by
 obtain⟨h1,h2⟩:=jo4 hz h5 k n h;obtain⟨k1,k2,k3,_⟩:=ws h1 (je5 hz h1);have hzf:=yx6 h1;rw[xa2,if_pos h];generalize (ql z ty k n).2.1=e at h1 k1 k2 k3 hzf ⊢;generalize (ql z ty k n).1.flatMap jf=L at h2 ⊢;generalize (qc e ty z.rrs).1=A at k1 k2 k3 hzf ⊢;have hp:qv e ty (L++jf A)=A.data.map (recT A):=by
  rw[zg5];have:qv e ty L=[]:=by
   rw[bq];intro r hr;obtain⟨m1,m2,_⟩:=pick_mem.1 hr;exact h5 (m2.symm.trans (h2 r m1))
  rw[this,az,<-k2,<-k3];exact(qc5 k1).1
 rw [<-k3] at hp ⊢;rw[jn5 k1 k2.symm hp,<-hzf]
end
end
structure Rdr where
 s:List UInt8
 p:Nat
 bad:Bool
def Rdr.kb(r:Rdr):KB:=.cells 216 [.d (.str r.s),.d (.int .i64 r.p),.d (.bool r.bad)]
structure Rdr.Ok(r:Rdr):Prop where
 len:r.s.length<4611686018427387904
 p:r.p<=r.s.length
def Rdr.raw(r:Rdr)(n:Int):Rdr × List UInt8:=if r.bad then (r,[]) else if n<0\/n > r.s.length - r.p then ({ r with bad:=true },[]) else ({ r with p:=r.p+n.toNat },(r.s.drop r.p).take n.toNat)
theorem Rdr.Ok.raw{r:Rdr}(h:r.Ok)(n:Int):(r.raw n).1.Ok:=by
 unfold Rdr.raw
 split
 ·exact h
 ·split
  ·exact⟨h.len,h.p⟩
  ·refine⟨h.len,?_⟩;show r.p+n.toNat<=r.s.length
   omega
theorem xi1(s:List UInt8):COk Tryz.prog 126 [.d (.str s)] [] (fun r k=>r = .ptr 0 0/\k=[Rdr.kb ⟨s,0,false⟩]):=by
 refine j7 (TT:=TT) (IN:=qh []) qk qj mixed 1000 Tryz.func126 rfl (qi Tryz.func126 (by kernel_rfl) rfl) 5 (by kernel_rfl) ?_
 conv=>whnf
 refine⟨[0],.ptr 0 0,_,rfl,rfl,rfl,?_,rfl,rfl⟩;repeat'(first|exact ⟨⟩|exact rfl|exact fun _=>Iff.rfl|exact fun _ _=>rfl|exact renM_ent rfl _|apply And.intro)
theorem jg2(r:Rdr)(hr:r.Ok)(n:Int)(hn : -9223372036854775808<=n/\n<=9223372036854775807):COk Tryz.prog 148 [.ptr 0 0,.d (.int .i64 n)] [r.kb] (fun s k=>∃ r1,k=[Rdr.kb r1]/\(s = .d (.str (r.raw n).2)/\r1=(r.raw n).1)):=by
 refine j7 (TT:=TT) (IN:=qh [(149,Tryz.f149,1),(147,Tryz.f147,1)]) qk (jj (jj qj Tryz.func147 (by kernel_rfl) (by kernel_rfl)) Tryz.func149 (by kernel_rfl) (by kernel_rfl)) mixed 1000 Tryz.func148 rfl (qi Tryz.func148 (by kernel_rfl) rfl) 46 (by kernel_rfl) ?_
 have hlen:=hr.len
 have hp:=hr.p
 have hwr:IntKind.i64.wrap ((r.s.length:Int) - r.p)=(r.s.length:Int) - r.p:=qe _ (by omega)
 conv=>whnf
 refine⟨fun h1=>?_,fun h1=>?_⟩
 ·have e:r.raw n=(r,[]):=by unfold Rdr.raw;rw[if_pos h1]
  rw[e];conv=>whnf
  refine⟨[0],.d (.str []),[r.kb],rfl,rfl,rfl,?_,_,rfl,rfl,rfl⟩;repeat'(first|exact ⟨⟩|exact rfl|exact fun _=>Iff.rfl|exact fun _ _=>rfl|exact renM_ent rfl _|apply And.intro)
 conv=>whnf
 refine⟨fun h2=>?_,fun h2=>?_⟩
 ·have h2':n<0:=of_decide_eq_true h2
  have e:r.raw n=({ r with bad:=true },[]):=by unfold Rdr.raw;rw[if_neg (by simp[h1]),if_pos (.inl h2')]
  rw[e];conv=>whnf
  repeat(first|(refine brT rfl ?_;conv=>whnf)|(refine brF rfl ?_;conv=>whnf)|(refine .once ?_;conv=>whnf)|(refine⟨by decide,?_⟩;conv=>whnf)|(refine And.intro (lx rfl) ?_;conv=>whnf))
  refine⟨[0],.d (.str []),[Rdr.kb { r with bad:=true }],rfl,rfl,rfl,?_,_,rfl,rfl,rfl⟩
  repeat'(first|exact ⟨⟩|exact rfl|exact fun _=>Iff.rfl|exact fun _ _=>rfl|exact renM_ent rfl _|apply And.intro)
 have h2':¬ n<0:=of_decide_eq_false h2
 conv=>whnf
 rw[hwr];refine⟨fun h3=>?_,fun h3=>?_⟩
 ·have h3':n > (r.s.length:Int) - r.p:=of_decide_eq_true h3
  have e:r.raw n=({ r with bad:=true },[]):=by unfold Rdr.raw;rw[if_neg (by simp[h1]),if_pos (.inr h3')]
  rw[e];conv=>whnf
  repeat(first|(refine brT rfl ?_;conv=>whnf)|(refine brF rfl ?_;conv=>whnf)|(refine .once ?_;conv=>whnf)|(refine⟨by decide,?_⟩;conv=>whnf)|(refine And.intro (lx rfl) ?_;conv=>whnf))
  refine⟨[0],.d (.str []),[Rdr.kb { r with bad:=true }],rfl,rfl,rfl,?_,_,rfl,rfl,rfl⟩
  repeat'(first|exact ⟨⟩|exact rfl|exact fun _=>Iff.rfl|exact fun _ _=>rfl|exact renM_ent rfl _|apply And.intro)
 ·have h3':¬ n > (r.s.length:Int) - r.p:=of_decide_eq_false h3
  have e:r.raw n=({ r with p:=r.p+n.toNat },(r.s.drop r.p).take n.toNat):=by unfold Rdr.raw;rw[if_neg (by simp[h1]),if_neg (by omega)]
  have e1:IntKind.i64.wrap ((r.p:Int)+n)=((r.p+n.toNat:Nat):Int):=by rw[qe _ (by omega)];omega
  have e2:IntKind.i64.wrap (((r.p+n.toNat:Nat):Int) - n)=(r.p:Int):=by rw[qe _ (by omega)];omega
  have e3:sub r.s (r.p:Int) ((r.p+n.toNat:Nat):Int)=(r.s.drop r.p).take n.toNat:=by
   unfold sub
   rw[pp,pp,show r.p+n.toNat - r.p=n.toNat by omega]
  rw[e];conv=>whnf
  rw[e1,e2];refine⟨by omega,?_⟩
  rw[e3];conv=>whnf
  refine⟨[0],.d (.str ((r.s.drop r.p).take n.toNat)),[Rdr.kb { r with p:=r.p+n.toNat }],rfl,rfl,rfl,?_,_,rfl,rfl,rfl⟩
  repeat'(first|exact ⟨⟩|exact rfl|exact fun _=>Iff.rfl|exact fun _ _=>rfl|exact renM_ent rfl _|apply And.intro)
theorem je8{P:Program}{f:FuncId}{al al':List SV}{a:Rdr}{Q:SV->Rdr->Prop}(h:COk P f al [a.kb] (fun s k=>∃ a1,k=[Rdr.kb a1]/\Q s a1))(pre rest:List KB)(σ:Nat->Nat)(hσ:σ=sig (List.range' pre.length 1) (pre.length+(1+rest.length)))(ha:mapL σ al=al') :
 COk P f al' (pre++(a.kb :: rest)) (fun s k=>∃ s0 a1,Q s0 a1/\s=mapV σ s0/\k=pre++(Rdr.kb a1 :: rest)) :=
 COk.fam (fun a _=>[Rdr.kb a]) 1 (fun _ _=>rfl) (fun _ _ _ _=>rfl) h pre rest σ hσ ha
theorem Rdr.raw_len{r:Rdr}(n:Nat)(h:(r.raw n).1.bad=false):(r.raw n).2.length=n:=by
 unfold Rdr.raw at h ⊢
 split
 ·rename_i hb;rw [if_pos hb] at h;rw [hb] at h;cases h
 ·rename_i hb
  rw [if_neg hb] at h;split
  ·rename_i hc;rw [if_pos hc] at h;cases h
  ·simp
   omega
theorem acc1(x y:Nat)(hx:x<72057594037927936)(hy:y<256):bits .or .u64 (IntKind.u64.wrap ((x:Int) * 2 ^ 8)) (IntKind.u64.wrap (y:Int))=((x * 256+y:Nat):Int):=by
 have e1:IntKind.u64.wrap ((x:Int) * 2 ^ 8)=((x * 256:Nat):Int):=by rw[IntKind.wrap_u64];omega
 have e2:IntKind.u64.wrap (y:Int)=(y:Int):=by rw[IntKind.wrap_u64];omega
 rw[e1,e2,u64_or_nat _ _ (by omega) (by omega)]
 have:=Nat.two_pow_add_eq_or_of_lt (i:=8) (show y<2 ^ 8 by omega) x
 rw[show x * 256=2 ^ 8 * x by omega,<-this]
theorem acc8(y0 y1 y2 y3 y4 y5 y6 y7:Nat)(h0:y0<256)(h1:y1<256)(h2:y2<256)(h3:y3<256)(h4:y4<256)(h5:y5<256)(h6:y6<256)(h7:y7<256) :
 bits .or .u64 (IntKind.u64.wrap (bits .or .u64 (IntKind.u64.wrap (bits .or .u64 (IntKind.u64.wrap (bits .or .u64 (IntKind.u64.wrap (bits .or .u64 (IntKind.u64.wrap (bits .or .u64 (IntKind.u64.wrap (bits .or .u64 (IntKind.u64.wrap (bits .or .u64 (IntKind.u64.wrap (0 * 2 ^ 8)) (IntKind.u64.wrap (y0:Int)) * 2 ^ 8)) (IntKind.u64.wrap (y1:Int)) * 2 ^ 8)) (IntKind.u64.wrap (y2:Int)) * 2 ^ 8)) (IntKind.u64.wrap (y3:Int)) * 2 ^ 8)) (IntKind.u64.wrap (y4:Int)) * 2 ^ 8)) (IntKind.u64.wrap (y5:Int)) * 2 ^ 8)) (IntKind.u64.wrap (y6:Int)) * 2 ^ 8)) (IntKind.u64.wrap (y7:Int)) =
 ((((((((((0 * 256+y0) * 256+y1) * 256+y2) * 256+y3) * 256+y4) * 256+y5) * 256+y6) * 256+y7:Nat)):Int):=by
 have e0:=acc1 0 y0 (by omega) h0
 rw [show ((0:Nat):Int)=0 from rfl] at e0;rw[e0,acc1 _ y1 (by omega) h1,acc1 _ y2 (by omega) h2,acc1 _ y3 (by omega) h3,acc1 _ y4 (by omega) h4,acc1 _ y5 (by omega) h5,acc1 _ y6 (by omega) h6,acc1 _ y7 (by omega) h7]
theorem ko{α:Type}{l:List α}{n:Nat}(h:l.length=n+1):∃ a t,l=a :: t/\t.length=n:=by
 cases l with
 |nil=>simp at h
 |cons a t=>exact⟨a,t,rfl,by simpa using h⟩
def qe0(s:List UInt8):Nat:=s.foldl (fun n b=>n * 256+b.toNat) 0
def xn4(n:Nat):Prop:=n=1\/n=2\/n=4\/n=8
def Rdr.num(r:Rdr)(width:Nat):Rdr × Nat:=((r.raw width).1,if (r.raw width).1.bad then 0 else qe0 (r.raw width).2)
theorem xh8(r:Rdr)(hr:r.Ok)(width:Nat)(hw:xn4 width):COk Tryz.prog 127 [.ptr 0 0,.d (.int .i64 width)] [r.kb] (fun s k=>∃ r1,k=[Rdr.kb r1]/\(s = .d (.int .u64 (r.num width).2)/\r1=(r.num width).1)):=by
 refine j7 (TT:=TT) (IN:=qh [(146,Tryz.f146,1),(149,Tryz.f149,1)]) qk (jj (jj qj Tryz.func149 (by kernel_rfl) (by kernel_rfl)) Tryz.func146 (by kernel_rfl) (by kernel_rfl)) mixed 1000 Tryz.func127 rfl (qi Tryz.func127 (by kernel_rfl) rfl) 34 (by kernel_rfl) ?_
 rcases hw with rfl|rfl|rfl|rfl
 ·conv=>whnf
  repeat(first|(refine brT rfl ?_;conv=>whnf)|(refine brF rfl ?_;conv=>whnf)|(refine .once ?_;conv=>whnf)|(refine⟨by decide,?_⟩;conv=>whnf)|(refine And.intro (lx rfl) ?_;conv=>whnf))
  refine .rel _ (je8 (jg2 r hr 1 (by omega)) [] [] _ rfl rfl) (fun x ks' hR=>?_)
  obtain⟨_,r1,⟨rfl,rfl⟩,rfl,rfl⟩:=hR;conv=>whnf
  refine⟨fun h1=>?_,fun h1=>?_⟩
  ·have e:r.num 1=((r.raw 1).1,0):=by unfold Rdr.num;rw[if_pos (show(r.raw ((1:Nat):Int)).1.bad=true from h1)];rfl
   rw[e];conv=>whnf
   refine⟨[0],.d (.int .u64 0),[(r.raw 1).1.kb],rfl,rfl,rfl,?_,_,rfl,rfl,rfl⟩;repeat'(first|exact ⟨⟩|exact rfl|exact fun _=>Iff.rfl|exact fun _ _=>rfl|exact renM_ent rfl _|apply And.intro)
  ·have hrl:(r.raw ((1:Nat):Int)).2.length=1:=Rdr.raw_len 1 h1
   have e:r.num 1=((r.raw 1).1,qe0 (r.raw ((1:Nat):Int)).2):=by unfold Rdr.num;rw[if_neg (by rw[show(r.raw ((1:Nat):Int)).1.bad=false from h1];simp)];rfl
   rw[e];obtain⟨b0,t0,e0,l0⟩:=ko hrl;have e9:=rx.1 l0
   subst e9;rw[e0];rw[show(r.raw 1).2=[b0] from e0];conv=>whnf
   repeat(first|(refine brT rfl ?_;conv=>whnf)|(refine brF rfl ?_;conv=>whnf)|(refine .once ?_;conv=>whnf)|(refine⟨by decide,?_⟩;conv=>whnf)|(refine And.intro (lx rfl) ?_;conv=>whnf))
   refine⟨[0],.d (.int .u64 (qe0 [b0])),[(r.raw 1).1.kb],rfl,rfl,?_,?_,_,rfl,rfl,rfl⟩
   ·exact congrArg (fun z=>SV.d (DV.int .u64 z)) (acc8 (0) (0) (0) (0) (0) (0) (0) (b0.toNat) (by omega) (by omega) (by omega) (by omega) (by omega) (by omega) (by omega) (UInt8.toNat_lt _))
   ·repeat'(first|exact ⟨⟩|exact rfl|exact fun _=>Iff.rfl|exact fun _ _=>rfl|exact renM_ent rfl _|apply And.intro)
 ·conv=>whnf
  repeat(first|(refine brT rfl ?_;conv=>whnf)|(refine brF rfl ?_;conv=>whnf)|(refine .once ?_;conv=>whnf)|(refine⟨by decide,?_⟩;conv=>whnf)|(refine And.intro (lx rfl) ?_;conv=>whnf))
  refine .rel _ (je8 (jg2 r hr 2 (by omega)) [] [] _ rfl rfl) (fun x ks' hR=>?_)
  obtain⟨_,r1,⟨rfl,rfl⟩,rfl,rfl⟩:=hR;conv=>whnf
  refine⟨fun h1=>?_,fun h1=>?_⟩
  ·have e:r.num 2=((r.raw 2).1,0):=by unfold Rdr.num;rw[if_pos (show(r.raw ((2:Nat):Int)).1.bad=true from h1)];rfl
   rw[e];conv=>whnf
   refine⟨[0],.d (.int .u64 0),[(r.raw 2).1.kb],rfl,rfl,rfl,?_,_,rfl,rfl,rfl⟩;repeat'(first|exact ⟨⟩|exact rfl|exact fun _=>Iff.rfl|exact fun _ _=>rfl|exact renM_ent rfl _|apply And.intro)
  ·have hrl:(r.raw ((2:Nat):Int)).2.length=2:=Rdr.raw_len 2 h1
   have e:r.num 2=((r.raw 2).1,qe0 (r.raw ((2:Nat):Int)).2):=by unfold Rdr.num;rw[if_neg (by rw[show(r.raw ((2:Nat):Int)).1.bad=false from h1];simp)];rfl
   rw[e];obtain⟨b0,t0,e0,l0⟩:=ko hrl;obtain⟨b1,t1,e1,l1⟩:=ko l0;subst e1;have e9:=rx.1 l1
   subst e9;rw[e0];rw[show(r.raw 2).2=[b0,b1] from e0];conv=>whnf
   repeat(first|(refine brT rfl ?_;conv=>whnf)|(refine brF rfl ?_;conv=>whnf)|(refine .once ?_;conv=>whnf)|(refine⟨by decide,?_⟩;conv=>whnf)|(refine And.intro (lx rfl) ?_;conv=>whnf))
   refine⟨[0],.d (.int .u64 (qe0 [b0,b1])),[(r.raw 2).1.kb],rfl,rfl,?_,?_,_,rfl,rfl,rfl⟩
   ·exact congrArg (fun z=>SV.d (DV.int .u64 z)) (acc8 (0) (0) (0) (0) (0) (0) (b0.toNat) (b1.toNat) (by omega) (by omega) (by omega) (by omega) (by omega) (by omega) (UInt8.toNat_lt _) (UInt8.toNat_lt _))
   ·repeat'(first|exact ⟨⟩|exact rfl|exact fun _=>Iff.rfl|exact fun _ _=>rfl|exact renM_ent rfl _|apply And.intro)
 ·conv=>whnf
  repeat(first|(refine brT rfl ?_;conv=>whnf)|(refine brF rfl ?_;conv=>whnf)|(refine .once ?_;conv=>whnf)|(refine⟨by decide,?_⟩;conv=>whnf)|(refine And.intro (lx rfl) ?_;conv=>whnf))
  refine .rel _ (je8 (jg2 r hr 4 (by omega)) [] [] _ rfl rfl) (fun x ks' hR=>?_)
  obtain⟨_,r1,⟨rfl,rfl⟩,rfl,rfl⟩:=hR;conv=>whnf
  refine⟨fun h1=>?_,fun h1=>?_⟩
  ·have e:r.num 4=((r.raw 4).1,0):=by unfold Rdr.num;rw[if_pos (show(r.raw ((4:Nat):Int)).1.bad=true from h1)];rfl
   rw[e];conv=>whnf
   refine⟨[0],.d (.int .u64 0),[(r.raw 4).1.kb],rfl,rfl,rfl,?_,_,rfl,rfl,rfl⟩;repeat'(first|exact ⟨⟩|exact rfl|exact fun _=>Iff.rfl|exact fun _ _=>rfl|exact renM_ent rfl _|apply And.intro)
  ·have hrl:(r.raw ((4:Nat):Int)).2.length=4:=Rdr.raw_len 4 h1
   have e:r.num 4=((r.raw 4).1,qe0 (r.raw ((4:Nat):Int)).2):=by unfold Rdr.num;rw[if_neg (by rw[show(r.raw ((4:Nat):Int)).1.bad=false from h1];simp)];rfl
   rw[e];obtain⟨b0,t0,e0,l0⟩:=ko hrl;obtain⟨b1,t1,e1,l1⟩:=ko l0;obtain⟨b2,t2,e2,l2⟩:=ko l1;obtain⟨b3,t3,e3,l3⟩:=ko l2;subst e1;subst e2;subst e3;have e9:=rx.1 l3
   subst e9;rw[e0];rw[show(r.raw 4).2=[b0,b1,b2,b3] from e0];conv=>whnf
   repeat(first|(refine brT rfl ?_;conv=>whnf)|(refine brF rfl ?_;conv=>whnf)|(refine .once ?_;conv=>whnf)|(refine⟨by decide,?_⟩;conv=>whnf)|(refine And.intro (lx rfl) ?_;conv=>whnf))
   refine⟨[0],.d (.int .u64 (qe0 [b0,b1,b2,b3])),[(r.raw 4).1.kb],rfl,rfl,?_,?_,_,rfl,rfl,rfl⟩
   ·exact congrArg (fun z=>SV.d (DV.int .u64 z)) (acc8 (0) (0) (0) (0) (b0.toNat) (b1.toNat) (b2.toNat) (b3.toNat) (by omega) (by omega) (by omega) (by omega) (UInt8.toNat_lt _) (UInt8.toNat_lt _) (UInt8.toNat_lt _) (UInt8.toNat_lt _))
   ·repeat'(first|exact ⟨⟩|exact rfl|exact fun _=>Iff.rfl|exact fun _ _=>rfl|exact renM_ent rfl _|apply And.intro)
 ·conv=>whnf
  repeat(first|(refine brT rfl ?_;conv=>whnf)|(refine brF rfl ?_;conv=>whnf)|(refine .once ?_;conv=>whnf)|(refine⟨by decide,?_⟩;conv=>whnf)|(refine And.intro (lx rfl) ?_;conv=>whnf))
  refine .rel _ (je8 (jg2 r hr 8 (by omega)) [] [] _ rfl rfl) (fun x ks' hR=>?_)
  obtain⟨_,r1,⟨rfl,rfl⟩,rfl,rfl⟩:=hR;conv=>whnf
  refine⟨fun h1=>?_,fun h1=>?_⟩
  ·have e:r.num 8=((r.raw 8).1,0):=by unfold Rdr.num;rw[if_pos (show(r.raw ((8:Nat):Int)).1.bad=true from h1)];rfl
   rw[e];conv=>whnf
   refine⟨[0],.d (.int .u64 0),[(r.raw 8).1.kb],rfl,rfl,rfl,?_,_,rfl,rfl,rfl⟩;repeat'(first|exact ⟨⟩|exact rfl|exact fun _=>Iff.rfl|exact fun _ _=>rfl|exact renM_ent rfl _|apply And.intro)
  ·have hrl:(r.raw ((8:Nat):Int)).2.length=8:=Rdr.raw_len 8 h1
   have e:r.num 8=((r.raw 8).1,qe0 (r.raw ((8:Nat):Int)).2):=by unfold Rdr.num;rw[if_neg (by rw[show(r.raw ((8:Nat):Int)).1.bad=false from h1];simp)];rfl
   rw[e];obtain⟨b0,t0,e0,l0⟩:=ko hrl;obtain⟨b1,t1,e1,l1⟩:=ko l0;obtain⟨b2,t2,e2,l2⟩:=ko l1;obtain⟨b3,t3,e3,l3⟩:=ko l2;obtain⟨b4,t4,e4,l4⟩:=ko l3;obtain⟨b5,t5,e5,l5⟩:=ko l4;obtain⟨b6,t6,e6,l6⟩:=ko l5;obtain⟨b7,t7,e7,l7⟩:=ko l6;subst e1;subst e2;subst e3;subst e4;subst e5;subst e6;subst e7;have e9:=rx.1 l7
   subst e9;rw[e0];rw[show(r.raw 8).2=[b0,b1,b2,b3,b4,b5,b6,b7] from e0];conv=>whnf
   repeat(first|(refine brT rfl ?_;conv=>whnf)|(refine brF rfl ?_;conv=>whnf)|(refine .once ?_;conv=>whnf)|(refine⟨by decide,?_⟩;conv=>whnf)|(refine And.intro (lx rfl) ?_;conv=>whnf))
   refine⟨[0],.d (.int .u64 (qe0 [b0,b1,b2,b3,b4,b5,b6,b7])),[(r.raw 8).1.kb],rfl,rfl,?_,?_,_,rfl,rfl,rfl⟩
   ·exact congrArg (fun z=>SV.d (DV.int .u64 z)) (acc8 (b0.toNat) (b1.toNat) (b2.toNat) (b3.toNat) (b4.toNat) (b5.toNat) (b6.toNat) (b7.toNat) (UInt8.toNat_lt _) (UInt8.toNat_lt _) (UInt8.toNat_lt _) (UInt8.toNat_lt _) (UInt8.toNat_lt _) (UInt8.toNat_lt _) (UInt8.toNat_lt _) (UInt8.toNat_lt _))
   ·repeat'(first|exact ⟨⟩|exact rfl|exact fun _=>Iff.rfl|exact fun _ _=>rfl|exact renM_ent rfl _|apply And.intro)
def Q.V(q:Q):SV:=.agg [.d (.str q.nm),.d (.int .u16 q.ty),.d (.int .u16 q.cl)]
def xm(q:Q)(zone:List UInt8)(r:RR):Bool:=r.ty == 6 && (qd r.nm zone && (qd q.nm r.nm && ju r))
def uw(m:Msg)(q:Q)(zone:List UInt8):Option RR:=m.heads.find? (xm q zone)
def noR:RR:=⟨[],0,0,0,[]⟩
def uv(m:Msg)(q:Q)(zone:List UInt8):RR × Int:=match uw m q zone with
 |some r=>(r,0)
 |none=>(noR,3)
theorem jp1(r:RR):FnOk Tryz.prog 69 [r.V] (.d (.bool (ju r))):=by
 refine qp (TT:=TT) (IN:=qh []) qk qj mixed 1000 Tryz.func69 rfl (qi Tryz.func69 (by kernel_rfl) rfl) rfl 10 (by kernel_rfl) ?_
 unfold ju
 conv=>whnf
 refine⟨fun h1=>?_,fun h1=>?_⟩
 ·have h1:(r.cl == 1)=true:=h1
  rw[h1];conv=>whnf
  refine od (qy8 r) rfl rfl ?_;conv=>whnf
  cases r.check <;> exact rfl
 ·have h1:(r.cl == 1)=false:=h1
  rw[h1];conv=>whnf
  all_goals exact rfl
theorem zv9{p:RR->Bool}{l:List RR}{i:Nat}{r:RR}(h:l[i]? = some r)(hr:p r=false)(hd:(l.drop i).find? p=l.find? p):(l.drop (i+1)).find? p=l.find? p:=by
 have hi:i<l.length:=(po.1 h).1
 have e:l.drop i=r :: l.drop (i+1):=by rw [ly hi];congr 1;rw [pn hi] at h;exact pw h
 rw[<-hd,e,List.find?_cons,hr]
theorem xe1{p:RR->Bool}{l:List RR}{i:Nat}{r:RR}(h:l[i]? = some r)(hr:p r=true)(hd:(l.drop i).find? p=l.find? p):l.find? p=some r:=by
 have hi:i<l.length:=(po.1 h).1
 have e:l.drop i=r :: l.drop (i+1):=by rw [ly hi];congr 1;rw [pn hi] at h;exact pw h
 rw[<-hd,e,List.find?_cons,hr]
theorem jq8(m:Msg)(hm:m.heads.length<=1000000)(q:Q)(zone:List UInt8):FnOk Tryz.prog 65 [.agg m.cells,q.V,.d (.str zone)] (.tup [(uv m q zone).1.V,.d (.int .i64 (uv m q zone).2)]):=by
 refine qp (TT:=TT) (IN:=qh [(104,Tryz.f104,2),(105,Tryz.f105,3)]) qk (jj (jj qj Tryz.func105 (by kernel_rfl) (by kernel_rfl)) Tryz.func104 (by kernel_rfl) (by kernel_rfl)) mixed 1000 Tryz.func65 rfl (qi Tryz.func65 (by kernel_rfl) rfl) rfl 18 (by kernel_rfl) ?_
 unfold uv uw
 conv=>whnf
 refine .inv Nat (fun i=>i<=m.heads.length/\(m.heads.drop i).find? (xm q zone)=m.heads.find? (xm q zone)) (fun i=>[(8,iV i)]) (fun i=>[]) (fun i=>m.heads.length - i) ⟨0,[0,1,2,3],⟨pu _,rfl⟩,?_⟩ ?_
 ·conv=>whnf
  repeat'(first|exact ⟨⟩|exact rfl|exact qa _|exact .inr rfl|exact fun _ _=>rfl|exact noI|apply And.intro)
 intro i hi;obtain⟨hi,hd⟩:=hi;conv=>whnf
 refine⟨fun h1=>?_,fun h1=>?_⟩
 ·have h1:i<m.heads.length:=by
   have h:(i:Int)<m.heads.length:=of_decide_eq_true h1
   omega
  have hw1:=w64s i (by omega)
  obtain⟨r,hr⟩:∃ r,m.heads.getD i default=r:=⟨_,rfl⟩;have hrl:m.heads[i]? = some r:=by rw[<-hr,List.getD,pn h1];rfl
  have hsk:=zv9 (p:=xm q zone) hrl
  conv=>whnf
  refine⟨by omega,?_⟩
  conv=>whnf
  rw[pp,hr];have hhit:=xe1 (p:=xm q zone) hrl;refine⟨fun g1=>?_,fun g1=>?_⟩
  ·have g1:(r.ty == 6)=true:=g1
   conv=>whnf
   refine od (qa1 _ _) rfl rfl ?_;cases g2:qd r.nm zone with
   |false =>
    have hp:xm q zone r=false:=by unfold xm;rw[g1,g2];rfl
    conv=>whnf
    repeat(first|(refine brF rfl ?_;conv=>whnf)|(refine brT rfl ?_;conv=>whnf))
    rw[hw1];refine⟨i+1,[0,1,2,3],⟨h1,hsk hp hd⟩,by omega,?_⟩
    conv=>whnf
    repeat'(first|exact ⟨⟩|exact rfl|exact qa _|exact .inr rfl|exact fun _ _=>rfl|exact noI|apply And.intro)
   |true =>
    conv=>whnf
    refine brT rfl ?_;conv=>whnf
    refine od (qa1 _ _) rfl rfl ?_;cases g3:qd q.nm r.nm with
    |false =>
     have hp:xm q zone r=false:=by unfold xm;rw[g1,g2,g3];rfl
     conv=>whnf
     repeat(first|(refine brF rfl ?_;conv=>whnf)|(refine brT rfl ?_;conv=>whnf))
     rw[hw1];refine⟨i+1,[0,1,2,3],⟨h1,hsk hp hd⟩,by omega,?_⟩
     conv=>whnf
     repeat'(first|exact ⟨⟩|exact rfl|exact qa _|exact .inr rfl|exact fun _ _=>rfl|exact noI|apply And.intro)
    |true =>
     conv=>whnf
     refine brT rfl ?_;conv=>whnf
     refine od (jp1 r) rfl rfl ?_;cases g4:ju r with
     |false =>
      have hp:xm q zone r=false:=by unfold xm;rw[g1,g2,g3,g4];rfl
      conv=>whnf
      repeat(first|(refine brF rfl ?_;conv=>whnf)|(refine brT rfl ?_;conv=>whnf))
      rw[hw1];refine⟨i+1,[0,1,2,3],⟨h1,hsk hp hd⟩,by omega,?_⟩
      conv=>whnf
      repeat'(first|exact ⟨⟩|exact rfl|exact qa _|exact .inr rfl|exact fun _ _=>rfl|exact noI|apply And.intro)
     |true =>
      have hp:xm q zone r=true:=by unfold xm;rw[g1,g2,g3,g4];rfl
      rw[hhit hp hd];conv=>whnf
      refine brT rfl ?_;conv=>whnf
      refine brF (decide_eq_false (by show ¬ ((i:Nat):Int)<0;omega)) ?_
      conv=>whnf
      refine⟨by omega,?_⟩
      conv=>whnf
      rw[pp,hr];repeat'(first|exact ⟨⟩|exact rfl|exact .inr rfl|exact .inl rfl|exact fun _ _=>rfl|exact noI|apply And.intro)
  ·have g1:(r.ty == 6)=false:=g1
   have hp:xm q zone r=false:=by unfold xm;rw[g1];rfl
   conv=>whnf
   repeat(first|(refine brF rfl ?_;conv=>whnf)|(refine brT rfl ?_;conv=>whnf))
   rw[hw1];refine⟨i+1,[0,1,2,3],⟨h1,hsk hp hd⟩,by omega,?_⟩
   conv=>whnf
   repeat'(first|exact ⟨⟩|exact rfl|exact qa _|exact .inr rfl|exact fun _ _=>rfl|exact noI|apply And.intro)
 ·have h1:i=m.heads.length:=by
   have h:¬ (i:Int)<m.heads.length:=of_decide_eq_false h1
   omega
  subst h1;rw [ao] at hd;rw[<-hd];conv=>whnf
  refine brT rfl ?_;conv=>whnf
  repeat'(first|exact ⟨⟩|exact rfl|exact .inr rfl|exact .inl rfl|exact fun _ _=>rfl|exact noI|apply And.intro)
def qb7(m:Msg)(q:Q)(zone:List UInt8):Bool:=m.code == 3 && (uw m q zone).isSome
theorem ys7(m:Msg):FnOk Tryz.prog 64 [.agg m.cells] (.d (.int .i64 m.code)):=by
 refine qp (TT:=TT) (IN:=qh []) qk qj mixed 1000 Tryz.func64 rfl (qi Tryz.func64 (by kernel_rfl) rfl) rfl 6 (by kernel_rfl) ?_
 conv=>whnf
 all_goals exact rfl
theorem jl5(m:Msg)(q:Q)(zone:List UInt8):((uv m q zone).2 == 0)=(uw m q zone).isSome:=by
 unfold uv
 cases uw m q zone <;> rfl
theorem jd9(m:Msg)(hm:m.heads.length<=1000000)(q:Q)(zone:List UInt8):FnOk Tryz.prog 33 [.agg m.cells,q.V,.d (.str zone)] (.d (.bool (qb7 m q zone))):=by
 refine qp (TT:=TT) (IN:=qh []) qk qj mixed 1000 Tryz.func33 rfl (qi Tryz.func33 (by kernel_rfl) rfl) rfl 18 (by kernel_rfl) ?_
 unfold qb7
 conv=>whnf
 refine od (ys7 m) rfl rfl ?_;conv=>whnf
 refine⟨fun h1=>?_,fun h1=>?_⟩
 ·have h1:(m.code == 3)=false:=by simpa using h1
  rw[h1];conv=>whnf
  all_goals exact rfl
 ·have h1:(m.code == 3)=true:=by simpa using h1
  rw[h1];conv=>whnf
  refine od (jq8 m hm q zone) rfl rfl ?_;conv=>whnf
  rw[jl5];all_goals exact rfl
def zq(q:Q)(r:RR):Bool:=(r.ty == q.ty || r.ty == 5) && (jq r.nm q.nm && ju r)
def qd6(m:Msg)(q:Q)(zone:List UInt8):Bool:=m.code == 0 && ((uw m q zone).isSome && !m.says.any (zq q))
theorem jd6(m:Msg)(hm:m.heads.length<=1000000)(hs:m.says.length<=1000000)(q:Q)(zone:List UInt8):FnOk Tryz.prog 35 [.agg m.cells,q.V,.d (.str zone)] (.d (.bool (qd6 m q zone))):=by
 refine qp (TT:=TT) (IN:=qh [(67,Tryz.f67,2),(104,Tryz.f104,2),(68,Tryz.f68,2)]) qk (jj (jj (jj qj Tryz.func68 (by kernel_rfl) (by kernel_rfl)) Tryz.func104 (by kernel_rfl) (by kernel_rfl)) Tryz.func67 (by kernel_rfl) (by kernel_rfl)) mixed 1000 Tryz.func35 rfl (qi Tryz.func35 (by kernel_rfl) rfl) rfl 23 (by kernel_rfl) ?_
 unfold qd6
 conv=>whnf
 refine od (ys7 m) rfl rfl ?_;conv=>whnf
 refine⟨fun h1=>?_,fun h1=>?_⟩
 ·have h1:(m.code == 0)=false:=by simpa using h1
  rw[h1];conv=>whnf
  all_goals exact rfl
 have h1:(m.code == 0)=true:=by simpa using h1
 rw[h1];conv=>whnf
 refine od (jq8 m hm q zone) rfl rfl ?_;conv=>whnf
 refine⟨fun h2=>?_,fun h2=>?_⟩
 ·have h2:(uw m q zone).isSome=false:=by rw[<-jl5];simpa using h2
  rw[h2];conv=>whnf
  all_goals exact rfl
 have h2:(uw m q zone).isSome=true:=by rw[<-jl5];simpa using h2
 rw[h2];conv=>whnf
 refine .inv Nat (fun i=>i<=m.says.length/\(m.says.take i).any (zq q)=false) (fun i=>[(8,iV i)]) (fun i=>[]) (fun i=>m.says.length - i) ⟨0,[0,1,2],⟨pu _,rfl⟩,?_⟩ ?_
 ·conv=>whnf
  repeat'(first|exact ⟨⟩|exact rfl|exact qa _|exact .inr rfl|exact fun _ _=>rfl|exact noI|apply And.intro)
 intro i hi;obtain⟨hi,hd⟩:=hi;conv=>whnf
 refine⟨fun h3=>?_,fun h3=>?_⟩
 ·have h3:i<m.says.length:=by
   have h:(i:Int)<m.says.length:=of_decide_eq_true h3
   omega
  have hw1:=w64s i (by omega)
  obtain⟨r,hr⟩:∃ r,m.says.getD i default=r:=⟨_,rfl⟩;have hrl:m.says[i]? = some r:=by rw[<-hr,List.getD,pn h3];rfl
  have hsk:zq q r=false->(m.says.take i).any (zq q)=false->(m.says.take (i+1)).any (zq q)=false:=fun h1 h2=>by
   rw[mr,hrl,List.any_append,h2];simp[h1]
  conv=>whnf
  refine⟨by omega,?_⟩
  conv=>whnf
  rw[pp,hr];refine⟨fun g1=>?_,fun g1=>?_⟩
  ·have g1:(r.ty == q.ty)=true:=g1
   conv=>whnf
   refine od (jc6 _ _) rfl rfl ?_;cases g2:jq r.nm q.nm with
   |false =>
    have hp:zq q r=false:=by unfold zq;rw[g1,g2];rfl
    conv=>whnf
    repeat(first|(refine brF rfl ?_;conv=>whnf)|(refine brT rfl ?_;conv=>whnf))
    rw[hw1];refine⟨i+1,[0,1,2],⟨h3,hsk hp hd⟩,by omega,?_⟩
    conv=>whnf
    repeat'(first|exact ⟨⟩|exact rfl|exact qa _|exact .inr rfl|exact fun _ _=>rfl|exact noI|apply And.intro)
   |true =>
    conv=>whnf
    refine brT rfl ?_;conv=>whnf
    refine od (jp1 r) rfl rfl ?_;cases g3:ju r with
    |false =>
     have hp:zq q r=false:=by unfold zq;rw[g1,g2,g3];rfl
     conv=>whnf
     repeat(first|(refine brF rfl ?_;conv=>whnf)|(refine brT rfl ?_;conv=>whnf))
     rw[hw1];refine⟨i+1,[0,1,2],⟨h3,hsk hp hd⟩,by omega,?_⟩
     conv=>whnf
     repeat'(first|exact ⟨⟩|exact rfl|exact qa _|exact .inr rfl|exact fun _ _=>rfl|exact noI|apply And.intro)
    |true =>
     have hp:zq q r=true:=by unfold zq;rw[g1,g2,g3];rfl
     have hb:m.says.any (zq q)=true:=bu.2 ⟨r,py hrl,hp⟩
     rw[hb];conv=>whnf
     repeat(first|(refine brF rfl ?_;conv=>whnf)|(refine brT rfl ?_;conv=>whnf))
     show _=_
     rw[decide_eq_true (by omega:((i:Nat):Int) >= 0)]
     rfl
  ·have g1:(r.ty == q.ty)=false:=g1
   conv=>whnf
   refine⟨fun g0=>?_,fun g0=>?_⟩
   ·have g0:(r.ty == 5)=true:=g0
    conv=>whnf
    refine od (jc6 _ _) rfl rfl ?_;cases g2:jq r.nm q.nm with
    |false =>
     have hp:zq q r=false:=by unfold zq;rw[g1,g0,g2];rfl
     conv=>whnf
     repeat(first|(refine brF rfl ?_;conv=>whnf)|(refine brT rfl ?_;conv=>whnf))
     rw[hw1];refine⟨i+1,[0,1,2],⟨h3,hsk hp hd⟩,by omega,?_⟩
     conv=>whnf
     repeat'(first|exact ⟨⟩|exact rfl|exact qa _|exact .inr rfl|exact fun _ _=>rfl|exact noI|apply And.intro)
    |true =>
     conv=>whnf
     refine brT rfl ?_;conv=>whnf
     refine od (jp1 r) rfl rfl ?_;cases g3:ju r with
     |false =>
      have hp:zq q r=false:=by unfold zq;rw[g1,g0,g2,g3];rfl
      conv=>whnf
      repeat(first|(refine brF rfl ?_;conv=>whnf)|(refine brT rfl ?_;conv=>whnf))
      rw[hw1];refine⟨i+1,[0,1,2],⟨h3,hsk hp hd⟩,by omega,?_⟩
      conv=>whnf
      repeat'(first|exact ⟨⟩|exact rfl|exact qa _|exact .inr rfl|exact fun _ _=>rfl|exact noI|apply And.intro)
     |true =>
      have hp:zq q r=true:=by unfold zq;rw[g1,g0,g2,g3];rfl
      have hb:m.says.any (zq q)=true:=bu.2 ⟨r,py hrl,hp⟩
      rw[hb];conv=>whnf
      repeat(first|(refine brF rfl ?_;conv=>whnf)|(refine brT rfl ?_;conv=>whnf))
      show _=_
      rw[decide_eq_true (by omega:((i:Nat):Int) >= 0)]
      rfl
   ·have g0:(r.ty == 5)=false:=g0
    have hp:zq q r=false:=by unfold zq;rw[g1,g0];rfl
    conv=>whnf
    repeat(first|(refine brF rfl ?_;conv=>whnf)|(refine brT rfl ?_;conv=>whnf))
    rw[hw1];refine⟨i+1,[0,1,2],⟨h3,hsk hp hd⟩,by omega,?_⟩
    conv=>whnf
    repeat'(first|exact ⟨⟩|exact rfl|exact qa _|exact .inr rfl|exact fun _ _=>rfl|exact noI|apply And.intro)
 ·have h3:i=m.says.length:=by
   have h:¬ (i:Int)<m.says.length:=of_decide_eq_false h3
   omega
  subst h3;rw [mz] at hd;rw[hd];conv=>whnf
  all_goals exact rfl
def qq1(s:List UInt8):Int × Int:=if q9 6 s then (IntKind.u32.wrap ((Rdr.num ⟨s.drop (s.length - 4),0,false⟩ 4).2:Nat),0) else (0,2)
theorem xh2{s:List UInt8}(h:q9 6 s=true):20<=s.length/\s.length<=4096:=by
 unfold q9 at h
 simp only [px,decide_eq_true_eq] at h
 refine⟨?_,h.1⟩;have h2:(cutF 0 2 5 s).isSome=true:=h.2;obtain⟨x,hx⟩:=ru.1 h2;unfold cutF at hx;split at hx
 ·cases hx
 ·obtain⟨p,hp,hq⟩:=Option.bind_eq_some_iff.1 hx;split at hq
  ·rename_i hl
   obtain⟨l,r⟩:=p;have:=(jl0 2 (s.drop (2 * 0)) l r hp).2;simp at this hl;omega
  ·cases hq
theorem xc4(s:List UInt8):FnOk Tryz.prog 106 [.d (.str s)] (.tup [.d (.int .u32 (qq1 s).1),.d (.int .i64 (qq1 s).2)]):=by
 refine qp (TT:=TT) (IN:=qh []) qk qj mixed 1000 Tryz.func106 rfl (qi Tryz.func106 (by kernel_rfl) rfl) rfl 14 (by kernel_rfl) ?_
 unfold qq1
 conv=>whnf
 refine od (jm6 6 s) rfl rfl ?_;cases h:q9 6 s with
 |false =>
  rw[if_neg (by decide)]
  conv=>whnf
  refine brT rfl ?_;conv=>whnf
  repeat'(first|exact ⟨⟩|exact rfl|exact .inr rfl|exact .inl rfl|exact fun _ _=>rfl|exact noI|apply And.intro)
 |true =>
  obtain⟨h1,h2⟩:=xh2 h;rw[if_pos rfl];conv=>whnf
  refine brF rfl ?_;conv=>whnf
  have hw1:IntKind.i64.wrap ((s.length:Int) - 4)=((s.length - 4:Nat):Int):=by rw[qe _ (by omega)];omega
  rw[hw1];refine⟨⟨by omega,by omega,br _⟩,?_⟩
  conv=>whnf
  rw[show sub s ((s.length - 4:Nat):Int) (s.length:Int)=s.drop (s.length - 4) by unfold sub;rw[pp,pp,gt (by rw[ow];omega)]]
  refine .rel _ (xi1 _) (fun r ks' hR=>?_)
  obtain⟨rfl,rfl⟩:=hR;conv=>whnf
  refine .rel _ (xh8 ⟨s.drop (s.length - 4),0,false⟩ ⟨by show(s.drop _).length<_;rw[ow];omega,pu _⟩ 4 (.inr (.inr (.inl rfl)))) (fun r ks' hR=>?_)
  obtain⟨r1,rfl,rfl,rfl⟩:=hR;conv=>whnf
  repeat'(first|exact ⟨⟩|exact rfl|exact .inr rfl|exact .inl rfl|exact fun _ _=>rfl|exact noI|apply And.intro)
def ttlA(m:Msg)(q:Q)(zone:List UInt8):Int × Int:=if (uv m q zone).2=0 then (if (qq1 (uv m q zone).1.d).2=0 then
 ((fun a b=>if (10800:Int)<(if b<a then b else a) then 10800 else (if b<a then b else a)) (uv m q zone).1.ttl (qq1 (uv m q zone).1.d).1,0) else (0,3)) else (0,(uv m q zone).2)
theorem xk6(m:Msg)(hm:m.heads.length<=1000000)(q:Q)(zone:List UInt8):FnOk Tryz.prog 66 [.agg m.cells,q.V,.d (.str zone)] (.tup [.d (.int .u32 (ttlA m q zone).1),.d (.int .i64 (ttlA m q zone).2)]):=by
 refine qp (TT:=TT) (IN:=qh []) qk qj mixed 1000 Tryz.func66 rfl (qi Tryz.func66 (by kernel_rfl) rfl) rfl 30 (by kernel_rfl) ?_
 unfold ttlA
 conv=>whnf
 refine od (jq8 m hm q zone) rfl rfl ?_;generalize uv m q zone=h;conv=>whnf
 refine⟨fun h1=>?_,fun h1=>?_⟩
 ·have h1:h.2≠0:=by simpa using h1
  rw[if_neg h1];conv=>whnf
  repeat'(first|exact ⟨⟩|exact rfl|exact .inr rfl|exact .inl rfl|exact fun _ _=>rfl|exact noI|apply And.intro)
 have h1:h.2=0:=by simpa using h1
 rw[if_pos h1];conv=>whnf
 refine od (xc4 h.1.d) rfl rfl ?_;generalize qq1 h.1.d=l;conv=>whnf
 refine⟨fun h2=>?_,fun h2=>?_⟩
 ·have h2:l.2≠0:=by simpa using h2
  rw[if_neg h2];conv=>whnf
  repeat'(first|exact ⟨⟩|exact rfl|exact .inr rfl|exact .inl rfl|exact fun _ _=>rfl|exact noI|apply And.intro)
 have h2:l.2=0:=by simpa using h2
 rw[if_pos h2];conv=>whnf
 repeat'(first|exact ⟨⟩|exact rfl|exact .inr rfl|exact .inl rfl|exact fun _ _=>rfl|exact noI|apply And.intro)
structure Cls where
 kind:Int
 chain:List St
 ans:St
 target:List UInt8
 ttl:Int
def Cls.V(c:Cls):SV:=.agg [.d (.int .u8 c.kind),.d (stsD c.chain.isEmpty c.chain),.d (.str c.ans.nm),.d (.int .u16 c.ans.ty),.d (.int .u32 c.ans.ttl),.d (.sl c.ans.z c.ans.data.length 1 (strs c.ans.data)),.d (.str c.target),.d (.int .u32 c.ttl)]
def jv0(kind:Int)(m:Msg)(q:Q)(zone:List UInt8):Cls:=⟨kind,[],St.no,q.nm,(ttlA m q zone).1⟩
theorem qg0(kind:Int)(m:Msg)(hm:m.heads.length<=1000000)(q:Q)(zone:List UInt8):FnOk Tryz.prog 34 [.d (.int .u8 kind),.agg m.cells,q.V,.d (.str zone)] (jv0 kind m q zone).V:=by
 refine qp (TT:=TT) (IN:=qh []) qk qj mixed 1000 Tryz.func34 rfl (qi Tryz.func34 (by kernel_rfl) rfl) rfl 19 (by kernel_rfl) ?_
 conv=>whnf
 refine od (xk6 m hm q zone) rfl rfl ?_;conv=>whnf
 repeat'(first|exact ⟨⟩|exact rfl|exact .inr rfl|exact .inl rfl|exact fun _ _=>rfl|exact noI|apply And.intro)
def qh3(n z:List UInt8):Int:=if qd n z then (qg n:Int) - (qg z:Int) else -1
theorem ym8(n:List UInt8):qg n<=255:=qz2
theorem xe7(n z:List UInt8):FnOk Tryz.prog 70 [.d (.str n),.d (.str z)] (.d (.int .i64 (qh3 n z))):=by
 refine qp (TT:=TT) (IN:=qh []) qk qj mixed 1000 Tryz.func70 rfl (qi Tryz.func70 (by kernel_rfl) rfl) rfl 12 (by kernel_rfl) ?_
 unfold qh3
 conv=>whnf
 refine od (qa1 n z) rfl rfl ?_;cases qd n z with
 |false =>
  rw[if_neg (by decide)]
  conv=>whnf
  refine brT rfl ?_;conv=>whnf
  all_goals exact rfl
 |true =>
  have h1:=ym8 n
  have h2:=ym8 z
  rw[if_pos rfl];conv=>whnf
  refine brF rfl ?_;conv=>whnf
  refine od (jd4 n) rfl rfl ?_;conv=>whnf
  refine od (jd4 z) rfl rfl ?_;conv=>whnf
  rw[qe _ (by omega)]
  all_goals exact rfl
def refP(zone:List UInt8)(r:RR):Bool:=r.ty == 2 && (r.cl == 1 && (decide (qh3 r.nm zone > 0) && r.check))
def qc9(m:Msg)(zone:List UInt8):List (List UInt8):=(m.heads.filter (refP zone)).map (·.nm)
def vu(m:Msg)(q:Q)(zone:List UInt8):St × Int:=if m.code=0 then (if (ud q.nm (qc9 m zone)).2=0 then qc (ud q.nm (qc9 m zone)).1 2 m.heads else (St.no,3)) else (St.no,3)
def qb4(m:Msg)(zone:List UInt8)(i:Nat):List (List UInt8):=((m.heads.take i).filter (refP zone)).map (·.nm)
theorem zl7{m:Msg}{zone:List UInt8}{i:Nat}{r:RR}(h:m.heads[i]? = some r):qb4 m zone (i+1)=if refP zone r then qb4 m zone i++[r.nm] else qb4 m zone i:=by
 unfold qb4
 rw[mr,h];cases hp:refP zone r <;> simp[hp]
theorem zs4(m:Msg)(zone:List UInt8)(i:Nat):(qb4 m zone i).length<=i:=by
 unfold qb4
 rw[o4];exact o7 (fq _ _) (by rw[m9];omega)
theorem ja5(m:Msg)(hm:u5 m.heads)(q:Q)(zone:List UInt8):FnOk Tryz.prog 36 [.agg m.cells,q.V,.d (.str zone)] (.tup [(vu m q zone).1.V,.d (.int .i64 (vu m q zone).2)]):=by
 refine qp (TT:=TT) (IN:=qh []) qk qj mixed 1000 Tryz.func36 rfl (qi Tryz.func36 (by kernel_rfl) rfl) rfl 63 (by kernel_rfl) ?_
 unfold vu
 conv=>whnf
 refine od (yv7 m) rfl rfl ?_;conv=>whnf
 refine⟨fun h1=>?_,fun h1=>?_⟩
 ·have h1:¬ m.code=0:=by simpa using h1
  rw[if_neg h1];conv=>whnf
  repeat'(first|exact ⟨⟩|exact rfl|exact .inr rfl|exact .inl rfl|exact fun _ _=>rfl|exact noI|apply And.intro)
 have h1:m.code=0:=by simpa using h1
 rw[if_pos h1];conv=>whnf
 refine .nilT 8 9 1 (strs []) _ _ rfl ?_;conv=>whnf
 refine .inv Nat (fun i=>i<=m.heads.length) (fun i=>[(20,iV i),(8,.all 3)]) (fun i=>[(3,.row 9 1 (qb4 m zone i).length .iff (strs (qb4 m zone i)))]) (fun i=>m.heads.length - i) ⟨0,[0,1,2,3],pu _,?_⟩ ?_
 ·conv=>whnf
  repeat'(first|exact ⟨⟩|exact rfl|exact qa _|exact .inr rfl|exact fun _ _=>rfl|exact noI|apply And.intro)
 intro i hi;conv=>whnf
 have hlen:=hm.1
 have htl:=zs4 m zone i
 refine⟨fun h2=>?_,fun h2=>?_⟩
 ·have h2:i<m.heads.length:=by
   have h:(i:Int)<m.heads.length:=of_decide_eq_true h2
   omega
  have hw1:=w64s i (by omega)
  obtain⟨r,hr⟩:∃ r,m.heads.getD i default=r:=⟨_,rfl⟩;have hrl:m.heads[i]? = some r:=by rw[<-hr,List.getD,pn h2];rfl
  have hnx:=zl7 (zone:=zone) hrl
  conv=>whnf
  refine⟨by omega,?_⟩
  conv=>whnf
  rw[pp,hr];refine⟨fun g1=>?_,fun g1=>?_⟩
  ·have g1:(r.ty == 2)=true:=g1
   conv=>whnf
   refine⟨fun g2=>?_,fun g2=>?_⟩
   ·have g2:(r.cl == 1)=true:=g2
    conv=>whnf
    refine od (xe7 _ _) rfl rfl ?_;conv=>whnf
    refine⟨fun g3=>?_,fun g3=>?_⟩
    ·have g3:decide (qh3 r.nm zone > 0)=true:=g3
     conv=>whnf
     refine od (qy8 r) rfl rfl ?_;cases g4:r.check with
     |false =>
      have hp:refP zone r=false:=by unfold refP;rw[g1,g2,g3,g4];rfl
      rw [hp,if_neg (by decide)] at hnx
      conv=>whnf
      repeat(first|(refine brF rfl ?_;conv=>whnf)|(refine brT rfl ?_;conv=>whnf))
      rw[hw1];refine⟨i+1,[0,1,2,3],h2,by omega,?_⟩
      rw[hnx];conv=>whnf
      repeat'(first|exact ⟨⟩|exact rfl|exact qa _|exact .inr rfl|exact fun _ _=>rfl|exact noI|apply And.intro)
     |true =>
      have hp:refP zone r=true:=by unfold refP;rw[g1,g2,g3,g4];rfl
      rw [hp,if_pos rfl] at hnx;conv=>whnf
      refine brT rfl ?_;conv=>whnf
      refine⟨by omega,?_⟩
      conv=>whnf
      rw[hw1];refine⟨i+1,[0,1,2,6],h2,by omega,?_⟩
      rw[hnx];conv=>whnf
      repeat'(first|exact ⟨⟩|exact rfl|exact qa _|exact .inr rfl|exact fun _ _=>rfl|exact noI|apply And.intro)
      all_goals first
       |(show _+1=(_++[_]).length;simp;done)
       |exact kp _ _ _ rfl
    ·have g3:decide (qh3 r.nm zone > 0)=false:=g3
     have hp:refP zone r=false:=by unfold refP;rw[g1,g2,g3];rfl
     rw [hp,if_neg (by decide)] at hnx
     conv=>whnf
     repeat(first|(refine brF rfl ?_;conv=>whnf)|(refine brT rfl ?_;conv=>whnf))
     rw[hw1];refine⟨i+1,[0,1,2,3],h2,by omega,?_⟩
     rw[hnx];conv=>whnf
     repeat'(first|exact ⟨⟩|exact rfl|exact qa _|exact .inr rfl|exact fun _ _=>rfl|exact noI|apply And.intro)
   ·have g2:(r.cl == 1)=false:=g2
    have hp:refP zone r=false:=by unfold refP;rw[g1,g2];rfl
    rw [hp,if_neg (by decide)] at hnx
    conv=>whnf
    repeat(first|(refine brF rfl ?_;conv=>whnf)|(refine brT rfl ?_;conv=>whnf))
    rw[hw1];refine⟨i+1,[0,1,2,3],h2,by omega,?_⟩
    rw[hnx];conv=>whnf
    repeat'(first|exact ⟨⟩|exact rfl|exact qa _|exact .inr rfl|exact fun _ _=>rfl|exact noI|apply And.intro)
  ·have g1:(r.ty == 2)=false:=g1
   have hp:refP zone r=false:=by unfold refP;rw[g1];rfl
   rw [hp,if_neg (by decide)] at hnx
   conv=>whnf
   repeat(first|(refine brF rfl ?_;conv=>whnf)|(refine brT rfl ?_;conv=>whnf))
   rw[hw1];refine⟨i+1,[0,1,2,3],h2,by omega,?_⟩
   rw[hnx];conv=>whnf
   repeat'(first|exact ⟨⟩|exact rfl|exact qa _|exact .inr rfl|exact fun _ _=>rfl|exact noI|apply And.intro)
 ·have h2:i=m.heads.length:=by
   have h:¬ (i:Int)<m.heads.length:=of_decide_eq_false h2
   omega
  subst h2;have hrn:qb4 m zone m.heads.length=qc9 m zone:=by unfold qb4 qc9;rw[mz]
  rw [hrn] at htl ⊢;have hns:∀ n ∈ qc9 m zone,n.length<=100000:=fun n hn=>by
   unfold qc9 at hn
   obtain⟨r,hr,rfl⟩:=o5.1 hn;exact(hm.2 r (l9.1 hr).1).1
  generalize qc9 m zone=N at htl hns ⊢;conv=>whnf
  refine .one (.view _ _ [3] (yf8 q.nm (Nat.beq N.length 0) N (by omega)) ?_ rfl rfl ?_)
  ·conv=>whnf
   exact⟨rfl,rfl⟩
  have hdm:∀ a,(ud q.nm N).1=a->(ud q.nm N).2=0->a.length<=100000:=fun a ha h0=>by
   unfold ud at ha h0
   split at ha
   ·rename_i hqn
    rw [if_pos hqn] at h0;cases hd:yp q.nm N none with
    |none=>rw [hd] at h0;cases h0
    |some c =>
     rw [hd] at ha;simp only at ha
     subst ha;rcases jb8 hd with h|h
     ·exact hns _ h
     ·cases h
   ·rename_i hqn
    rw [if_neg hqn] at h0;cases h0
  generalize ud q.nm N=D at hdm ⊢;conv=>whnf
  refine⟨fun h3=>?_,fun h3=>?_⟩
  ·have h3:¬ D.2=0:=by simpa using h3
   rw[if_neg h3];conv=>whnf
   repeat'(first|exact ⟨⟩|exact rfl|exact .inr rfl|exact .inl rfl|exact fun _ _=>rfl|exact noI|apply And.intro)
  ·have h3:D.2=0:=by simpa using h3
   rw[if_pos h3];conv=>whnf
   refine od (qp2 D.1 2 m.zh m.heads hm.1 (hdm _ rfl h3) (fun r hr=>(hm.2 r hr).1)) rfl rfl ?_
   conv=>whnf
   repeat'(first|exact ⟨⟩|exact rfl|exact .inr rfl|exact .inl rfl|exact fun _ _=>rfl|exact noI|apply And.intro)
def xi(m:Msg)(q:Q)(zone:List UInt8):Cls :=
 if m.code=0/\(qc (yk q.ty m.says 8 q.nm []).2 q.ty m.says).2=0 then ⟨1,(yk q.ty m.says 8 q.nm []).1,(qc (yk q.ty m.says 8 q.nm []).2 q.ty m.says).1,(yk q.ty m.says 8 q.nm []).2,0⟩
 else if 0<(yk q.ty m.says 8 q.nm []).1.length/\(m.code=0\/m.code=3) then ⟨2,(yk q.ty m.says 8 q.nm []).1,St.no,(yk q.ty m.says 8 q.nm []).2,0⟩
 else if qb7 m q zone then jv0 3 m q zone
 else if qd6 m q zone then jv0 4 m q zone
 else if (vu m q zone).2=0 then ⟨5,[],(vu m q zone).1,(vu m q zone).1.nm,0⟩
 else ⟨0,[],St.no,[],0⟩
theorem yg5{ty:Int}{L:List RR}(hL:∀ r ∈ L,r.d.length<=100000):∀ (k:Nat) (n:List UInt8) (c:List St),n.length<=100000->(yk ty L k n c).2.length<=100000
 |0,n,c,h=>h
 |k+1,n,c,h=>by
  unfold yk
  split
  ·exact h
  ·rename_i hc
   refine yg5 hL k _ _ ?_;cases hd:(qc n 5 L).1.data with
   |nil=>exact pu _
   |cons a b =>
    obtain⟨r,hr,e⟩:=yr4 (d:=a) (nm:=n) (t:=5) (l:=L) (by rw[hd];simp)
    show a.length<=100000
    rw[<-e];exact hL r hr
theorem xf2(m:Msg)(hs:u5 m.says)(hh:u5 m.heads)(q:Q)(hq:q.nm.length<=100000)(zone:List UInt8):FnOk Tryz.prog 14 [.agg m.cells,q.V,.d (.str zone)] (xi m q zone).V:=by
 refine qp (TT:=TT) (IN:=qh []) qk qj mixed 1000 Tryz.func14 rfl (qi Tryz.func14 (by kernel_rfl) rfl) rfl 81 (by kernel_rfl) ?_
 have hm1:m.heads.length<=1000000:=by have:=hh.1;omega
 have hs1:m.says.length<=1000000:=by have:=hs.1;omega
 have hce:=yg5 (ty:=q.ty) (fun r hr=>(hs.2 r hr).2) 8 q.nm [] hq
 unfold xi
 conv=>whnf
 refine od (yv7 m) rfl rfl ?_;conv=>whnf
 refine od (xf3 q hq m.zs m.says hs) rfl rfl ?_;generalize yk q.ty m.says 8 q.nm []=C at hce ⊢;obtain⟨ch,e⟩:=C;conv=>whnf
 refine⟨fun h1=>?_,fun h1=>?_⟩
 ·have h1:m.code=0:=by simpa using h1
  conv=>whnf
  refine od (qp2 e q.ty m.zs m.says hs.1 hce (fun r hr=>(hs.2 r hr).1)) rfl rfl ?_
  generalize qc e q.ty m.says=F;conv=>whnf
  refine⟨fun h2=>?_,fun h2=>?_⟩
  ·have h2:F.2=0:=by simpa using h2
   rw[if_pos ⟨h1,h2⟩];conv=>whnf
   repeat'(first|exact ⟨⟩|exact rfl|exact .inr rfl|exact .inl rfl|exact fun _ _=>rfl|exact noI|apply And.intro)
  ·have h2:¬ F.2=0:=by simpa using h2
   rw[if_neg (fun h=>h2 h.2)]
   conv=>whnf
   refine⟨fun g1=>?_,fun g1=>?_⟩
   ·have g1:0<ch.length:=by
     have h:(ch.length:Int) > 0:=of_decide_eq_true g1
     omega
    conv=>whnf
    refine⟨fun g2=>?_,fun g2=>?_⟩
    ·have g2:m.code=0:=by simpa using g2
     rw[if_pos ⟨g1,.inl g2⟩];conv=>whnf
     repeat'(first|exact ⟨⟩|exact rfl|exact .inr rfl|exact .inl rfl|exact fun _ _=>rfl|exact noI|apply And.intro)
    ·have g2:¬ m.code=0:=by simpa using g2
     conv=>whnf
     refine⟨fun g3=>?_,fun g3=>?_⟩
     ·have g3:m.code=3:=by simpa using g3
      rw[if_pos ⟨g1,.inr g3⟩];conv=>whnf
      repeat'(first|exact ⟨⟩|exact rfl|exact .inr rfl|exact .inl rfl|exact fun _ _=>rfl|exact noI|apply And.intro)
     ·have g3:¬ m.code=3:=by simpa using g3
      rw[if_neg (fun h=>h.2.elim g2 g3)]
      conv=>whnf
      refine od (jd9 m hm1 q zone) rfl rfl ?_;cases qb7 m q zone with
      |true =>
       rw[if_pos rfl];conv=>whnf
       refine brT rfl ?_;conv=>whnf
       refine od (qg0 3 m hm1 q zone) rfl rfl ?_;conv=>whnf
       repeat'(first|exact ⟨⟩|exact rfl|exact .inr rfl|exact .inl rfl|exact fun _ _=>rfl|exact noI|apply And.intro)
      |false =>
       rw[if_neg (by decide)]
       conv=>whnf
       refine brF rfl ?_;conv=>whnf
       refine od (jd6 m hm1 hs1 q zone) rfl rfl ?_;cases qd6 m q zone with
       |true =>
        rw[if_pos rfl];conv=>whnf
        refine brT rfl ?_;conv=>whnf
        refine od (qg0 4 m hm1 q zone) rfl rfl ?_;conv=>whnf
        repeat'(first|exact ⟨⟩|exact rfl|exact .inr rfl|exact .inl rfl|exact fun _ _=>rfl|exact noI|apply And.intro)
       |false =>
        rw[if_neg (by decide)]
        conv=>whnf
        refine brF rfl ?_;conv=>whnf
        refine od (ja5 m hh q zone) rfl rfl ?_;generalize vu m q zone=R;conv=>whnf
        refine⟨fun g6=>?_,fun g6=>?_⟩
        ·have g6:R.2=0:=by simpa using g6
         rw[if_pos g6];conv=>whnf
         repeat'(first|exact ⟨⟩|exact rfl|exact .inr rfl|exact .inl rfl|exact fun _ _=>rfl|exact noI|apply And.intro)
        ·have g6:¬ R.2=0:=by simpa using g6
         rw[if_neg g6];conv=>whnf
         repeat'(first|exact ⟨⟩|exact rfl|exact .inr rfl|exact .inl rfl|exact fun _ _=>rfl|exact noI|apply And.intro)
   ·have g1:¬ 0<ch.length:=by
     have h:¬ (ch.length:Int) > 0:=of_decide_eq_false g1
     omega
    rw[if_neg (fun h=>g1 h.1)]
    conv=>whnf
    refine od (jd9 m hm1 q zone) rfl rfl ?_;cases qb7 m q zone with
    |true =>
     rw[if_pos rfl];conv=>whnf
     refine brT rfl ?_;conv=>whnf
     refine od (qg0 3 m hm1 q zone) rfl rfl ?_;conv=>whnf
     repeat'(first|exact ⟨⟩|exact rfl|exact .inr rfl|exact .inl rfl|exact fun _ _=>rfl|exact noI|apply And.intro)
    |false =>
     rw[if_neg (by decide)]
     conv=>whnf
     refine brF rfl ?_;conv=>whnf
     refine od (jd6 m hm1 hs1 q zone) rfl rfl ?_;cases qd6 m q zone with
     |true =>
      rw[if_pos rfl];conv=>whnf
      refine brT rfl ?_;conv=>whnf
      refine od (qg0 4 m hm1 q zone) rfl rfl ?_;conv=>whnf
      repeat'(first|exact ⟨⟩|exact rfl|exact .inr rfl|exact .inl rfl|exact fun _ _=>rfl|exact noI|apply And.intro)
     |false =>
      rw[if_neg (by decide)]
      conv=>whnf
      refine brF rfl ?_;conv=>whnf
      refine od (ja5 m hh q zone) rfl rfl ?_;generalize vu m q zone=R;conv=>whnf
      refine⟨fun g6=>?_,fun g6=>?_⟩
      ·have g6:R.2=0:=by simpa using g6
       rw[if_pos g6];conv=>whnf
       repeat'(first|exact ⟨⟩|exact rfl|exact .inr rfl|exact .inl rfl|exact fun _ _=>rfl|exact noI|apply And.intro)
      ·have g6:¬ R.2=0:=by simpa using g6
       rw[if_neg g6];conv=>whnf
       repeat'(first|exact ⟨⟩|exact rfl|exact .inr rfl|exact .inl rfl|exact fun _ _=>rfl|exact noI|apply And.intro)
 ·have h1:¬ m.code=0:=by simpa using h1
  rw[if_neg (fun h=>h1 h.1)]
  conv=>whnf
  refine⟨fun g1=>?_,fun g1=>?_⟩
  ·have g1:0<ch.length:=by
    have h:(ch.length:Int) > 0:=of_decide_eq_true g1
    omega
   conv=>whnf
   refine⟨fun g2=>?_,fun g2=>?_⟩
   ·have g2:m.code=0:=by simpa using g2
    rw[if_pos ⟨g1,.inl g2⟩];conv=>whnf
    repeat'(first|exact ⟨⟩|exact rfl|exact .inr rfl|exact .inl rfl|exact fun _ _=>rfl|exact noI|apply And.intro)
   ·have g2:¬ m.code=0:=by simpa using g2
    conv=>whnf
    refine⟨fun g3=>?_,fun g3=>?_⟩
    ·have g3:m.code=3:=by simpa using g3
     rw[if_pos ⟨g1,.inr g3⟩];conv=>whnf
     repeat'(first|exact ⟨⟩|exact rfl|exact .inr rfl|exact .inl rfl|exact fun _ _=>rfl|exact noI|apply And.intro)
    ·have g3:¬ m.code=3:=by simpa using g3
     rw[if_neg (fun h=>h.2.elim g2 g3)]
     conv=>whnf
     refine od (jd9 m hm1 q zone) rfl rfl ?_;cases qb7 m q zone with
     |true =>
      rw[if_pos rfl];conv=>whnf
      refine brT rfl ?_;conv=>whnf
      refine od (qg0 3 m hm1 q zone) rfl rfl ?_;conv=>whnf
      repeat'(first|exact ⟨⟩|exact rfl|exact .inr rfl|exact .inl rfl|exact fun _ _=>rfl|exact noI|apply And.intro)
     |false =>
      rw[if_neg (by decide)]
      conv=>whnf
      refine brF rfl ?_;conv=>whnf
      refine od (jd6 m hm1 hs1 q zone) rfl rfl ?_;cases qd6 m q zone with
      |true =>
       rw[if_pos rfl];conv=>whnf
       refine brT rfl ?_;conv=>whnf
       refine od (qg0 4 m hm1 q zone) rfl rfl ?_;conv=>whnf
       repeat'(first|exact ⟨⟩|exact rfl|exact .inr rfl|exact .inl rfl|exact fun _ _=>rfl|exact noI|apply And.intro)
      |false =>
       rw[if_neg (by decide)]
       conv=>whnf
       refine brF rfl ?_;conv=>whnf
       refine od (ja5 m hh q zone) rfl rfl ?_;generalize vu m q zone=R;conv=>whnf
       refine⟨fun g6=>?_,fun g6=>?_⟩
       ·have g6:R.2=0:=by simpa using g6
        rw[if_pos g6];conv=>whnf
        repeat'(first|exact ⟨⟩|exact rfl|exact .inr rfl|exact .inl rfl|exact fun _ _=>rfl|exact noI|apply And.intro)
       ·have g6:¬ R.2=0:=by simpa using g6
        rw[if_neg g6];conv=>whnf
        repeat'(first|exact ⟨⟩|exact rfl|exact .inr rfl|exact .inl rfl|exact fun _ _=>rfl|exact noI|apply And.intro)
  ·have g1:¬ 0<ch.length:=by
    have h:¬ (ch.length:Int) > 0:=of_decide_eq_false g1
    omega
   rw[if_neg (fun h=>g1 h.1)]
   conv=>whnf
   refine od (jd9 m hm1 q zone) rfl rfl ?_;cases qb7 m q zone with
   |true =>
    rw[if_pos rfl];conv=>whnf
    refine brT rfl ?_;conv=>whnf
    refine od (qg0 3 m hm1 q zone) rfl rfl ?_;conv=>whnf
    repeat'(first|exact ⟨⟩|exact rfl|exact .inr rfl|exact .inl rfl|exact fun _ _=>rfl|exact noI|apply And.intro)
   |false =>
    rw[if_neg (by decide)]
    conv=>whnf
    refine brF rfl ?_;conv=>whnf
    refine od (jd6 m hm1 hs1 q zone) rfl rfl ?_;cases qd6 m q zone with
    |true =>
     rw[if_pos rfl];conv=>whnf
     refine brT rfl ?_;conv=>whnf
     refine od (qg0 4 m hm1 q zone) rfl rfl ?_;conv=>whnf
     repeat'(first|exact ⟨⟩|exact rfl|exact .inr rfl|exact .inl rfl|exact fun _ _=>rfl|exact noI|apply And.intro)
    |false =>
     rw[if_neg (by decide)]
     conv=>whnf
     refine brF rfl ?_;conv=>whnf
     refine od (ja5 m hh q zone) rfl rfl ?_;generalize vu m q zone=R;conv=>whnf
     refine⟨fun g6=>?_,fun g6=>?_⟩
     ·have g6:R.2=0:=by simpa using g6
      rw[if_pos g6];conv=>whnf
      repeat'(first|exact ⟨⟩|exact rfl|exact .inr rfl|exact .inl rfl|exact fun _ _=>rfl|exact noI|apply And.intro)
     ·have g6:¬ R.2=0:=by simpa using g6
      rw[if_neg g6];conv=>whnf
      repeat'(first|exact ⟨⟩|exact rfl|exact .inr rfl|exact .inl rfl|exact fun _ _=>rfl|exact noI|apply And.intro)
section
def msg1(q:Q):Msg:=⟨0,0,false,[q],true,[],true,[],true,[]⟩
theorem qj5(q:Q):((msg1 q).reply 0).bits=32768:=by
 show Go.bits BinOp.or IntKind.u16 (Go.bits BinOp.and IntKind.u16 0 30976) (Go.bits BinOp.or IntKind.u16 32768 (IntKind.u16.wrap (Go.bits BinOp.and IntKind.i64 0 15)))=32768
 kernel_rfl
theorem xi2(q:Q):(msg1 q).op=0:=by
 show(IntKind.i64.wrap (Go.bits BinOp.and IntKind.u16 0 30720)).fdiv (2 ^ 11)=0
 kernel_rfl
theorem jh4:orB 32768 1024=33792:=by kernel_rfl
theorem yu4:orB (orB 32768 1024) 3=33795:=by kernel_rfl
theorem ql4{m:Msg}{b c:Int}(h:m.bits=b)(hc:IntKind.i64.wrap (Go.bits BinOp.and IntKind.u16 b 15)=c):m.code=c:=by
 unfold Msg.code
 rw[h];exact hc
theorem xm8:IntKind.i64.wrap (Go.bits BinOp.and IntKind.u16 32768 15)=0:=by kernel_rfl
theorem jf6:IntKind.i64.wrap (Go.bits BinOp.and IntKind.u16 33792 15)=0:=by kernel_rfl
theorem yv8:IntKind.i64.wrap (Go.bits BinOp.and IntKind.u16 33795 15)=3:=by kernel_rfl
theorem jq1(n:List UInt8)(t:Int):(qc n t []).2≠0:=by
 intro h;have:=(find_ok_iff.1 h).2;exact this rfl
theorem zw8(ty:Int)(n:List UInt8)(k:Nat):yk ty [] k n []=([],n):=by
 cases k with
 |zero=>rfl
 |succ k =>
  unfold yk
  rw[if_pos (.inr (.inr (.inl (jq1 n 5))))]
section
variable{z:Zo}{q:Q}
theorem ju4(hn:qb q.nm)(hc:q.cl=1)(hz:z.ok=true)(hw:qd q.nm z.apex=true):ansF z (msg1 q)=if (cutQ z q.nm).2=0 then (msg1 q).cutM z (cutQ z q.nm).1 else (msg1 q).tellM z (ve z q.ty 8 q.nm []):=by
 show(if ¬ qb q.nm then _ else if (msg1 q).op≠0 then _ else if q.cl≠1\/z.ok=false\/qd q.nm z.apex=false then _ else _)=_
 rw [if_neg (fun h=>h hn),if_neg (fun h=>h (xi2 q)),if_neg (fun h=>h.elim (fun h=>h hc) (fun h=>h.elim (fun h=>by rw [hz] at h;cases h) (fun h=>by rw [hw] at h;cases h)))]
theorem ym5{n c:List UInt8}(hw:qd n c=true):∀ (D:List (List UInt8)) (b:Option (List UInt8)),(b=none\/b=some c)->D≠[]->yp n (D.map fun _=>c) b=some c
 |[],_,_,h=>absurd rfl h
 |[d],b,hb,_=>by
  show yp n [] (if qd n c then _ else _)=some c
  rw[if_pos hw];rcases hb with rfl|rfl
  ·rfl
  ·show(if qg c<qg c then some c else some c)=some c
   split <;> rfl
 |d :: e :: D,b,hb,_=>by
  show yp n ((e :: D).map fun _=>c) (if qd n c then _ else _)=some c
  refine ym5 hw (e :: D) _ (.inr ?_) (by simp)
  rw[if_pos hw];rcases hb with rfl|rfl
  ·rfl
  ·show(if qg c<qg c then some c else some c)=some c
   split <;> rfl
theorem zw7(hn:qb q.nm)(hc:q.cl=1)(hz:z.ok=true)(hw:qd q.nm z.apex=true){b:List UInt8}(hb:z.cut q.nm=some b) :
 (xi (ansF z (msg1 q)) q z.apex).kind=5/\(xi (ansF z (msg1 q)) q z.apex).chain=[]/\fold (xi (ansF z (msg1 q)) q z.apex).target=b/\qb (xi (ansF z (msg1 q)) q z.apex).target/\(xi (ansF z (msg1 q)) q z.apex).ans.ok=true:=by
 rcases jb9 hz q.nm with⟨h1,_⟩|⟨c,h1,h2,h3,h4,h5,h6,h7⟩
 ·rw [h1] at hb;cases hb
 rw [hb] at h1;simp only [mp] at h1
 obtain⟨_,_,_,_,wc,sc,_,_⟩:=Zo.cutL_spec hz h5;rw[ju4 hn hc hz hw,if_pos h2];rw [h7] at h2 h3 ⊢;obtain⟨k1,k2,k3,_⟩:=ws h2 (by decide)
 generalize (qc c 2 z.rrs).1=C at h3 k1 k2 k3 ⊢;obtain⟨p1,p2,p3⟩:=qc5 k1;rw [h3,k3] at p1;obtain⟨m1,m2,m3,m4,m5⟩:=(St.ok_iff C).1 k1;have hall:∀ r ∈ jf C,r.ty=2/\r.nm=c/\refP z.apex r=true:=fun r hr=>by
  rw [p2] at hr;obtain⟨d,hd,rfl⟩:=o5.1 hr;refine⟨k3,h3,?_⟩;have hdep:qh3 c z.apex > 0:=by
   unfold qh3
   rw[if_pos wc];have:=qm8 wc sc
   omega
  have hck:(recT C d).check=true:=by
   unfold RR.check recT
   simp[m1,m4 d hd,m2]
  unfold refP
  rw[hck];show((C.ty == 2) && ((1:Int) == 1 && (decide (qh3 C.nm z.apex > 0) && true)))=true;rw[k3,h3,decide_eq_true hdep];rfl
 have hcode:((msg1 q).cutM z C).code=0:=ql4 (show((msg1 q).reply 0).bits=_ from qj5 q) xm8
 have hhead:uw ((msg1 q).cutM z C) q z.apex=none:=by
  show(jf C).find? _=none
  rw[List.find?_eq_none];intro r hr;unfold xm
  rw[(hall r hr).1];exact dx
 have hnames:qc9 ((msg1 q).cutM z C) z.apex=C.data.map fun _=>c:=by
  show((jf C).filter (refP z.apex)).map (·.nm)=_
  rw[tn.2 (fun r hr=>(hall r hr).2.2),p2,dn]
  refine List.map_congr_left fun d hd=>?_
  exact h3
 have hdeep:ud q.nm (qc9 ((msg1 q).cutM z C) z.apex)=(c,0):=by
  unfold ud
  rw[if_pos hn,hnames,ym5 h6 C.data none (.inl rfl) p3]
 have href:vu ((msg1 q).cutM z C) q z.apex=(⟨C.nm,C.ty,C.ttl,false,C.data⟩,0):=by
  unfold vu
  rw[if_pos hcode,hdeep,if_pos rfl];show qc c 2 (jf C)=_;have:=jn5 k1 (n:=c) h3.symm (l:=jf C) (by rw[k3];exact p1)
  rw [k3] at this;rw[this,k3]
 have hcl:xi ((msg1 q).cutM z C) q z.apex=⟨5,[],⟨C.nm,C.ty,C.ttl,false,C.data⟩,C.nm,0⟩:=by
  unfold xi
  rw[show((msg1 q).cutM z C).says=[] from rfl,zw8,hcode];rw[if_neg (fun h=>jq1 _ _ h.2),if_neg (fun h=>absurd h.1 (by simp))]
  rw[if_neg (by unfold qb7;rw[hcode];exact dx),if_neg (by unfold qd6;rw[hhead];simp),href,if_pos rfl]
 rw[hcl];refine⟨rfl,rfl,?_,?_,?_⟩
 ·show fold C.nm=b
  rw[h3,<-h1]
 ·show qb C.nm
  rw[h3];exact h4
 ·exact k1
theorem yq7(hz:z.ok=true):∃ r,k7 z=(r,0)/\r.ty=6/\fold r.nm=fold z.apex/\qb r.nm/\ju r=true:=by
 have hs:=Zo.ok_sound hz
 unfold xu at hs
 simp only [px,gn,beq_iff_eq] at hs
 have hsome:∀ l:List RR,(∃ r ∈ l,r.ty=6)->∃ r ∈ l,vh l=some r/\r.ty=6:=by
  intro l;induction l with
  |nil=>rintro ⟨r,hr,_⟩;cases hr
  |cons a l ih =>
   rintro ⟨r,hr,ht⟩
   unfold vh
   by_cases ha:a.ty=6
   ·rw[if_pos ha];exact⟨a,by simp,rfl,ha⟩
   ·rw[if_neg ha];obtain⟨x,hx,h1,h2⟩:=ih ⟨r,(pr.1 hr).resolve_left (fun e=>ha (e ▸ ht)),ht⟩
    exact⟨x,by simp[hx],h1,h2⟩
 have hex:∃ r ∈ z.rrs,r.ty=6:=by
  have h1:0<cntZ zn z.rrs (fold z.apex):=by omega
  unfold cntZ at h1
  obtain⟨r,hr⟩:=List.exists_mem_of_length_pos h1;obtain⟨h2,h3⟩:=l9.1 hr;simp only [px,zn,beq_iff_eq] at h3
  exact⟨r,h2,h3.2⟩
 obtain⟨r,hr,h1,h2⟩:=hsome z.rrs hex;have ht:=Zo.ok_take hz hr
 unfold zr at ht
 simp only [px,beq_iff_eq] at ht
 refine⟨r,?_,h2,?_,(zd ht.2.2.2.2).1,?_⟩
 ·unfold k7
  rw[if_pos hz,h1]
 ·have hf:=hs.2.2 r hr
  apply Classical.byContradiction;intro hne;unfold jb at hf
  split at hf
  ·cases hf
  ·rw [if_pos (.inl (js5 hr (by simp [zn,h2]) rfl))] at hf
   cases hf
 ·unfold ju
  rw[ht.2.2.2.1,show(r.cl == 1)=true by simpa using ht.1]
  rfl
theorem yu9(hz:z.ok=true){ty:Int}:∀ (k:Nat) (n:List UInt8),∀ r ∈ (ql z ty k n).1.flatMap jf,r.ty=5
 |0,n,r,hr=>by cases hr
 |k+1,n,r,hr=>by
  unfold ql at hr
  by_cases h1:(qc n ty z.rrs).2=0
  ·rw [if_pos h1] at hr;cases hr
  ·rw [if_neg h1] at hr;by_cases h2:(qc n 5 z.rrs).2≠0
   ·rw [if_pos h2] at hr;cases hr
   ·have h2':(qc n 5 z.rrs).2=0:=Classical.not_not.1 h2
    rw [if_neg h2] at hr;have hl:∀ r ∈ jf (qc n 5 z.rrs).1,r.ty=5:=fun r hr=>by
     obtain⟨k1,k2,k3,_⟩:=ws h2' (by decide)
     rw [(qc5 k1).2.1] at hr;obtain⟨d,_,rfl⟩:=o5.1 hr;exact k3
    split at hr
    ·simp only [ay] at hr
     rcases ox.1 hr with hr|hr
     ·exact hl r hr
     ·exact yu9 hz k _ r hr
    ·simp only [ay,List.flatMap_nil,mv] at hr
     exact hl r hr
theorem jk2{ty:Int}{k:Nat}{n:List UInt8}(h:(ql z ty (k+1) n).1=[]):(ql z ty (k+1) n).2.1=n/\((ql z ty (k+1) n).2.2≠.ans->(ql z ty (k+1) n).2.2 = .deny):=by
 unfold ql at h ⊢
 by_cases h1:(qc n ty z.rrs).2=0
 ·rw[if_pos h1];exact⟨rfl,fun h=>absurd rfl h⟩
 ·rw [if_neg h1] at h ⊢;by_cases h2:(qc n 5 z.rrs).2≠0
  ·rw[if_pos h2];exact⟨rfl,fun _=>rfl⟩
  ·rw [if_neg h2] at h;split at h <;> cases h
theorem jk3{k:Nat}{n:List UInt8}:(ql z 5 (k+1) n).1=[]:=by
 unfold ql
 by_cases h1:(qc n 5 z.rrs).2=0
 ·rw[if_pos h1]
 ·rw[if_neg h1,if_pos h1]
theorem zf6(hz:z.ok=true){ty:Int}{n:List UInt8}(hin:inZ z n=true):yk ty (yf z ty (ql z ty 8 n)) 8 n []=((ql z ty 8 n).1,(ql z ty 8 n).2.1):=by
 by_cases h5:ty=5
 ·subst h5;have h1:=@jk3 z 7 n
  rw[h1,(jk2 h1).1];show(if (5:Int)=5\/_ then _ else _)=_;rw[if_pos (.inl rfl)]
 ·rw[yb8 hz h5 (yu0 hz h5 8 n hin) 8 n [] (fun r hr=>hr)]
  rfl
theorem yh3(hz:z.ok=true){ty:Int}{n:List UInt8}(h:(ql z ty 8 n).2.2 = .ans):(qc (ql z ty 8 n).2.1 ty z.rrs).2=0/\qc (ql z ty 8 n).2.1 ty (yf z ty (ql z ty 8 n))=((qc (ql z ty 8 n).2.1 ty z.rrs).1,0):=by
 by_cases h5:ty=5
 ·subst h5;have h1:=@jk3 z 7 n
  have h2:=(jk2 h1).1
  have hf:(qc n 5 z.rrs).2=0:=by
   apply Classical.byContradiction;intro hf;have:(ql z 5 8 n).2.2 = .deny:=by
    unfold ql
    rw[if_neg hf,if_pos hf]
   rw [this] at h;cases h
  rw[h2];refine⟨hf,?_⟩;unfold yf
  rw[h1,if_pos h,h2,List.flatMap_nil,az];obtain⟨k1,k2,k3,_⟩:=ws hf (by decide)
  have hzf:=yx6 hf
  generalize (qc n 5 z.rrs).1=A at k1 k2 k3 hzf ⊢;have hp:=(qc5 k1).1;have hfr:=jn5 k1 (n:=A.nm) rfl hp;rw [k2,k3] at hfr;rw[hfr,<-k2,<-k3,<-hzf]
 ·exact⟨(jo4 hz h5 8 n h).1,xg1 hz h5 h⟩
theorem zd2(hz:z.ok=true){ty:Int}{n:List UInt8}(h:(ql z ty 8 n).2.2≠.ans)(m:List UInt8):(qc m ty (yf z ty (ql z ty 8 n))).2≠0:=by
 have hl:=yu9 hz (ty:=ty) 8 n
 unfold yf
 rw[if_neg h,mv];by_cases h5:ty=5
 ·subst h5;rw[@jk3 z 7 n];exact jq1 m 5
 ·intro e;obtain⟨_,hp⟩:=find_ok_iff.1 e;obtain⟨r,hr⟩:=r8 _ hp;obtain⟨m1,m2,_⟩:=pick_mem.1 hr;exact h5 (m2.symm.trans (hl r m1))
theorem zw6(hn:qb q.nm)(hc:q.cl=1)(hz:z.ok=true)(hin:inZ z q.nm=true) :
 ((ql z q.ty 8 q.nm).2.2 = .ans->xi (ansF z (msg1 q)) q z.apex=⟨1,(ql z q.ty 8 q.nm).1,(qc (ql z q.ty 8 q.nm).2.1 q.ty z.rrs).1,(ql z q.ty 8 q.nm).2.1,0⟩) /\
 ((ql z q.ty 8 q.nm).2.2≠.ans->(ql z q.ty 8 q.nm).1≠[]->xi (ansF z (msg1 q)) q z.apex=⟨2,(ql z q.ty 8 q.nm).1,St.no,(ql z q.ty 8 q.nm).2.1,0⟩) /\
 ((ql z q.ty 8 q.nm).2.2≠.ans->(ql z q.ty 8 q.nm).1=[]->∃ ttl,xi (ansF z (msg1 q)) q z.apex=⟨if zy z q.nm then 4 else 3,[],St.no,q.nm,ttl⟩):=by
 obtain⟨hw,hcut⟩:=(qp1 hz).1 hin;have hq0:¬ (cutQ z q.nm).2=0:=fun e=>(ym7 hz q.nm).1 e hcut
 rw[ju4 hn hc hz hw,if_neg hq0,jk1 hz,az];have hch:=zf6 hz (ty:=q.ty) hin;have hans:=yh3 hz (ty:=q.ty) (n:=q.nm);have hnof:=zd2 hz (ty:=q.ty) (n:=q.nm);have hnon:=@jk2 z q.ty 7 q.nm;have hl0:(ql z q.ty 8 q.nm).2.2≠.ans->(ql z q.ty 8 q.nm).1=[]->yf z q.ty (ql z q.ty 8 q.nm)=[]:=fun h1 h2=>by
  unfold yf
  rw[if_neg h1,h2];rfl
 generalize hX:ql z q.ty 8 q.nm=x at hch hans hnof hnon hl0 ⊢;obtain⟨L,e,fin⟩:=x;generalize hS:yf z q.ty (L,e,fin)=S at hch hans hnof hl0 ⊢;have hcode:∀ o,((msg1 q).tellM z (S,o)).code=0\/((msg1 q).tellM z (S,o)).code=3:=fun o=>by
  cases o with
  |none=>exact .inl (ql4 (show orB ((msg1 q).reply 0).bits 1024=33792 by rw[qj5];exact jh4) jf6)
  |some m =>
   cases he:yz z m with
   |true=>exact .inl (ql4 (show(if yz z m then orB ((msg1 q).reply 0).bits 1024 else _)=33792 by rw[he,if_pos rfl,qj5];exact jh4) jf6)
   |false=>exact .inr (ql4 (show(if yz z m then orB ((msg1 q).reply 0).bits 1024 else orB (orB ((msg1 q).reply 0).bits 1024) 3)=33795 by rw[he,if_neg (by decide),qj5];exact yu4) yv8)
 have hsays:∀ o,((msg1 q).tellM z (S,o)).says=S:=fun o=>by cases o <;> rfl
 refine⟨fun h=>?_,fun h hL=>?_,fun h hL=>?_⟩
 ·have h:fin = .ans:=h
  subst h;obtain⟨_,ha⟩:=hans rfl;rw[show(if (L,e,Fin3.ans).2.2=Fin3.deny then some (L,e,Fin3.ans).2.1 else none)=none from rfl];have hc0:((msg1 q).tellM z (S,none)).code=0:=ql4 (show orB ((msg1 q).reply 0).bits 1024=33792 by rw[qj5];exact jh4) jf6
  unfold xi
  rw[hsays,hch,hc0];simp only
  rw[ha,if_pos ⟨trivial,rfl⟩]
 ·have hc0:=hcode (if fin=Fin3.deny then some e else none)
  unfold xi
  rw[hsays,hch];simp only
  have hL:0<L.length:=s8.2 hL
  rw[if_neg (fun k=>hnof h e k.2),if_pos ⟨hL,hc0⟩]
 ·have hL:L=[]:=hL
  obtain⟨p1,p2⟩:=hnon hL;have n1:e=q.nm:=p1
  have n2:fin = .deny:=p2 h
  clear p1 p2;have hS0:=hl0 h hL
  subst hL n1 n2 hS0;rw[show(if (([]:List St),q.nm,Fin3.deny).2.2=Fin3.deny then some (([]:List St),q.nm,Fin3.deny).2.1 else none)=some q.nm from rfl];obtain⟨r,s1,s2,s3,s4,s5⟩:=yq7 hz;have hdn:k9 z=[r]:=by unfold k9;rw[s1];rfl
  have hheads:((msg1 q).tellM z ([],some q.nm)).heads=[r]:=hdn
  have hhead:uw ((msg1 q).tellM z ([],some q.nm)) q z.apex=some r:=by
   unfold uw
   rw[hheads,List.find?_cons];have:xm q z.apex r=true:=by
    unfold xm
    have han:=Zo.ok_name hz
    rw[s2,show qd r.nm z.apex=true by rw[qr9 s4 han s3];exact zf0 han,show qd q.nm r.nm=true by rw[jx0 s4 han s3];exact hw,s5]
    rfl
   rw[this]
  have hex:yz z q.nm=zy z q.nm:=by unfold yz;rw[hz];rfl
  refine⟨(ttlA ((msg1 q).tellM z ([],some q.nm)) q z.apex).1,?_⟩;unfold xi;rw[hsays,hch];simp only;rw[if_neg (fun k=>hnof h _ k.2),if_neg (fun k=>absurd k.1 (by simp))]
  cases he:zy z q.nm with
  |true =>
   have hc0:((msg1 q).tellM z ([],some q.nm)).code=0:=ql4 (show(if yz z q.nm then orB ((msg1 q).reply 0).bits 1024 else _)=33792 by rw[hex,he,if_pos rfl,qj5];exact jh4) jf6
   rw[if_neg (by unfold qb7;rw[hc0];exact dx),if_pos (by unfold qd6;rw[hc0,hhead,hsays];rfl)]
   rfl
  |false =>
   have hc0:((msg1 q).tellM z ([],some q.nm)).code=3:=ql4 (show(if yz z q.nm then orB ((msg1 q).reply 0).bits 1024 else orB (orB ((msg1 q).reply 0).bits 1024) 3)=33795 by rw[hex,he,if_neg (by decide),qj5];exact yu4) yv8
   rw[if_pos (by unfold qb7;rw[hc0,hhead];rfl)]
   rfl
end
end
section
theorem jk5{s:St}(h:s.ok=true):(jf s).length<=64/\∀ r ∈ jf s,r.nm.length<=255/\r.d.length<=4096:=by
 obtain⟨k1,k2,k3,k4,k5⟩:=(St.ok_iff s).1 h;rw[(qc5 h).2.1];refine⟨by rw[o4];exact k3.2,fun r hr=>?_⟩
 obtain⟨d,hd,rfl⟩:=o5.1 hr;refine⟨k1.2.1,?_⟩;have:=k4 d hd
 unfold q9 at this
 simp only [px,decide_eq_true_eq] at this
 exact this.1
theorem zu3{d:List UInt8}(h:q9 5 d=true):qb d:=by
 unfold q9 at h
 rw [px] at h;have h2:(cutF 0 1 0 d).isSome=true:=h.2;unfold cutF at h2;rw [if_neg (by omega),Nat.mul_zero,List.drop_zero] at h2
 have e:x7 1 d=if ji d=0 then none else some ([d.take (ji d)],d.drop (ji d)):=rfl
 rw [e] at h2;split at h2
 ·cases h2
 ·rename_i h0
  have h3:(if (d.drop (ji d)).length=4 * 0 then some (d.take 0,[d.take (ji d)],d.drop (ji d)) else none).isSome=true:=h2
  split at h3
  ·rename_i hl
   have hn:=yb3 d 256 0 h0
   have ht:d.take (ji d)=d:=gt (by rw [ow] at hl;omega)
   have hn:qb (d.take (ji d)):=hn
   rw [ht] at hn;exact hn
  ·cases h3
section
variable{z:Zo}
theorem jo7(hz:z.ok=true){ty:Int}:∀ (k:Nat) (n:List UInt8),(ql z ty k n).1.length<=k/\(∀ s ∈ (ql z ty k n).1,s.ok=true)/\(qb n->qb (ql z ty k n).2.1)
 |0,n=>⟨pu _,fun s hs=>(by cases hs),fun h=>h⟩
 |k+1,n=>by
  unfold ql
  by_cases h1:(qc n ty z.rrs).2=0
  ·rw[if_pos h1];exact⟨pu _,fun s hs=>(by cases hs),fun h=>h⟩
  ·rw[if_neg h1];by_cases h2:(qc n 5 z.rrs).2≠0
   ·rw[if_pos h2];exact⟨pu _,fun s hs=>(by cases hs),fun h=>h⟩
   ·have h2':(qc n 5 z.rrs).2=0:=Classical.not_not.1 h2
    rw[if_neg h2];obtain⟨k1,k2,k3,k4⟩:=ws h2' (by decide)
    have hnm:qb ((qc n 5 z.rrs).1.data.headD []):=by
     obtain⟨m1,m2,m3,m4,m5⟩:=(St.ok_iff _).1 k1;cases hd:(qc n 5 z.rrs).1.data with
     |nil=>rw [hd] at m3;exact absurd m3.1 (bp 0)
     |cons a b =>
      have:=m4 a (by rw[hd];simp)
      rw [k3] at this;exact zu3 this
    obtain⟨g1,g2,g3⟩:=jo7 hz (ty:=ty) k ((qc n 5 z.rrs).1.data.headD []);split
    ·refine⟨Nat.succ_le_succ g1,fun s hs=>?_,fun _=>g3 hnm⟩
     rcases pr.1 hs with rfl|hs
     ·exact k1
     ·exact g2 s hs
    ·exact⟨Nat.succ_le_succ (pu _),fun s hs=>by rw[gp.1 hs];exact k1,fun _=>hnm⟩
theorem zh4(l:List St)(h:∀ s ∈ l,s.ok=true):(l.flatMap jf).length<=l.length * 64/\∀ r ∈ l.flatMap jf,r.nm.length<=255/\r.d.length<=4096:=by
 induction l with
 |nil=>exact⟨pu _,fun r hr=>by cases hr⟩
 |cons s l ih =>
  obtain⟨i1,i2⟩:=ih (fun x hx=>h x (by simp[hx]))
  obtain⟨r1,r2⟩:=jk5 (h s (by simp))
  rw[ay];refine⟨by rw[p7,lq];omega,fun r hr=>?_⟩
  rcases ox.1 hr with hr|hr
  ·exact r2 r hr
  ·exact i2 r hr
theorem zl3(hz:z.ok=true)(ty:Int)(n:List UInt8):u5 (yf z ty (ql z ty 8 n)):=by
 obtain⟨g1,g2,g3⟩:=jo7 hz (ty:=ty) 8 n;obtain⟨l1,l2⟩:=zh4 _ g2;have hr:u5 (if (ql z ty 8 n).2.2 = .ans then jf (qc (ql z ty 8 n).2.1 ty z.rrs).1 else [])/\(if (ql z ty 8 n).2.2 = .ans then jf (qc (ql z ty 8 n).2.1 ty z.rrs).1 else []).length<=64:=by
  split
  ·by_cases hk:((qc (ql z ty 8 n).2.1 ty z.rrs).1).ok=true
   ·obtain⟨r1,r2⟩:=jk5 hk;exact⟨⟨by omega,fun r hr=>by have:=r2 r hr;omega⟩,r1⟩
   ·have e:jf (qc (ql z ty 8 n).2.1 ty z.rrs).1=[]:=by unfold jf;rw[if_neg hk]
    rw[e];exact⟨⟨pu _,fun r hr=>by cases hr⟩,pu _⟩
  ·exact⟨⟨pu _,fun r hr=>by cases hr⟩,pu _⟩
 unfold yf
 obtain⟨⟨_,h2⟩,h3⟩:=hr;refine⟨by rw[p7];omega,fun r hr=>?_⟩
 rcases ox.1 hr with hr|hr
 ·have:=l2 r hr;omega
 ·exact h2 r hr
theorem zo1(hz:z.ok=true):u5 (k9 z):=by
 obtain⟨r,s1,s2,s3,s4,s5⟩:=yq7 hz;have hdn:k9 z=[r]:=by unfold k9;rw[s1];rfl
 rw[hdn];refine⟨by simp,fun x hx=>?_⟩
 rw[gp.1 hx];unfold ju RR.check q9 at s5
 simp only [px,decide_eq_true_eq] at s5
 have h1:=s4.2.1
 have h2:=s5.2.1.2.1
 omega
theorem yn2{q:Q}(hn:qb q.nm)(hc:q.cl=1)(hz:z.ok=true)(hw:qd q.nm z.apex=true):u5 (ansF z (msg1 q)).says/\u5 (ansF z (msg1 q)).heads:=by
 have hnil:u5 []:=⟨pu _,fun r hr=>by cases hr⟩
 rw[ju4 hn hc hz hw];split
 ·rename_i h
  refine⟨hnil,?_⟩;rcases jb9 hz q.nm with⟨_,h1,_⟩|⟨c,h1,h2,h3,h4,h5,h6,h7⟩
  ·rw [h1] at h;cases h
  ·rw [h7] at h2 ⊢;obtain⟨r1,r2⟩:=jk5 (ws h2 (by decide)).1
   show u5 (jf _)
   exact⟨by omega,fun r hr=>by have:=r2 r hr;omega⟩
 ·rw[jk1 hz,az];have hs:=zl3 hz q.ty q.nm
  split
  ·exact⟨hs,zo1 hz⟩
  ·exact⟨hs,hnil⟩
end
end
theorem others_mem{zs:List Zo}{i:Nat}{a:List UInt8}:a ∈ yx zs i↔∃ j z,j≠i/\zs[j]? = some z/\z.apex=a:=by
 unfold yx
 rw[o5];constructor
 ·rintro ⟨z,hz,e⟩
  rcases ox.1 hz with hz|hz
  ·obtain⟨j,hj⟩:=to.1 hz;rw [o6] at hj;split at hj
   ·exact⟨j,z,by omega,hj,e⟩
   ·cases hj
  ·obtain⟨j,hj⟩:=to.1 hz;rw [mu] at hj;exact⟨i+1+j,z,by omega,hj,e⟩
 ·rintro ⟨j,z,hji,hj,e⟩
  refine⟨z,ox.2 ?_,e⟩;rcases pz j i with h|h
  ·left
   exact to.2 ⟨j,by rw[o6,if_pos h];exact hj⟩
  ·right
   exact to.2 ⟨j - (i+1),by rw[mu,show i+1+(j - (i+1))=j by omega];exact hj⟩
theorem qt2{n:List UInt8}:∀ {l:List (List UInt8)} {b:Option (List UInt8)} {a:List UInt8},yp n l b=some a->(∀ y,b=some y->qd n y=true) ->
 qd n a=true/\(∀ c ∈ l,qd n c=true->qg c<=qg a)/\∀ y,b=some y->qg y<=qg a
 |[],b,a,h,hb=>by
  have h:b=some a:=h
  refine⟨hb a h,fun c hc=>(by cases hc),fun y hy=>?_⟩
  rw [h] at hy;cases hy
  exact pq _
 |c :: l,b,a,h,hb=>by
  have h:yp n l (qq2 n c b)=some a:=h
  unfold qq2 at h
  cases hw:qd n c with
  |false =>
   rw [hw,if_neg (by decide)] at h
   obtain⟨h1,h2,h3⟩:=qt2 h hb;refine⟨h1,fun x hx hxw=>?_,h3⟩
   rcases pr.1 hx with rfl|hx
   ·rw [hw] at hxw;cases hxw
   ·exact h2 x hx hxw
  |true =>
   rw [hw,if_pos rfl] at h;cases b with
   |none =>
    obtain⟨h1,h2,h3⟩:=qt2 h (fun y hy=>by cases hy;exact hw)
    refine⟨h1,fun x hx hxw=>?_,fun y hy=>by cases hy⟩
    rcases pr.1 hx with rfl|hx
    ·exact h3 _ rfl
    ·exact h2 x hx hxw
   |some y =>
    simp only at h
    split at h
    ·rename_i hlt
     obtain⟨h1,h2,h3⟩:=qt2 h (fun y hy=>by cases hy;exact hw)
     refine⟨h1,fun x hx hxw=>?_,fun y' hy=>?_⟩
     ·rcases pr.1 hx with rfl|hx
      ·exact h3 _ rfl
      ·exact h2 x hx hxw
     ·cases hy
      exact o7 (Nat.le_of_lt hlt) (h3 _ rfl)
    ·rename_i hlt
     obtain⟨h1,h2,h3⟩:=qt2 h hb;refine⟨h1,fun x hx hxw=>?_,h3⟩
     rcases pr.1 hx with rfl|hx
     ·exact o7 (Nat.le_of_not_lt hlt) (h3 _ rfl)
     ·exact h2 x hx hxw
theorem Fo.good{f:Fo}(h:f.ok=true):Good f.zones:=by
 obtain⟨⟨h1,h2,_⟩,hz,ho,hr,hh,_⟩:=Fo.parts h;refine⟨hz,fun i j a b hi hj e=>js9 ho hi hj e,fun z h0=>?_,fun i z hi hne=>?_⟩
 ·have:f.zones.getD 0 default=z:=by rw[o8,h0];rfl
  rw[<-this];exact hr
 ·have hil:=(po.1 hi).1
  have hzd:f.zones.getD i default=z:=by rw[o8,hi];rfl
  unfold qr1 at hh
  rw [gn] at hh;have hi':=hh i (lu.2 hil);rw [dp] at hi';have hi':=hi'.resolve_left (by simpa using hne)
  rw [hzd] at hi';have e1:qw3 f.zones i z.apex=match yp z.apex (yx f.zones i) none with
   |none=>none
   |some a=>ya f.zones (fold a):=rfl
  rw [e1] at hi';cases hd:yp z.apex (yx f.zones i) none with
  |none=>rw [hd] at hi';cases hi'
  |some a0 =>
   rw [hd] at hi';simp only at hi'
   cases hp:ya f.zones (fold a0) with
   |none=>rw [hp] at hi';cases hi'
   |some a =>
    rw [hp] at hi';simp only at hi'
    obtain⟨w,mx,_⟩:=qt2 hd (fun y hy=>by cases hy)
    obtain⟨za,hza,eza⟩:=qf3 hp;have hzad:f.zones.getD a default=za:=by rw[o8,hza];rfl
    rw [hzad,bu] at hi';obtain⟨c,hc,ec⟩:=hi';have ec:fold c=fold z.apex:=by simpa using ec
    have hm:=(jb8 hd).resolve_right (fun e=>by cases e)
    obtain⟨j,zj,hji,hj,ej⟩:=others_mem.1 hm;have haj:a=j:=js9 ho hza hj (by rw[eza,ej])
    have hna:=Zo.ok_name (hz za (py hza))
    refine⟨a,za,c,hza,by rw[haj];exact hji,hc,ec,qb9 hna eza w,fun j' zj' hj'i hj' hw'=>?_⟩
    have:=mx zj'.apex (others_mem.2 ⟨j',zj',hj'i,hj',rfl⟩) hw'
    rw[jd5 hna (zd w).2 eza];exact this
theorem yc5{f:Fo}(h:f.ok=true){n:List UInt8}(hn:qb n) :
 (∃ (a:Nat) (z:Zo),vb f n=(a,0)/\yn f.zones n 300 0=some a/\f.zones[a]? = some z/\qd n z.apex=true/\z.cut n=none) \/
 (vb f n=(0,12)/\yn f.zones n 300 0=none/\∀ (i:Nat) (z:Zo),f.zones[i]? = some z->qd n z.apex=true->z.cut n≠none):=by
 obtain⟨⟨h1,h2,_⟩,hz,ho,hr,hh,_⟩:=Fo.parts h;have hz0:f.zones[0]? = some (f.zones.getD 0 default):=by rw[o8,pn h1];rfl
 have hw0:=jj5 (Zo.ok_name (hz _ (py hz0))) hr hn
 have hc:qg n<300+qg (f.zones.getD 0 default).apex:=by have:=@qz2 n;omega
 have e:vb f n=(match yn f.zones n 300 0 with
  |none=>(0,12)
  |some a=>(a,0)):=by unfold vb u0;rw[if_pos h,if_pos hn];cases yn f.zones n 300 0 <;> rfl
 rw[e];cases hd:yn f.zones n 300 0 with
 |some a =>
  obtain⟨z,h3,h4,h5⟩:=(jn9 hz 300 0 _ hz0 hw0 hc).2 a hd;exact .inl ⟨a,z,rfl,rfl,h3,h4,h5⟩
 |none =>
  obtain⟨j,zj,b,h3,h4,h5,h6⟩:=ym4 hz 300 0 _ hz0 hw0 hc hd;exact .inr ⟨rfl,rfl,fun i z hi hw=>(Fo.good h).lost h3 h4 h5 h6 hi hw⟩
theorem xg8{f:Fo}(h:f.ok=true){n:List UInt8}{i:Nat}{z:Zo}(hi:f.zones[i]? = some z)(hw:qd n z.apex=true)(hc:z.cut n=none):vb f n=(i,0)/\yn f.zones n 300 0=some i:=by
 have hn:=(zd hw).1
 rcases yc5 h hn with⟨a,za,e1,e2,e3,e4,e5⟩|⟨_,_,e3⟩
 ·have:a=i:=by
   apply Classical.byContradiction;intro hne;exact(Fo.good h).others hi hw hc e3 e4 hne e5
  subst this;exact⟨e1,e2⟩
 ·exact absurd hc (e3 i z hi hw)
def eqF(t u:Int)(a b:List (List UInt8)):Bool:=a.map (qx t) == b.map (qx u)
def xd(a b:St):Bool:=a.ok && (b.ok && (jq a.nm b.nm && (a.ty == b.ty && eqF a.ty b.ty a.data b.data)))
theorem qv0(a b:St):FnOk Tryz.prog 21 [a.V,b.V] (.d (.bool (xd a b))):=by
 refine qp (TT:=TT) (IN:=qh [(52,Tryz.f52,3),(53,Tryz.f53,4)]) qk (jj (jj qj Tryz.func53 (by kernel_rfl) (by kernel_rfl)) Tryz.func52 (by kernel_rfl) (by kernel_rfl)) mixed 1000 Tryz.func21 rfl (qi Tryz.func21 (by kernel_rfl) rfl) rfl 32 (by kernel_rfl) ?_
 conv=>whnf
 refine od (ja4 a.nm a.ty a.ttl a.z a.data) rfl rfl ?_;rw[show x6 a.nm a.ty a.ttl a.data=a.ok from rfl];cases hok:a.ok with
 |false =>
  rw[show xd a b=false by unfold xd;rw[hok];rfl]
  conv=>whnf
  repeat(first|(refine brT rfl ?_;conv=>whnf))
  try exact rfl
 |true =>
  conv=>whnf
  refine brF rfl ?_;conv=>whnf
  refine od (ja4 b.nm b.ty b.ttl b.z b.data) rfl rfl ?_;rw[show x6 b.nm b.ty b.ttl b.data=b.ok from rfl];cases hok2:b.ok with
  |false =>
   rw[show xd a b=false by unfold xd;rw[hok,hok2];rfl]
   conv=>whnf
   repeat(first|(refine brT rfl ?_;conv=>whnf))
   try exact rfl
  |true =>
   conv=>whnf
   refine brF rfl ?_;conv=>whnf
   refine od (jc6 a.nm b.nm) rfl rfl ?_;conv=>whnf
   cases hs:jq a.nm b.nm with
   |false =>
    rw[show xd a b=false by unfold xd;rw[hok,hok2,hs];rfl]
    repeat(first|(refine brT rfl ?_;conv=>whnf))
    try exact rfl
   |true =>
    refine brF rfl ?_;conv=>whnf
    cases ht:a.ty == b.ty with
    |false =>
     rw[show xd a b=false by unfold xd;rw[hok,hok2,hs,ht];rfl]
     refine brT (by show(!(a.ty == b.ty))=true;rw[ht];rfl) ?_
     conv=>whnf
     try exact rfl
    |true =>
     rw[show xd a b=eqF a.ty b.ty a.data b.data by unfold xd;rw[hok,hok2,hs,ht];rfl]
     have h64:a.data.length<=64:=by
      unfold St.ok x6 at hok
      simp only [px,decide_eq_true_eq] at hok
      exact hok.1.2.2
     refine brF (by show(!(a.ty == b.ty))=false;rw[ht];rfl) ?_
     conv=>whnf
     refine⟨fun h1=>?_,fun h1=>?_⟩
     ·have h:a.data.length≠b.data.length:=by intro e;rw [e] at h1;simp at h1
      rw[show eqF a.ty b.ty a.data b.data=false from yt7 (by simpa using h)]
      conv=>whnf
      try exact rfl
     have hl:a.data.length=b.data.length:=by simp at h1;omega
     conv=>whnf
     refine .inv Nat (fun i=>i<=a.data.length/\eqF a.ty b.ty (a.data.drop i) (b.data.drop i)=eqF a.ty b.ty a.data b.data) (fun i=>[(17,iV i)]) (fun _=>[]) (fun i=>a.data.length - i) ⟨0,[0,1],⟨pu _,rfl⟩,?_⟩ ?_
     ·conv=>whnf
      repeat'(first|exact ⟨⟩|exact rfl|exact fun _=>Iff.rfl|exact fun _ _=>rfl|exact renM_ent rfl _|apply And.intro)
     rintro i ⟨hi,hrest⟩
     conv=>whnf
     refine⟨fun c5=>?_,fun c5=>?_⟩
     ·have c5':i<a.data.length:=(by have h:(i:Int)<a.data.length:=of_decide_eq_true c5;omega)
      obtain⟨q,hq⟩:∃ q,a.data[i]?.getD []=q:=⟨_,rfl⟩;obtain⟨r,hr⟩:∃ r,b.data[i]?.getD []=r:=⟨_,rfl⟩;have hda:a.data.drop i=q :: a.data.drop (i+1):=by
       rw[ly c5',<-hq,pn c5'];rfl
      have hdb:b.data.drop i=r :: b.data.drop (i+1):=by
       rw[ly (by omega),<-hr,pn (by omega)]
       rfl
      have hst:(qx a.ty q == qx b.ty r && eqF a.ty b.ty (a.data.drop (i+1)) (b.data.drop (i+1)))=eqF a.ty b.ty a.data b.data:=by rw[<-hrest,hda,hdb];rfl
      have hw1:=w64s i (by omega)
      conv=>whnf
      refine⟨by omega,?_⟩
      conv=>whnf
      refine⟨by omega,?_⟩
      conv=>whnf
      rw[pp,hq,hr];refine .data _ (qt8 a.ty q) rfl rfl ?_;conv=>whnf
      refine .data _ (qt8 b.ty r) rfl rfl ?_;conv=>whnf
      cases he:qx a.ty q == qx b.ty r
      ·rw [he,lz] at hst;rw[<-hst];refine brT rfl ?_;conv=>whnf
       try exact rfl
      ·rw [he,m6] at hst;refine brF rfl ?_;conv=>whnf
       rw[hw1];refine⟨i+1,[0,1],⟨c5',hst⟩,by omega,?_⟩
       conv=>whnf
       repeat'(first|exact ⟨⟩|exact rfl|exact fun _=>Iff.rfl|exact fun _ _=>rfl|exact renM_ent rfl _|apply And.intro)
     have hia:i=a.data.length:=(by have h:¬ (i:Int)<a.data.length:=of_decide_eq_false c5;omega)
     rw [sv (by omega),sv (by omega)] at hrest
     rw[<-hrest];conv=>whnf
     exact rfl
def qm0(l m:List St)(i:Nat):Bool:=(List.range i).all fun j=>xd (l.getD j default) (m.getD j default)
def jh2(l m:List St):Bool:=l.length == m.length && qm0 l m l.length
theorem zl1(l m:List St)(i:Nat):qm0 l m (i+1)=(qm0 l m i && xd (l.getD i default) (m.getD i default)):=by
 unfold qm0
 rw[List.range_succ,bn];simp
theorem zr7{l m:List St}{i:Nat}(hi:i<l.length)(h:xd (l.getD i default) (m.getD i default)=false):qm0 l m l.length=false:=by
 unfold qm0
 rw[aw];exact⟨i,lu.2 hi,by rw[h];decide⟩
theorem zw2(y z:Bool)(l m:List St)(hl:l.length<=100000):FnOk Tryz.prog 55 [.d (stsD y l),.d (stsD z m),.fn 21 []] (.d (.bool (jh2 l m))):=by
 refine qp (TT:=TT) (IN:=qh []) qk qj mixed 1000 Tryz.func55 rfl (qi Tryz.func55 (by kernel_rfl) rfl) rfl 29 (by kernel_rfl) ?_
 unfold jh2
 conv=>whnf
 by_cases hlen:l.length=m.length
 case neg =>
  rw[show(l.length == m.length)=false by simpa using hlen,lz]
  refine brT (by rw[bne_iff_ne];omega) ?_
  conv=>whnf
  all_goals exact rfl
 rw[show(l.length == m.length)=true by simpa using hlen,m6]
 refine brF (by rw[bne_eq_false_iff_eq];omega) ?_
 conv=>whnf
 refine .inv Nat (fun i=>i<=l.length/\qm0 l m i=true) (fun i=>[(17,iV i)]) (fun _=>[]) (fun i=>l.length - i) ⟨0,[],⟨pu _,rfl⟩,?_⟩ ?_
 ·conv=>whnf
  repeat'(first|exact ⟨⟩|exact rfl|exact qa _|exact .inr rfl|exact fun _ _=>rfl|exact noI|apply And.intro)
 intro i hi;obtain⟨hi,hti⟩:=hi;conv=>whnf
 refine⟨fun h1=>?_,fun h1=>?_⟩
 ·have h1:i<l.length:=by
   have h:(i:Int)<l.length:=of_decide_eq_true h1
   omega
  have hw1:=w64s i (by omega)
  have hnx:=zl1 l m i
  rw [hti,m6] at hnx;have hbad:=zr7 (m:=m) h1;conv=>whnf
  refine⟨by omega,?_⟩
  conv=>whnf
  refine⟨by omega,?_⟩
  conv=>whnf
  rw[pp];generalize l.getD i default=a at hnx hbad ⊢;generalize m.getD i default=b at hnx hbad ⊢;refine od (qv0 a b) rfl rfl ?_;cases hs:xd a b with
  |false =>
   rw[hbad hs];conv=>whnf
   refine brT rfl ?_;conv=>whnf
   all_goals exact rfl
  |true =>
   conv=>whnf
   refine brF rfl ?_;conv=>whnf
   rw[hw1];refine⟨i+1,[],⟨h1,by rw[hnx,hs]⟩,by omega,?_⟩
   conv=>whnf
   repeat'(first|exact ⟨⟩|exact rfl|exact qa _|exact .inr rfl|exact fun _ _=>rfl|exact noI|apply And.intro)
 ·have h1:i=l.length:=by
   have h:¬ (i:Int)<l.length:=of_decide_eq_false h1
   omega
  subst h1;conv=>whnf
  rw[hti];all_goals exact rfl
def qd1(a b:Ver):Bool:=a.code == b.code && (jh2 a.chain b.chain && (if a.ans.data.length=0/\b.ans.data.length=0 then true else xd a.ans b.ans))
theorem yq5(a b:Ver)(hl:a.chain.length<=100000):FnOk Tryz.prog 22 [a.V,b.V] (.d (.bool (qd1 a b))):=by
 refine qp (TT:=TT) (IN:=qh []) qk qj mixed 1000 Tryz.func22 rfl (qi Tryz.func22 (by kernel_rfl) rfl) rfl 33 (by kernel_rfl) ?_
 conv=>whnf
 refine⟨fun h1=>?_,fun h1=>?_⟩
 ·have h1:(a.code == b.code)=false:=by simpa using h1
  rw[show qd1 a b=false by unfold qd1;rw[h1];rfl]
  conv=>whnf
  all_goals exact rfl
 have h1:(a.code == b.code)=true:=by simpa using h1
 conv=>whnf
 refine od (zw2 a.chain.isEmpty b.chain.isEmpty a.chain b.chain hl) rfl rfl ?_;cases h2:jh2 a.chain b.chain with
 |false =>
  rw[show qd1 a b=false by unfold qd1;rw[h1,h2];rfl]
  conv=>whnf
  refine brT rfl ?_;conv=>whnf
  all_goals exact rfl
 |true =>
  have hs:qd1 a b=if a.ans.data.length=0/\b.ans.data.length=0 then true else xd a.ans b.ans:=by unfold qd1;rw[h1,h2];rfl
  rw[hs];conv=>whnf
  refine brF rfl ?_;conv=>whnf
  refine⟨fun h3=>?_,fun h3=>?_⟩
  ·have h3:a.ans.data.length=0:=by
    have h:(a.ans.data.length:Int)=0:=by simpa using h3
    omega
   conv=>whnf
   refine⟨fun h4=>?_,fun h4=>?_⟩
   ·have h4:b.ans.data.length=0:=by
     have h:(b.ans.data.length:Int)=0:=by simpa using h4
     omega
    rw[if_pos ⟨h3,h4⟩];conv=>whnf
    all_goals exact rfl
   ·have h4:¬ b.ans.data.length=0:=by
     have h:¬ (b.ans.data.length:Int)=0:=by simpa using h4
     omega
    rw[if_neg (fun h=>h4 h.2)]
    conv=>whnf
    refine od (qv0 a.ans b.ans) rfl rfl ?_;conv=>whnf
    all_goals exact rfl
  ·have h3:¬ a.ans.data.length=0:=by
    have h:¬ (a.ans.data.length:Int)=0:=by simpa using h3
    omega
   rw[if_neg (fun h=>h3 h.1)]
   conv=>whnf
   refine od (qv0 a.ans b.ans) rfl rfl ?_;conv=>whnf
   all_goals exact rfl
theorem zs5(y:Bool)(a:List RR)(h:y=true->a=[])(ha:a.length<=1000000):FnOk Tryz.prog 81 [.d (rrsD y a)] (.d (rrsD y a)):=by
 refine qp (TT:=TT) (IN:=qh []) qk qj mixed 1000 Tryz.func81 rfl (qi Tryz.func81 (by kernel_rfl) rfl) rfl 7 (by kernel_rfl) ?_
 conv=>whnf
 refine⟨fun h1=>?_,fun h1=>?_⟩
 ·have h1:y=true:=h1
  rw[h h1,h1];conv=>whnf
  exact⟨rfl,rfl,.inl rfl,fun i hi=>absurd hi (gr _)⟩
 ·have h1:y=false:=h1
  rw[h1];conv=>whnf
  refine⟨by omega,?_⟩
  conv=>whnf
  refine⟨rfl,oo _,.inr rfl,fun i hi=>?_⟩
  unfold catF
  rw[if_neg (gr _),r7]
def wv(z:Zo):Bool:=decide (z.apex.length<=1000) && (decide (z.rrs.length<=60) && z.rrs.all fun r=>decide (r.d.length<=5000) && decide (r.nm.length<=1000))
theorem zl0(z:Zo):FnOk Tryz.prog 25 [z.V] (.d (.int .i64 (if wv z then 1 else 0))):=by
 refine qp (TT:=TT) (IN:=qh []) qk qj mixed 1000 Tryz.func25 rfl (qi Tryz.func25 (by kernel_rfl) rfl) rfl 32 (by kernel_rfl) ?_
 conv=>whnf
 refine⟨fun h1=>?_,fun h1=>?_⟩
 ·have h1:¬ z.apex.length<=1000:=by
   have h:(z.apex.length:Int) > 1000:=of_decide_eq_true h1
   omega
  rw[show wv z=false by unfold wv;rw[decide_eq_false h1];rfl]
  conv=>whnf
  all_goals exact rfl
 have h1:z.apex.length<=1000:=by
  have h:¬ (z.apex.length:Int) > 1000:=of_decide_eq_false h1
  omega
 conv=>whnf
 refine⟨fun h2=>?_,fun h2=>?_⟩
 ·have h2:¬ z.rrs.length<=60:=by
   have h:(z.rrs.length:Int) > 60:=of_decide_eq_true h2
   omega
  rw[show wv z=false by unfold wv;rw[decide_eq_false h2,lz,lr]]
  conv=>whnf
  all_goals exact rfl
 have h2:z.rrs.length<=60:=by
  have h:¬ (z.rrs.length:Int) > 60:=of_decide_eq_false h2
  omega
 have hs:wv z=z.rrs.all fun r=>decide (r.d.length<=5000) && decide (r.nm.length<=1000):=by unfold wv;rw[decide_eq_true h1,decide_eq_true h2];rfl
 rw[hs];conv=>whnf
 refine .inv Nat (fun i=>i<=z.rrs.length/\(z.rrs.take i).all (fun r=>decide (r.d.length<=5000) && decide (r.nm.length<=1000))=true) (fun i=>[(18,iV i)]) (fun i=>[]) (fun i=>z.rrs.length - i) ⟨0,[0],⟨pu _,rfl⟩,?_⟩ ?_
 ·conv=>whnf
  repeat'(first|exact ⟨⟩|exact rfl|exact qa _|exact .inr rfl|exact fun _ _=>rfl|exact noI|apply And.intro)
 intro i hi;obtain⟨hi,hti⟩:=hi;conv=>whnf
 refine⟨fun h3=>?_,fun h3=>?_⟩
 ·have h3:i<z.rrs.length:=by
   have h:(i:Int)<z.rrs.length:=of_decide_eq_true h3
   omega
  have hw1:=w64s i (by omega)
  obtain⟨r,hr⟩:∃ r,z.rrs.getD i default=r:=⟨_,rfl⟩;have hrl:z.rrs[i]? = some r:=by rw[<-hr,List.getD,pn h3];rfl
  have hbad:(decide (r.d.length<=5000) && decide (r.nm.length<=1000))=false->(z.rrs.all fun r=>decide (r.d.length<=5000) && decide (r.nm.length<=1000))=false:=fun h=>by
   rw[aw];exact⟨r,py hrl,by rw[h];decide⟩
  conv=>whnf
  refine⟨by omega,?_⟩
  conv=>whnf
  rw[pp,hr];refine⟨fun h4=>?_,fun h4=>?_⟩
  ·have h4:¬ r.d.length<=5000:=by
    have h:(r.d.length:Int) > 5000:=of_decide_eq_true h4
    omega
   rw[hbad (by rw[decide_eq_false h4];rfl)]
   conv=>whnf
   all_goals exact rfl
  have h4:r.d.length<=5000:=by
   have h:¬ (r.d.length:Int) > 5000:=of_decide_eq_false h4
   omega
  conv=>whnf
  refine⟨fun h5=>?_,fun h5=>?_⟩
  ·have h5:¬ r.nm.length<=1000:=by
    have h:(r.nm.length:Int) > 1000:=of_decide_eq_true h5
    omega
   rw[hbad (by rw[decide_eq_false h5,lr])]
   conv=>whnf
   all_goals exact rfl
  have h5:r.nm.length<=1000:=by
   have h:¬ (r.nm.length:Int) > 1000:=of_decide_eq_false h5
   omega
  conv=>whnf
  rw[hw1];refine⟨i+1,[0],⟨h3,by rw[mr,hrl,bn,hti];simp[h4,h5]⟩,by omega,?_⟩
  conv=>whnf
  repeat'(first|exact ⟨⟩|exact rfl|exact qa _|exact .inr rfl|exact fun _ _=>rfl|exact noI|apply And.intro)
 ·have h3:i=z.rrs.length:=by
   have h:¬ (i:Int)<z.rrs.length:=of_decide_eq_false h3
   omega
  subst h3;rw [mz] at hti;rw[hti];conv=>whnf
  all_goals exact rfl
def Fo.small(f:Fo):Bool:=decide (f.zones.length<=8) && (decide (f.hosts.length<=12) && f.zones.all wv)
theorem zk9(f:Fo):FnOk Tryz.prog 8 [f.V] (.d (.int .i64 (if f.small then 1 else 0))):=by
 refine qp (TT:=TT) (IN:=qh []) qk qj mixed 1000 Tryz.func8 rfl (qi Tryz.func8 (by kernel_rfl) rfl) rfl 25 (by kernel_rfl) ?_
 conv=>whnf
 refine⟨fun h1=>?_,fun h1=>?_⟩
 ·have h1:¬ f.zones.length<=8:=by
   have h:(f.zones.length:Int) > 8:=of_decide_eq_true h1
   omega
  rw[show f.small=false by unfold Fo.small;rw[decide_eq_false h1];rfl]
  conv=>whnf
  all_goals exact rfl
 have h1:f.zones.length<=8:=by
  have h:¬ (f.zones.length:Int) > 8:=of_decide_eq_false h1
  omega
 conv=>whnf
 refine⟨fun h2=>?_,fun h2=>?_⟩
 ·have h2:¬ f.hosts.length<=12:=by
   have h:(f.hosts.length:Int) > 12:=of_decide_eq_true h2
   omega
  rw[show f.small=false by unfold Fo.small;rw[decide_eq_false h2,lz,lr]]
  conv=>whnf
  all_goals exact rfl
 have h2:f.hosts.length<=12:=by
  have h:¬ (f.hosts.length:Int) > 12:=of_decide_eq_false h2
  omega
 have hs:f.small=f.zones.all wv:=by unfold Fo.small;rw[decide_eq_true h1,decide_eq_true h2];rfl
 rw[hs];conv=>whnf
 refine .inv Nat (fun i=>i<=f.zones.length/\(f.zones.take i).all wv=true) (fun i=>[(18,iV i)]) (fun i=>[]) (fun i=>f.zones.length - i) ⟨0,[0],⟨pu _,rfl⟩,?_⟩ ?_
 ·conv=>whnf
  repeat'(first|exact ⟨⟩|exact rfl|exact qa _|exact .inr rfl|exact fun _ _=>rfl|exact noI|apply And.intro)
 intro i hi;obtain⟨hi,hti⟩:=hi;conv=>whnf
 refine⟨fun h3=>?_,fun h3=>?_⟩
 ·have h3:i<f.zones.length:=by
   have h:(i:Int)<f.zones.length:=of_decide_eq_true h3
   omega
  have hw1:=w64s i (by omega)
  obtain⟨z,hzd⟩:∃ z,f.zones.getD i default=z:=⟨_,rfl⟩;have hzl:f.zones[i]? = some z:=by rw[<-hzd,List.getD,pn h3];rfl
  conv=>whnf
  refine⟨by omega,?_⟩
  conv=>whnf
  rw[pp,hzd];refine od (zl0 z) rfl rfl ?_;cases hz:wv z with
  |false =>
   have hb:f.zones.all wv=false:=by
    rw[aw];exact⟨z,py hzl,by rw[hz];decide⟩
   rw[hb,if_neg (by decide)]
   conv=>whnf
   refine brT rfl ?_;conv=>whnf
   all_goals exact rfl
  |true =>
   rw[if_pos rfl];conv=>whnf
   refine brF rfl ?_;conv=>whnf
   rw[hw1];refine⟨i+1,[0],⟨h3,by rw[mr,hzl,bn,hti];simp[hz]⟩,by omega,?_⟩
   conv=>whnf
   repeat'(first|exact ⟨⟩|exact rfl|exact qa _|exact .inr rfl|exact fun _ _=>rfl|exact noI|apply And.intro)
 ·have h3:i=f.zones.length:=by
   have h:¬ (i:Int)<f.zones.length:=of_decide_eq_false h3
   omega
  subst h3;rw [mz] at hti;rw[hti];conv=>whnf
  all_goals exact rfl
def lzD:List UInt8:=[0,0]++List.replicate 20 0
def lzS:RR:=⟨[0],6,1,9,lzD⟩
def lzN:RR:=⟨[0],2,1,9,[1,110,0]⟩
def lzB:RR:=⟨[1,98,0],2,1,9,[1,110,1,98,0]⟩
def lzC:RR:=⟨[1,97,0],5,1,9,[1,119,1,98,0]⟩
def lzS2:RR:=⟨[1,98,0],6,1,9,lzD⟩
def lzN2:RR:=⟨[1,98,0],2,1,9,[1,110,0]⟩
def lzA:RR:=⟨[1,119,1,98,0],1,1,9,[97,98,99,100]⟩
def lzF:Fo:=⟨false,[⟨[0],false,[lzS,lzN,lzB,lzC]⟩,⟨[1,98,0],false,[lzS2,lzN2,lzA]⟩],false,[(7,false,[1])]⟩
def lzQ:Q:=⟨[1,97,0],1,1⟩
def lzX:Q:=⟨[1,120,0],1,1⟩
def lzV:Ver:=⟨[⟨[1,97,0],5,9,false,[[1,119,1,98,0]]⟩],⟨[1,119,1,98,0],1,9,false,[[97,98,99,100]]⟩,0,0⟩
def lzW:Ver:=⟨[],St.no,3,0⟩
theorem xo0:lzF.ok=true:=by kernel_rfl
theorem xo1:ofR lzF lzQ=lzV:=by kernel_rfl
theorem xm6:ofR lzF lzX=lzW:=by kernel_rfl
theorem xi6:vb lzF [1,98,0]=(1,0):=by kernel_rfl
theorem lz_same:qd1 lzV lzV=true/\qd1 lzV lzW=false:=⟨by kernel_rfl,by kernel_rfl⟩
def lzR1:List DV:=lzS.enc++(lzN.enc++(lzB.enc++lzC.enc))
def lzR2:List DV:=lzS2.enc++(lzN2.enc++lzA.enc)
def lzZr:List DV:=[.str [0],.sl false 4 5 (jd lzR1 5),.str [1,98,0],.sl false 3 5 (jd lzR2 5)]
def lzHr:List DV:=[.int .u32 7,.sl false 1 1 (jd [.int .i64 1] 1)]
def lzG:SV:=.agg [.d (.sl false 2 2 (jd lzZr 2)),.d (.sl false 1 2 (jd lzHr 2))]
theorem xn9:DS (.sl false 4 5 (jd lzR1 5)) (rrsD false [lzS,lzN,lzB,lzC]):=DS.rows fun i hi=>(match i,hi with
 |0,_=>DSL.refl _
 |1,_=>DSL.refl _
 |2,_=>DSL.refl _
 |3,_=>DSL.refl _)
theorem yy8:DS (.sl false 3 5 (jd lzR2 5)) (rrsD false [lzS2,lzN2,lzA]):=DS.rows fun i hi=>(match i,hi with
 |0,_=>DSL.refl _
 |1,_=>DSL.refl _
 |2,_=>DSL.refl _)
theorem jh7:AEq lzG lzF.V:=AEq.aggL ⟨.d (DS.rows fun i hi=>(match i,hi with
 |0,_=>⟨.refl _,xn9,trivial⟩
 |1,_=>⟨.refl _,yy8,trivial⟩)),.d (DS.rows fun i hi=>(match i,hi with
 |0,_=>⟨.refl _,DS.rows fun i hi=>(match i,hi with
  |0,_=>DSL.refl _),trivial⟩)),trivial⟩
theorem Fo.fit_small{f:Fo}(h:f.small=true):f.Fit:=fun z hz=>by
 unfold Fo.small at h
 simp only [px,gn] at h
 have h1:=h.2.2 z hz
 unfold wv at h1
 simp only [px,decide_eq_true_eq,gn] at h1
 exact⟨by omega,fun r hr=>by have:=h1.2.2 r hr;omega⟩
theorem jg5:lzF.Fit:=Fo.fit_small (by kernel_rfl)
theorem jg4:lzF.Len:=fun h hh=>by
 simp only [lzF,pr,List.mem_nil_iff,or_false] at hh
 subst hh;decide
theorem zn7:FnOk Tryz.prog 18 [] (.d (.bool true)):=by
 have c1:=(jt6 lzF jg5 jg4 lzQ).convA (args':=[lzG,.agg [.d (.str [1,97,0]),.d (.int .u16 1),.d (.int .u16 1)]]) ⟨jh7,.refl _,trivial⟩
 rw [xo1] at c1;have c2:=(jt6 lzF jg5 jg4 lzX).convA (args':=[lzG,.agg [.d (.str [1,120,0]),.d (.int .u16 1),.d (.int .u16 1)]]) ⟨jh7,.refl _,trivial⟩;rw [xm6] at c2;have c3:=(jp9 lzF jg5 jg4 [1,98,0]).convA (args':=[lzG,.d (.str [1,98,0])]) ⟨jh7,.refl _,trivial⟩;rw [xi6] at c3;have c4:=(yl0 lzF jg5 jg4).convA (args':=[lzG]) ⟨jh7,trivial⟩;rw [xo0,if_pos rfl] at c4;have c5:=jp9 ⟨true,[],true,[]⟩ (fun z hz=>by cases hz) (fun h hh=>by cases hh) [0]
 rw [show vb ⟨true,[],true,[]⟩ [0]=(0,2) by kernel_rfl] at c5
 have c5:=c5.convA (args':=[.agg [nilS,nilS],.d (.str [0])]) ⟨AEq.aggL ⟨.none _ _ _ _ _,.none _ _ _ _ _,trivial⟩,.refl _,trivial⟩
 have c8:=(zs5 false [lzS2,lzN2,lzA] (fun h=>by cases h) (by decide)).convA (args':=[.d (.sl false 3 5 (jd lzR2 5))]) ⟨.d yy8,trivial⟩
 have c6:=yq5 lzV lzV (by decide)
 rw [lz_same.1] at c6;have c7:=yq5 lzV lzW (by decide)
 rw [lz_same.2] at c7;refine qp (TT:=TT) (IN:=qh [(44,Tryz.f44,2),(79,Tryz.f79,2),(80,Tryz.f80,2)]) qk (jj (jj (jj qj Tryz.func80 (by kernel_rfl) (by kernel_rfl)) Tryz.func79 (by kernel_rfl) (by kernel_rfl)) Tryz.func44 (by kernel_rfl) (by kernel_rfl)) mixed 1000 Tryz.func18 rfl (qi Tryz.func18 (by kernel_rfl) rfl) rfl 151 (by kernel_rfl) ?_
 conv=>whnf
 refine⟨by decide,?_⟩
 conv=>whnf
 refine⟨fun i _=>⟨0,rfl⟩,?_⟩
 conv=>whnf
 refine⟨by decide,?_⟩
 conv=>whnf
 refine .fz [5,8,11] [(10,40,lzZr.map .d),(12,97,lzHr.map .d)] ⟨⟨_,rfl,?_,rfl⟩,⟨_,rfl,?_,rfl⟩,True.intro⟩ ?_
 ·conv=>whnf
  exact⟨rfl,rfl⟩
 ·conv=>whnf
  exact⟨rfl,rfl⟩
 refine .still [10,12] [(13,25,[.d (.sl false 2 2 (jd lzZr 2)),.d (.sl false 1 2 (jd lzHr 2))])] (.tup [lzV.V,.d (.int .i64 0)]) _ ⟨⟨_,rfl,?_,rfl⟩,True.intro⟩ ?_ c1 rfl rfl ?_
 ·conv=>whnf
  exact⟨rfl,rfl⟩
 ·conv=>whnf
  exact⟨rfl,rfl⟩
 conv=>whnf
 refine od c2 rfl rfl ?_;conv=>whnf
 refine od c3 rfl rfl ?_;conv=>whnf
 refine od c4 rfl rfl ?_;conv=>whnf
 repeat(first|(refine brT rfl ?_;conv=>whnf)|(refine brF rfl ?_;conv=>whnf)|(refine .once ?_;conv=>whnf)|(refine⟨by decide,?_⟩;conv=>whnf)|(refine And.intro (lx rfl) ?_;conv=>whnf))
 refine .data _ c8 rfl rfl ?_;conv=>whnf
 repeat(first|(refine brT rfl ?_;conv=>whnf)|(refine brF rfl ?_;conv=>whnf)|(refine .once ?_;conv=>whnf)|(refine⟨by decide,?_⟩;conv=>whnf)|(refine And.intro (lx rfl) ?_;conv=>whnf))
 refine od c4 rfl rfl ?_;conv=>whnf
 repeat(first|(refine brT rfl ?_;conv=>whnf)|(refine brF rfl ?_;conv=>whnf)|(refine .once ?_;conv=>whnf)|(refine⟨by decide,?_⟩;conv=>whnf)|(refine And.intro (lx rfl) ?_;conv=>whnf))
 refine od c5 rfl rfl ?_;conv=>whnf
 refine od c4 rfl rfl ?_;conv=>whnf
 repeat(first|(refine brT rfl ?_;conv=>whnf)|(refine brF rfl ?_;conv=>whnf)|(refine .once ?_;conv=>whnf)|(refine⟨by decide,?_⟩;conv=>whnf)|(refine And.intro (lx rfl) ?_;conv=>whnf))
 refine od c6 rfl rfl ?_;conv=>whnf
 repeat(first|(refine brT rfl ?_;conv=>whnf)|(refine brF rfl ?_;conv=>whnf)|(refine .once ?_;conv=>whnf)|(refine⟨by decide,?_⟩;conv=>whnf)|(refine And.intro (lx rfl) ?_;conv=>whnf))
 refine od c7 rfl rfl ?_;conv=>whnf
 repeat(first|(refine brT rfl ?_;conv=>whnf)|(refine brF rfl ?_;conv=>whnf)|(refine .once ?_;conv=>whnf)|(refine⟨by decide,?_⟩;conv=>whnf)|(refine And.intro (lx rfl) ?_;conv=>whnf))
 all_goals exact rfl
def ask1(q:Q):SV:=.agg [.d (.int .u16 0),.d (.int .u16 0),.d (.sl false 1 3 (jd q.enc 3)),nilS,nilS,nilS]
theorem xh6(z:Zo)(hz:z.Fit)(q:Q):FnOk Tryz.prog 15 [z.V,ask1 q] (.agg (ansF z (msg1 q)).cells) :=
 (zx9 z hz (msg1 q) (fun h=>by cases h) (by show 1<=1000000;decide)).convA ⟨.refl _,AEq.aggL ⟨.refl _,.refl _,.d (DS.rows fun i hi=>(match i,hi with
  |0,_=>DSL.refl _)),.none _ _ _ _ _,.none _ _ _ _ _,.none _ _ _ _ _,trivial⟩,trivial⟩
def j9(z:Zo)(q:Q):Cls:=xi (ansF z (msg1 q)) q z.apex
theorem xj0{z:Zo}{q:Q}(hn:qb q.nm)(hc:q.cl=1)(hz:z.ok=true)(hw:qd q.nm z.apex=true):FnOk Tryz.prog 14 [.agg (ansF z (msg1 q)).cells,q.V,.d (.str z.apex)] (j9 z q).V :=
 xf2 _ (yn2 hn hc hz hw).1 (yn2 hn hc hz hw).2 q (by have:=hn.2.1;omega) _
theorem yi3{s:St}(h:s.ok=true):xd s s=true:=by
 unfold xd eqF
 rw[h,zl2 ((St.ok_iff s).1 h).1];simp
theorem yy6{f:Fo}(hok:f.ok=true){at_:Nat}{z:Zo}(hz:f.zones[at_]? = some z){n:List UInt8}(hin:inZ z n=true)(ty:Int)(k:Nat)(c:List St) :
 ofF f.zones ty (k+1) n c=if (qc n ty z.rrs).2=0 then ⟨c,(qc n ty z.rrs).1,0,0⟩
  else if ty=5\/(qc n 5 z.rrs).2≠0\/(qc n 5 z.rrs).1.data.length=0 then ⟨c,St.no,if zy z n then 0 else 3,0⟩
  else if c.length >= 8 then ⟨[],St.no,0,9⟩
  else ofF f.zones ty k ((qc n 5 z.rrs).1.data.headD []) (c++[(qc n 5 z.rrs).1]):=by
 have hzo:=(Fo.parts hok).2.1 z (py hz)
 obtain⟨hw,hc⟩:=(qp1 hzo).1 hin;have hzd:f.zones.getD at_ default=z:=by rw[o8,hz];rfl
 have hd:=(xg8 hok hz hw hc).2
 have e1:ofF f.zones ty (k+1) n c=if qb n then (match yn f.zones n 300 0 with
  |none=>⟨[],St.no,0,12⟩
  |some at_=>if (qc n ty (f.zones.getD at_ default).rrs).2=0 then ⟨c,(qc n ty (f.zones.getD at_ default).rrs).1,0,0⟩
   else if ty=5\/(qc n 5 (f.zones.getD at_ default).rrs).2≠0\/(qc n 5 (f.zones.getD at_ default).rrs).1.data.length=0 then ⟨c,St.no,if zy (f.zones.getD at_ default) n then 0 else 3,0⟩
   else if c.length >= 8 then ⟨[],St.no,0,9⟩
   else ofF f.zones ty k ((qc n 5 (f.zones.getD at_ default).rrs).1.data.headD []) (c++[(qc n 5 (f.zones.getD at_ default).rrs).1])) else ⟨[],St.no,0,2⟩:=rfl
 rw[e1,if_pos (zd hw).1,hd];simp only;rw[hzd]
theorem of_steps{f:Fo}(hok:f.ok=true){at_:Nat}{z:Zo}(hz:f.zones[at_]? = some z)(ty:Int):∀ (m:Nat) (n:List UInt8) (c:List St) (k:Nat),inZ z n=true->m<k->c.length<=8 ->
 ((ql z ty m n).2.2 = .ans->c.length+(ql z ty m n).1.length<=8->ofF f.zones ty k n c=⟨c++(ql z ty m n).1,(qc (ql z ty m n).2.1 ty z.rrs).1,0,0⟩) /\
 ((ql z ty m n).2.2≠.ans->c.length+(ql z ty m n).1.length<=8->ofF f.zones ty k n c=ofF f.zones ty (k - (ql z ty m n).1.length) (ql z ty m n).2.1 (c++(ql z ty m n).1)) /\
 (8<c.length+(ql z ty m n).1.length->(ofF f.zones ty k n c).why=9)
 |0,n,c,k,_,_,hc=>by
  unfold ql
  refine⟨fun h=>(by cases h),fun _ _=>?_,fun h=>?_⟩
  ·show _=ofF f.zones ty (k - 0) n (c++[])
   rw[mv];rfl
  ·have h:8<c.length+0:=h
   omega
 |m+1,n,c,k,hin,hk,hc=>by
  obtain⟨k,rfl⟩:∃ k',k=k'+1:=⟨k - 1,by omega⟩
  have e1:=yy6 hok hz hin ty k c
  unfold ql
  by_cases h1:(qc n ty z.rrs).2=0
  ·rw [if_pos h1] at e1 ⊢;refine⟨fun _ _=>?_,fun h=>absurd rfl h,fun h=>?_⟩
   ·rw[e1,mv]
   ·have h:8<c.length+0:=h
    omega
  ·rw [if_neg h1] at e1 ⊢;by_cases h2:(qc n 5 z.rrs).2≠0
   ·rw[if_pos h2];refine⟨fun h=>(by cases h),fun _ _=>?_,fun h=>?_⟩
    ·show _=ofF f.zones ty (k+1 - 0) n (c++[])
     rw[mv];rfl
    ·have h:8<c.length+0:=h
     omega
   ·have h2':(qc n 5 z.rrs).2=0:=Classical.not_not.1 h2
    rw[if_neg h2];rw [if_neg (fun h=>h.elim (fun e=>h1 (e ▸ h2')) (fun h=>h.elim h2 (jn6 h2' (by decide))))] at e1
    by_cases h8:c.length >= 8
    ·rw [if_pos h8] at e1;have hw:(ofF f.zones ty (k+1) n c).why=9:=by rw[e1]
     split
     ·refine⟨fun _ h=>?_,fun _ h=>?_,fun _=>hw⟩
      ·have h:c.length+(_+1)<=8:=h
       omega
      ·have h:c.length+(_+1)<=8:=h
       omega
     ·refine⟨fun _ h=>?_,fun _ h=>?_,fun _=>hw⟩
      ·have h:c.length+(0+1)<=8:=h
       omega
      ·have h:c.length+(0+1)<=8:=h
       omega
    ·rw [if_neg h8] at e1;cases h3:inZ z ((qc n 5 z.rrs).1.data.headD []) with
     |true =>
      rw[if_pos rfl];obtain⟨g1,g2,g3⟩:=of_steps hok hz ty m _ (c++[(qc n 5 z.rrs).1]) k h3 (by omega) (by rw[p7,rz];omega)
      rw [<-e1] at g1 g2 g3;rw [p7,rz] at g1 g2 g3;generalize ql z ty m ((qc n 5 z.rrs).1.data.headD [])=x at g1 g2 g3 ⊢;refine⟨fun h hl=>?_,fun h hl=>?_,fun hl=>g3 ?_⟩
      ·have hl:c.length+(x.1.length+1)<=8:=hl
       rw[g1 h (by omega),gv]
       rfl
      ·have hl:c.length+(x.1.length+1)<=8:=hl
       rw[g2 h (by omega),gv]
       show _=ofF f.zones ty (k+1 - (x.1.length+1)) _ _
       rw[Nat.add_sub_add_right];rfl
      ·have hl:8<c.length+(x.1.length+1):=hl
       omega
     |false =>
      rw[if_neg (by decide)]
      refine⟨fun h=>(by cases h),fun _ _=>?_,fun hl=>?_⟩
      ·rw[e1];rfl
      ·have hl:8<c.length+(0+1):=hl
       omega
theorem zk6{z:Zo}{ty:Int}{k:Nat}{n:List UInt8}(h:(ql z ty (k+1) n).1=[])(ha:(ql z ty (k+1) n).2.2≠.ans):(qc n ty z.rrs).2≠0/\(qc n 5 z.rrs).2≠0:=by
 unfold ql at h ha
 by_cases h1:(qc n ty z.rrs).2=0
 ·rw [if_pos h1] at ha;exact absurd rfl ha
 ·rw [if_neg h1] at h;by_cases h2:(qc n 5 z.rrs).2≠0
  ·exact⟨h1,h2⟩
  ·rw [if_neg h2] at h;split at h <;> cases h
theorem xi4{f:Fo}(hok:f.ok=true){at_:Nat}{z:Zo}(hz:f.zones[at_]? = some z){n:List UInt8}(hin:inZ z n=true){ty:Int}{k j:Nat}{c:List St}(h:(ql z ty (j+1) n).1=[])(ha:(ql z ty (j+1) n).2.2≠.ans):ofF f.zones ty (k+1) n c=⟨c,St.no,if zy z n then 0 else 3,0⟩:=by
 obtain⟨h1,h2⟩:=zk6 h ha;rw[yy6 hok hz hin,if_neg h1,if_pos (.inr (.inl h2))]
theorem zn8{f:Fo}(hok:f.ok=true){at_:Nat}{z:Zo}(hz:f.zones[at_]? = some z){n:List UInt8}(hw:qd n z.apex=true)(ty:Int){k:Nat}(hk:8<k){c:List St}(hc:c.length<=8) :
 ((j9 z ⟨n,ty,1⟩).chain.length<=8/\∀ s ∈ (j9 z ⟨n,ty,1⟩).chain,s.ok=true) /\
 (8<c.length+(j9 z ⟨n,ty,1⟩).chain.length->(ofF f.zones ty k n c).why=9) /\
 (
  ((j9 z ⟨n,ty,1⟩).kind=1/\(j9 z ⟨n,ty,1⟩).ans.ok=true/\(c.length+(j9 z ⟨n,ty,1⟩).chain.length<=8->ofF f.zones ty k n c=⟨c++(j9 z ⟨n,ty,1⟩).chain,(j9 z ⟨n,ty,1⟩).ans,0,0⟩)) \/
  ((j9 z ⟨n,ty,1⟩).kind=2/\qb (j9 z ⟨n,ty,1⟩).target/\0<(j9 z ⟨n,ty,1⟩).chain.length/\(c.length+(j9 z ⟨n,ty,1⟩).chain.length<=8->ofF f.zones ty k n c=ofF f.zones ty (k - (j9 z ⟨n,ty,1⟩).chain.length) (j9 z ⟨n,ty,1⟩).target (c++(j9 z ⟨n,ty,1⟩).chain))) \/
  (((j9 z ⟨n,ty,1⟩).kind=3/\ofF f.zones ty k n c=⟨c,St.no,3,0⟩\/(j9 z ⟨n,ty,1⟩).kind=4/\ofF f.zones ty k n c=⟨c,St.no,0,0⟩)/\(j9 z ⟨n,ty,1⟩).chain=[]/\(j9 z ⟨n,ty,1⟩).ans=St.no) \/
  ((j9 z ⟨n,ty,1⟩).kind=5/\(j9 z ⟨n,ty,1⟩).chain=[]/\z.cut n=some (fold (j9 z ⟨n,ty,1⟩).target)/\qb (j9 z ⟨n,ty,1⟩).target/\(j9 z ⟨n,ty,1⟩).ans.ok=true)):=by
 have hn:=(zd hw).1
 have hzo:=(Fo.parts hok).2.1 z (py hz)
 cases hb:z.cut n with
 |some b =>
  obtain⟨c1,c2,c3,c4,c5⟩:=@zw7 z ⟨n,ty,1⟩ hn rfl hzo hw b hb;rw [show xi (ansF z (msg1 ⟨n,ty,1⟩)) ⟨n,ty,1⟩ z.apex=j9 z ⟨n,ty,1⟩ from rfl] at c1 c2 c3 c4 c5;refine⟨by rw[c2];exact⟨pu _,fun s hs=>by cases hs⟩,fun h=>?_,.inr (.inr (.inr ⟨c1,c2,by rw[c3],c4,c5⟩))⟩
  rw [c2] at h;have h:8<c.length+0:=h
  omega
 |none =>
  have hin:=(qp1 hzo).2 ⟨hw,hb⟩
  obtain⟨k1,k2,k3⟩:=@zw6 z ⟨n,ty,1⟩ hn rfl hzo hin;rw [show xi (ansF z (msg1 ⟨n,ty,1⟩)) ⟨n,ty,1⟩ z.apex=j9 z ⟨n,ty,1⟩ from rfl] at k1 k2 k3;obtain⟨g1,g2,g3⟩:=jo7 hzo (ty:=ty) 8 n;obtain⟨o1,o2,o3⟩:=of_steps hok hz ty 8 n c k hin hk hc;have hans:=yh3 hzo (ty:=ty) (n:=n);have hno:=@xi4 f hok at_ z hz n hin ty (k - 1) 7 c;rw [show k - 1+1=k by omega] at hno
  have k1:(ql z ty 8 n).2.2 = .ans->j9 z ⟨n,ty,1⟩=⟨1,(ql z ty 8 n).1,(qc (ql z ty 8 n).2.1 ty z.rrs).1,(ql z ty 8 n).2.1,0⟩:=k1
  have k2:(ql z ty 8 n).2.2≠.ans->(ql z ty 8 n).1≠[]->j9 z ⟨n,ty,1⟩=⟨2,(ql z ty 8 n).1,St.no,(ql z ty 8 n).2.1,0⟩:=k2
  have k3:(ql z ty 8 n).2.2≠.ans->(ql z ty 8 n).1=[]->∃ ttl,j9 z ⟨n,ty,1⟩=⟨if zy z n then 4 else 3,[],St.no,n,ttl⟩:=k3
  have hno:(ql z ty 8 n).1=[]->(ql z ty 8 n).2.2≠.ans->ofF f.zones ty k n c=⟨c,St.no,if zy z n then 0 else 3,0⟩:=hno
  by_cases h1:(ql z ty 8 n).2.2 = .ans
  ·rw[k1 h1];exact⟨⟨g1,g2⟩,o3,.inl ⟨rfl,(ws (hans h1).1 (je5 hzo (hans h1).1)).1,o1 h1⟩⟩
  ·by_cases h2:(ql z ty 8 n).1=[]
   ·obtain⟨ttl,h3⟩:=k3 h1 h2;have h4:=hno h2 h1
    rw[h3];refine⟨⟨pu _,fun s hs=>by cases hs⟩,fun h=>?_,.inr (.inr (.inl ⟨?_,rfl,rfl⟩))⟩
    ·have h:8<c.length+0:=h
     omega
    ·rw[h4];cases zy z n with
     |true=>exact .inr ⟨rfl,rfl⟩
     |false=>exact .inl ⟨rfl,rfl⟩
   ·rw[k2 h1 h2];exact⟨⟨g1,g2⟩,o3,.inr (.inl ⟨rfl,g3 hn,s8.2 h2,o2 h1⟩)⟩
def xl3:Option (List (List UInt8))->SV
 |none=>.tup [.any,.d .ff]
 |some l=>.tup [.d (.sl false l.length 1 (strs l)),.d .tt]
structure SpSt where
 at_:Nat
 l:List (List UInt8)
 m:Nat
set_option maxRecDepth 100000 in
theorem qf0(s:List UInt8):FnOk Tryz.prog 82 [.d (.str s)] (xl3 (je s)):=by
 refine qp (TT:=TT) (IN:=qh []) qk qj mixed 1000 Tryz.func82 rfl (qi Tryz.func82 (by kernel_rfl) rfl) rfl 52 (by kernel_rfl) ?_
 conv=>whnf
 refine⟨fun h1=>?_,fun h1=>?_⟩
 ·have h1:(s.length:Int) > 255:=of_decide_eq_true h1
  have e:je s=none:=by unfold je;rw[if_pos (by omega)]
  rw[e];conv=>whnf
  repeat'(first|exact ⟨⟩|exact rfl|exact .inr rfl|exact .inl rfl|exact fun _ _=>rfl|exact noI|apply And.intro)
 have h1:¬ (s.length:Int) > 255:=of_decide_eq_false h1
 have e:je s=qa7 (s.length+1) s:=by unfold je;rw[if_neg (by omega)]
 have hw:∀ n:Int,-9223372036854775808<=n/\n<=9223372036854775807->IntKind.i64.wrap n=n:=fun n h=>qe n h
 conv=>whnf
 refine .csT 4 0 9 1 (fun _=>[]) rfl rfl ?_
 refine .inv SpSt (fun x=>x.at_<=s.length/\s.length<x.at_+x.m/\x.l.length<=x.at_/\(qa7 x.m (s.drop x.at_)).map (x.l ++ ·)=qa7 (s.length+1) s) (fun x=>[(4,.all 1),(5,.d (.int .i64 x.at_))]) (fun x=>[(1,.row 9 1 x.l.length .no (strs x.l))]) (fun x=>s.length - x.at_) ⟨⟨0,[],s.length+1⟩,[0,1],⟨pu _,by show s.length<0+(s.length+1);omega,pu _,by simp⟩,?_⟩ ?_
 ·conv=>whnf
  repeat'(first|exact ⟨⟩|exact rfl|(intro i hi;exact absurd hi (gr _))|exact fun _ _=>rfl|apply And.intro)
 intro x hx;obtain⟨hk,hm,hll,hrest⟩:=hx;conv=>whnf
 generalize x.at_=k at hk hm hll hrest ⊢;generalize x.l=l at hll hrest ⊢;generalize x.m=m at hm hrest ⊢;have hdl:(s.drop k).length=s.length - k:=by simp
 have hd0:bt (s.drop k) 0=bt s k:=by rw[qg5];rfl
 have hbl:=u3 s k
 obtain⟨m',rfl⟩:∃ m',m=m'+1:=⟨m - 1,by omega⟩
 conv at hrest=>lhs;unfold qa7
 rw [hdl,hd0] at hrest;refine⟨fun c0=>?_,fun c0=>?_⟩
 ·have c0':k<s.length:=(by have h:(k:Int)<s.length:=of_decide_eq_true c0;omega)
  rw [if_neg (by omega)] at hrest
  conv=>whnf
  refine⟨by omega,?_⟩
  conv=>whnf
  rw[z1,hw _ (by omega)]
  refine⟨fun c1=>?_,fun c1=>?_⟩
  ·have c1:bt s k=0:=by
    have h:(bt s k:Int)=0:=by simpa using c1
    omega
   rw [if_pos c1] at hrest;conv=>whnf
   rw[hw ((s.length:Int) - 1) (by omega)]
   by_cases hz:s.length - k=1
   ·rw [if_pos hz] at hrest;rw[e,<-hrest];conv=>whnf
    refine⟨?_,?_,True.intro⟩
    ·exact⟨rfl,by simp,.inr rfl,fun i hi=>by simp⟩
    ·show((k:Int) == (s.length:Int) - 1)=true
     simp
     omega
   ·rw [if_neg hz] at hrest;rw[e,<-hrest];conv=>whnf
    refine⟨True.intro,?_,True.intro⟩;show((k:Int) == (s.length:Int) - 1)=false;simp;omega
  have c1:bt s k≠0:=by
   have h:(bt s k:Int)≠0:=by simpa using c1
   omega
  rw [if_neg c1] at hrest;conv=>whnf
  refine⟨fun c2=>?_,fun c2=>?_⟩
  ·have c2:(bt s k:Int) > 63:=of_decide_eq_true c2
   rw [if_pos (.inl (by omega))] at hrest
   rw[e,<-hrest];conv=>whnf
   exact⟨True.intro,rfl,True.intro⟩
  have c2:¬ (bt s k:Int) > 63:=of_decide_eq_false c2
  conv=>whnf
  rw[hw ((k:Int)+1) (by omega),hw ((k:Int)+1+bt s k) (by omega)]
  refine⟨fun c3=>?_,fun c3=>?_⟩
  ·have c3:(k:Int)+1+bt s k > s.length:=of_decide_eq_true c3
   rw [if_pos (.inr (by omega))] at hrest
   rw[e,<-hrest];conv=>whnf
   exact⟨True.intro,rfl,True.intro⟩
  have c3:¬ (k:Int)+1+bt s k > s.length:=of_decide_eq_false c3
  rw [if_neg (by omega)] at hrest
  conv=>whnf
  rw[hw ((k:Int)+1) (by omega),hw ((k:Int)+1+bt s k) (by omega)]
  refine⟨by omega,?_⟩
  conv=>whnf
  refine⟨by omega,?_⟩
  conv=>whnf
  rw[hw (1+(bt s k:Int)) (by omega),hw ((k:Int)+(1+bt s k)) (by omega),show(k:Int)+(1+(bt s k:Int))=((k+(1+bt s k):Nat):Int) by omega]
  refine⟨⟨k+(1+bt s k),l++[(s.drop (k+1)).take (bt s k)],m'⟩,[0,3],⟨by show k+(1+bt s k)<=_;omega,by show s.length<k+(1+bt s k)+m';omega,by show(l++[_]).length<=k+(1+bt s k);rw[p7];show l.length+1<=_;omega,?_⟩,by show s.length - (k+(1+bt s k))<s.length - k;omega,?_⟩
  ·rw[<-hrest,gy,gy];simp[Function.comp_def]
  conv=>whnf
  repeat'(first|exact ⟨⟩|exact rfl|apply And.intro)
  ·simp
  ·refine kp _ _ _ ?_;show[DV.str _]=[DV.str _]
   congr 2
   unfold sub
   rw[show((k:Int)+1+(bt s k:Int)).toNat - ((k:Int)+1).toNat=bt s k by omega,show((k:Int)+1).toNat=k+1 by omega]
 ·have c0':k=s.length:=(by have h:¬ (k:Int)<s.length:=of_decide_eq_false c0;omega)
  rw [if_pos (by omega)] at hrest
  rw[e,<-hrest];conv=>whnf
  exact⟨True.intro,rfl,True.intro⟩
set_option maxRecDepth 100000 in
theorem qf1(s:List UInt8):FnOk Tryz.prog 47 [.d (.str s)] (.d (.int .i64 (if qb s then 0 else 2))):=by
 refine qp (TT:=TT) (IN:=qh []) qk qj mixed 1000 Tryz.func47 rfl (qi Tryz.func47 (by kernel_rfl) rfl) rfl 11 (by kernel_rfl) ?_
 conv=>whnf
 refine .one (.data _ (qf0 s) rfl (by cases je s <;> rfl) ?_)
 have hn:=qs1 s
 cases hl:je s with
 |none =>
  have:¬ qb s:=fun h=>by rw [hn,hl] at h;cases h
  rw[if_neg this];conv=>whnf
  try exact rfl
 |some ls =>
  have:qb s:=hn.2 (by rw[hl];rfl)
  rw[if_pos this];conv=>whnf
  try exact rfl
set_option maxRecDepth 100000 in
theorem xc3{q:List UInt8}(h:q.length<=255):ui [IntKind.u8.wrap (q.length:Int)]=[UInt8.ofNat q.length]:=by
 show[UInt8.ofNat (IntKind.u8.wrap (q.length:Int)).toNat]=_
 have:(IntKind.u8.wrap (q.length:Int)).toNat=q.length:=by rw[b9];omega
 rw[this]
theorem xc6{l:List (List UInt8)}(hs:∀ x ∈ l,x.length<=255):(labs l).length<=256 * l.length:=by
 induction l with
 |nil=>exact pq _
 |cons a l ih =>
  have h1:=hs a (mq ..)
  have h2:=ih (fun x hx=>hs x (mw _ hx))
  show(lab a++labs l).length<=256 * (l.length+1)
  rw[p7,vw];omega
theorem zs8(z:Bool)(l:List (List UInt8))(hl:l.length<=100000)(hs:∀ x ∈ l,x.length<=255):FnOk Tryz.prog 115 [.d (.sl z l.length 1 (strs l))] (.d (.str (mk l))):=by
 refine qp (TT:=TT) (IN:=qh []) qk qj mixed 1000 Tryz.func115 rfl (qi Tryz.func115 (by kernel_rfl) rfl) rfl 23 (by kernel_rfl) ?_
 conv=>whnf
 refine .inv Nat (fun i=>i<=l.length) (fun i=>[(3,.d (.str (labs (l.take i)))),(8,.d (.int .i64 i))]) (fun _=>[]) (fun i=>l.length - i) ⟨0,[],pu _,?_⟩ ?_
 ·conv=>whnf
  repeat'(first|exact ⟨⟩|exact rfl|exact fun _=>Iff.rfl|exact fun _ _=>rfl|exact renM_ent rfl _|apply And.intro)
 intro i hi;conv=>whnf
 have hll:=xc6 (l:=l.take i) (fun x hx=>hs x (fy hx))
 have htl:(l.take i).length<=l.length:=by rw[m9];omega
 refine⟨fun c1=>?_,fun c1=>?_⟩
 ·have c1:(i:Int)<l.length:=of_decide_eq_true c1
  have hil:i<l.length:=by omega
  obtain⟨q,hq⟩:∃ q,l[i]?.getD []=q:=⟨_,rfl⟩;have hq2:l[i]? = some q:=by rw[<-hq,pn hil];rfl
  have htk:l.take (i+1)=l.take i++[q]:=by rw[mr,hq2];rfl
  have hql:=hs q (py hq2)
  have hw1:=w64s i (by omega)
  conv=>whnf
  refine⟨by omega,?_⟩
  conv=>whnf
  rw[pp,hq,xc3 hql];refine⟨by simp only[lq,ry];omega,?_⟩
  conv=>whnf
  refine⟨by simp only[p7,lq,ry];omega,?_⟩
  conv=>whnf
  refine⟨i+1,[],hil,by omega,?_⟩
  conv=>whnf
  rw[hw1];have hcat:labs (l.take i)++([UInt8.ofNat q.length]++q)=labs (l.take (i+1)):=by rw[htk,jn1];rfl
  rw[hcat];repeat'(first|exact ⟨⟩|exact rfl|exact fun _=>Iff.rfl|exact fun _ _=>rfl|exact renM_ent rfl _|apply And.intro)
 ·have c1:¬ (i:Int)<l.length:=of_decide_eq_false c1
  rw [gt (by omega)] at hll ⊢
  conv=>whnf
  refine⟨by show(labs l).length+1<=_;omega,?_⟩
  conv=>whnf
  exact congrArg DV.str (jf3 l)
theorem qf5(s:List UInt8)(hs:s.length<9223372036854775808):FnOk Tryz.prog 88 [.d (.str s)] (.d (.str (fold s))):=by
 refine qp (TT:=TT) (IN:=qh []) qk qj mixed 1000 Tryz.func88 rfl (qi Tryz.func88 (by kernel_rfl) rfl) rfl 28 (by kernel_rfl) ?_
 conv=>whnf
 refine .inv Nat (fun k=>k<=s.length) (fun k=>[(10,.d (.int .i64 k))]) (fun k=>[(0,.row 5 1 s.length .no (fun j=>[.int .u8 (mix s k j)]))]) (fun k=>s.length - k) ⟨0,[0],by omega,?_⟩ ?_
 ·conv=>whnf
  repeat'(first|exact ⟨⟩|exact rfl|apply And.intro)
  intro i hi;simp[mix,z1]
 intro k hk;have hk1:k<s.length->IntKind.i64.wrap ((k:Int)+1)=((k+1:Nat):Int):=fun _=>by rw[qe _ (by omega)];omega
 conv=>whnf
 refine⟨fun hlt=>?_,fun hge=>?_⟩
 ·have hlt':k<s.length:=by simpa using hlt
  conv=>whnf
  refine⟨by simp;omega,?_⟩
  have hmk:mix s k (Int.toNat (k:Int))=(bt s k:Int):=by simp[mix]
  have hb:=u3 s k
  conv=>whnf
  have stay:¬ (65<=bt s k/\bt s k<=90)->∀ i,i<s.length->[DV.int IntKind.u8 (mix s k i)]=[DV.int IntKind.u8 (mix s (k+1) i)]:=fun hn i hi=>by
   unfold mix
   by_cases e:i=k
   ·subst e;rw [if_neg (by omega),if_pos (by omega),qd2,if_neg (by unfold bt at hn;exact hn)]
    rfl
   ·by_cases e2:i<k
    ·rw[if_pos e2,if_pos (by omega)]
    ·rw[if_neg e2,if_neg (by omega)]
  rw[hmk];refine⟨fun h1=>?_,fun h1=>?_⟩
  ·conv=>whnf
   refine⟨fun h2=>?_,fun h2=>?_⟩
   ·conv=>whnf
    refine⟨by simp;omega,?_⟩
    conv=>whnf
    refine⟨k+1,[0],by omega,by show s.length - (k+1)<s.length - k;omega,?_⟩
    conv=>whnf
    repeat'(first|exact ⟨⟩|exact rfl|apply And.intro)
    all_goals first
     |exact congrArg SV.d (congrArg (DV.int _) (hk1 hlt'))
     |exact stay (by simp at h1 h2;omega)
     |(
      intro i hi;show oneF _ _ _ _ i=_
      unfold oneF mix
      simp at h1 h2
      by_cases e:i=k
      ·subst e;simp only[pp,if_true,putD,rp]
       rw [if_pos (by omega),qd2,if_pos (by unfold bt at h1 h2;omega),b9]
       unfold bt at *
       congr 2
       omega
      ·rw[if_neg (by simpa using e)]
       show[DV.int _ _]=[DV.int _ _]
       by_cases e2:i<k
       ·rw[if_pos e2,if_pos (by omega)]
       ·rw[if_neg e2,if_neg (by omega)])
   ·conv=>whnf
    refine⟨k+1,[0],by omega,by show s.length - (k+1)<s.length - k;omega,?_⟩
    conv=>whnf
    repeat'(first|exact ⟨⟩|exact rfl|apply And.intro)
    all_goals first
     |exact congrArg SV.d (congrArg (DV.int _) (hk1 hlt'))
     |exact stay (by simp at h1 h2;omega)
     |(
      intro i hi;show oneF _ _ _ _ i=_
      unfold oneF mix
      simp at h1 h2
      by_cases e:i=k
      ·subst e;simp only[pp,if_true,putD,rp]
       rw [if_pos (by omega),qd2,if_pos (by unfold bt at h1 h2;omega),b9]
       unfold bt at *
       congr 2
       omega
      ·rw[if_neg (by simpa using e)]
       show[DV.int _ _]=[DV.int _ _]
       by_cases e2:i<k
       ·rw[if_pos e2,if_pos (by omega)]
       ·rw[if_neg e2,if_neg (by omega)])
  ·conv=>whnf
   refine⟨k+1,[0],by omega,by show s.length - (k+1)<s.length - k;omega,?_⟩
   conv=>whnf
   repeat'(first|exact ⟨⟩|exact rfl|apply And.intro)
   all_goals first
    |exact congrArg SV.d (congrArg (DV.int _) (hk1 hlt'))
    |exact stay (by simp at h1;omega)
    |(
     intro i hi;show oneF _ _ _ _ i=_
     unfold oneF mix
     simp at h1
     by_cases e:i=k
     ·subst e;simp only[pp,if_true,putD,rp]
      rw [if_pos (by omega),qd2,if_pos (by unfold bt at h1;omega),b9]
      unfold bt at *
      congr 2
      omega
     ·rw[if_neg (by simpa using e)]
      show[DV.int _ _]=[DV.int _ _]
      by_cases e2:i<k
      ·rw[if_pos e2,if_pos (by omega)]
      ·rw[if_neg e2,if_neg (by omega)])
 ·have hke:k=s.length:=by simp at hge;omega
  subst hke;conv=>whnf
  refine⟨fun i _=>⟨_,rfl⟩,?_⟩
  conv=>whnf
  refine congrArg DV.str ?_;unfold yu fold
  apply d9;intro i;rw[o9,o9];by_cases hi:i<s.length
  ·rw[d4 hi,pn hi];simp[mix,hi]
  ·rw[gq (by simp;omega),gq (by omega)]
   rfl
theorem qn6(a b:List UInt8):FnOk Tryz.prog 50 [.d (.str a),.d (.str b)] (.d (.bool (jq a b))):=by
 refine qp (TT:=TT) (IN:=qh []) qk qj mixed 1000 Tryz.func50 rfl (qi Tryz.func50 (by kernel_rfl) rfl) rfl 18 (by kernel_rfl) ?_
 conv=>whnf
 refine od (qf1 a) rfl rfl ?_;by_cases ha:qb a
 ·rw[if_pos ha];conv=>whnf
  refine brT rfl ?_;conv=>whnf
  refine od (qf1 b) rfl rfl ?_;by_cases hb:qb b
  ·rw[if_pos hb];conv=>whnf
   refine brT rfl ?_;conv=>whnf
   refine od (qf5 a (qy4 ha)) rfl rfl ?_;conv=>whnf
   refine od (qf5 b (qy4 hb)) rfl rfl ?_;rw[show jq a b=(fold a == fold b) by unfold jq;rw[decide_eq_true ha,decide_eq_true hb];rfl]
   conv=>whnf
   try exact rfl
  ·rw[if_neg hb,show jq a b=false by unfold jq;rw[decide_eq_false hb,lz,lr]]
   conv=>whnf
   refine brF rfl ?_;conv=>whnf
   repeat(first|(refine brF rfl ?_;conv=>whnf))
   try exact rfl
 ·rw[if_neg ha,show jq a b=false by unfold jq;rw[decide_eq_false ha,lz]]
  conv=>whnf
  refine brF rfl ?_;conv=>whnf
  repeat(first|(refine brF rfl ?_;conv=>whnf))
  try exact rfl
def ul(a b:List UInt8):Bool:=decide (qb a) && (decide (qb b) && decide (jw (qw a) (qw b)<0))
theorem yq3{n:List UInt8}{l:List (List UInt8)}(h:je n=some l):labN n=l:=by unfold labN;rw[h];rfl
theorem yd2{a:List UInt8}(h:qb a):je (fold a)=some (fl a):=by
 have h2:=qj2 h
 obtain⟨l,hl⟩:=ru.1 ((qs1 _).1 h2);have:=yq3 hl;rw [qt4 h] at this;rw[hl,this]
theorem jc0{a b:List UInt8}(h:¬ (qb a/\qb b)):ul a b=false:=by
 unfold ul
 by_cases ha:qb a
 ·rw[decide_eq_false (fun hb=>h ⟨ha,hb⟩),lz,lr]
 ·rw[decide_eq_false ha,lz]
theorem zs7(a b:List UInt8)(ha0:a.length<=2000000)(hb0:b.length<=2000000):FnOk Tryz.prog 113 [.d (.str a),.d (.str b)] (.d (.bool (ul a b))):=by
 refine qp (TT:=TT) (IN:=qh []) qk qj mixed 1000 Tryz.func113 rfl (qi Tryz.func113 (by kernel_rfl) rfl) rfl 75 (by kernel_rfl) ?_
 conv=>whnf
 refine od (qf5 a (by omega)) rfl rfl ?_
 conv=>whnf
 refine .one (.data _ (qf0 (fold a)) (by cases je (fold a) <;> rfl) (by cases je (fold a) <;> rfl) ?_)
 have hcA:=qf1 a
 have hcB:=qf1 b
 have hsA:qb a->je (fold a)=some (fl a):=yd2
 have hsB:qb b->je (fold b)=some (fl b):=yd2
 cases hA:je (fold a) with
 |none =>
  rw [jc0 (fun h=>by rw [hsA h.1] at hA;cases hA)]
  conv=>whnf
  refine od (qf5 b (by omega)) rfl rfl ?_
  conv=>whnf
  refine .one (.data _ (qf0 (fold b)) (by cases je (fold b) <;> rfl) (by cases je (fold b) <;> rfl) ?_)
  cases hB:je (fold b) <;> (conv=>whnf)
  all_goals
   repeat(first|(refine brF rfl ?_;conv=>whnf)|(refine brT rfl ?_;conv=>whnf))
   try exact rfl
 |some la =>
  conv=>whnf
  refine od (qf5 b (by omega)) rfl rfl ?_
  conv=>whnf
  refine .one (.data _ (qf0 (fold b)) (by cases je (fold b) <;> rfl) (by cases je (fold b) <;> rfl) ?_)
  cases hB:je (fold b) with
  |none =>
   rw [jc0 (fun h=>by rw [hsB h.2] at hB;cases hB)]
   conv=>whnf
   repeat(first|(refine brF rfl ?_;conv=>whnf)|(refine brT rfl ?_;conv=>whnf))
   repeat'(first|exact ⟨⟩|exact rfl|exact fun _=>Iff.rfl|exact fun _ _=>rfl|exact renM_ent rfl _|apply And.intro)
  |some lb =>
   conv=>whnf
   repeat(first|(refine brF rfl ?_;conv=>whnf)|(refine brT rfl ?_;conv=>whnf))
   refine od hcA rfl rfl ?_;by_cases ha:qb a
   case neg =>
    rw[if_neg ha,jc0 (fun h=>ha h.1)]
    conv=>whnf
    repeat(first|(refine brF rfl ?_;conv=>whnf)|(refine brT rfl ?_;conv=>whnf))
    repeat'(first|exact ⟨⟩|exact rfl|exact fun _=>Iff.rfl|exact fun _ _=>rfl|exact renM_ent rfl _|apply And.intro)
   rw[if_pos ha];conv=>whnf
   repeat(first|(refine brF rfl ?_;conv=>whnf)|(refine brT rfl ?_;conv=>whnf))
   refine od hcB rfl rfl ?_;by_cases hb:qb b
   case neg =>
    rw[if_neg hb,jc0 (fun h=>hb h.2)]
    conv=>whnf
    repeat(first|(refine brF rfl ?_;conv=>whnf)|(refine brT rfl ?_;conv=>whnf))
    repeat'(first|exact ⟨⟩|exact rfl|exact fun _=>Iff.rfl|exact fun _ _=>rfl|exact renM_ent rfl _|apply And.intro)
   rw[if_pos hb,show ul a b=decide (jw la.reverse lb.reverse<0) by
    unfold ul qw
    rw[decide_eq_true ha,decide_eq_true hb,<-pw ((hsA ha).symm.trans hA),<-pw ((hsB hb).symm.trans hB)];rfl]
   have hla:la.length<=255:=by
    have:=jc3 ha
    unfold qw at this
    rwa [dz,pw ((hsA ha).symm.trans hA)] at this
   have hlb:lb.length<=255:=by
    have:=jc3 hb
    unfold qw at this
    rwa [dz,pw ((hsB hb).symm.trans hB)] at this
   clear hsA hsB hcA hcB hA hB ha hb;conv=>whnf
   repeat(first|(refine brF rfl ?_;conv=>whnf)|(refine brT rfl ?_;conv=>whnf))
   refine .inv Nat (fun i=>i<=la.length/\i<=lb.length/\jw (la.reverse.drop i) (lb.reverse.drop i)=jw la.reverse lb.reverse) (fun i=>[(9,iV (i+1))]) (fun _=>[]) (fun i=>la.length - i) ⟨0,[],⟨pu _,pu _,rfl⟩,?_⟩ ?_
   ·conv=>whnf
    repeat'(first|exact ⟨⟩|exact rfl|exact fun _=>Iff.rfl|exact fun _ _=>rfl|exact renM_ent rfl _|apply And.intro)
   intro i hi;obtain⟨hi1,hi2,hi3⟩:=hi;generalize jw la.reverse lb.reverse=Y at hi3 ⊢;have hw1:IntKind.i64.wrap (((i+1:Nat):Int)+1)=((i+1+1:Nat):Int):=by rw[qe _ (by omega)];omega
   conv=>whnf
   refine⟨fun c0=>?_,fun c0=>?_⟩
   ·have c0':i<la.length:=(by have h:((i+1:Nat):Int)<=la.length:=of_decide_eq_true c0;omega)
    have cr:i<la.reverse.length:=by rw[dz];exact c0'
    have hq1:IntKind.i64.wrap ((la.length:Int) - ((i+1:Nat):Int))=((la.length - (i+1):Nat):Int):=by rw[qe _ (by omega)];omega
    rw [ly cr] at hi3;conv=>whnf
    by_cases hlt:i<lb.length
    case neg =>
     rw [show lb.reverse.drop i=[] from dy (by rw [dz];omega)] at hi3
     simp only [jw] at hi3
     rw[<-hi3];refine brF (decide_eq_false (by omega)) ?_
     conv=>whnf
     rw[decide_eq_false (by omega)]
     try exact rfl
    have dr:i<lb.reverse.length:=by rw[dz];exact hlt
    have hq2:IntKind.i64.wrap ((lb.length:Int) - ((i+1:Nat):Int))=((lb.length - (i+1):Nat):Int):=by rw[qe _ (by omega)];omega
    rw [ly dr] at hi3;simp only [jw] at hi3
    have e1:la.reverse[i]=la[la.length - (i+1)]?.getD []:=by
     rw[List.getElem_reverse,pn (by omega)]
     show _=la[la.length - (i+1)]
     congr 1;omega
    have e2:lb.reverse[i]=lb[lb.length - (i+1)]?.getD []:=by
     rw[List.getElem_reverse,pn (by omega)]
     show _=lb[lb.length - (i+1)]
     congr 1;omega
    rw [e1,e2] at hi3;refine brT (decide_eq_true (by omega)) ?_
    conv=>whnf
    rw[hq1];refine⟨by omega,?_⟩
    conv=>whnf
    rw[hq2];refine⟨by omega,?_⟩
    conv=>whnf
    rw[pp,pp];generalize la[la.length - (i+1)]?.getD []=x at hi3 ⊢;generalize lb[lb.length - (i+1)]?.getD []=y at hi3 ⊢;by_cases hc:x=y
    ·subst hc;rw [if_neg (by unfold cmpS;simp [x9])] at hi3
     refine brF (by simp) ?_
     conv=>whnf
     rw[hw1];refine⟨i+1,[],⟨c0',hlt,hi3⟩,by omega,?_⟩
     conv=>whnf
     repeat'(first|exact ⟨⟩|exact rfl|exact fun _=>Iff.rfl|exact fun _ _=>rfl|exact renM_ent rfl _|apply And.intro)
    ·have hz:cmpS x y≠0:=fun h=>hc (zw5 h)
     rw [if_pos hz] at hi3;rw[<-hi3];refine brT (by simp[hc]) ?_
     conv=>whnf
     have hl:decide (cmpS x y<0)=Op.bytesLess x y:=by
      unfold cmpS
      cases Op.bytesLess x y
      ·rw[if_neg (by decide),if_neg hc];rfl
      ·rfl
     rw[hl];try exact rfl
   ·have c0':i=la.length:=(by have h:¬ ((i+1:Nat):Int)<=la.length:=of_decide_eq_false c0;omega)
    rw [show la.reverse.drop i=[] from dy (by rw [dz];omega)] at hi3
    conv=>whnf
    by_cases hlt:i<lb.length
    ·have dr:i<lb.reverse.length:=by rw[dz];exact hlt
     rw [ly dr] at hi3;simp only [jw] at hi3
     rw[<-hi3,decide_eq_true (show(la.length:Int)<lb.length by omega)]
     try exact rfl
    ·rw [dy (by rw [dz];omega)] at hi3
     simp only [jw] at hi3
     rw[<-hi3,decide_eq_false (show ¬ (la.length:Int)<lb.length by omega)]
     try exact rfl
def r1wI(a b:List UInt8):Bool:=match je a,je b with
 |some l,some m=>decide (m.length<=l.length) && (fold (mk (l.drop (l.length - m.length))) == fold b)
 |_,_=>false
def r1cI(a:List UInt8):Nat:=match je a with
 |some l=>l.length
 |none=>0
def r2dI(a b:List UInt8):Int:=if r1wI a b then (r1cI a:Int) - (r1cI b:Int) else -1
theorem jn2{a:List UInt8}{l:List (List UInt8)}(h:je a=some l):l.length<=255/\∀ x ∈ l,x.length<=255:=by
 have hn:qb a:=(qs1 a).2 (by rw[h];rfl)
 have e:=yq3 h
 obtain⟨_,h2,_⟩:=xp hn;rw [e] at h2;refine ⟨?_,fun x hx=>by have:=h2 x hx;unfold okL at this;omega⟩
 have:=jc3 hn
 unfold qw fl at this
 rw [dz,o4,e] at this;exact this
theorem yx3:∀ (l:List (List UInt8)),(∀ x ∈ l,x.length<=255)->(mk l).length<=l.length * 256+1
 |[],_=>pq _
 |a :: l,h=>by
  have h1:=yx3 l (fun x hx=>h x (by simp[hx]))
  have h2:=h a (by simp)
  have:(mk (a :: l)).length=1+a.length+(mk l).length:=qy3 a l
  rw[this,lq];omega
theorem yd8(a:List UInt8):FnOk Tryz.prog 112 [.d (.str a)] (iV (r1cI a)):=by
 refine qp (TT:=TT) (IN:=qh []) qk qj mixed 1000 Tryz.func112 rfl (qi Tryz.func112 (by kernel_rfl) rfl) rfl 13 (by kernel_rfl) ?_
 unfold r1cI
 conv=>whnf
 refine .one (.data _ (qf0 a) (by cases je a <;> rfl) (by cases je a <;> rfl) ?_)
 cases hA:je a with
 |none =>
  conv=>whnf
  repeat(first|(refine brF rfl ?_;conv=>whnf)|(refine brT rfl ?_;conv=>whnf))
  all_goals exact rfl
 |some l =>
  conv=>whnf
  repeat(first|(refine brF rfl ?_;conv=>whnf)|(refine brT rfl ?_;conv=>whnf))
  all_goals exact rfl
theorem jz7(a b:List UInt8)(hb:b.length<=2000000):FnOk Tryz.prog 86 [.d (.str a),.d (.str b)] (.d (.bool (r1wI a b))):=by
 refine qp (TT:=TT) (IN:=qh []) qk qj mixed 1000 Tryz.func86 rfl (qi Tryz.func86 (by kernel_rfl) rfl) rfl 42 (by kernel_rfl) ?_
 conv=>whnf
 refine .one (.data _ (qf0 a) (by cases je a <;> rfl) (by cases je a <;> rfl) ?_)
 cases hA:je a with
 |none =>
  rw[show r1wI a b=false by unfold r1wI;rw[hA]]
  conv=>whnf
  refine .one (.data _ (qf0 b) (by cases je b <;> rfl) (by cases je b <;> rfl) ?_)
  cases hB:je b <;> (conv=>whnf)
  all_goals
   repeat(first|(refine brF rfl ?_;conv=>whnf)|(refine brT rfl ?_;conv=>whnf))
   try exact rfl
 |some l =>
  obtain⟨l1,l2⟩:=jn2 hA;conv=>whnf
  refine .one (.data _ (qf0 b) (by cases je b <;> rfl) (by cases je b <;> rfl) ?_)
  cases hB:je b with
  |none =>
   rw[show r1wI a b=false by unfold r1wI;rw[hA,hB]]
   conv=>whnf
   repeat(first|(refine brF rfl ?_;conv=>whnf)|(refine brT rfl ?_;conv=>whnf))
   all_goals exact rfl
  |some m =>
   rw[show r1wI a b=(decide (m.length<=l.length) && (fold (mk (l.drop (l.length - m.length))) == fold b)) by unfold r1wI;rw[hA,hB]]
   obtain⟨m1,m2⟩:=jn2 hB;conv=>whnf
   refine⟨fun h1=>?_,fun h1=>?_⟩
   ·have h1:m.length<=l.length:=by
     have h:(l.length:Int) >= m.length:=of_decide_eq_true h1
     omega
    rw[decide_eq_true h1,m6];have hw:IntKind.i64.wrap ((l.length:Int) - (m.length:Int))=((l.length - m.length:Nat):Int):=by rw[qe _ (by omega)];omega
    conv=>whnf
    rw[hw];refine⟨by omega,?_⟩
    conv=>whnf
    have hsl:(DV.sl false ((l.length:Int) - ((l.length - m.length:Nat):Int)).toNat 1 fun j=>strs l (((l.length - m.length:Nat):Int).toNat+j))=DV.sl false (l.drop (l.length - m.length)).length 1 (strs (l.drop (l.length - m.length))):=by
     rw[ow,show((l.length:Int) - ((l.length - m.length:Nat):Int)).toNat=l.length - (l.length - m.length) by omega]
     congr 1
     funext j
     unfold strs
     rw[mu,pp]
    rw[hsl];have hK:(l.drop (l.length - m.length)).length<=255/\∀ x ∈ l.drop (l.length - m.length),x.length<=255:=⟨by rw[ow];omega,fun x hx=>l2 x (co hx)⟩
    generalize l.drop (l.length - m.length)=K at hK ⊢;refine od (zs8 false K (by omega) hK.2) rfl rfl ?_
    have hmk:=yx3 K hK.2
    conv=>whnf
    refine od (qf5 (mk K) (by omega)) rfl rfl ?_
    conv=>whnf
    refine od (qf5 b (by omega)) rfl rfl ?_
    conv=>whnf
    repeat(first|(refine brF rfl ?_;conv=>whnf)|(refine brT rfl ?_;conv=>whnf))
    all_goals exact rfl
   ·have h1:¬ m.length<=l.length:=by
     have h:¬ (l.length:Int) >= m.length:=of_decide_eq_false h1
     omega
    rw[decide_eq_false h1,lz];conv=>whnf
    repeat(first|(refine brF rfl ?_;conv=>whnf)|(refine brT rfl ?_;conv=>whnf))
    all_goals exact rfl
theorem yu1(a:List UInt8):r1cI a<=255:=by
 unfold r1cI
 cases h:je a with
 |none=>exact pu _
 |some l=>exact(jn2 h).1
theorem yd7(a b:List UInt8)(hb:b.length<=2000000):FnOk Tryz.prog 83 [.d (.str a),.d (.str b)] (.d (.int .i64 (r2dI a b))):=by
 refine qp (TT:=TT) (IN:=qh []) qk qj mixed 1000 Tryz.func83 rfl (qi Tryz.func83 (by kernel_rfl) rfl) rfl 12 (by kernel_rfl) ?_
 unfold r2dI
 conv=>whnf
 refine od (jz7 a b hb) rfl rfl ?_;have h1:=yu1 a;have h2:=yu1 b;cases r1wI a b with
 |false =>
  rw[if_neg (by decide)]
  conv=>whnf
  repeat(first|(refine brF rfl ?_;conv=>whnf)|(refine brT rfl ?_;conv=>whnf))
  all_goals exact rfl
 |true =>
  rw[if_pos rfl];conv=>whnf
  refine brF rfl ?_;conv=>whnf
  refine od (yd8 a) rfl rfl ?_;conv=>whnf
  refine od (yd8 b) rfl rfl ?_;conv=>whnf
  rw[qe _ (by omega)]
  all_goals exact rfl
def cntB(n:List UInt8):List (List UInt8)->Nat
 |[]=>0
 |d :: D=>if ul d n then cntB n D+1 else 0
def insB(D:List (List UInt8))(n:List UInt8):List (List UInt8):=if cntB n D<D.length/\jq (D.getD (cntB n D) []) n=true then D else D.take (cntB n D)++n :: D.drop (cntB n D)
def xw(l:List (List UInt8)):List (List UInt8):=l.foldl (fun D n=>if qb n then insB D n else D) []
theorem js6(n:List UInt8):∀ D,cntB n D<=D.length
 |[]=>pq 0
 |d :: D=>by
  unfold cntB
  split
  ·exact Nat.succ_le_succ (js6 n D)
  ·exact pu _
theorem ym9(n:List UInt8):∀ D k,k<=cntB n D->k<D.length->(k<cntB n D↔ul (D.getD k []) n=true)
 |[],k,_,h=>absurd h (gr _)
 |d :: D,0,_,_=>by
  show 0<cntB n (d :: D)↔ul d n=true
  unfold cntB
  split
  ·rename_i h;simp[h]
  ·rename_i h;simp[h]
 |d :: D,k+1,hk,hl=>by
  have hk':=hk
  unfold cntB at hk'
  split at hk'
  ·rename_i h
   have e:cntB n (d :: D)=cntB n D+1:=by show(if ul d n then _ else _)=_;rw[if_pos h]
   rw[e];have:=ym9 n D k (by omega) (by simpa using hl)
   show k+1<cntB n D+1↔ul (D.getD k []) n=true
   rw[<-this];omega
  ·omega
theorem xd0(D:List (List UInt8))(n:List UInt8):(insB D n).length<=D.length+1:=by
 unfold insB
 split
 ·omega
 ·have:=js6 n D
  rw[p7,m9,lq,ow];omega
theorem xc9{D:List (List UInt8)}{n x:List UInt8}(h:x ∈ insB D n):x ∈ D\/x=n:=by
 unfold insB at h
 split at h
 ·exact .inl h
 ·rcases ox.1 h with h|h
  ·exact .inl (fy h)
  ·rcases pr.1 h with h|h
   ·exact .inr h
   ·exact .inl (co h)
theorem zk7(l:List (List UInt8))(n:List UInt8):xw (l++[n])=if qb n then insB (xw l) n else xw l:=by
 unfold xw
 rw[List.foldl_append];rfl
theorem yi0(l:List (List UInt8)):(xw l).length<=l.length:=by
 have:∀ (l D:List (List UInt8)),(l.foldl (fun D n=>if qb n then insB D n else D) D).length<=l.length+D.length:=by
  intro l;induction l with
  |nil=>intro D;show D.length<=0+D.length;omega
  |cons a l ih =>
   intro D;refine o7 (ih _) ?_;rw[lq];show l.length+(if qb a then insB D a else D).length<=_;split
   ·have:=xd0 D a;omega
   ·omega
 exact this l []
theorem yh9{l:List (List UInt8)}{x:List UInt8}:x ∈ xw l->qb x:=by
 have:∀ (l D:List (List UInt8)),(∀ x ∈ D,qb x)->∀ x ∈ l.foldl (fun D n=>if qb n then insB D n else D) D,qb x:=by
  intro l;induction l with
  |nil=>exact fun D h=>h
  |cons a l ih =>
   intro D h;refine ih _ ?_;show ∀ x ∈ (if qb a then insB D a else D),qb x;split
   ·rename_i ha
    exact fun x hx=>(xc9 hx).elim (h x) (fun e=>e ▸ ha)
   ·exact h
 exact this l [] (fun x hx=>by cases hx) x
theorem jr3(l:List (List UInt8))(i:Nat):strs l i=[.str (l[i]?.getD [])]:=rfl
theorem yq6(D:List (List UInt8))(x:List UInt8)(k:Nat)(hk:k<=D.length)(i:Nat):catF (0+((k:Int) - 0).toNat+1) (catF (0+((k:Int) - 0).toNat) (catF 0 (jd [] 1) fun j=>strs D (Int.toNat 0+j)) (jd [DV.str x] 1)) (fun j=>strs D ((k:Int).toNat+j)) i=strs (D.take k++x :: D.drop k) i:=by
 rw[show 0+((k:Int) - 0).toNat=k by omega,pp]
 rw[jr3];unfold catF
 rcases d6 i k with h|h|h
 ·rw[if_pos (by omega),if_pos h,if_neg (by omega)]
  rw[p9 (by simp;omega),List.getElem?_take_of_lt h]
  show strs D (Int.toNat 0+(i - 0))=_
  rw[jr3];simp
 ·subst h;rw[if_pos (by omega),if_neg (by omega),dq]
  rw[oz (by simp;omega)]
  rw[show i - (D.take i).length=0 by simp;omega]
  rfl
 ·rw[if_neg (by omega)]
  rw[oz (by simp;omega)]
  rw[show i - (D.take k).length=(i - k - 1)+1 by simp;omega]
  rw[List.getElem?_cons_succ,mu];show strs D (k+(i - (k+1)))=_;rw[jr3,show i - (k+1)=i - k - 1 by omega]
def zzS:List (List UInt8)->Z
 |[]=>.iff
 |_ :: _=>.no
theorem yt1(l m:List (List UInt8))(x:List UInt8):zzS (l++x :: m) = .no:=by cases l <;> rfl
theorem zs6(z:Bool)(l:List (List UInt8))(hn:l.length<=100000):FnOk Tryz.prog 84 [.d (.sl z l.length 1 (strs l))] (.d (.sl (xw l).isEmpty (xw l).length 1 (strs (xw l)))):=by
 refine qp (TT:=TT) (IN:=qh []) qk qj mixed 1000 Tryz.func84 rfl (qi Tryz.func84 (by kernel_rfl) rfl) rfl 60 (by kernel_rfl) ?_
 conv=>whnf
 refine .nilT 3 9 1 (strs []) _ _ rfl ?_;conv=>whnf
 refine .inv Nat (fun i=>i<=l.length) (fun i=>[(11,iV i),(3,.all 0)]) (fun i=>[(0,.row 9 1 (xw (l.take i)).length (zzS (xw (l.take i))) (strs (xw (l.take i))))]) (fun i=>l.length - i) ⟨0,[0],pu _,?_⟩ ?_
 ·conv=>whnf
  repeat'(first|exact ⟨⟩|exact rfl|exact qa _|exact .inr rfl|exact fun _ _=>rfl|exact noI|apply And.intro)
 intro i hi;conv=>whnf
 refine⟨fun h1=>?_,fun h1=>?_⟩
 ·have h1:i<l.length:=by
   have h:(i:Int)<l.length:=of_decide_eq_true h1
   omega
  obtain⟨r,hr⟩:∃ r,l[i]?.getD []=r:=⟨_,rfl⟩;have hrl:l[i]? = some r:=by rw[<-hr,pn h1];rfl
  have htk:l.take (i+1)=l.take i++[r]:=by rw[mr,hrl];rfl
  have hw1:=w64s i (by omega)
  have hnx:=zk7 (l.take i) r
  rw [<-htk] at hnx;have hDm:∀ x ∈ xw (l.take i),qb x:=fun x hx=>yh9 hx
  have hDl:(xw (l.take i)).length<=i:=o7 (yi0 _) (by rw[m9];omega)
  conv=>whnf
  refine⟨by omega,?_⟩
  conv=>whnf
  rw[pp,hr];refine od (qf1 r) rfl rfl ?_;by_cases hck:qb r;case neg =>
   rw [if_neg hck] at hnx;rw[if_neg hck];conv=>whnf
   refine brT rfl ?_;conv=>whnf
   rw[hw1];refine⟨i+1,[0],h1,by omega,?_⟩
   rw[hnx];conv=>whnf
   repeat'(first|exact ⟨⟩|exact rfl|exact qa _|exact .inr rfl|exact fun _ _=>rfl|exact noI|apply And.intro)
  rw [if_pos hck] at hnx;rw[if_pos hck];conv=>whnf
  refine brF rfl ?_;conv=>whnf
  generalize xw (l.take i)=D at hnx hDm hDl ⊢;have hcl:=js6 r D;refine .inv Nat (fun k=>k<=cntB r D) (fun k=>[(6,iV k)]) (fun _=>[(0,.row 9 1 D.length (zzS D) (strs D))]) (fun k=>D.length - k) ⟨0,[0],pu _,?_⟩ ?_
  ·conv=>whnf
   repeat'(first|exact ⟨⟩|exact rfl|exact qa _|exact .inr rfl|exact fun _ _=>rfl|exact noI|apply And.intro)
  intro k hk;have hkw:=w64s k (by omega)
  have hspec:=ym9 r D k hk
  have hDk:∀ h:k<D.length,(D.getD k []).length<=255:=fun h=>(hDm _ (by rw[o8,pn h];exact d5 h)).2.1
  have hge:D.getD k []=D[k]?.getD []:=o8 ..
  rw [hge] at hspec hDk;conv=>whnf
  refine⟨fun h6=>?_,fun h6=>?_⟩
  ·have h6r:=h6
   have h6:k<D.length:=by
    have h:(k:Int)<D.length:=of_decide_eq_true h6
    omega
   conv=>whnf
   refine⟨by omega,?_⟩
   conv=>whnf
   rw[pp];refine od (zs7 (D[k]?.getD []) r (by have:=hDk h6;omega) (by have:=hck.2.1;omega)) rfl rfl ?_
   cases h7:ul (D[k]?.getD []) r with
   |true =>
    have hk2:=(hspec h6).2 h7
    conv=>whnf
    refine brT rfl ?_;conv=>whnf
    rw[hkw];refine⟨k+1,[0],hk2,by omega,?_⟩
    conv=>whnf
    repeat'(first|exact ⟨⟩|exact rfl|exact qa _|exact .inr rfl|exact fun _ _=>rfl|exact noI|apply And.intro)
   |false =>
    have hk2:k=cntB r D:=by
     have:=mt (hspec h6).1 (by rw[h7];decide)
     omega
    conv=>whnf
    refine brF rfl ?_;conv=>whnf
    refine brT h6r ?_;conv=>whnf
    refine⟨by omega,?_⟩
    conv=>whnf
    rw[pp];refine od (qn6 (D[k]?.getD []) r) rfl rfl ?_;cases h8:jq (D[k]?.getD []) r with
    |true =>
     have hins:insB D r=D:=by unfold insB;rw[<-hk2,if_pos ⟨h6,by rw[hge];exact h8⟩]
     rw [hins] at hnx;conv=>whnf
     refine brT rfl ?_;conv=>whnf
     rw[hw1];refine⟨i+1,[0],h1,by omega,?_⟩
     rw[hnx];conv=>whnf
     repeat'(first|exact ⟨⟩|exact rfl|exact qa _|exact .inr rfl|exact fun _ _=>rfl|exact noI|apply And.intro)
    |false =>
     have hins:insB D r=D.take k++r :: D.drop k:=by unfold insB;rw [<-hk2,if_neg (fun h=>by rw [hge,h8] at h;cases h.2)]
     conv=>whnf
     refine brF rfl ?_;conv=>whnf
     rw [hins] at hnx;refine⟨by omega,?_⟩
     conv=>whnf
     repeat(refine And.intro (by omega) ?_;conv=>whnf)
     rw[hw1];refine⟨i+1,[5],h1,by omega,?_⟩
     rw[hnx];conv=>whnf
     repeat'(first|exact ⟨⟩|exact rfl|exact qa _|exact .inr rfl|exact fun _ _=>rfl|exact noI|apply And.intro)
     ·simp only[p7,m9,lq,ow];omega
     ·rw[yt1];exact True.intro
     ·exact fun x hx=>yq6 D r k (by omega) x
  ·have h6r:=h6
   have h6:k=D.length:=by
    have h:¬ (k:Int)<D.length:=of_decide_eq_false h6
    omega
   have hins:insB D r=D.take k++r :: D.drop k:=by unfold insB;rw[show cntB r D=k by omega,if_neg (fun h=>by omega)]
   conv=>whnf
   refine brF h6r ?_;conv=>whnf
   rw [hins] at hnx;refine⟨by omega,?_⟩
   conv=>whnf
   repeat(refine And.intro (by omega) ?_;conv=>whnf)
   rw[hw1];refine⟨i+1,[5],h1,by omega,?_⟩
   rw[hnx];conv=>whnf
   repeat'(first|exact ⟨⟩|exact rfl|exact qa _|exact .inr rfl|exact fun _ _=>rfl|exact noI|apply And.intro)
   ·simp only[p7,m9,lq,ow];omega
   ·rw[yt1];exact True.intro
   ·exact fun x hx=>yq6 D r k (by omega) x
 ·have h1:i=l.length:=by
   have h:¬ (i:Int)<l.length:=of_decide_eq_false h1
   omega
  subst h1;rw[mz];generalize xw l=D;cases D <;> (conv=>whnf) <;> repeat'(first|exact ⟨⟩|exact rfl|exact fun _ _=>rfl|exact .inr rfl|apply And.intro)
theorem yl6(s t:List UInt8):∀ (ls pre:List (List UInt8)) (m:Nat),(∀ l ∈ pre,okL l)->(∀ l ∈ ls,okL l)->s=labs pre++(mk ls++t)->(labs pre++mk ls).length<=255->256<=m+(labs pre).length ->
 kx s m (labs pre).length=(labs pre++mk ls).length
 |[],pre,m,hp,_,hs,hl,hm=>by
  cases m with
  |zero=>rw [p7] at hl;omega
  |succ m =>
   have hl1:(labs pre++mk []).length=(labs pre).length+1:=by rw[p7];rfl
   have hb:bt s (labs pre).length=0:=by
    rw[hs];unfold bt
    rw[oz (pq _),dq];rfl
   have hsl:(labs pre).length<s.length:=by rw[hs,p7];have:=ql6 [];rw[p7];omega
   have htk:s.take ((labs pre).length+1)=mk pre:=by
    have:labs pre++(mk []++t)=(labs pre++[0])++t:=by simp[mk]
    rw[hs,this,List.take_left' (by simp)]
    exact jf3 pre
   unfold kx
   rw[if_pos ⟨hsl,by omega⟩,if_pos hb,htk,if_pos ((qt0 _).2 ⟨by rw[<-jf3];simpa[mk] using hl,pre,hp,rfl⟩),hl1]
 |l :: ls,pre,m,hp,hls,hs,hl,hm=>by
  have hol:=hls l (mq ..)
  have h1:=hol.1
  have hml:=qy3 l ls
  have hmp:=ql6 ls
  have hll:(labs (pre++[l])).length=(labs pre).length+1+l.length:=by rw[jn1,p7,vw];omega
  rw [p7] at hl;cases m with
  |zero=>omega
  |succ m =>
   have hb:bt s (labs pre).length=l.length:=by
    have:=qg5 s (labs pre).length 0
    rw [f7] at this;rw[<-this,hs,sq];show bt (lab l++mk ls++t) 0=_;rw[gv];exact uo l _ hol
   have hsl:(labs pre).length<s.length:=by rw[hs,p7,p7];omega
   have hcat:labs (pre++[l])++mk ls=labs pre++mk (l :: ls):=by rw[jn1,gv];rfl
   unfold kx
   rw[if_pos ⟨hsl,by omega⟩,if_neg (by rw[hb];omega),hb,<-hll]
   rw[yl6 s t ls (pre++[l]) m (fun x hx=>by
    rcases ox.1 hx with hx|hx
    ·exact hp x hx
    ·rw[gp.1 hx];exact hol) (fun x hx=>hls x (mw _ hx)) (by
    rw[hs,<-gv,<-gv,hcat]) (by rw[hcat,p7];exact hl) (by omega),hcat]
theorem zv7{s:List UInt8}{k:Nat}(hk:k<=s.length)(h:qb (s.take k)):ji s=k:=by
 obtain⟨h1,ls,h2,h3⟩:=(qt0 _).1 h;have hlen:(mk ls).length=k:=by rw[<-h3,m9];omega
 have h1:(mk ls).length<=255:=by rw[<-h3];exact h1
 have:=yl6 s (s.drop k) ls [] 256 (fun l hl=>by cases hl) h2 (by show s=[]++(mk ls++s.drop k);rw[<-h3];simp) (by show([]++mk ls).length<=255;simp;omega) (by omega)
 unfold ji
 have e:([]++mk ls:List UInt8).length=k:=by simpa using hlen
 exact this.trans e
theorem zi1{s:List UInt8}(h:∀ k,k<=s.length->k<=255->¬ qb (s.take k)):ji s=0:=by
 have hl:=jb5 s
 cases hf:ji s with
 |zero=>rfl
 |succ n =>
  have:=yb3 s 256 0 (by show ji s≠0;omega)
  exact absurd this (h _ hl.1 hl.2)
def xm3:Option (Nat × Nat × Nat)->SV
 |some p=>.tup [.d (.int .i64 (2 * p.1:Nat)),.d (.int .i64 p.2.1),.d (.int .i64 (4 * p.2.2:Nat)),.d .tt]
 |none=>.tup [.d (.int .i64 0),.d (.int .i64 0),.d (.int .i64 0),.d .ff]
theorem jk9(t:Int):FnOk Tryz.prog 137 [.d (.int .u16 t)] (xm3 (jh t)):=by
 refine qp (TT:=TT) (IN:=qh []) qk qj mixed 1000 Tryz.func137 rfl (qi Tryz.func137 (by kernel_rfl) rfl) rfl 16 (by kernel_rfl) ?_
 have fin1:t=2\/t=5\/t=12->jh t=some (0,1,0):=fun h=>by unfold jh;rw[if_pos h]
 conv=>whnf
 refine⟨fun h1=>?_,fun h1=>?_⟩
 ·rw[fin1 (.inl (by simpa using h1))]
  conv=>whnf
  try (refine brT h1 ?_;conv=>whnf)
  repeat'(first|exact ⟨⟩|exact rfl|exact .inr rfl|exact .inl rfl|exact fun _ _=>rfl|exact noI|apply And.intro)
 simp only [beq_eq_false_iff_ne,ne_eq] at h1
 conv=>whnf
 refine⟨fun h2=>?_,fun h2=>?_⟩
 ·rw[fin1 (.inr (.inl (by simpa using h2)))]
  conv=>whnf
  try (refine brT h2 ?_;conv=>whnf)
  repeat'(first|exact ⟨⟩|exact rfl|exact .inr rfl|exact .inl rfl|exact fun _ _=>rfl|exact noI|apply And.intro)
 simp only [beq_eq_false_iff_ne,ne_eq] at h2
 conv=>whnf
 refine⟨fun h3=>?_,fun h3=>?_⟩
 ·rw[fin1 (.inr (.inr (by simpa using h3)))]
  conv=>whnf
  try (refine brT h3 ?_;conv=>whnf)
  repeat'(first|exact ⟨⟩|exact rfl|exact .inr rfl|exact .inl rfl|exact fun _ _=>rfl|exact noI|apply And.intro)
 simp only [beq_eq_false_iff_ne,ne_eq] at h3
 conv=>whnf
 refine⟨fun h4=>?_,fun h4=>?_⟩
 ·have:jh t=some (1,1,0):=by unfold jh;simp at h4;simp [h4]
  rw[this];conv=>whnf
  repeat'(first|exact ⟨⟩|exact rfl|exact .inr rfl|exact .inl rfl|exact fun _ _=>rfl|exact noI|apply And.intro)
 simp only [beq_eq_false_iff_ne,ne_eq] at h4
 conv=>whnf
 refine⟨fun h5=>?_,fun h5=>?_⟩
 ·have:jh t=some (3,1,0):=by unfold jh;simp at h5;simp [h5]
  rw[this];conv=>whnf
  repeat'(first|exact ⟨⟩|exact rfl|exact .inr rfl|exact .inl rfl|exact fun _ _=>rfl|exact noI|apply And.intro)
 simp only [beq_eq_false_iff_ne,ne_eq] at h5
 conv=>whnf
 refine⟨fun h6=>?_,fun h6=>?_⟩
 ·have:jh t=some (0,2,5):=by unfold jh;simp at h6;simp [h6]
  rw[this];conv=>whnf
  repeat'(first|exact ⟨⟩|exact rfl|exact .inr rfl|exact .inl rfl|exact fun _ _=>rfl|exact noI|apply And.intro)
 simp only [beq_eq_false_iff_ne,ne_eq] at h6
 have:jh t=none:=by unfold jh;simp[h1,h2,h3,h4,h5,h6]
 rw[this];conv=>whnf
 repeat'(first|exact ⟨⟩|exact rfl|exact .inr rfl|exact .inl rfl|exact fun _ _=>rfl|exact noI|apply And.intro)
def qd5(s:List UInt8):SV:=if ji s=0 then .tup [.any,.d .ff] else .tup [.d (.str (s.take (ji s))),.d .tt]
set_option maxRecDepth 100000 in
theorem zm1(s:List UInt8)(_hs:s.length<=2000000):FnOk Tryz.prog 154 [.d (.str s)] (qd5 s):=by
 refine qp (TT:=TT) (IN:=qh []) qk qj mixed 1000 Tryz.func154 rfl (qi Tryz.func154 (by kernel_rfl) rfl) rfl 22 (by kernel_rfl) ?_
 conv=>whnf
 refine .inv Nat (fun i=>1<=i/\i<=256/\∀ j,j<i->j<=s.length->¬ qb (s.take j)) (fun i=>[(4,.d (.int .i64 i))]) (fun _=>[]) (fun i=>256 - i) ⟨1,[],⟨pq _,by omega,fun j hj _ h=>?_⟩,?_⟩ ?_
 ·have:j=0:=by omega
  subst this;have:=h.1
  simp at this
 ·conv=>whnf
  repeat'(first|exact ⟨⟩|exact rfl|exact fun _=>Iff.rfl|exact fun _ _=>rfl|exact renM_ent rfl _|apply And.intro)
 intro i hi;obtain⟨h1,h2,h3⟩:=hi;conv=>whnf
 have done_:(s.length<i\/255<i)->qd5 s = .tup [.any,.d .ff]:=fun hc=>by
  unfold qd5
  rw[if_pos (zi1 fun k hk hk2=>h3 k (by omega) hk)]
 refine⟨fun c1=>?_,fun c1=>?_⟩
 ·have c1:(i:Int)<=s.length:=of_decide_eq_true c1
  conv=>whnf
  refine⟨fun c2=>?_,fun c2=>?_⟩
  ·have c2:(i:Int)<=255:=of_decide_eq_true c2
   conv=>whnf
   refine⟨by omega,?_⟩
   have hsub:sub s 0 (i:Int)=s.take i:=by unfold sub;simp
   rw[hsub];conv=>whnf
   refine od (qf1 (s.take i)) rfl rfl ?_;by_cases hn:qb (s.take i)
   ·have e:qd5 s = .tup [.d (.str (s.take i)),.d .tt]:=by
     unfold qd5
     rw[zv7 (by omega) hn,if_neg (by omega)]
    rw[if_pos hn,e];conv=>whnf
    refine brT rfl ?_;conv=>whnf
    refine⟨by omega,?_⟩
    rw[hsub];conv=>whnf
    repeat'(first|exact ⟨⟩|exact rfl|exact .inr rfl|exact .inl rfl|exact fun _ _=>rfl|exact noI|apply And.intro)
   ·rw[if_neg hn];conv=>whnf
    refine brF rfl ?_;conv=>whnf
    have hw1:=w64s i (by omega)
    refine⟨i+1,[],⟨by omega,by omega,fun j hj hjl=>?_⟩,by omega,?_⟩
    ·by_cases hji:j=i
     ·rw[hji];exact hn
     ·exact h3 j (by omega) hjl
    conv=>whnf
    rw[hw1];repeat'(first|exact ⟨⟩|exact rfl|exact fun _=>Iff.rfl|exact fun _ _=>rfl|exact renM_ent rfl _|apply And.intro)
  ·have c2:¬ (i:Int)<=255:=of_decide_eq_false c2
   rw[done_ (.inr (by omega))]
   conv=>whnf
   repeat'(first|exact ⟨⟩|exact rfl|exact .inr rfl|exact .inl rfl|exact fun _ _=>rfl|exact noI|apply And.intro)
 ·have c1:¬ (i:Int)<=s.length:=of_decide_eq_false c1
  rw[done_ (.inl (by omega))]
  conv=>whnf
  repeat'(first|exact ⟨⟩|exact rfl|exact .inr rfl|exact .inl rfl|exact fun _ _=>rfl|exact noI|apply And.intro)
def xl4:Option (List UInt8 × List (List UInt8) × List UInt8)->SV
 |none=>.tup [.any,.any,.any,.d .ff]
 |some (x,l,r)=>.tup [.d (.str x),.d (.sl (Nat.beq l.length 0) l.length 1 (strs l)),.d (.str r),.d .tt]
structure R4St where
 i:Nat
 l:List (List UInt8)
 r:List UInt8
set_option maxRecDepth 100000 in
theorem jk8(t:Int)(p:Nat × Nat × Nat)(hp:jh t=some p)(s:List UInt8)(hs:s.length<=2000000):FnOk Tryz.prog 138 [.d (.int .u16 t),.d (.str s)] (xl4 (cutF p.1 p.2.1 p.2.2 s)):=by
 refine qp (TT:=TT) (IN:=qh []) qk qj mixed 1000 Tryz.func138 rfl (qi Tryz.func138 (by kernel_rfl) rfl) rfl 58 (by kernel_rfl) ?_
 obtain⟨p1,p2,p3⟩:=qt5 hp;have hpt:=jk9 t
 rw [hp] at hpt;conv=>whnf
 refine od hpt rfl rfl ?_;conv=>whnf
 refine⟨fun h1=>?_,fun h1=>?_⟩
 ·have h1:(s.length:Int)<(2 * p.1:Nat):=of_decide_eq_true h1
  have e:cutF p.1 p.2.1 p.2.2 s=none:=by unfold cutF;rw[if_pos (by omega)]
  rw[e];conv=>whnf
  repeat'(first|exact ⟨⟩|exact rfl|exact .inr rfl|exact .inl rfl|exact fun _ _=>rfl|exact noI|apply And.intro)
 have h1:¬ (s.length:Int)<(2 * p.1:Nat):=of_decide_eq_false h1
 have hcut:cutF p.1 p.2.1 p.2.2 s=(x7 p.2.1 (s.drop (2 * p.1))).bind fun q=>if q.2.length=4 * p.2.2 then some (s.take (2 * p.1),q.1,q.2) else none:=by unfold cutF;rw[if_neg (by omega)]
 have hsub0:sub s ((2 * p.1:Nat):Int) (s.length:Int)=s.drop (2 * p.1):=by
  unfold sub
  rw[pp,pp,gt (by rw[ow];omega)]
 conv=>whnf
 refine⟨by omega,?_⟩
 rw[hsub0];conv=>whnf
 refine .nilT 13 9 1 (fun _=>[]) _ _ rfl ?_
 refine .inv R4St (fun x=>NAt p.2.1 (s.drop (2 * p.1)) x.i x.l x.r) (fun x=>[(12,.d (.str x.r)),(13,.all 0),(14,.d (.int .i64 x.i))]) (fun x=>[(0,.row 9 1 x.l.length .iff (strs x.l))]) (fun x=>p.2.1 - x.i) ⟨⟨0,[],s.drop (2 * p.1)⟩,[0],NAt.zero _ _,?_⟩ ?_
 ·conv=>whnf
  repeat'(first|exact ⟨⟩|exact rfl|(intro i hi;exact absurd hi (gr _))|exact fun _ _=>rfl|apply And.intro)
 intro x hN;conv=>whnf
 generalize x.i=i at hN ⊢;generalize x.l=l at hN ⊢;generalize x.r=r at hN ⊢;have hlen:=hN.len
 have hile:=hN.le
 have hsh:=hN.short
 rw [ow] at hsh;refine⟨fun c1=>?_,fun c1=>?_⟩
 ·have c1:(i:Int)<p.2.1:=of_decide_eq_true c1
  obtain⟨s1,s2⟩:=hN.step (by omega)
  have hf:=zm1 r (by omega)
  have hfl:=jb5 r
  conv=>whnf
  by_cases h0:ji r=0
  ·have e:cutF p.1 p.2.1 p.2.2 s=none:=by rw[hcut,s1 h0];rfl
   have ef:qd5 r = .tup [.any,.d .ff]:=by unfold qd5;rw[if_pos h0]
   rw [ef] at hf;refine od hf rfl rfl ?_;rw[e];conv=>whnf
   repeat'(first|exact ⟨⟩|exact rfl|exact .inr rfl|exact .inl rfl|exact fun _ _=>rfl|exact noI|apply And.intro)
  ·have ef:qd5 r = .tup [.d (.str (r.take (ji r))),.d .tt]:=by unfold qd5;rw[if_neg h0]
   rw [ef] at hf;have htl:(r.take (ji r)).length=ji r:=by rw[m9];omega
   have hsub1:sub r ((ji r:Nat):Int) (r.length:Int)=r.drop (ji r):=by
    unfold sub
    rw[pp,pp,gt (by rw[ow];omega)]
   refine od hf rfl rfl ?_;conv=>whnf
   refine⟨by omega,?_⟩
   conv=>whnf
   rw[htl];refine⟨by omega,?_⟩
   rw[hsub1];have hw1:=w64s i (by omega)
   conv=>whnf
   refine⟨⟨i+1,l++[r.take (ji r)],r.drop (ji r)⟩,[2],s2 h0,by show p.2.1 - (i+1)<p.2.1 - i;omega,?_⟩
   conv=>whnf
   rw[hw1];repeat'(first|exact ⟨⟩|exact rfl|apply And.intro)
   ·simp
   ·exact kp _ _ _ rfl
 ·have c1:¬ (i:Int)<p.2.1:=of_decide_eq_false c1
  have hi:i=p.2.1:=by omega
  subst hi;have hl:=hN.last
  have hsub2:sub s 0 ((2 * p.1:Nat):Int)=s.take (2 * p.1):=by unfold sub;rw[pp];simp
  conv=>whnf
  refine⟨by omega,?_⟩
  rw[hsub2];conv=>whnf
  by_cases hr:r.length=4 * p.2.2
  ·have e:cutF p.1 p.2.1 p.2.2 s=some (s.take (2 * p.1),l,r):=by rw[hcut,hl];show(if r.length=4 * p.2.2 then _ else _)=_;rw[if_pos hr]
   rw[e];conv=>whnf
   refine⟨rfl,⟨rfl,rfl,.inr rfl,fun _ _=>rfl⟩,rfl,?_,True.intro⟩
   show((r.length:Int) == ((4 * p.2.2:Nat):Int))=true
   simp
   omega
  ·have e:cutF p.1 p.2.1 p.2.2 s=none:=by rw[hcut,hl];show(if r.length=4 * p.2.2 then _ else _)=_;rw[if_neg hr]
   rw[e];conv=>whnf
   refine⟨True.intro,True.intro,True.intro,?_,True.intro⟩;show((r.length:Int) == ((4 * p.2.2:Nat):Int))=false;simp;omega
set_option maxRecDepth 100000 in
theorem zl9(s:List UInt8)(hs:s.length<=2000000):FnOk Tryz.prog 136 [.d (.str s)] (.tup [.any,.d (.bool (wu s))]):=by
 refine qp (TT:=TT) (IN:=qh []) qk qj mixed 1000 Tryz.func136 rfl (qi Tryz.func136 (by kernel_rfl) rfl) rfl 30 (by kernel_rfl) ?_
 conv=>whnf
 refine .nilT 4 9 1 (fun _=>[]) _ _ rfl ?_
 conv=>whnf
 refine .inv (Nat × List (List UInt8)) (fun p=>TAt s p.1 p.2) (fun p=>[(0,.d (.str (s.drop p.1))),(4,.all 0)]) (fun p=>[(0,.row 9 1 p.2.length .iff (strs p.2))]) (fun p=>s.length - p.1) ⟨(0,[]),[0],TAt.zero s,?_⟩ ?_
 ·conv=>whnf
  repeat'(first|exact ⟨⟩|exact rfl|apply And.intro)
  intro i hi;exact absurd hi (by simp)
 intro p hk;have hk0:p.1<=s.length:=hk.1
 have hk2:p.2.length<=p.1:=hk.2.1
 have hby:=u3 s p.1
 have hlen:(s.drop p.1).length=s.length - p.1:=by simp
 conv=>whnf
 refine⟨fun hne=>?_,fun heq=>?_⟩
 ·have hlt:p.1<s.length:=by
   rcases pz p.1 s.length with e|e
   ·exact e
   ·rw [dy e] at hne;simp at hne
  obtain⟨e1,e2⟩:=TAt.step hk hlt;have hb0:zc (s.drop p.1) 0=(bt s p.1:Int):=by
   rw[show(0:Int)=((0:Nat):Int) from rfl,z1];simp[bt]
  conv=>whnf
  refine⟨by omega,?_⟩
  have hsz:IntKind.i64.wrap (1+IntKind.i64.wrap (zc (s.drop p.1) 0))=((1+bt s p.1:Nat):Int):=by rw[hb0];simp(disch:=omega) only[qe];omega
  conv=>whnf
  rw[hsz];refine⟨fun hgt=>?_,fun hle=>?_⟩
  ·conv=>whnf
   refine⟨True.intro,?_,True.intro⟩;have:wu s=false:=by unfold wu;rw [e1 (by simp at hgt;omega)]
   rw[this];exact rfl
  ·have hle':p.1+1+bt s p.1<=s.length:=by simp at hle;omega
   conv=>whnf
   refine⟨by omega,?_⟩
   conv=>whnf
   refine⟨by omega,?_⟩
   conv=>whnf
   refine⟨by omega,?_⟩
   conv=>whnf
   refine⟨(p.1+1+bt s p.1,p.2++[(s.drop (p.1+1)).take (bt s p.1)]),[2],e2 hle',by show s.length - (p.1+1+bt s p.1)<s.length - p.1;omega,?_⟩
   conv=>whnf
   repeat'(first|exact ⟨⟩|exact rfl|apply And.intro)
   ·refine congrArg SV.d (congrArg DV.str ?_);show sub (s.drop p.1) _ _=s.drop (p.1+1+bt s p.1);simp only[sub,pp,gy];rw[gt (by simp;omega)]
    congr 1
    omega
   ·simp
   ·refine kp _ _ _ ?_;show[DV.str _]=[DV.str _]
    congr 2
    simp only[sub,pp,gy]
    rw[show(1:Int).toNat=1 from rfl];congr 1;omega
 ·have hke:p.1=s.length:=by
   simp at heq
   omega
  conv=>whnf
  refine⟨True.intro,?_,True.intro⟩;have:wu s=decide (0<p.2.length):=by unfold wu;rw[TAt.last hk hke]
  rw[this];refine congrArg DV.bool ?_;simp
set_option maxRecDepth 100000 in
theorem yd6(t:Int)(s:List UInt8)(hs:s.length<=2000000):FnOk Tryz.prog 114 [.d (.int .u16 t),.d (.str s)] (.d (.int .i64 (qr4 (q9 t s)))):=by
 refine qp (TT:=TT) (IN:=qh []) qk qj mixed 1000 Tryz.func114 rfl (qi Tryz.func114 (by kernel_rfl) rfl) rfl 49 (by kernel_rfl) ?_
 conv=>whnf
 refine⟨fun h1=>?_,fun h1=>?_⟩
 ·have h1:t=1:=by simpa using h1
  have hg:jv t s=((s.length:Int) == ((4:Nat):Int)):=by unfold jv;rw[if_pos h1,qq9]
  conv=>whnf
  refine⟨fun k1=>?_,fun k1=>?_⟩
  ·have hgood:jv t s=false:=by rw[hg];simpa using k1
   have e:q9 t s=false:=by unfold q9;rw[hgood,lr]
   rw[e];conv=>whnf
   exact rfl
  have hgood:jv t s=true:=by rw[hg];simpa using k1
  conv=>whnf
  refine⟨fun k2=>?_,fun k2=>?_⟩
  ·have k2:(s.length:Int) > 4096:=of_decide_eq_true k2
   have e:q9 t s=false:=by unfold q9;rw[decide_eq_false (by omega)];rfl
   rw[e];conv=>whnf
   exact rfl
  ·have k2:¬ (s.length:Int) > 4096:=of_decide_eq_false k2
   have e:q9 t s=true:=by unfold q9;rw[decide_eq_true (by omega),hgood];rfl
   rw[e];conv=>whnf
   exact rfl
 have h1:¬ t=1:=by simpa using h1
 conv=>whnf
 refine⟨fun h2=>?_,fun h2=>?_⟩
 ·have h2:t=28:=by simpa using h2
  have hg:jv t s=((s.length:Int) == ((16:Nat):Int)):=by unfold jv;rw[if_neg h1,if_pos h2,qq9]
  conv=>whnf
  refine⟨fun k1=>?_,fun k1=>?_⟩
  ·have hgood:jv t s=false:=by rw[hg];simpa using k1
   have e:q9 t s=false:=by unfold q9;rw[hgood,lr]
   rw[e];conv=>whnf
   exact rfl
  have hgood:jv t s=true:=by rw[hg];simpa using k1
  conv=>whnf
  refine⟨fun k2=>?_,fun k2=>?_⟩
  ·have k2:(s.length:Int) > 4096:=of_decide_eq_true k2
   have e:q9 t s=false:=by unfold q9;rw[decide_eq_false (by omega)];rfl
   rw[e];conv=>whnf
   exact rfl
  ·have k2:¬ (s.length:Int) > 4096:=of_decide_eq_false k2
   have e:q9 t s=true:=by unfold q9;rw[decide_eq_true (by omega),hgood];rfl
   rw[e];conv=>whnf
   exact rfl
 have h2:¬ t=28:=by simpa using h2
 conv=>whnf
 refine⟨fun h3=>?_,fun h3=>?_⟩
 ·have h3:t=16:=by simpa using h3
  have hg:jv t s=wu s:=by unfold jv;rw[if_neg h1,if_neg h2,if_pos h3]
  conv=>whnf
  refine od (zl9 s hs) rfl rfl ?_;conv=>whnf
  refine⟨fun k1=>?_,fun k1=>?_⟩
  ·have hgood:jv t s=false:=by rw[hg];simpa using k1
   have e:q9 t s=false:=by unfold q9;rw[hgood,lr]
   rw[e];conv=>whnf
   exact rfl
  have hgood:jv t s=true:=by rw[hg];simpa using k1
  conv=>whnf
  refine⟨fun k2=>?_,fun k2=>?_⟩
  ·have k2:(s.length:Int) > 4096:=of_decide_eq_true k2
   have e:q9 t s=false:=by unfold q9;rw[decide_eq_false (by omega)];rfl
   rw[e];conv=>whnf
   exact rfl
  ·have k2:¬ (s.length:Int) > 4096:=of_decide_eq_false k2
   have e:q9 t s=true:=by unfold q9;rw[decide_eq_true (by omega),hgood];rfl
   rw[e];conv=>whnf
   exact rfl
 have h3:¬ t=16:=by simpa using h3
 conv=>whnf
 have hpt:=jk9 t
 cases hf:jh t with
 |none =>
  have hgood:jv t s=true:=by unfold jv;rw[if_neg h1,if_neg h2,if_neg h3,hf]
  rw [hf] at hpt;refine od hpt rfl rfl ?_;conv=>whnf
  refine⟨fun k2=>?_,fun k2=>?_⟩
  ·have k2:(s.length:Int) > 4096:=of_decide_eq_true k2
   have e:q9 t s=false:=by unfold q9;rw[decide_eq_false (by omega)];rfl
   rw[e];conv=>whnf
   exact rfl
  ·have k2:¬ (s.length:Int) > 4096:=of_decide_eq_false k2
   have e:q9 t s=true:=by unfold q9;rw[decide_eq_true (by omega),hgood];rfl
   rw[e];conv=>whnf
   exact rfl
 |some p =>
  rw [hf] at hpt;have hsp:=jk8 t p hf s hs
  refine od hpt rfl rfl ?_;conv=>whnf
  cases hc:cutF p.1 p.2.1 p.2.2 s with
  |none =>
   have hgood:jv t s=false:=by unfold jv;rw[if_neg h1,if_neg h2,if_neg h3,hf];show(cutF p.1 p.2.1 p.2.2 s).isSome=false;rw[hc];rfl
   have e:q9 t s=false:=by unfold q9;rw[hgood,lr]
   rw [hc] at hsp;refine od hsp rfl rfl ?_;rw[e];conv=>whnf
   repeat(first|(refine brF rfl ?_;conv=>whnf)|(refine brT rfl ?_;conv=>whnf))
   try exact rfl
  |some q =>
   obtain⟨x,l,r⟩:=q;have hgood:jv t s=true:=by unfold jv;rw[if_neg h1,if_neg h2,if_neg h3,hf];show(cutF p.1 p.2.1 p.2.2 s).isSome=true;rw[hc];rfl
   rw [hc] at hsp;refine od hsp rfl rfl ?_;conv=>whnf
   refine⟨fun k2=>?_,fun k2=>?_⟩
   ·have k2:(s.length:Int) > 4096:=of_decide_eq_true k2
    have e:q9 t s=false:=by unfold q9;rw[decide_eq_false (by omega)];rfl
    rw[e];conv=>whnf
    exact rfl
   ·have k2:¬ (s.length:Int) > 4096:=of_decide_eq_false k2
    have e:q9 t s=true:=by unfold q9;rw[decide_eq_true (by omega),hgood];rfl
    rw[e];conv=>whnf
    exact rfl
theorem zo4{t:Int}{p:Nat × Nat × Nat}(h:jh t=some p):0<p.2.1:=by
 unfold jh at h
 repeat'(split at h)
 all_goals first|(cases h;decide)|cases h
theorem yf1{t:Int}{p:Nat × Nat × Nat}(h:jh t=some p):t≠1/\t≠28/\t≠16:=by
 refine⟨?_,?_,?_⟩ <;> (rintro rfl;cases h)
def xm4:Option (List UInt8 × List (List UInt8) × List UInt8)->SV
 |none=>nilS
 |some (_,l,_)=>.d (.sl (Nat.beq l.length 0) l.length 1 (strs l))
def wp(t:Int)(s:List UInt8):Option (List UInt8 × List (List UInt8) × List UInt8):=(xl t s).map (·.2)
theorem ye5{t:Int}{s:List UInt8}{p:Nat × Nat × Nat}(hf:jh t=some p)(hr:q9 t s=true):∃ q,cutF p.1 p.2.1 p.2.2 s=some q/\wp t s=some q:=by
 obtain⟨n1,n2,n3⟩:=yf1 hf;unfold q9 jv at hr
 rw [if_neg n1,if_neg n2,if_neg n3,hf] at hr;simp only [px,decide_eq_true_eq] at hr
 obtain⟨q,hq⟩:=ru.1 hr.2;refine⟨q,hq,?_⟩;unfold wp xl
 rw[if_pos hr.1,hf];show Option.map _ ((cutF p.1 p.2.1 p.2.2 s).map _)=_;rw[hq];rfl
theorem yk5{t:Int}{s:List UInt8}{p:Nat × Nat × Nat}(hf:jh t=some p)(hr:q9 t s=false):wp t s=none:=by
 obtain⟨n1,n2,n3⟩:=yf1 hf;unfold q9 jv at hr
 rw [if_neg n1,if_neg n2,if_neg n3,hf] at hr;unfold wp xl
 split
 ·rename_i h
  rw [decide_eq_true h,m6] at hr;have:cutF p.1 p.2.1 p.2.2 s=none:=by
   have hr:(cutF p.1 p.2.1 p.2.2 s).isSome=false:=hr
   cases e:cutF p.1 p.2.1 p.2.2 s
   ·rfl
   ·rw [e] at hr;cases hr
  rw[hf];show Option.map _ ((cutF p.1 p.2.1 p.2.2 s).map _)=_;rw[this];rfl
 ·rfl
theorem ye6{t:Int}{s:List UInt8}(hf:jh t=none):wp t s=none:=by
 unfold wp xl
 rw[hf];split <;> rfl
theorem zm0(t:Int)(s:List UInt8)(hs:s.length<=2000000):FnOk Tryz.prog 139 [.d (.int .u16 t),.d (.str s)] (xm4 (wp t s)):=by
 refine qp (TT:=TT) (IN:=qh []) qk qj mixed 1000 Tryz.func139 rfl (qi Tryz.func139 (by kernel_rfl) rfl) rfl 35 (by kernel_rfl) ?_
 have hpt:=jk9 t
 cases hf:jh t with
 |none =>
  rw [hf] at hpt;rw[ye6 hf];conv=>whnf
  refine od hpt rfl rfl ?_;conv=>whnf
  repeat(first|(refine brT rfl ?_;conv=>whnf))
  try exact rfl
  try repeat'(first|exact ⟨⟩|exact rfl|exact .inr rfl|exact .inl rfl|exact fun _ _=>rfl|exact noI|apply And.intro)
 |some p =>
  rw [hf] at hpt;conv=>whnf
  refine od hpt rfl rfl ?_;conv=>whnf
  refine od (yd6 t s hs) rfl rfl ?_;cases hr:q9 t s with
  |false =>
   rw[yk5 hf hr];conv=>whnf
   repeat(first|(refine brT rfl ?_;conv=>whnf))
   try exact rfl
   try repeat'(first|exact ⟨⟩|exact rfl|exact .inr rfl|exact .inl rfl|exact fun _ _=>rfl|exact noI|apply And.intro)
  |true =>
   obtain⟨q,hq,hl⟩:=ye5 hf hr;rw[hl];conv=>whnf
   refine brF rfl ?_;conv=>whnf
   have hsp:=jk8 t p hf s hs
   rw [hq] at hsp;refine od hsp rfl rfl ?_;conv=>whnf
   exact⟨rfl,rfl,.inr rfl,fun _ _=>rfl⟩
theorem zl5{t:Int}{s:List UInt8}(h:wp t s=none):qx t s=s:=by
 unfold wp at h
 unfold qx
 cases e:xl t s with
 |none=>rfl
 |some q=>rw [e] at h;cases h
theorem zl4{t:Int}{s x r:List UInt8}{l:List (List UInt8)}(h:wp t s=some (x,l,r)):qx t s=x++fold l.flatten++r:=by
 unfold wp at h
 unfold qx
 cases e:xl t s with
 |none=>rw [e] at h;cases h
 |some q =>
  rw [e] at h;obtain⟨q1,q2⟩:=q;have h:q2=(x,l,r):=pw h;subst h;show x++fold (Lib.join l [])++r=_;rw[jc9]
theorem yj2(t:Int)(s:List UInt8)(hs:s.length<=2000000):FnOk Tryz.prog 116 [.d (.int .u16 t),.d (.str s)] (.d (.str (qx t s))):=by
 refine qp (TT:=TT) (IN:=qh []) qk qj mixed 1000 Tryz.func116 rfl (qi Tryz.func116 (by kernel_rfl) rfl) rfl 39 (by kernel_rfl) ?_
 conv=>whnf
 refine .one (.data _ (zm0 t s hs) (by cases wp t s <;> rfl) (by cases wp t s <;> rfl) ?_)
 cases hl:wp t s with
 |none =>
  rw[zl5 hl];conv=>whnf
  refine brT rfl ?_;conv=>whnf
  try exact rfl
 |some q =>
  obtain⟨x,l,r⟩:=q;have hft:∃ p,jh t=some p:=by
   cases e:jh t with
   |none=>rw [ye6 e] at hl;cases hl
   |some p=>exact⟨p,rfl⟩
  obtain⟨p,hf⟩:=hft;have hr:q9 t s=true:=by
   cases e:q9 t s
   ·rw [yk5 hf e] at hl;cases hl
   ·rfl
  obtain⟨q,hq,hl2⟩:=ye5 hf hr;rw [hl] at hl2;have hqe:=pw hl2
  subst hqe;have hcat:l.length=p.2.1/\x.length+(l.flatten.length+r.length)<=2000000:=by
   unfold cutF at hq
   split at hq
   ·cases hq
   ·rename_i h2
    cases e:x7 p.2.1 (s.drop (2 * p.1)) with
    |none=>rw [e] at hq;cases hq
    |some w =>
     rw [e] at hq;simp only [f6] at hq
     split at hq
     ·simp only [mp,Prod.mk.injEq] at hq
      obtain⟨rfl,rfl,rfl⟩:=hq;obtain⟨e1,e2⟩:=jl0 _ _ w.1 w.2 e;refine⟨e1,?_⟩;rw[e2];simp;omega
     ·cases hq
  have hpos:=zo4 hf
  have hle100:=(qt5 hf).2.1
  have hfol:∀ z:List UInt8,(fold z).length=z.length:=qu4
  rw[zl4 hl];conv=>whnf
  refine brF (by cases l with|nil=>simp at hcat;omega|cons a l=>simp;omega) ?_
  conv=>whnf
  have hsp:=jk8 t p hf s hs
  rw [hq] at hsp;refine od hsp rfl rfl ?_;conv=>whnf
  refine .inv Nat (fun i=>i<=l.length) (fun i=>[(29,iV i),(6,.d (.str (x++fold (l.take i).flatten)))]) (fun _=>[]) (fun i=>l.length - i) ⟨0,[],pu _,?_⟩ ?_
  ·conv=>whnf
   rw[show x++fold (l.take 0).flatten=x by simp[fold]]
   repeat'(first|exact ⟨⟩|exact rfl|exact fun _=>Iff.rfl|exact fun _ _=>rfl|exact renM_ent rfl _|apply And.intro)
  intro i hi;conv=>whnf
  refine⟨fun c5=>?_,fun c5=>?_⟩
  ·have c5':i<l.length:=(by have h:(i:Int)<l.length:=of_decide_eq_true c5;omega)
   have hw1:=w64s i (by omega)
   obtain⟨y,hy⟩:∃ y,l[i]?.getD []=y:=⟨_,rfl⟩;have hly:l[i]=y:=by rw[<-hy,pn c5'];rfl
   have htk:(l.take (i+1)).flatten=(l.take i).flatten++y:=by
    rw[mr,pn c5',hly];simp
   have hle:(l.take i).flatten.length+y.length<=2000000:=by
    have h1:l.flatten=(l.take (i+1)).flatten++(l.drop (i+1)).flatten:=by rw[<-List.flatten_append,cn]
    have h2:=congrArg List.length h1
    rw [htk] at h2;simp only [p7] at h2
    omega
   conv=>whnf
   refine⟨by omega,?_⟩
   conv=>whnf
   rw[pp,hy];refine od (qf5 y (by omega)) rfl rfl ?_
   conv=>whnf
   refine⟨by rw[p7,hfol,hfol];omega,?_⟩
   conv=>whnf
   rw[hw1];refine⟨i+1,[],c5',by omega,?_⟩
   rw[htk,show x++fold ((l.take i).flatten++y)=(x++fold (l.take i).flatten)++fold y by unfold fold;rw[fx,gv]]
   conv=>whnf
   repeat'(first|exact ⟨⟩|exact rfl|exact fun _=>Iff.rfl|exact fun _ _=>rfl|exact renM_ent rfl _|apply And.intro)
  ·have hia:i=l.length:=(by have h:¬ (i:Int)<l.length:=of_decide_eq_false c5;omega)
   subst hia;rw[mz];conv=>whnf
   refine⟨by rw[p7,hfol];omega,?_⟩
   conv=>whnf
   try exact rfl
theorem jk7(r:RR)(hd:r.d.length<=2000000):FnOk Tryz.prog 85 [r.V] (.d (.int .i64 (qr4 r.check))):=by
 refine qp (TT:=TT) (IN:=qh []) qk qj mixed 1000 Tryz.func85 rfl (qi Tryz.func85 (by kernel_rfl) rfl) rfl 24 (by kernel_rfl) ?_
 conv=>whnf
 refine od (qf1 r.nm) rfl rfl ?_;by_cases hn:qb r.nm
 ·rw[if_pos hn];conv=>whnf
  refine brF rfl ?_;conv=>whnf
  refine od (yd6 r.ty r.d hd) rfl rfl ?_;cases hc:q9 r.ty r.d
  ·have e:r.check=false:=by simp[RR.check,hc]
   rw[e];conv=>whnf
   repeat(first|(refine brF rfl ?_;conv=>whnf)|(refine brT rfl ?_;conv=>whnf))
   try exact rfl
  ·conv=>whnf
   refine brF rfl ?_;conv=>whnf
   refine⟨fun c1=>?_,fun c1=>?_⟩
   ·have c1':¬ r.ty=41:=by simpa using c1
    conv=>whnf
    refine⟨fun c2=>?_,fun c2=>?_⟩
    ·have c2':¬ r.ttl<=2147483647:=by
      have:r.ttl > 2147483647:=of_decide_eq_true c2
      omega
     have e:r.check=false:=by simp[RR.check,c1',c2']
     rw[e];conv=>whnf
     exact rfl
    ·have c2':r.ttl<=2147483647:=by
      have:¬ r.ttl > 2147483647:=of_decide_eq_false c2
      omega
     have e:r.check=true:=by simp[RR.check,hn,hc,c2']
     rw[e];conv=>whnf
     exact rfl
   ·have c1':r.ty=41:=by simpa using c1
    have e:r.check=true:=by
     simp only[RR.check,hn,hc,decide_true,m6,dp,beq_iff_eq]
     exact .inr c1'
    rw[e];conv=>whnf
    exact rfl
 ·rw[if_neg hn];have e:r.check=false:=by simp[RR.check,hn]
  rw[e];conv=>whnf
  repeat(first|(refine brF rfl ?_;conv=>whnf)|(refine brT rfl ?_;conv=>whnf))
  try exact rfl
theorem zz9{a b:List UInt8}(ha:qb a)(hb:qb b):jq a b=(fold a == fold b):=by unfold jq;rw[decide_eq_true ha,decide_eq_true hb];rfl
theorem ys1{r:RR}(h:r.check=true):qb r.nm:=by
 unfold RR.check at h
 simp only [px,decide_eq_true_eq] at h
 exact h.1.1
def qm1(a b:RR):Bool:=a.check && (b.check && (fold a.nm == fold b.nm && (a.ty == b.ty && (a.cl == b.cl && (qx a.ty a.d == qx b.ty b.d && true)))))
theorem zl8(a b:RR)(hda:a.d.length<=2000000)(hdb:b.d.length<=2000000):FnOk Tryz.prog 87 [a.V,b.V] (.d (.bool (qm1 a b))):=by
 refine qp (TT:=TT) (IN:=qh []) qk qj mixed 1000 Tryz.func87 rfl (qi Tryz.func87 (by kernel_rfl) rfl) rfl 45 (by kernel_rfl) ?_
 conv=>whnf
 refine .data _ (jk7 a hda) rfl rfl ?_;cases ha:a.check with
 |false =>
  rw[show qm1 a b=false by unfold qm1;rw[ha];rfl]
  conv=>whnf
  repeat(first|(refine brF rfl ?_;conv=>whnf)|(refine brT rfl ?_;conv=>whnf))
  repeat'(first|exact ⟨⟩|exact rfl|exact fun _=>Iff.rfl|exact fun _ _=>rfl|exact renM_ent rfl _|apply And.intro)
 |true =>
  conv=>whnf
  repeat(first|(refine brF rfl ?_;conv=>whnf)|(refine brT rfl ?_;conv=>whnf))
  refine .data _ (jk7 b hdb) rfl rfl ?_;cases hb:b.check with
  |false =>
   rw[show qm1 a b=false by unfold qm1;rw[ha,hb];rfl]
   conv=>whnf
   repeat(first|(refine brF rfl ?_;conv=>whnf)|(refine brT rfl ?_;conv=>whnf))
   repeat'(first|exact ⟨⟩|exact rfl|exact fun _=>Iff.rfl|exact fun _ _=>rfl|exact renM_ent rfl _|apply And.intro)
  |true =>
   have e:qm1 a b=(fold a.nm == fold b.nm && (a.ty == b.ty && (a.cl == b.cl && (qx a.ty a.d == qx b.ty b.d && true)))):=by
    unfold qm1;rw[ha,hb];rfl
   rw[e];conv=>whnf
   repeat(first|(refine brF rfl ?_;conv=>whnf)|(refine brT rfl ?_;conv=>whnf))
   refine .data _ (qn6 a.nm b.nm) rfl rfl ?_;rw[zz9 (ys1 ha) (ys1 hb)];by_cases h1:fold a.nm=fold b.nm;case neg =>
    rw[show(fold a.nm == fold b.nm)=false by simp[h1]]
    conv=>whnf
    repeat(first|(refine brF rfl ?_;conv=>whnf)|(refine brT rfl ?_;conv=>whnf))
    repeat'(first|exact ⟨⟩|exact rfl|exact fun _=>Iff.rfl|exact fun _ _=>rfl|exact renM_ent rfl _|apply And.intro)
   rw[show(fold a.nm == fold b.nm)=true by simp[h1],m6]
   conv=>whnf
   repeat(first|(refine brF rfl ?_;conv=>whnf)|(refine brT rfl ?_;conv=>whnf))
   by_cases h2:a.ty=b.ty
   case neg =>
    rw[show(a.ty == b.ty)=false by simp[h2]]
    conv=>whnf
    repeat(first|(refine brF rfl ?_;conv=>whnf)|(refine brT rfl ?_;conv=>whnf))
    repeat'(first|exact ⟨⟩|exact rfl|exact fun _=>Iff.rfl|exact fun _ _=>rfl|exact renM_ent rfl _|apply And.intro)
   rw[show(a.ty == b.ty)=true by simp[h2],m6]
   conv=>whnf
   repeat(first|(refine brF rfl ?_;conv=>whnf)|(refine brT rfl ?_;conv=>whnf))
   by_cases h3:a.cl=b.cl
   case neg =>
    rw[show(a.cl == b.cl)=false by simp[h3]]
    conv=>whnf
    repeat(first|(refine brF rfl ?_;conv=>whnf)|(refine brT rfl ?_;conv=>whnf))
    repeat'(first|exact ⟨⟩|exact rfl|exact fun _=>Iff.rfl|exact fun _ _=>rfl|exact renM_ent rfl _|apply And.intro)
   rw[show(a.cl == b.cl)=true by simp[h3],m6]
   conv=>whnf
   repeat(first|(refine brF rfl ?_;conv=>whnf)|(refine brT rfl ?_;conv=>whnf))
   refine .data _ (yj2 a.ty a.d hda) rfl rfl ?_;conv=>whnf
   refine .data _ (yj2 b.ty b.d hdb) rfl rfl ?_;conv=>whnf
   rw[Bool.and_true];repeat'(first|exact ⟨⟩|exact rfl|exact fun _=>Iff.rfl|exact fun _ _=>rfl|exact renM_ent rfl _|apply And.intro)
end Go.Proofs.YtnfoihdifohkeaaGreat
