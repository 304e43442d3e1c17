/-
  Part of the proof: lemmas about the functions that the row calls, and about the steps of a run. Conditions: those ahead of each lemma.
-/
import Derived.Laws.BitsAllLaws
import Derived.Test.YtnfoihdifohkeaaGreatB2
import Derived.Test.YtnfoihdifohkeaaGreatB1
import Derived.Test.YtnfoihdifohkeaaGreatM4
set_option linter.unusedVariables false
set_option linter.unusedSimpArgs false
set_option maxRecDepth 100000
namespace Go.Proofs.YtnfoihdifohkeaaGreat
open Go Go.Eng
def recT(s:St)(d:List UInt8):RR:=⟨s.nm,s.ty,1,s.ttl,d⟩
def qi1(s:St):List RR:=if s.ok then s.data.map (recT s) else []
theorem xf2{s:St}{i:Nat}{d:List UInt8}(h:s.data[i]? = some d):(s.data.take (i+1)).map (recT s)=(s.data.take i).map (recT s)++[recT s d]:=by
 rw[List.take_add_one,h,List.map_append]
 rfl
set_option maxHeartbeats 8000000 in
theorem jf6(s:St):FnOk Tryz.prog 23 [s.V] (.d (rrsD (!s.ok) (qi1 s))):=by
 refine qa3 (TT:=TT) (IN:=qd0 []) qd2 qa7 mixed 1000 Tryz.func23 rfl (qb7 Tryz.func23 (by kernel_rfl) rfl) rfl 32 (by kernel_rfl) ?_
 conv=>whnf
 refine .one (.data _ (jk5 s.nm s.ty s.ttl s.z s.data) rfl rfl ?_)
 rw[show qs7 s.nm s.ty s.ttl s.data=s.ok from rfl]
 unfold qi1
 cases hok:s.ok with
 |false =>
  rw[if_neg (by decide)]
  conv=>whnf
  refine brT rfl ?_
  conv=>whnf
  repeat'(first|exact ⟨⟩|exact rfl|exact⟨rfl,rfl,.inr rfl,fun _ _=>rfl⟩|exact⟨rfl,rfl,.inl rfl,noI⟩|apply And.intro)
 |true =>
  have hl:=((St.ok_iff s).1 hok).2.2.1
  rw[if_pos rfl]
  conv=>whnf
  refine brF rfl ?_
  conv=>whnf
  refine⟨⟨Int.le_refl 0,by omega,by omega,by omega⟩,?_⟩
  conv=>whnf
  refine .inv Nat (fun i=>i<=s.data.length) (fun i=>[(12,.any),(16,iV i),(3,.all 1)]) (fun i=>[(1,.row 94 5 ((s.data.take i).map (recT s)).length .no (fun j=>(((s.data.take i).map (recT s)).getD j default).enc))]) (fun i=>s.data.length - i) ⟨0,[0,1],Nat.zero_le _,?_⟩ ?_
  ·conv=>whnf
   repeat'(first|exact ⟨⟩|exact rfl|exact qa0 _|exact .inr rfl|exact fun _ _=>rfl|exact noI|apply And.intro)
  intro i hi
  conv=>whnf
  refine⟨fun h1=>?_,fun h1=>?_⟩
  ·have h1:i<s.data.length:=by
    have h:(i:Int)<s.data.length:=of_decide_eq_true h1
    omega
   have hw1:IntKind.i64.wrap ((i:Int)+1)=((i+1:Nat):Int):=by rw[qa4 _ (by omega)];omega
   have hli:s.data[i]? = some (s.data[i]?.getD []):=by rw[List.getElem?_eq_getElem h1];rfl
   have hlen:((s.data.take i).map (recT s)).length=i:=by rw[List.length_map,List.length_take];omega
   conv=>whnf
   refine⟨by omega,?_⟩
   conv=>whnf
   rw[Int.toNat_natCast]
   generalize s.data[i]?.getD []=d at hli ⊢
   have hnx:=xf2 hli
   refine⟨by omega,?_⟩
   conv=>whnf
   rw[hw1]
   refine⟨i+1,[0,3],h1,by omega,?_⟩
   rw[hnx]
   conv=>whnf
   repeat'(first|exact ⟨⟩|exact rfl|exact qa0 _|exact .inr rfl|exact fun _ _=>rfl|exact noI|apply And.intro)
   all_goals first
    |(show _+1=(_++[_]).length;simp;done)
    |exact fun j hj=>zm1 _ (recT s d) j hj
  ·have h1:i=s.data.length:=by
    have h:¬ (i:Int)<s.data.length:=of_decide_eq_false h1
    omega
   subst h1
   rw[List.take_length]
   conv=>whnf
   repeat'(first|exact ⟨⟩|exact rfl|exact⟨rfl,rfl,.inr rfl,fun _ _=>rfl⟩|exact⟨rfl,rfl,.inl rfl,noI⟩|apply And.intro)
def kd8(C:List (List UInt8 × Nat)):KB:=.map [.str] false false (aenc strK intV C)
theorem qo7{ρ:List Nat}(C:List (List UInt8 × Nat)):renM ρ (aenc strK intV C)=aenc strK intV C:=jc4 (fun _=>rfl) C
def jq0:List RR->Option RR
 |[]=>none
 |r :: l=>if r.ty=6 then some r else jq0 l
def noRR:RR:=⟨[],0,0,0,[]⟩
def jj3(z:Zo):RR × Int:=if z.ok then (match jq0 z.rrs with
 |some r=>(r,0)
 |none=>(noRR,3)) else (noRR,2)
theorem zv5{l:List RR}{i:Nat}{r:RR}(h:l[i]? = some r)(hr:r.ty≠6)(hd:jq0 (l.drop i)=jq0 l):jq0 (l.drop (i+1))=jq0 l:=by
 have hi:i<l.length:=(List.getElem?_eq_some_iff.1 h).1
 have e:l.drop i=r :: l.drop (i+1):=by rw [List.drop_eq_getElem_cons hi];congr 1;rw [List.getElem?_eq_getElem hi] at h;exact Option.some.inj h
 rw[<-hd,e]
 unfold jq0
 rw[if_neg hr]
 cases List.drop (i+1) l <;> rfl
set_option maxHeartbeats 8000000 in
theorem zk8(z:Zo)(hz:z.Fit):FnOk Tryz.prog 110 [z.V] (.tup [(jj3 z).1.V,.d (.int .i64 (jj3 z).2)]):=by
 refine qa3 (TT:=TT) (IN:=qd0 []) qd2 qa7 mixed 1000 Tryz.func110 rfl (qb7 Tryz.func110 (by kernel_rfl) rfl) rfl 29 (by kernel_rfl) ?_
 conv=>whnf
 refine .rel _ (jx4 z hz _) (fun r ks' hR=>?_)
 obtain⟨S,N,rfl,rfl⟩:=hR
 unfold jj3
 cases h:z.ok with
 |false =>
  conv=>whnf
  refine brT rfl ?_
  conv=>whnf
  repeat'(first|exact ⟨⟩|exact rfl|exact⟨rfl,rfl,.inr rfl,fun _ _=>rfl⟩|exact⟨rfl,rfl,.inl rfl,noI⟩|apply And.intro)
 |true =>
  have hl:=z.ok_len h
  rw[if_pos rfl]
  conv=>whnf
  refine brF rfl ?_
  conv=>whnf
  refine .inv Nat (fun i=>i<=z.rrs.length/\jq0 (z.rrs.drop i)=jq0 z.rrs) (fun i=>[(20,iV i)]) (fun i=>[]) (fun i=>z.rrs.length - i) ⟨0,[0,1,2,3,4],⟨Nat.zero_le _,rfl⟩,?_⟩ ?_
  ·conv=>whnf
   repeat'(first|exact ⟨⟩|exact rfl|exact qa0 _|exact .inr rfl|exact fun _ _=>rfl|exact noI|apply And.intro)
   all_goals first
    |exact qb0 _
    |exact qa9 _
    |exact qo7 _
  intro i hi
  obtain⟨hi,hd⟩:=hi
  conv=>whnf
  refine⟨fun h2=>?_,fun h2=>?_⟩
  ·have h2:i<z.rrs.length:=by
    have h:(i:Int)<z.rrs.length:=of_decide_eq_true h2
    omega
   have hw1:IntKind.i64.wrap ((i:Int)+1)=((i+1:Nat):Int):=by rw[qa4 _ (by omega)];omega
   obtain⟨r,hr⟩:∃ r,z.rrs.getD i default=r:=⟨_,rfl⟩
   have hrl:z.rrs[i]? = some r:=by rw[<-hr,List.getD,List.getElem?_eq_getElem h2];rfl
   conv=>whnf
   refine⟨by omega,?_⟩
   conv=>whnf
   rw[Int.toNat_natCast,hr]
   refine⟨fun h3=>?_,fun h3=>?_⟩
   ·have h3:r.ty=6:=by simpa using h3
    have hh:jq0 z.rrs=some r:=by
     have e:z.rrs.drop i=r :: z.rrs.drop (i+1):=by rw [List.drop_eq_getElem_cons h2];congr 1;rw [List.getElem?_eq_getElem h2] at hrl;exact Option.some.inj hrl
     rw[<-hd,e]
     unfold jq0
     rw[if_pos h3]
    rw[hh]
    conv=>whnf
    repeat'(first|exact ⟨⟩|exact rfl|exact⟨rfl,rfl,.inr rfl,fun _ _=>rfl⟩|exact⟨rfl,rfl,.inl rfl,noI⟩|apply And.intro)
   ·have h3:r.ty≠6:=by simpa using h3
    conv=>whnf
    rw[hw1]
    refine⟨i+1,[0,1,2,3,4],⟨h2,zv5 hrl h3 hd⟩,by omega,?_⟩
    conv=>whnf
    repeat'(first|exact ⟨⟩|exact rfl|exact qa0 _|exact .inr rfl|exact fun _ _=>rfl|exact noI|apply And.intro)
    all_goals first
     |exact qb0 _
     |exact qa9 _
     |exact qo7 _
  ·have h2:i=z.rrs.length:=by
    have h:¬ (i:Int)<z.rrs.length:=of_decide_eq_false h2
    omega
   subst h2
   rw [List.drop_length] at hd
   rw[<-hd]
   conv=>whnf
   repeat'(first|exact ⟨⟩|exact rfl|exact⟨rfl,rfl,.inr rfl,fun _ _=>rfl⟩|exact⟨rfl,rfl,.inl rfl,noI⟩|apply And.intro)
def ya9(D:List (List UInt8))(r:RR):Bool:=r.ty == 1 && D.any (fun h=>fold h == fold r.nm)
def xh1(z:Zo)(s:St):List RR:=if z.ok && (s.ty == 2 && s.ok) then z.rrs.filter (ya9 s.data) else []
structure GInv(D:List (List UInt8))(C:List (List UInt8 × Nat)):Prop where
 has:∀ k,(aget C k).isSome=D.any (fun h=>fold h == k)
 le:∀ k v,aget C k=some v->1<=v/\v<=D.length
theorem GInv.zero:GInv [] []:=⟨fun _=>rfl,fun _ _ h=>by cases h⟩
theorem GInv.put{D:List (List UInt8)}{C:List (List UInt8 × Nat)}(h:GInv D C)(d:List UInt8){v:Nat}(hv:(aget C (fold d)).getD 0=v):GInv (D++[d]) (aput C (fold d) (v+1)):=by
 refine⟨fun k=>?_,fun k w hw=>?_⟩
 ·rw[jg8,List.any_append,<-h.has]
  by_cases hk:k=fold d
  ·rw[if_pos hk,hk];simp
  ·rw[if_neg hk]
   have:(fold d == k)=false:=by simpa using fun e=>hk e.symm
   simp[this]
 ·rw [jg8] at hw
  rw[List.length_append,List.length_singleton]
  split at hw
  ·simp only [Option.some.injEq] at hw
   cases hg:aget C (fold d) with
   |none=>rw [hg] at hv;simp at hv;omega
   |some x =>
    rw [hg] at hv
    simp at hv
    have:=h.le _ _ hg
    omega
  ·have:=h.le k w hw
   omega
theorem zi3{α:Type}{p:α->Bool}{l:List α}{i:Nat}{r:α}(h:l[i]? = some r):(l.take (i+1)).filter p=if p r then (l.take i).filter p++[r] else (l.take i).filter p:=by
 rw[List.take_add_one,h]
 cases hp:p r <;> simp[hp]
set_option maxHeartbeats 16000000 in
theorem xm3(z:Zo)(hz:z.Fit)(s:St)(hs:∀ d ∈ s.data,d.length<=100000):FnOk Tryz.prog 41 [z.V,s.V] (.d (rrsD (xh1 z s).isEmpty (xh1 z s))):=by
 refine qa3 (TT:=TT) (IN:=qd0 []) qd2 qa7 mixed 1000 Tryz.func41 rfl (qb7 Tryz.func41 (by kernel_rfl) rfl) rfl 67 (by kernel_rfl) ?_
 conv=>whnf
 refine .rel _ (jx4 z hz _) (fun r ks' hR=>?_)
 obtain⟨S,N,rfl,rfl⟩:=hR
 unfold xh1
 cases h:z.ok with
 |false =>
  rw[Bool.false_and,if_neg (by decide)]
  conv=>whnf
  refine brT rfl ?_
  conv=>whnf
  repeat'(first|exact ⟨⟩|exact rfl|exact⟨rfl,rfl,.inr rfl,fun _ _=>rfl⟩|exact⟨rfl,rfl,.inl rfl,noI⟩|apply And.intro)
 |true =>
  have hl:=z.ok_len h
  rw[Bool.true_and]
  conv=>whnf
  refine brF rfl ?_
  conv=>whnf
  refine⟨fun h1=>?_,fun h1=>?_⟩
  ·have h1:(s.ty == 2)=false:=by simpa using h1
   rw[h1,Bool.false_and,if_neg (by decide)]
   conv=>whnf
   repeat'(first|exact ⟨⟩|exact rfl|exact⟨rfl,rfl,.inr rfl,fun _ _=>rfl⟩|exact⟨rfl,rfl,.inl rfl,noI⟩|apply And.intro)
  have h1:(s.ty == 2)=true:=by simpa using h1
  rw[h1,Bool.true_and]
  conv=>whnf
  refine .one (.data _ (jk5 s.nm s.ty s.ttl s.z s.data) rfl rfl ?_)
  rw[show qs7 s.nm s.ty s.ttl s.data=s.ok from rfl]
  cases hok:s.ok with
  |false =>
   rw[if_neg (by decide)]
   conv=>whnf
   refine brT rfl ?_
   conv=>whnf
   repeat'(first|exact ⟨⟩|exact rfl|exact⟨rfl,rfl,.inr rfl,fun _ _=>rfl⟩|exact⟨rfl,rfl,.inl rfl,noI⟩|apply And.intro)
  |true =>
   have hdl:=((St.ok_iff s).1 hok).2.2.1.2
   rw[if_pos rfl]
   conv=>whnf
   refine brF rfl ?_
   conv=>whnf
   refine .inv (Nat × List (List UInt8 × Nat)) (fun x=>x.1<=s.data.length/\GInv (s.data.take x.1) x.2) (fun x=>[(34,iV x.1)]) (fun x=>[(5,kd8 x.2)]) (fun x=>s.data.length - x.1) ⟨(0,[]),[0,1,2,3,4,5],⟨Nat.zero_le _,GInv.zero⟩,?_⟩ ?_
   ·conv=>whnf
    repeat'(first|exact ⟨⟩|exact rfl|exact qa0 _|exact .inr rfl|exact fun _ _=>rfl|exact noI|apply And.intro)
    all_goals first
     |exact qb0 _
     |exact qa9 _
     |exact qo7 _
   intro x hx
   obtain⟨hi,hI⟩:=hx
   conv=>whnf
   generalize x.1=i at hi hI ⊢
   generalize x.2=C at hI ⊢
   refine⟨fun h2=>?_,fun h2=>?_⟩
   ·have h2:i<s.data.length:=by
     have h:(i:Int)<s.data.length:=of_decide_eq_true h2
     omega
    have hw1:IntKind.i64.wrap ((i:Int)+1)=((i+1:Nat):Int):=by rw[qa4 _ (by omega)];omega
    have hli:s.data[i]? = some (s.data[i]?.getD []):=by rw[List.getElem?_eq_getElem h2];rfl
    conv=>whnf
    refine⟨by omega,?_⟩
    conv=>whnf
    rw[Int.toNat_natCast]
    generalize s.data[i]?.getD []=d at hli ⊢
    have hdlen:=hs d (List.mem_of_getElem? hli)
    have htk:s.data.take (i+1)=s.data.take i++[d]:=by rw[List.take_add_one,hli];rfl
    have htl:(s.data.take i).length=i:=by rw[List.length_take];omega
    refine .one (.data _ (qj6 d (by omega)) rfl rfl ?_)
    conv=>whnf
    have hfs:=qg8 (ev:=intV) qg9 C (fold d)
    refine⟨_,hfs,?_⟩
    cases hg:aget C (fold d) with
    |none =>
     have hput:=qy0 (ev:=intV) qg9 C (fold d) 1
     conv=>whnf
     refine⟨_,hput,?_⟩
     conv=>whnf
     rw[hw1]
     refine⟨(i+1,aput C (fold d) 1),[0,1,2,3,4,5],⟨h2,by rw[htk];exact hI.put d (v:=0) (by rw[hg];rfl)⟩,by show _ - (i+1)<_;omega,?_⟩
     conv=>whnf
     repeat'(first|exact ⟨⟩|exact rfl|exact qa0 _|exact .inr rfl|exact fun _ _=>rfl|exact noI|apply And.intro)
     all_goals first
      |exact qb0 _
      |exact qa9 _
      |exact qo7 _
    |some v =>
     have hvb:=hI.le _ _ hg
     have hwv:IntKind.i64.wrap ((v:Int)+1)=((v+1:Nat):Int):=by rw[qa4 _ (by omega)];omega
     have hput:=qy0 (ev:=intV) qg9 C (fold d) (v+1)
     conv=>whnf
     rw[hwv]
     refine⟨_,hput,?_⟩
     conv=>whnf
     rw[hw1]
     refine⟨(i+1,aput C (fold d) (v+1)),[0,1,2,3,4,5],⟨h2,by rw[htk];exact hI.put d (v:=v) (by rw[hg];rfl)⟩,by show _ - (i+1)<_;omega,?_⟩
     conv=>whnf
     repeat'(first|exact ⟨⟩|exact rfl|exact qa0 _|exact .inr rfl|exact fun _ _=>rfl|exact noI|apply And.intro)
     all_goals first
      |exact qb0 _
      |exact qa9 _
      |exact qo7 _
   ·have h2:i=s.data.length:=by
     have h:¬ (i:Int)<s.data.length:=of_decide_eq_false h2
     omega
    subst h2
    rw [List.take_length] at hI
    conv=>whnf
    refine .nilT 10 94 5 (fun _=>[]) _ _ rfl ?_
    conv=>whnf
    refine .inv Nat (fun i=>i<=z.rrs.length) (fun i=>[(48,iV i),(10,.all 6)]) (fun i=>[(6,.row 94 5 ((z.rrs.take i).filter (ya9 s.data)).length .iff (fun j=>(((z.rrs.take i).filter (ya9 s.data)).getD j default).enc))]) (fun i=>z.rrs.length - i) ⟨0,[0,1,2,3,4,5,6],Nat.zero_le _,?_⟩ ?_
    ·conv=>whnf
     repeat'(first|exact ⟨⟩|exact rfl|exact qa0 _|exact .inr rfl|exact fun _ _=>rfl|exact noI|apply And.intro)
     all_goals first
      |exact qb0 _
      |exact qa9 _
      |exact qo7 _
    intro i hi
    conv=>whnf
    refine⟨fun h2=>?_,fun h2=>?_⟩
    ·have h2:i<z.rrs.length:=by
      have h:(i:Int)<z.rrs.length:=of_decide_eq_true h2
      omega
     have hw1:IntKind.i64.wrap ((i:Int)+1)=((i+1:Nat):Int):=by rw[qa4 _ (by omega)];omega
     obtain⟨r,hr⟩:∃ r,z.rrs.getD i default=r:=⟨_,rfl⟩
     have hrl:z.rrs[i]? = some r:=by rw[<-hr,List.getD,List.getElem?_eq_getElem h2];rfl
     have hnx:=zi3 (p:=ya9 s.data) hrl
     have hfl:((z.rrs.take i).filter (ya9 s.data)).length<=i:=Nat.le_trans (List.length_filter_le _ _) (by rw[List.length_take];omega)
     conv=>whnf
     refine⟨by omega,?_⟩
     conv=>whnf
     rw[Int.toNat_natCast,hr]
     refine⟨fun h3=>?_,fun h3=>?_⟩
     ·have h3:(r.ty == 1)=true:=h3
      have hrn:=(hz r (List.mem_of_getElem? hrl)).1
      conv=>whnf
      refine .one (.data _ (qj6 r.nm (by omega)) rfl rfl ?_)
      conv=>whnf
      have hfs:=qg8 (ev:=intV) qg9 C (fold r.nm)
      have hhas:=hI.has (fold r.nm)
      refine⟨_,hfs,?_⟩
      cases hg:aget C (fold r.nm) with
      |none =>
       rw [hg] at hhas
       rw [show ya9 s.data r=false by unfold ya9;rw [h3,<-hhas];rfl,if_neg (by decide)] at hnx
       conv=>whnf
       refine brF rfl ?_
       conv=>whnf
       rw[hw1]
       refine⟨i+1,[0,1,2,3,4,5,6],h2,by omega,?_⟩
       rw[hnx]
       conv=>whnf
       repeat'(first|exact ⟨⟩|exact rfl|exact qa0 _|exact .inr rfl|exact fun _ _=>rfl|exact noI|apply And.intro)
       all_goals first
        |exact qb0 _
        |exact qa9 _
        |exact qo7 _
      |some v =>
       rw [hg] at hhas
       have hvb:=hI.le _ _ hg
       rw [show ya9 s.data r=true by unfold ya9;rw [h3,<-hhas];rfl,if_pos rfl] at hnx
       conv=>whnf
       refine brT (decide_eq_true (by show((v:Nat):Int) > 0;omega)) ?_
       conv=>whnf
       refine⟨by omega,?_⟩
       conv=>whnf
       rw[hw1]
       refine⟨i+1,[0,1,2,3,4,5,9],h2,by omega,?_⟩
       rw[hnx]
       conv=>whnf
       repeat'(first|exact ⟨⟩|exact rfl|exact qa0 _|exact .inr rfl|exact fun _ _=>rfl|exact noI|apply And.intro)
       all_goals first
        |exact qb0 _
        |exact qa9 _
        |exact qo7 _
        |(show _+1=(_++[_]).length;simp;done)
        |exact fun j hj=>zm1 _ r j hj
     ·have h3:(r.ty == 1)=false:=h3
      rw [show ya9 s.data r=false by unfold ya9;rw [h3];rfl,if_neg (by decide)] at hnx
      conv=>whnf
      rw[hw1]
      refine⟨i+1,[0,1,2,3,4,5,6],h2,by omega,?_⟩
      rw[hnx]
      conv=>whnf
      repeat'(first|exact ⟨⟩|exact rfl|exact qa0 _|exact .inr rfl|exact fun _ _=>rfl|exact noI|apply And.intro)
      all_goals first
       |exact qb0 _
       |exact qa9 _
       |exact qo7 _
    ·have h2:i=z.rrs.length:=by
      have h:¬ (i:Int)<z.rrs.length:=of_decide_eq_false h2
      omega
     subst h2
     rw[List.take_length]
     conv=>whnf
     repeat'(first|exact ⟨⟩|exact rfl|exact⟨rfl,rfl,.inr rfl,fun _ _=>rfl⟩|exact⟨rfl,rfl,.inl rfl,noI⟩|apply And.intro)
     all_goals first
      |exact qd4 _
      |exact .inr rfl
      |exact fun _ _=>rfl
set_option maxRecDepth 100000 in
set_option maxHeartbeats 4000000 in
theorem xc4(y:Bool)(a:List Q)(h:y=true->a=[])(ha:a.length<=1000000):FnOk Tryz.prog 73 [.d (qsD y a)] (.d (qsD y a)):=by
 refine qa3 (TT:=TT) (IN:=qd0 []) qd2 qa7 mixed 1000 Tryz.func73 rfl (qb7 Tryz.func73 (by kernel_rfl) rfl) rfl 7 (by kernel_rfl) ?_
 conv=>whnf
 refine⟨fun h1=>?_,fun h1=>?_⟩
 ·have h1:y=true:=h1
  rw[h h1,h1]
  conv=>whnf
  exact⟨rfl,rfl,.inl rfl,noI⟩
 ·have h1:y=false:=h1
  rw[h1]
  conv=>whnf
  refine⟨by omega,?_⟩
  conv=>whnf
  refine⟨rfl,Nat.zero_add _,.inr rfl,fun i hi=>?_⟩
  unfold catF
  rw[if_neg (Nat.not_lt_zero _),Nat.sub_zero]
def Msg.reply(m:Msg)(code:Int):Msg:=⟨m.id,Go.bits BinOp.or IntKind.u16 (Go.bits BinOp.and IntKind.u16 m.bits 30976) (Go.bits BinOp.or IntKind.u16 32768 (IntKind.u16.wrap (Go.bits BinOp.and IntKind.i64 code 15))),m.za,m.asks,true,[],true,[],true,[]⟩
set_option maxRecDepth 100000 in
set_option maxHeartbeats 4000000 in
theorem ja8(m:Msg)(code:Int)(h:m.za=true->m.asks=[])(ha:m.asks.length<=1000000):FnOk Tryz.prog 37 [.agg m.cells,.d (.int .i64 code)] (.agg (m.reply code).cells):=by
 refine qa3 (TT:=TT) (IN:=qd0 []) qd2 qa7 mixed 1000 Tryz.func37 rfl (qb7 Tryz.func37 (by kernel_rfl) rfl) rfl 20 (by kernel_rfl) ?_
 conv=>whnf
 refine .data _ (xc4 m.za m.asks h ha) rfl rfl ?_
 conv=>whnf
 repeat'(first|exact ⟨⟩|exact rfl|exact⟨rfl,rfl,.inr rfl,fun _ _=>rfl⟩|exact⟨rfl,rfl,.inl rfl,noI⟩|apply And.intro)
def Msg.code(m:Msg):Int:=IntKind.i64.wrap (Go.bits BinOp.and IntKind.u16 m.bits 15)
theorem xi8(m:Msg):FnOk Tryz.prog 30 [.agg m.cells] (.d (.int .i64 m.code)):=by
 refine qa3 (TT:=TT) (IN:=qd0 []) qd2 qa7 mixed 1000 Tryz.func30 rfl (qb7 Tryz.func30 (by kernel_rfl) rfl) rfl 6 (by kernel_rfl) ?_
 conv=>whnf
 exact rfl
def Msg.op(m:Msg):Int:=(IntKind.i64.wrap (Go.bits BinOp.and IntKind.u16 m.bits 30720)).fdiv (2 ^ 11)
theorem kh1(m:Msg):FnOk Tryz.prog 38 [.agg m.cells] (.d (.int .i64 m.op)):=by
 refine qa3 (TT:=TT) (IN:=qd0 []) qd2 qa7 mixed 1000 Tryz.func38 rfl (qb7 Tryz.func38 (by kernel_rfl) rfl) rfl 7 (by kernel_rfl) ?_
 conv=>whnf
 refine⟨by decide,?_⟩
 conv=>whnf
 exact rfl
def jo2(z:Zo)(ty:Int):Nat->List UInt8->List RR->List RR × Option (List UInt8)
 |0,_,l=>(l,none)
 |k+1,n,l=>if (getZ z n ty).2=0 then (l++qi1 (getZ z n ty).1,none)
  else if (getZ z n 5).2≠0\/(getZ z n 5).1.data.length=0 then (l,some n)
  else if qa1 ((getZ z n 5).1.data.headD []) z.apex=false\/(cutQ z ((getZ z n 5).1.data.headD [])).2=0 then (l++qi1 (getZ z n 5).1,none)
  else jo2 z ty k ((getZ z n 5).1.data.headD []) (l++qi1 (getZ z n 5).1)
def orB(a b:Int):Int:=Go.bits BinOp.or IntKind.u16 a b
def Msg.cutM(m:Msg)(z:Zo)(c:St):Msg:={ m.reply 0 with zh:=!c.ok,heads:=qi1 c,ze:=(xh1 z c).isEmpty,extra:=xh1 z c }
def jj6(z:Zo):List RR:=if (jj3 z).2=0 then [(jj3 z).1] else []
def Msg.tellM(m:Msg)(z:Zo)(x:List RR × Option (List UInt8)):Msg:=match x.2 with
 |none=>{ m.reply 0 with bits:=orB (m.reply 0).bits 1024,zs:=x.1.isEmpty,says:=x.1 }
 |some n=>{ m.reply 0 with bits:=if qh2 z n then orB (m.reply 0).bits 1024 else orB (orB (m.reply 0).bits 1024) 3,zs:=x.1.isEmpty,says:=x.1,zh:=(jj6 z).isEmpty,heads:=jj6 z }
def ansF(z:Zo)(m:Msg):Msg:=match m.asks with
 |[q]=>if ¬ qa2 q.nm then m.reply 1 else if m.op≠0 then m.reply 4 else if q.cl≠1\/z.ok=false\/qa1 q.nm z.apex=false then m.reply 5
  else if (cutQ z q.nm).2=0 then m.cutM z (cutQ z q.nm).1 else m.tellM z (jo2 z q.ty 8 q.nm [])
 |_=>m.reply 1
theorem za5{nm:List UInt8}{t:Int}{l:List RR}{d:List UInt8}(h:d ∈ (qb2 nm t l).1.data):∃ r ∈ l,r.d=d:=by
 unfold qb2 at h
 split at h
 ·split at h
  ·cases h
  ·have hd:d ∈ qp4 (qf6 t) ((qe5 nm t l).map (·.d)):=List.mem_of_mem_take h
   obtain⟨i,hi⟩:=(jc1 t (qe5 nm t l)).from hd
   obtain⟨r,hr,rfl⟩:=List.mem_map.1 (List.mem_of_getElem? hi)
   unfold qe5 at hr
   exact⟨r,(List.mem_filter.1 (List.mem_filter.1 hr).1).1,rfl⟩
 ·cases h
theorem xs0{z:Zo}{nm:List UInt8}{t:Int}{d:List UInt8}(h:d ∈ (getZ z nm t).1.data):∃ r ∈ z.rrs,r.d=d:=by
 unfold getZ at h
 split at h
 ·exact za5 h
 ·cases h
theorem xt5{z:Zo}{nm:List UInt8}{d:List UInt8}(h:d ∈ (cutQ z nm).1.data):∃ r ∈ z.rrs,r.d=d:=by
 unfold cutQ at h
 split at h
 ·split at h
  ·cases h
  ·exact za5 h
 ·cases h
theorem zm5(s:St):(qi1 s).length<=64:=by
 unfold qi1
 split
 ·rename_i h
  rw[List.length_map]
  exact((St.ok_iff s).1 h).2.2.1.2
 ·exact Nat.zero_le _
theorem qn4{α:Type}(l m:List α):Nat.beq (l.length+m.length) 0=(l++m).isEmpty:=by cases l <;> cases m <;> rfl
theorem ql8{l m:List RR}(j:Nat)(hj:j<l.length+m.length):catF l.length (fun j=>(l.getD j default).enc) (fun j=>(m.getD j default).enc) j=((l++m).getD j default).enc:=by
 unfold catF
 split
 ·rename_i h
  show(l.getD j default).enc=_
  rw[List.getD_eq_getElem?_getD,List.getD_eq_getElem?_getD,List.getElem?_append_left h]
 ·show(m.getD (j - l.length) default).enc=_
  rw[List.getD_eq_getElem?_getD,List.getD_eq_getElem?_getD,List.getElem?_append_right (by omega)]
structure TlS where
 k:Nat
 n:List UInt8
 l:List RR
set_option maxHeartbeats 32000000 in
theorem xl0(z:Zo)(hz:z.Fit)(m:Msg)(h:m.za=true->m.asks=[])(ha:m.asks.length<=1000000):FnOk Tryz.prog 15 [z.V,.agg m.cells] (.agg (ansF z m).cells):=by
 refine qa3 (TT:=TT) (IN:=qd0 [(42,Tryz.f42,3),(76,Tryz.f76,2),(77,Tryz.f77,3)]) qd2 (qb8 (qb8 (qb8 qa7 Tryz.func77 (by kernel_rfl) (by kernel_rfl)) Tryz.func76 (by kernel_rfl) (by kernel_rfl)) Tryz.func42 (by kernel_rfl) (by kernel_rfl)) mixed 1000 Tryz.func15 rfl (qb7 Tryz.func15 (by kernel_rfl) rfl) rfl 83 (by kernel_rfl) ?_
 conv=>whnf
 refine⟨fun h1=>?_,fun h1=>?_⟩
 ·have h1:m.asks.length≠1:=by
   have h:((m.asks.length:Nat):Int)≠1:=by simpa using h1
   omega
  rw[show ansF z m=m.reply 1 by
   unfold ansF
   split
   ·rename_i q hq;rw [hq] at h1;exact absurd rfl h1
   ·rfl]
  conv=>whnf
  refine .one (.data _ (ja8 m 1 h ha) rfl rfl ?_)
  conv=>whnf
  repeat'(first|exact ⟨⟩|exact rfl|exact⟨rfl,rfl,.inr rfl,fun _ _=>rfl⟩|exact⟨rfl,rfl,.inl rfl,noI⟩|apply And.intro)
 have h1:m.asks.length=1:=by
  have h:((m.asks.length:Nat):Int)=1:=by simpa using h1
  omega
 obtain⟨q,hq⟩:∃ q,m.asks=[q]:=by
  cases hm:m.asks with
  |nil=>rw [hm] at h1;simp at h1
  |cons q l =>
   rw [hm] at h1
   have:l=[]:=List.eq_nil_of_length_eq_zero (by simpa using h1)
   exact⟨q,by rw[this]⟩
 have hans:ansF z m=if ¬ qa2 q.nm then m.reply 1 else if m.op≠0 then m.reply 4 else if q.cl≠1\/z.ok=false\/qa1 q.nm z.apex=false then m.reply 5
  else if (cutQ z q.nm).2=0 then m.cutM z (cutQ z q.nm).1 else m.tellM z (jo2 z q.ty 8 q.nm []):=by
  unfold ansF
  rw[hq]
 have hqd:m.asks.getD 0 default=q:=by rw[hq];rfl
 conv=>whnf
 refine⟨⟨Int.le_refl 0,by show(0:Int)<(m.asks.length:Int);omega⟩,?_⟩
 conv=>whnf
 rw[show(0:Int).toNat=0 from rfl,hqd]
 refine .one (.data _ (qd8 q.nm) rfl rfl ?_)
 by_cases hn:qa2 q.nm
 case neg =>
  rw [if_pos hn] at hans
  rw[if_neg hn,hans]
  conv=>whnf
  refine brT rfl ?_
  conv=>whnf
  refine .one (.data _ (ja8 m 1 h ha) rfl rfl ?_)
  conv=>whnf
  repeat'(first|exact ⟨⟩|exact rfl|exact⟨rfl,rfl,.inr rfl,fun _ _=>rfl⟩|exact⟨rfl,rfl,.inl rfl,noI⟩|apply And.intro)
 rw [if_neg (fun h=>h hn)] at hans
 rw[if_pos hn]
 conv=>whnf
 refine brF rfl ?_
 conv=>whnf
 refine⟨⟨Int.le_refl 0,by show(0:Int)<(m.asks.length:Int);omega⟩,?_⟩
 conv=>whnf
 rw[show(0:Int).toNat=0 from rfl,hqd]
 refine .one (.data _ (kh1 m) rfl rfl ?_)
 conv=>whnf
 refine⟨fun h2=>?_,fun h2=>?_⟩
 ·have h2:m.op≠0:=by simpa using h2
  rw [if_pos h2] at hans
  rw[hans]
  conv=>whnf
  refine .one (.data _ (ja8 m 4 h ha) rfl rfl ?_)
  conv=>whnf
  repeat'(first|exact ⟨⟩|exact rfl|exact⟨rfl,rfl,.inr rfl,fun _ _=>rfl⟩|exact⟨rfl,rfl,.inl rfl,noI⟩|apply And.intro)
 have h2:¬ m.op≠0:=by simpa using h2
 rw [if_neg h2] at hans
 conv=>whnf
 refine⟨fun h3=>?_,fun h3=>?_⟩
 ·have h3:q.cl≠1:=by simpa using h3
  rw [if_pos (.inl h3)] at hans
  rw[hans]
  conv=>whnf
  refine .one (.data _ (ja8 m 5 h ha) rfl rfl ?_)
  conv=>whnf
  repeat'(first|exact ⟨⟩|exact rfl|exact⟨rfl,rfl,.inr rfl,fun _ _=>rfl⟩|exact⟨rfl,rfl,.inl rfl,noI⟩|apply And.intro)
 have h3:¬ q.cl≠1:=by simpa using h3
 conv=>whnf
 refine .one (.data _ (ys9 z hz) rfl rfl ?_)
 cases hok:z.ok with
 |false =>
  rw [if_pos (.inr (.inl hok))] at hans
  rw[hans,if_neg (by decide)]
  conv=>whnf
  refine brT rfl ?_
  conv=>whnf
  refine .one (.data _ (ja8 m 5 h ha) rfl rfl ?_)
  conv=>whnf
  repeat'(first|exact ⟨⟩|exact rfl|exact⟨rfl,rfl,.inr rfl,fun _ _=>rfl⟩|exact⟨rfl,rfl,.inl rfl,noI⟩|apply And.intro)
 |true =>
  rw[if_pos rfl]
  conv=>whnf
  refine brF rfl ?_
  conv=>whnf
  refine .one (.data _ (ql3 q.nm z.apex) rfl rfl ?_)
  cases hw:qa1 q.nm z.apex with
  |false =>
   rw [if_pos (.inr (.inr hw))] at hans
   rw[hans]
   conv=>whnf
   refine brT rfl ?_
   conv=>whnf
   refine .one (.data _ (ja8 m 5 h ha) rfl rfl ?_)
   conv=>whnf
   repeat'(first|exact ⟨⟩|exact rfl|exact⟨rfl,rfl,.inr rfl,fun _ _=>rfl⟩|exact⟨rfl,rfl,.inl rfl,noI⟩|apply And.intro)
  |true =>
   rw [if_neg (fun h=>h.elim h3 (fun h=>h.elim (fun h=>by rw [hok] at h;cases h) (fun h=>by rw [hw] at h;cases h)))] at hans
   conv=>whnf
   refine brF rfl ?_
   conv=>whnf
   refine .one (.data _ (ja8 m 0 h ha) rfl rfl ?_)
   conv=>whnf
   refine .one (.data _ (zd3 z hz q.nm) rfl rfl ?_)
   have hcd:∀ d ∈ (cutQ z q.nm).1.data,d.length<=100000:=fun d hd=>by obtain⟨r,hr,rfl⟩:=xt5 hd;exact(hz r hr).2
   generalize hcq:cutQ z q.nm=cq at hans hcd ⊢
   conv=>whnf
   refine⟨fun h4=>?_,fun h4=>?_⟩
   ·have h4:cq.2=0:=by simpa using h4
    rw [if_pos h4] at hans
    rw[hans]
    conv=>whnf
    refine .one (.data _ (jf6 cq.1) rfl rfl ?_)
    conv=>whnf
    refine .one (.data _ (xm3 z hz cq.1 hcd) rfl rfl ?_)
    conv=>whnf
    repeat'(first|exact ⟨⟩|exact rfl|exact⟨rfl,rfl,.inr rfl,fun _ _=>rfl⟩|exact⟨rfl,rfl,.inl rfl,noI⟩|apply And.intro)
   have h4:¬ cq.2=0:=by simpa using h4
   rw [if_neg h4] at hans
   rw[hans]
   clear hans
   conv=>whnf
   refine .nilC 4 3 94 5 (fun _=>[]) _ _ _ _ rfl rfl ?_
   refine .inv TlS (fun s=>jo2 z q.ty s.k s.n s.l=jo2 z q.ty 8 q.nm []/\s.k<=8/\s.n.length<=100000/\s.l.length<=(8 - s.k) * 64) (fun s=>[(15,.d (.int .i64 ((8 - s.k:Nat):Int))),(6,.d (.str s.n))]) (fun s=>[(4,.cells 87 [.d (.int .u16 (m.reply 0).id),.d (.int .u16 (orB (m.reply 0).bits 1024)),.d (qsD (m.reply 0).za (m.reply 0).asks),.all 8,.d (rrsD true []),.d (rrsD true [])]),(8,.row 94 5 s.l.length .iff (fun j=>(s.l.getD j default).enc))]) (fun s=>s.k) ⟨⟨8,q.nm,[]⟩,[0,1,2,3,4,5,6,7,8],⟨rfl,Nat.le_refl _,by have:=hn.2.1;show q.nm.length<=100000;omega,Nat.zero_le _⟩,?_⟩ ?_
   ·conv=>whnf
    repeat'(first|exact ⟨⟩|exact rfl|exact qa0 _|exact .inr rfl|exact fun _ _=>rfl|exact noI|apply And.intro)
   intro s hs
   obtain⟨ht,hk,hnl,hll⟩:=hs
   conv=>whnf
   generalize s.k=k at ht hk hll ⊢
   generalize s.n=n at ht hnl ⊢
   generalize s.l=l at ht hll ⊢
   generalize jo2 z q.ty 8 q.nm []=T at ht ⊢
   refine⟨fun h5=>?_,fun h5=>?_⟩
   ·have h5:((8 - k:Nat):Int)<8:=of_decide_eq_true h5
    obtain⟨k,rfl⟩:∃ k',k=k'+1:=⟨k - 1,by omega⟩
    have hw1:IntKind.i64.wrap (((8 - (k+1):Nat):Int)+1)=((8 - k:Nat):Int):=by rw[qa4 _ (by omega)];omega
    have e1:jo2 z q.ty (k+1) n l=if (getZ z n q.ty).2=0 then (l++qi1 (getZ z n q.ty).1,none)
     else if (getZ z n 5).2≠0\/(getZ z n 5).1.data.length=0 then (l,some n)
     else if qa1 ((getZ z n 5).1.data.headD []) z.apex=false\/(cutQ z ((getZ z n 5).1.data.headD [])).2=0 then (l++qi1 (getZ z n 5).1,none)
     else jo2 z q.ty k ((getZ z n 5).1.data.headD []) (l++qi1 (getZ z n 5).1):=rfl
    conv=>whnf
    refine .one (.data _ (yl3 z hz n q.ty hnl) rfl rfl ?_)
    generalize getZ z n q.ty=g1 at e1 ⊢
    conv=>whnf
    refine⟨fun h6=>?_,fun h6=>?_⟩
    ·have h6:g1.2=0:=by simpa using h6
     rw [if_pos h6] at e1
     rw[<-ht,e1]
     have hrl:=zm5 g1.1
     conv=>whnf
     have hrec:=jf6 g1.1
     apply Exists.intro
     apply Exists.intro
     refine⟨?_,?_⟩
     ·conv=>whnf
      repeat'(first|exact ⟨⟩|exact⟨rfl,rfl⟩|refine .data _ hrec rfl rfl ?_|refine And.intro (by omega) ?_|apply And.intro|(conv=>whnf))
     conv=>whnf
     repeat'(first|exact ⟨⟩|exact rfl|exact⟨rfl,rfl,.inr rfl,fun _ _=>rfl⟩|exact⟨rfl,rfl,.inl rfl,noI⟩|apply And.intro)
     all_goals first
      |exact qd4 _
      |exact qn4 _ _
      |exact .inr rfl
      |exact(List.length_append ..).symm
      |exact fun j hj=>ql8 j hj
      |exact fun _ _=>rfl
      |(intro j hj;match j,hj with|0,_=>rfl)
    have h6:¬ g1.2=0:=by simpa using h6
    rw [if_neg h6] at e1
    conv=>whnf
    refine .one (.data _ (yl3 z hz n 5 hnl) rfl rfl ?_)
    have hgd:∀ d ∈ (getZ z n 5).1.data,d.length<=100000:=fun d hd=>by obtain⟨r,hr,rfl⟩:=xs0 hd;exact(hz r hr).2
    generalize getZ z n 5=g2 at e1 hgd ⊢
    obtain⟨L,e2⟩:=g2
    have hhd:L.data.headD []=L.data[0]?.getD []:=by cases L.data <;> rfl
    have hno:(e2≠0\/L.data.length=0)->T=(l,some n):=fun h=>by rw[<-ht,e1,if_pos h]
    have hyes:¬ (e2≠0\/L.data.length=0)->T=if qa1 (L.data[0]?.getD []) z.apex=false\/(cutQ z (L.data[0]?.getD [])).2=0 then (l++qi1 L,none) else jo2 z q.ty k (L.data[0]?.getD []) (l++qi1 L):=fun h=>by rw[<-ht,e1,if_neg h,hhd]
    clear e1
    conv=>whnf
    refine⟨fun h7=>?_,fun h7=>?_⟩
    ·have h7:e2≠0:=by simpa using h7
     rw[hno (.inl h7)]
     conv=>whnf
     refine .one (.data _ (zk8 z hz) rfl rfl ?_)
     conv=>whnf
     refine⟨fun d1=>?_,fun d1=>?_⟩
     ·have d1:(jj3 z).2=0:=by simpa using d1
      have hdn:jj6 z=[(jj3 z).1]:=by unfold jj6;rw[if_pos d1]
      rw[show m.tellM z (l,some n)=⟨(m.reply 0).id,if qh2 z n then orB (m.reply 0).bits 1024 else orB (orB (m.reply 0).bits 1024) 3,(m.reply 0).za,(m.reply 0).asks,l.isEmpty,l,false,[(jj3 z).1],true,[]⟩ by unfold Msg.tellM;rw[hdn];rfl]
      conv=>whnf
      refine⟨by omega,?_⟩
      conv=>whnf
      refine .one (.data _ (qp9 z hz n) rfl rfl ?_)
      cases qh2 z n with
      |true =>
       rw[if_pos rfl]
       conv=>whnf
       refine brF rfl ?_
       conv=>whnf
       repeat'(first|exact ⟨⟩|exact rfl|exact⟨rfl,rfl,.inr rfl,fun _ _=>rfl⟩|exact⟨rfl,rfl,.inl rfl,noI⟩|apply And.intro)
       all_goals first
        |exact qd4 _
        |exact qn4 _ _
        |exact .inr rfl
        |exact(List.length_append ..).symm
        |exact fun j hj=>ql8 j hj
        |exact fun _ _=>rfl
        |(intro j hj;match j,hj with|0,_=>rfl)
      |false =>
       rw[if_neg (by decide)]
       conv=>whnf
       refine brT rfl ?_
       conv=>whnf
       repeat'(first|exact ⟨⟩|exact rfl|exact⟨rfl,rfl,.inr rfl,fun _ _=>rfl⟩|exact⟨rfl,rfl,.inl rfl,noI⟩|apply And.intro)
       all_goals first
        |exact qd4 _
        |exact qn4 _ _
        |exact .inr rfl
        |exact(List.length_append ..).symm
        |exact fun j hj=>ql8 j hj
        |exact fun _ _=>rfl
        |(intro j hj;match j,hj with|0,_=>rfl)
     ·have d1:¬ (jj3 z).2=0:=by simpa using d1
      have hdn:jj6 z=[]:=by unfold jj6;rw[if_neg d1]
      rw[show m.tellM z (l,some n)=⟨(m.reply 0).id,if qh2 z n then orB (m.reply 0).bits 1024 else orB (orB (m.reply 0).bits 1024) 3,(m.reply 0).za,(m.reply 0).asks,l.isEmpty,l,true,[],true,[]⟩ by unfold Msg.tellM;rw[hdn];rfl]
      conv=>whnf
      refine .one (.data _ (qp9 z hz n) rfl rfl ?_)
      cases qh2 z n with
      |true =>
       rw[if_pos rfl]
       conv=>whnf
       refine brF rfl ?_
       conv=>whnf
       repeat'(first|exact ⟨⟩|exact rfl|exact⟨rfl,rfl,.inr rfl,fun _ _=>rfl⟩|exact⟨rfl,rfl,.inl rfl,noI⟩|apply And.intro)
       all_goals first
        |exact qd4 _
        |exact qn4 _ _
        |exact .inr rfl
        |exact(List.length_append ..).symm
        |exact fun j hj=>ql8 j hj
        |exact fun _ _=>rfl
        |(intro j hj;match j,hj with|0,_=>rfl)
      |false =>
       rw[if_neg (by decide)]
       conv=>whnf
       refine brT rfl ?_
       conv=>whnf
       repeat'(first|exact ⟨⟩|exact rfl|exact⟨rfl,rfl,.inr rfl,fun _ _=>rfl⟩|exact⟨rfl,rfl,.inl rfl,noI⟩|apply And.intro)
       all_goals first
        |exact qd4 _
        |exact qn4 _ _
        |exact .inr rfl
        |exact(List.length_append ..).symm
        |exact fun j hj=>ql8 j hj
        |exact fun _ _=>rfl
        |(intro j hj;match j,hj with|0,_=>rfl)
    have h7:e2=0:=by simpa using h7
    conv=>whnf
    refine⟨fun h8=>?_,fun h8=>?_⟩
    ·have h8:L.data.length=0:=by
      have h:(L.data.length:Int)=0:=by simpa using h8
      omega
     rw[hno (.inr h8)]
     conv=>whnf
     refine .one (.data _ (zk8 z hz) rfl rfl ?_)
     conv=>whnf
     refine⟨fun d1=>?_,fun d1=>?_⟩
     ·have d1:(jj3 z).2=0:=by simpa using d1
      have hdn:jj6 z=[(jj3 z).1]:=by unfold jj6;rw[if_pos d1]
      rw[show m.tellM z (l,some n)=⟨(m.reply 0).id,if qh2 z n then orB (m.reply 0).bits 1024 else orB (orB (m.reply 0).bits 1024) 3,(m.reply 0).za,(m.reply 0).asks,l.isEmpty,l,false,[(jj3 z).1],true,[]⟩ by unfold Msg.tellM;rw[hdn];rfl]
      conv=>whnf
      refine⟨by omega,?_⟩
      conv=>whnf
      refine .one (.data _ (qp9 z hz n) rfl rfl ?_)
      cases qh2 z n with
      |true =>
       rw[if_pos rfl]
       conv=>whnf
       refine brF rfl ?_
       conv=>whnf
       repeat'(first|exact ⟨⟩|exact rfl|exact⟨rfl,rfl,.inr rfl,fun _ _=>rfl⟩|exact⟨rfl,rfl,.inl rfl,noI⟩|apply And.intro)
       all_goals first
        |exact qd4 _
        |exact qn4 _ _
        |exact .inr rfl
        |exact(List.length_append ..).symm
        |exact fun j hj=>ql8 j hj
        |exact fun _ _=>rfl
        |(intro j hj;match j,hj with|0,_=>rfl)
      |false =>
       rw[if_neg (by decide)]
       conv=>whnf
       refine brT rfl ?_
       conv=>whnf
       repeat'(first|exact ⟨⟩|exact rfl|exact⟨rfl,rfl,.inr rfl,fun _ _=>rfl⟩|exact⟨rfl,rfl,.inl rfl,noI⟩|apply And.intro)
       all_goals first
        |exact qd4 _
        |exact qn4 _ _
        |exact .inr rfl
        |exact(List.length_append ..).symm
        |exact fun j hj=>ql8 j hj
        |exact fun _ _=>rfl
        |(intro j hj;match j,hj with|0,_=>rfl)
     ·have d1:¬ (jj3 z).2=0:=by simpa using d1
      have hdn:jj6 z=[]:=by unfold jj6;rw[if_neg d1]
      rw[show m.tellM z (l,some n)=⟨(m.reply 0).id,if qh2 z n then orB (m.reply 0).bits 1024 else orB (orB (m.reply 0).bits 1024) 3,(m.reply 0).za,(m.reply 0).asks,l.isEmpty,l,true,[],true,[]⟩ by unfold Msg.tellM;rw[hdn];rfl]
      conv=>whnf
      refine .one (.data _ (qp9 z hz n) rfl rfl ?_)
      cases qh2 z n with
      |true =>
       rw[if_pos rfl]
       conv=>whnf
       refine brF rfl ?_
       conv=>whnf
       repeat'(first|exact ⟨⟩|exact rfl|exact⟨rfl,rfl,.inr rfl,fun _ _=>rfl⟩|exact⟨rfl,rfl,.inl rfl,noI⟩|apply And.intro)
       all_goals first
        |exact qd4 _
        |exact qn4 _ _
        |exact .inr rfl
        |exact(List.length_append ..).symm
        |exact fun j hj=>ql8 j hj
        |exact fun _ _=>rfl
        |(intro j hj;match j,hj with|0,_=>rfl)
      |false =>
       rw[if_neg (by decide)]
       conv=>whnf
       refine brT rfl ?_
       conv=>whnf
       repeat'(first|exact ⟨⟩|exact rfl|exact⟨rfl,rfl,.inr rfl,fun _ _=>rfl⟩|exact⟨rfl,rfl,.inl rfl,noI⟩|apply And.intro)
       all_goals first
        |exact qd4 _
        |exact qn4 _ _
        |exact .inr rfl
        |exact(List.length_append ..).symm
        |exact fun j hj=>ql8 j hj
        |exact fun _ _=>rfl
        |(intro j hj;match j,hj with|0,_=>rfl)
    have h8:¬ L.data.length=0:=by
     have h:¬ (L.data.length:Int)=0:=by simpa using h8
     omega
    have hT:=hyes (fun h=>h.elim (fun h=>h h7) h8)
    have hrl:=zm5 L
    have hrec:=jf6 L
    conv=>whnf
    apply Exists.intro
    apply Exists.intro
    refine⟨?_,?_⟩
    ·conv=>whnf
     repeat'(first|exact ⟨⟩|exact⟨rfl,rfl⟩|refine .data _ hrec rfl rfl ?_|refine And.intro (by omega) ?_|apply And.intro|(conv=>whnf))
    conv=>whnf
    refine⟨⟨Int.le_refl 0,by show(0:Int)<(L.data.length:Int);omega⟩,?_⟩
    conv=>whnf
    refine .one (.data _ (ql3 _ z.apex) rfl rfl ?_)
    have hdl:(L.data[0]?.getD []).length<=100000:=by
     cases hL:L.data with
     |nil=>rw [hL] at h8;exact absurd rfl h8
     |cons a b=>exact hgd a (by rw[show(L,e2).1.data=L.data from rfl,hL];simp)
    rw[show L.data[(0:Int).toNat]?.getD []=L.data[0]?.getD [] from rfl]
    generalize L.data[0]?.getD []=n2 at hT hdl ⊢
    cases h9:qa1 n2 z.apex with
    |false =>
     rw [if_pos (.inl h9)] at hT
     rw[hT]
     conv=>whnf
     refine brT rfl ?_
     conv=>whnf
     repeat'(first|exact ⟨⟩|exact rfl|exact⟨rfl,rfl,.inr rfl,fun _ _=>rfl⟩|exact⟨rfl,rfl,.inl rfl,noI⟩|apply And.intro)
     all_goals first
      |exact qd4 _
      |exact qn4 _ _
      |exact .inr rfl
      |exact(List.length_append ..).symm
      |exact fun j hj=>ql8 j hj
      |exact fun _ _=>rfl
      |(intro j hj;match j,hj with|0,_=>rfl)
    |true =>
     conv=>whnf
     refine brF rfl ?_
     conv=>whnf
     refine .one (.data _ (zd3 z hz n2) rfl rfl ?_)
     generalize cutQ z n2=cq2 at hT ⊢
     conv=>whnf
     refine⟨fun h10=>?_,fun h10=>?_⟩
     ·have h10:cq2.2=0:=by simpa using h10
      rw [if_pos (.inr h10)] at hT
      rw[hT]
      conv=>whnf
      repeat'(first|exact ⟨⟩|exact rfl|exact⟨rfl,rfl,.inr rfl,fun _ _=>rfl⟩|exact⟨rfl,rfl,.inl rfl,noI⟩|apply And.intro)
      all_goals first
       |exact qd4 _
       |exact qn4 _ _
       |exact .inr rfl
       |exact(List.length_append ..).symm
       |exact fun j hj=>ql8 j hj
       |exact fun _ _=>rfl
       |(intro j hj;match j,hj with|0,_=>rfl)
     ·have h10:¬ cq2.2=0:=by simpa using h10
      rw [if_neg (fun h=>h.elim (fun h=>by rw [h9] at h;cases h) h10)] at hT
      conv=>whnf
      rw[hw1]
      refine⟨⟨k,n2,l++qi1 L⟩,[0,1,2,3,4,5,6,7,12],⟨hT.symm,by show k<=8;omega,hdl,by show(l++qi1 L).length<=(8 - k) * 64;rw[List.length_append];omega⟩,Nat.lt_succ_self k,?_⟩
      conv=>whnf
      repeat'(first|exact ⟨⟩|exact rfl|exact qa0 _|exact .inr rfl|exact fun _ _=>rfl|exact noI|apply And.intro)
      all_goals first
       |exact(List.length_append ..).symm
       |exact fun j hj=>ql8 j hj
   ·have h5:¬ ((8 - k:Nat):Int)<8:=of_decide_eq_false h5
    have hk0:k=0:=by omega
    subst hk0
    rw[<-ht,show jo2 z q.ty 0 n l=(l,none) from rfl]
    conv=>whnf
    repeat'(first|exact ⟨⟩|exact rfl|exact⟨rfl,rfl,.inr rfl,fun _ _=>rfl⟩|exact⟨rfl,rfl,.inl rfl,noI⟩|apply And.intro)
    all_goals first
     |exact qd4 _
     |exact qn4 _ _
     |exact .inr rfl
     |exact(List.length_append ..).symm
     |exact fun j hj=>ql8 j hj
     |exact fun _ _=>rfl
     |(intro j hj;match j,hj with|0,_=>rfl)
def qj0(ty:Int)(L:List RR):Nat->List UInt8->List St->List St × List UInt8
 |0,n,c=>(c,n)
 |k+1,n,c=>if ty=5\/(qb2 n ty L).2=0\/(qb2 n 5 L).2≠0\/(qb2 n 5 L).1.data.length=0 then (c,n) else qj0 ty L k ((qb2 n 5 L).1.data.headD []) (c++[(qb2 n 5 L).1])
theorem zp3{nm:List UInt8}{t:Int}{l:List RR}{d:List UInt8}(h:d ∈ (qb2 nm t l).1.data):∃ r ∈ l,r.d=d:=by
 unfold qb2 at h
 split at h
 ·split at h
  ·cases h
  ·have hd:d ∈ qp4 (qf6 t) ((qe5 nm t l).map (·.d)):=List.mem_of_mem_take h
   obtain⟨i,hi⟩:=(jc1 t (qe5 nm t l)).from hd
   obtain⟨r,hr,rfl⟩:=List.mem_map.1 (List.mem_of_getElem? hi)
   unfold qe5 at hr
   exact⟨r,(List.mem_filter.1 (List.mem_filter.1 hr).1).1,rfl⟩
 ·cases h
structure ChS where
 k:Nat
 n:List UInt8
 c:List St
def ye7(l:List RR):Prop:=l.length<=100000/\∀ r ∈ l,r.nm.length<=100000/\r.d.length<=100000
set_option maxHeartbeats 16000000 in
theorem xu0(q:Q)(hq:q.nm.length<=100000)(z:Bool)(L:List RR)(hL:ye7 L):FnOk Tryz.prog 31 [.agg [.d (.str q.nm),.d (.int .u16 q.ty),.d (.int .u16 q.cl)],.d (rrsD z L)] (.tup [.d (stsD (qj0 q.ty L 8 q.nm []).1.isEmpty (qj0 q.ty L 8 q.nm []).1),.d (.str (qj0 q.ty L 8 q.nm []).2)]):=by
 refine qa3 (TT:=TT) (IN:=qd0 []) qd2 qa7 mixed 1000 Tryz.func31 rfl (qb7 Tryz.func31 (by kernel_rfl) rfl) rfl 52 (by kernel_rfl) ?_
 conv=>whnf
 refine .nilT 6 47 4 (fun _=>[]) _ _ rfl ?_
 conv=>whnf
 refine .inv ChS (fun s=>qj0 q.ty L s.k s.n s.c=qj0 q.ty L 8 q.nm []/\s.c.length+s.k=8/\s.n.length<=100000) (fun s=>[(6,.all 1),(7,.d (.str s.n))]) (fun s=>[(1,.row 47 4 s.c.length .iff (fun j=>(s.c.getD j default).enc))]) (fun s=>s.k) ⟨⟨8,q.nm,[]⟩,[0,1],⟨rfl,rfl,hq⟩,?_⟩ ?_
 ·conv=>whnf
  repeat'(first|exact ⟨⟩|exact rfl|exact qa0 _|exact .inr rfl|exact fun _ _=>rfl|exact noI|apply And.intro)
 intro s hs
 obtain⟨ht,hk,hn⟩:=hs
 conv=>whnf
 generalize s.k=k at ht hk ⊢
 generalize s.n=n at ht hn ⊢
 generalize s.c=c at ht hk ⊢
 generalize qj0 q.ty L 8 q.nm []=T at ht ⊢
 refine⟨fun h1=>?_,fun h1=>?_⟩
 ·have h1:c.length<8:=by
   have h:(c.length:Int)<8:=of_decide_eq_true h1
   omega
  obtain⟨k,rfl⟩:∃ k',k=k'+1:=⟨k - 1,by omega⟩
  have e1:qj0 q.ty L (k+1) n c=if q.ty=5\/(qb2 n q.ty L).2=0\/(qb2 n 5 L).2≠0\/(qb2 n 5 L).1.data.length=0 then (c,n) else qj0 q.ty L k ((qb2 n 5 L).1.data.headD []) (c++[(qb2 n 5 L).1]):=rfl
  conv=>whnf
  refine .one (.data _ (jq3 n q.ty z L hL.1 hn (fun r hr=>(hL.2 r hr).1)) rfl rfl ?_)
  generalize qb2 n q.ty L=g1 at e1 ⊢
  conv=>whnf
  refine⟨fun h2=>?_,fun h2=>?_⟩
  ·have h2r:=h2
   have h2:q.ty=5:=by simpa using h2
   rw [if_pos (.inl h2)] at e1
   rw[<-ht,e1]
   conv=>whnf
   refine brT h2r ?_
   conv=>whnf
   repeat'(first|exact ⟨⟩|exact rfl|exact⟨rfl,rfl,.inr rfl,fun _ _=>rfl⟩|exact⟨rfl,rfl,.inl rfl,noI⟩|apply And.intro)
   all_goals first
    |exact qd4 _
    |exact .inr rfl
    |exact fun _ _=>rfl
  have h2:¬ q.ty=5:=by simpa using h2
  conv=>whnf
  refine⟨fun h3=>?_,fun h3=>?_⟩
  ·have h3:g1.2=0:=by simpa using h3
   rw [if_pos (.inr (.inl h3))] at e1
   rw[<-ht,e1]
   conv=>whnf
   repeat'(first|exact ⟨⟩|exact rfl|exact⟨rfl,rfl,.inr rfl,fun _ _=>rfl⟩|exact⟨rfl,rfl,.inl rfl,noI⟩|apply And.intro)
   all_goals first
    |exact qd4 _
    |exact .inr rfl
    |exact fun _ _=>rfl
  have h3:¬ g1.2=0:=by simpa using h3
  conv=>whnf
  refine .one (.data _ (jq3 n 5 z L hL.1 hn (fun r hr=>(hL.2 r hr).1)) rfl rfl ?_)
  have hgd:∀ d ∈ (qb2 n 5 L).1.data,d.length<=100000:=fun d hd=>by obtain⟨r,hr,rfl⟩:=zp3 hd;exact(hL.2 r hr).2
  generalize qb2 n 5 L=g2 at e1 hgd ⊢
  obtain⟨X,e2⟩:=g2
  have hhd:X.data.headD []=X.data[0]?.getD []:=by cases X.data <;> rfl
  rw [show (X,e2).1.data.headD []=X.data[0]?.getD [] from hhd] at e1
  conv=>whnf
  refine⟨fun h4=>?_,fun h4=>?_⟩
  ·have h4:e2≠0:=by simpa using h4
   rw [if_pos (.inr (.inr (.inl h4)))] at e1
   rw[<-ht,e1]
   conv=>whnf
   repeat'(first|exact ⟨⟩|exact rfl|exact⟨rfl,rfl,.inr rfl,fun _ _=>rfl⟩|exact⟨rfl,rfl,.inl rfl,noI⟩|apply And.intro)
   all_goals first
    |exact qd4 _
    |exact .inr rfl
    |exact fun _ _=>rfl
  have h4:e2=0:=by simpa using h4
  conv=>whnf
  refine⟨fun h5=>?_,fun h5=>?_⟩
  ·have h5:X.data.length=0:=by
    have h:(X.data.length:Int)=0:=by simpa using h5
    omega
   rw [if_pos (.inr (.inr (.inr h5)))] at e1
   rw[<-ht,e1]
   conv=>whnf
   repeat'(first|exact ⟨⟩|exact rfl|exact⟨rfl,rfl,.inr rfl,fun _ _=>rfl⟩|exact⟨rfl,rfl,.inl rfl,noI⟩|apply And.intro)
   all_goals first
    |exact qd4 _
    |exact .inr rfl
    |exact fun _ _=>rfl
  have h5:¬ X.data.length=0:=by
   have h:¬ (X.data.length:Int)=0:=by simpa using h5
   omega
  rw [if_neg (fun h=>h.elim h2 (fun h=>h.elim h3 (fun h=>h.elim (fun h=>h h4) h5)))] at e1
  conv=>whnf
  refine⟨by omega,?_⟩
  conv=>whnf
  refine⟨⟨Int.le_refl 0,by show(0:Int)<(X.data.length:Int);omega⟩,?_⟩
  conv=>whnf
  have hdl:(X.data[0]?.getD []).length<=100000:=by
   cases hL:X.data with
   |nil=>rw [hL] at h5;exact absurd rfl h5
   |cons a b=>exact hgd a (by rw[show(X,e2).1.data=X.data from rfl,hL];simp)
  refine⟨⟨k,X.data[0]?.getD [],c++[X]⟩,[0,5],⟨by rw[<-ht,e1],by show(c++[X]).length+k=8;rw[List.length_append,List.length_singleton];omega,hdl⟩,Nat.lt_succ_self k,?_⟩
  conv=>whnf
  repeat'(first|exact ⟨⟩|exact rfl|exact qa0 _|exact .inr rfl|exact fun _ _=>rfl|exact noI|apply And.intro)
  all_goals first
   |(show _+1=(_++[_]).length;simp;done)
   |exact fun j hj=>xw1 _ _ j hj
 ·have h1:¬ c.length<8:=by
   have h:¬ (c.length:Int)<8:=of_decide_eq_false h1
   omega
  have hk0:k=0:=by omega
  subst hk0
  rw[<-ht,show qj0 q.ty L 0 n c=(c,n) from rfl]
  conv=>whnf
  repeat'(first|exact ⟨⟩|exact rfl|exact⟨rfl,rfl,.inr rfl,fun _ _=>rfl⟩|exact⟨rfl,rfl,.inl rfl,noI⟩|apply And.intro)
  all_goals first
   |exact qd4 _
   |exact .inr rfl
   |exact fun _ _=>rfl
section
theorem yw7{a b:List UInt8}(h:fold a=fold b)(t:Int)(l:List RR):qe5 a t l=qe5 b t l:=by
 unfold qe5
 congr 1
 congr 1
 funext r
 unfold qm0
 rw[h,jz8 h]
theorem zf6(n:List UInt8)(t:Int)(l m:List RR):qe5 n t (l++m)=qe5 n t l++qe5 n t m:=by
 unfold qe5
 rw[List.filter_append,List.filter_append]
theorem pick_mem{n:List UInt8}{t:Int}{l:List RR}{r:RR}:r ∈ qe5 n t l↔r ∈ l/\r.ty=t/\fold r.nm=fold n/\qg4 r=true:=by
 unfold qe5 qm0
 rw[List.mem_filter,List.mem_filter]
 simp only[Bool.and_eq_true,beq_iff_eq]
 constructor
 ·rintro ⟨⟨h1,h2,h3,h4⟩,h5⟩;exact⟨h1,h2,h4,h5⟩
 ·rintro ⟨h1,h2,h4,h5⟩;exact⟨⟨h1,h2,jz8 h4,h4⟩,h5⟩
theorem find_ok_iff{n:List UInt8}{t:Int}{l:List RR}:(qb2 n t l).2=0↔qa2 n/\qe5 n t l≠[]:=by
 unfold qb2
 split
 ·rename_i hn
  cases hp:qe5 n t l with
  |nil=>simp
  |cons a b=>simp[hn]
 ·rename_i hn
  simp[hn]
theorem zi0{n:List UInt8}{t:Int}{l:List RR}(hn:qa2 n)(h:qe5 n t l≠[]):qb2 n t l=(js8 n t (qe5 n t l),0):=by
 unfold qb2
 rw[if_pos hn,if_neg (by simpa using h)]
theorem za4{a b:List UInt8}(ha:qa2 a)(hb:qa2 b)(h:fold a=fold b)(t:Int)(l:List RR):(qb2 a t l).2=0↔(qb2 b t l).2=0:=by
 rw[find_ok_iff,find_ok_iff,yw7 h t l]
 exact⟨fun h=>⟨hb,h.2⟩,fun h=>⟨ha,h.2⟩⟩
theorem zp2{n:List UInt8}{t:Int}{l:List RR}(hn:qa2 n){d:List UInt8}{ttl:Int}(h:qe5 n t l≠[])(hall:∀ r ∈ qe5 n t l,r.d=d/\r.ttl=ttl):qb2 n t l=(⟨n,t,ttl,false,[d]⟩,0):=by
 rw[zi0 hn h]
 have hF:=jn0 (qf6 t) ((qe5 n t l).map (·.d))
 have hm:((qe5 n t l).getD 0 default) ∈ qe5 n t l:=by
  cases hP:qe5 n t l with
  |nil=>exact absurd hP h
  |cons a P=>simp
 have hd:qp4 (qf6 t) ((qe5 n t l).map (·.d))=[d]:=by
  have hlen:=hF.len (by simpa using h)
  have hall2:∀ x ∈ qp4 (qf6 t) ((qe5 n t l).map (·.d)),x=d:=fun x hx=>by
   obtain⟨i,hi⟩:=hF.from hx
   obtain⟨r,hr,rfl⟩:=List.mem_map.1 (List.mem_of_getElem? hi)
   exact(hall r hr).1
  have hrise:=hF.rise
  generalize qp4 (qf6 t) ((qe5 n t l).map (·.d))=D at hlen hall2 hrise
  match D,hlen,hall2,hrise with
  |[x],_,h2,_=>rw[h2 x (by simp)]
  |x :: y :: D,_,h2,h3 =>
   have h4:=(List.pairwise_cons.1 h3).1 y (by simp)
   rw [h2 x (by simp),h2 y (by simp),qv4] at h4
   cases h4
 unfold js8 qx1
 rw[hd,(hall _ hm).2,jp4 _ (fun r hr=>(hall r hr).2)]
 rfl
theorem yb8{s:St}(hok:s.ok=true){n:List UInt8}(hn:n=s.nm){l:List RR}(h:qe5 n s.ty l=s.data.map (recT s)):qb2 n s.ty l=(⟨s.nm,s.ty,s.ttl,false,s.data⟩,0):=by
 obtain⟨k1,k2,k3,k4,k5⟩:=(St.ok_iff s).1 hok
 subst hn
 have hne:s.data≠[]:=fun e=>by rw [e] at k3;simp at k3
 have hp:qe5 s.nm s.ty l≠[]:=by rw[h];simpa using hne
 rw[zi0 k1 hp,h]
 unfold js8 qx1
 have e1:(s.data.map (recT s)).map (·.d)=s.data:=by rw[List.map_map];exact List.map_id _
 rw[e1]
 have e2:qp4 (qf6 s.ty) s.data=s.data:=Firsts.uniq (jn0 _ _) (Firsts.self k5)
 rw[e2,List.take_of_length_le k3.2]
 have e3:((s.data.map (recT s)).getD 0 default).ttl=s.ttl:=by
  cases hd:s.data with
  |nil=>exact absurd hd hne
  |cons a b=>rfl
 rw[e3,jp4 _ (fun r hr=>by obtain⟨d,_,rfl⟩:=List.mem_map.1 hr;rfl)]
def inZ(z:Zo)(n:List UInt8):Bool:=qa1 n z.apex && (cutQ z n).2 != 0
theorem xt4{z:Zo}{a b:List UInt8}(ha:qa2 a)(hb:qa2 b)(h:fold a=fold b):z.cut a=none↔z.cut b=none:=by
 unfold Zo.cut
 rw[topCut_none,topCut_none]
 constructor
 ·intro k c hc;rw[<-qo6 ha hb h];exact k c hc
 ·intro k c hc;rw[qo6 ha hb h];exact k c hc
theorem zb7{z:Zo}(hz:z.ok=true)(n:List UInt8):(cutQ z n).2=0↔z.cut n≠none:=by
 rcases jn5 hz n with⟨h1,h2,_⟩|⟨c,h1,h2,_⟩
 ·rw[h1,h2];simp
 ·rw[h1,h2];simp
theorem jj1{z:Zo}(hz:z.ok=true){n:List UInt8}:inZ z n=true↔qa1 n z.apex=true/\z.cut n=none:=by
 unfold inZ
 rw[Bool.and_eq_true,bne_iff_ne,Ne,zb7 hz]
 constructor
 ·rintro ⟨h1,h2⟩;exact⟨h1,Classical.not_not.1 h2⟩
 ·rintro ⟨h1,h2⟩;exact⟨h1,fun h=>h h2⟩
theorem xr6{z:Zo}(hz:z.ok=true){a b:List UInt8}(ha:qa2 a)(hb:qa2 b)(h:fold a=fold b):inZ z a=inZ z b:=by
 rw[Bool.eq_iff_iff,jj1 hz,jj1 hz,qo6 ha hb h,xt4 ha hb h]
inductive Fin3 where
 |ans|deny|off
deriving DecidableEq
def qb4(z:Zo)(ty:Int):Nat->List UInt8->List St × List UInt8 × Fin3
 |0,n=>([],n,.off)
 |k+1,n=>if (qb2 n ty z.rrs).2=0 then ([],n,.ans)
  else if (qb2 n 5 z.rrs).2≠0 then ([],n,.deny)
  else if inZ z ((qb2 n 5 z.rrs).1.data.headD []) then ((qb2 n 5 z.rrs).1 :: (qb4 z ty k ((qb2 n 5 z.rrs).1.data.headD [])).1,(qb4 z ty k ((qb2 n 5 z.rrs).1.data.headD [])).2)
  else ([(qb2 n 5 z.rrs).1],(qb2 n 5 z.rrs).1.data.headD [],.off)
theorem yb9{n:List UInt8}{t:Int}{l:List RR}(h:(qb2 n t l).2=0)(ht:t≠41):(qb2 n t l).1.data.length≠0:=by
 have:=((St.ok_iff _).1 (qh6 h ht).1).2.2.1.1
 omega
def qo9(z:Zo)(ty:Int)(x:List St × List UInt8 × Fin3):List RR:=x.1.flatMap qi1++(if x.2.2 = .ans then qi1 (qb2 x.2.1 ty z.rrs).1 else [])
theorem jo1{z:Zo}(hz:z.ok=true)(ty:Int):∀ (k:Nat) (n:List UInt8) (l:List RR),jo2 z ty k n l=(l++qo9 z ty (qb4 z ty k n),if (qb4 z ty k n).2.2 = .deny then some (qb4 z ty k n).2.1 else none)
 |0,n,l=>by
  show(l,none)=(l++qo9 z ty ([],n,Fin3.off),none)
  unfold qo9
  simp
 |k+1,n,l=>by
  have hg:∀ t,getZ z n t=qb2 n t z.rrs:=fun t=>by unfold getZ;rw[if_pos hz]
  unfold jo2 qb4
  rw[hg,hg]
  by_cases h1:(qb2 n ty z.rrs).2=0
  ·rw[if_pos h1,if_pos h1]
   unfold qo9
   simp
  ·rw[if_neg h1,if_neg h1]
   by_cases h2:(qb2 n 5 z.rrs).2≠0
   ·rw[if_pos (.inl h2),if_pos h2]
    unfold qo9
    simp
   ·have h2':(qb2 n 5 z.rrs).2=0:=Classical.not_not.1 h2
    rw[if_neg (fun h=>h.elim h2 (yb9 h2' (by decide))),if_neg h2]
    cases h3:inZ z ((qb2 n 5 z.rrs).1.data.headD []) with
    |false =>
     have:qa1 ((qb2 n 5 z.rrs).1.data.headD []) z.apex=false\/(cutQ z ((qb2 n 5 z.rrs).1.data.headD [])).2=0:=by
      unfold inZ at h3
      rw [Bool.and_eq_false_iff,bne_eq_false_iff_eq] at h3
      exact h3
     rw[if_pos this,if_neg (by decide)]
     unfold qo9
     simp
    |true =>
     have:¬ (qa1 ((qb2 n 5 z.rrs).1.data.headD []) z.apex=false\/(cutQ z ((qb2 n 5 z.rrs).1.data.headD [])).2=0):=by
      unfold inZ at h3
      rw [Bool.and_eq_true,bne_iff_ne] at h3
      rintro (h|h)
      ·rw [h3.1] at h;cases h
      ·exact h3.2 h
     rw[if_neg this,if_pos rfl,jo1 hz ty k]
     unfold qo9
     simp[List.append_assoc]
theorem zc8{z:Zo}(hz:z.ok=true){n:List UInt8}(h:(qb2 n 5 z.rrs).2=0):∃ r ∈ z.rrs,qe5 n 5 z.rrs=[r]/\qb2 n 5 z.rrs=(⟨n,5,r.ttl,false,[r.d]⟩,0)/\r.ty=5/\fold r.nm=fold n:=by
 obtain⟨hn,hp⟩:=find_ok_iff.1 h
 obtain⟨r,hr⟩:=List.exists_mem_of_ne_nil _ hp
 obtain⟨m1,m2,m3,m4⟩:=pick_mem.1 hr
 have hs:=Zo.ok_sound hz
 unfold qr8 at hs
 simp only [Bool.and_eq_true,List.all_eq_true] at hs
 have hf:=hs.2.2 r m1
 unfold qg2 at hf
 have hal:0<cntZ qr0 z.rrs (fold r.nm):=zj3 m1 (by simp[qr0,m2]) rfl
 have hone:¬ 1<cntZ anyR z.rrs (fold r.nm):=fun h=>by rw [if_pos ⟨hal,h⟩] at hf;cases hf
 have hlen:(qe5 n 5 z.rrs).length<=1:=by
  have h1:(qe5 n 5 z.rrs).length<=cntZ anyR z.rrs (fold r.nm):=by
   unfold qe5 cntZ
   refine Nat.le_trans (List.length_filter_le _ _) ?_
   have e:z.rrs.filter (qm0 n 5)=(z.rrs.filter fun x=>fold x.nm == fold r.nm && anyR x).filter (qm0 n 5):=by
    rw[List.filter_filter]
    apply List.filter_congr
    intro x _
    unfold qm0 anyR
    rw[m3]
    cases (x.ty == 5) <;> cases (x.nm.length == n.length) <;> cases (fold x.nm == fold n) <;> rfl
   rw[e]
   exact List.length_filter_le _ _
  omega
 have he:qe5 n 5 z.rrs=[r]:=by
  match hP:qe5 n 5 z.rrs,hlen,hr with
  |[x],_,hm=>rw[List.mem_singleton.1 hm]
 refine⟨r,m1,he,zp2 hn hp (fun x hx=>?_),m2,m3⟩
 rw [he] at hx
 rw[List.mem_singleton.1 hx]
 exact⟨rfl,rfl⟩
def SOk(z:Zo)(ty:Int)(S:List RR):Prop:=∀ r ∈ S,(qa2 r.nm/\inZ z r.nm=true)/\((r.ty=5/\(qb2 r.nm 5 z.rrs).2=0/\∀ x ∈ qe5 r.nm 5 z.rrs,x.d=r.d/\x.ttl=r.ttl)\/(r.ty=ty/\(qb2 r.nm ty z.rrs).2=0))
section
variable{z:Zo}{ty:Int}{S:List RR}
theorem SOk.none_ty(h:SOk z ty S)(h5:ty≠5){m:List UInt8}(hf:(qb2 m ty z.rrs).2≠0):(qb2 m ty S).2≠0:=by
 intro e
 obtain⟨hm,hp⟩:=find_ok_iff.1 e
 obtain⟨r,hr⟩:=List.exists_mem_of_ne_nil _ hp
 obtain⟨m1,m2,m3,_⟩:=pick_mem.1 hr
 obtain⟨⟨k1,_⟩,k2⟩:=h r m1
 rcases k2 with⟨k2,_⟩|⟨_,k2⟩
 ·exact h5 (m2.symm.trans k2)
 ·exact hf ((za4 k1 hm m3 ty z.rrs).1 k2)
theorem SOk.none_5(h:SOk z ty S)(h5:ty≠5){m:List UInt8}(hf:(qb2 m 5 z.rrs).2≠0):(qb2 m 5 S).2≠0:=by
 intro e
 obtain⟨hm,hp⟩:=find_ok_iff.1 e
 obtain⟨r,hr⟩:=List.exists_mem_of_ne_nil _ hp
 obtain⟨m1,m2,m3,_⟩:=pick_mem.1 hr
 obtain⟨⟨k1,_⟩,k2⟩:=h r m1
 rcases k2 with⟨_,k2,_⟩|⟨k2,_⟩
 ·exact hf ((za4 k1 hm m3 5 z.rrs).1 k2)
 ·exact h5 (k2.symm.trans m2)
theorem SOk.off(h:SOk z ty S)(hz:z.ok=true){m:List UInt8}(ho:inZ z m=false)(t:Int):(qb2 m t S).2≠0:=by
 intro e
 obtain⟨hm,hp⟩:=find_ok_iff.1 e
 obtain⟨r,hr⟩:=List.exists_mem_of_ne_nil _ hp
 obtain⟨m1,_,m3,_⟩:=pick_mem.1 hr
 obtain⟨⟨k1,k2⟩,_⟩:=h r m1
 rw [xr6 hz k1 hm m3,ho] at k2
 cases k2
theorem SOk.link(h:SOk z ty S)(hz:z.ok=true)(h5:ty≠5){n:List UInt8}(hf:(qb2 n 5 z.rrs).2=0)(hp:qe5 n 5 S≠[]):qb2 n 5 S=qb2 n 5 z.rrs:=by
 obtain⟨r0,_,he,hfe,_,_⟩:=zc8 hz hf
 rw[hfe]
 refine zp2 (find_ok_iff.1 hf).1 hp (fun x hx=>?_)
 obtain⟨m1,m2,m3,_⟩:=pick_mem.1 hx
 rcases(h x m1).2 with⟨_,_,k3⟩|⟨k2,_⟩
 ·have:=k3 r0 (by rw[yw7 m3,he];simp)
  exact⟨this.1.symm,this.2.symm⟩
 ·exact absurd (k2.symm.trans m2) h5
theorem qm8{s:St}(hok:s.ok=true):qe5 s.nm s.ty (qi1 s)=s.data.map (recT s)/\qi1 s=s.data.map (recT s)/\s.data≠[]:=by
 obtain⟨k1,k2,k3,k4,k5⟩:=(St.ok_iff s).1 hok
 have e:qi1 s=s.data.map (recT s):=by unfold qi1;rw[if_pos hok]
 refine ⟨?_,e,fun h=>by rw [h] at k3;simp at k3⟩
 rw[e]
 unfold qe5
 rw[List.filter_filter,List.filter_eq_self]
 intro r hr
 obtain⟨d,hd,rfl⟩:=List.mem_map.1 hr
 unfold qm0 qg4 RR.check recT
 simp[k1,k4 d hd,k2]
theorem ym0(hz:z.ok=true){n:List UInt8}{t:Int}(h:(qb2 n t z.rrs).2=0):t≠41:=by
 obtain⟨r,hr,e⟩:=kb6 h
 have:=Zo.ok_take hz hr
 unfold qx7 at this
 simp only [Bool.and_eq_true,bne_iff_ne] at this
 rw[<-e]
 exact this.2.1
theorem xo1{k:Nat}{n:List UInt8}:(qo9 z ty (qb4 z ty k n))=(qb4 z ty k n).1.flatMap qi1++(if (qb4 z ty k n).2.2 = .ans then qi1 (qb2 (qb4 z ty k n).2.1 ty z.rrs).1 else []):=rfl
theorem xp3{n:List UInt8}{t:Int}{l m:List RR}(h:∀ r ∈ l,r ∈ m)(hp:qe5 n t l≠[]):qe5 n t m≠[]:=by
 obtain⟨r,hr⟩:=List.exists_mem_of_ne_nil _ hp
 obtain⟨m1,m2⟩:=pick_mem.1 hr
 intro e
 have:r ∈ qe5 n t m:=pick_mem.2 ⟨h r m1,m2⟩
 rw [e] at this
 cases this
theorem za3(hz:z.ok=true){n:List UInt8}{t:Int}(h:(qb2 n t z.rrs).2=0){S:List RR}(hS:∀ r ∈ qi1 (qb2 n t z.rrs).1,r ∈ S):qe5 n t S≠[]:=by
 obtain⟨k1,k2,k3,k4⟩:=qh6 h (ym0 hz h)
 obtain⟨p1,p2,p3⟩:=qm8 k1
 rw [k2,k3] at p1
 refine xp3 hS ?_
 rw[p1]
 simpa using p3
theorem yd1(hz:z.ok=true)(h5:ty≠5)(hS:SOk z ty S):∀ (k:Nat) (n:List UInt8) (c:List St),(∀ r ∈ qo9 z ty (qb4 z ty k n),r ∈ S)->qj0 ty S k n c=(c++(qb4 z ty k n).1,(qb4 z ty k n).2.1)
 |0,n,c,_=>by
  show(c,n)=(c++[],n)
  rw[List.append_nil]
 |k+1,n,c,hs=>by
  have e1:qj0 ty S (k+1) n c=if ty=5\/(qb2 n ty S).2=0\/(qb2 n 5 S).2≠0\/(qb2 n 5 S).1.data.length=0 then (c,n) else qj0 ty S k ((qb2 n 5 S).1.data.headD []) (c++[(qb2 n 5 S).1]):=rfl
  rw[e1]
  unfold qb4 at hs ⊢
  by_cases h1:(qb2 n ty z.rrs).2=0
  ·rw [if_pos h1] at hs ⊢
   unfold qo9 at hs
   have hp:=za3 hz h1 (S:=S) (fun r hr=>hs r (by simpa using hr))
   rw[if_pos (.inr (.inl (find_ok_iff.2 ⟨(find_ok_iff.1 h1).1,hp⟩)))]
   simp
  ·rw [if_neg h1] at hs ⊢
   have h1':=hS.none_ty h5 h1
   by_cases h2:(qb2 n 5 z.rrs).2≠0
   ·rw[if_pos h2]
    rw[if_pos (.inr (.inr (.inl (hS.none_5 h5 h2))))]
    simp
   ·have h2':(qb2 n 5 z.rrs).2=0:=Classical.not_not.1 h2
    rw [if_neg h2] at hs ⊢
    have hp:qe5 n 5 S≠[]:=by
     refine za3 hz h2' (fun r hr=>hs r ?_)
     unfold qo9
     split <;> simp[hr]
    have hl:=hS.link hz h5 h2' hp
    rw[hl,if_neg (fun h=>h.elim h5 (fun h=>h.elim h1' (fun h=>h.elim h2 (yb9 h2' (by decide)))))]
    cases h3:inZ z ((qb2 n 5 z.rrs).1.data.headD []) with
    |true =>
     rw [h3,if_pos rfl] at hs
     rw[if_pos rfl,yd1 hz h5 hS k _ _ (fun r hr=>hs r (by
      unfold qo9 at hr ⊢
      simp only[List.flatMap_cons,List.append_assoc]
      exact List.mem_append_right _ hr))]
     simp
    |false =>
     rw[if_neg (by decide)]
     cases k with
     |zero=>rfl
     |succ k =>
      have e2:∀ m (c:List St),qj0 ty S (k+1) m c=if ty=5\/(qb2 m ty S).2=0\/(qb2 m 5 S).2≠0\/(qb2 m 5 S).1.data.length=0 then (c,m) else qj0 ty S k ((qb2 m 5 S).1.data.headD []) (c++[(qb2 m 5 S).1]):=fun _ _=>rfl
      rw[e2,if_pos (.inr (.inr (.inl (hS.off hz h3 5))))]
theorem xb4(hz:z.ok=true)(h5:ty≠5):∀ (k:Nat) (n:List UInt8),inZ z n=true->SOk z ty (qo9 z ty (qb4 z ty k n))
 |0,n,_=>by
  unfold qb4 qo9
  intro r hr
  simp at hr
 |k+1,n,hn=>by
  have hnn:qa2 n:=(qb9 ((jj1 hz).1 hn).1).1
  unfold qb4
  by_cases h1:(qb2 n ty z.rrs).2=0
  ·rw[if_pos h1]
   unfold qo9
   intro r hr
   simp only [List.flatMap_nil,List.nil_append,if_true] at hr
   obtain⟨k1,k2,k3,_⟩:=qh6 h1 (ym0 hz h1)
   rw [(qm8 k1).2.1] at hr
   obtain⟨d,_,rfl⟩:=List.mem_map.1 hr
   have e:(recT (qb2 n ty z.rrs).1 d).nm=n:=k2
   rw[e]
   exact⟨⟨hnn,hn⟩,.inr ⟨k3,h1⟩⟩
  ·rw[if_neg h1]
   by_cases h2:(qb2 n 5 z.rrs).2≠0
   ·rw[if_pos h2]
    unfold qo9
    intro r hr
    simp at hr
   ·have h2':(qb2 n 5 z.rrs).2=0:=Classical.not_not.1 h2
    rw[if_neg h2]
    have hlink:∀ r ∈ qi1 (qb2 n 5 z.rrs).1,(qa2 r.nm/\inZ z r.nm=true)/\((r.ty=5/\(qb2 r.nm 5 z.rrs).2=0/\∀ x ∈ qe5 r.nm 5 z.rrs,x.d=r.d/\x.ttl=r.ttl)\/(r.ty=ty/\(qb2 r.nm ty z.rrs).2=0)):=by
     intro r hr
     obtain⟨r0,_,he,hfe,_,_⟩:=zc8 hz h2'
     obtain⟨k1,k2,k3,_⟩:=qh6 h2' (by decide)
     rw [(qm8 k1).2.1] at hr
     obtain⟨d,hd,rfl⟩:=List.mem_map.1 hr
     have e:(recT (qb2 n 5 z.rrs).1 d).nm=n:=k2
     rw[e]
     refine⟨⟨hnn,hn⟩,.inl ⟨k3,h2',fun x hx=>?_⟩⟩
     rw [he] at hx
     rw[List.mem_singleton.1 hx]
     rw [hfe] at hd ⊢
     exact⟨(List.mem_singleton.1 hd).symm,rfl⟩
    cases h3:inZ z ((qb2 n 5 z.rrs).1.data.headD []) with
    |true =>
     rw[if_pos rfl]
     intro r hr
     unfold qo9 at hr
     simp only [List.flatMap_cons,List.append_assoc] at hr
     rcases List.mem_append.1 hr with hr|hr
     ·exact hlink r hr
     ·exact xb4 hz h5 k _ h3 r hr
    |false =>
     rw[if_neg (by decide)]
     intro r hr
     unfold qo9 at hr
     simp only [List.flatMap_cons,List.flatMap_nil,List.append_nil] at hr
     exact hlink r (by simpa using hr)
theorem yd8(hz:z.ok=true)(h5:ty≠5):∀ (k:Nat) (n:List UInt8),(qb4 z ty k n).2.2 = .ans->(qb2 (qb4 z ty k n).2.1 ty z.rrs).2=0/\∀ r ∈ (qb4 z ty k n).1.flatMap qi1,r.ty=5
 |0,n,h=>by cases h
 |k+1,n,h=>by
  unfold qb4 at h ⊢
  by_cases h1:(qb2 n ty z.rrs).2=0
  ·rw[if_pos h1]
   exact ⟨h1,fun r hr=>by simp at hr⟩
  ·rw [if_neg h1] at h ⊢
   by_cases h2:(qb2 n 5 z.rrs).2≠0
   ·rw [if_pos h2] at h
    cases h
   ·have h2':(qb2 n 5 z.rrs).2=0:=Classical.not_not.1 h2
    rw [if_neg h2] at h ⊢
    split at h
    ·rename_i h3
     rw[if_pos h3]
     obtain⟨q1,q2⟩:=yd8 hz h5 k _ h
     refine⟨q1,fun r hr=>?_⟩
     simp only [List.flatMap_cons] at hr
     rcases List.mem_append.1 hr with hr|hr
     ·obtain⟨k1,k2,k3,_⟩:=qh6 h2' (by decide)
      rw [(qm8 k1).2.1] at hr
      obtain⟨d,_,rfl⟩:=List.mem_map.1 hr
      exact k3
     ·exact q2 r hr
    ·cases h
theorem xx2{n:List UInt8}{t:Int}{l:List RR}(h:(qb2 n t l).2=0):(qb2 n t l).1.z=false:=by
 obtain⟨h1,h2⟩:=find_ok_iff.1 h
 rw[zi0 h1 h2]
 rfl
theorem xu9(hz:z.ok=true)(h5:ty≠5){k:Nat}{n:List UInt8}(h:(qb4 z ty k n).2.2 = .ans):qb2 (qb4 z ty k n).2.1 ty (qo9 z ty (qb4 z ty k n))=((qb2 (qb4 z ty k n).2.1 ty z.rrs).1,0):=by
 obtain⟨h1,h2⟩:=yd8 hz h5 k n h
 obtain⟨k1,k2,k3,_⟩:=qh6 h1 (ym0 hz h1)
 have hzf:=xx2 h1
 rw[xo1,if_pos h]
 generalize (qb4 z ty k n).2.1=e at h1 k1 k2 k3 hzf ⊢
 generalize (qb4 z ty k n).1.flatMap qi1=L at h2 ⊢
 generalize (qb2 e ty z.rrs).1=A at k1 k2 k3 hzf ⊢
 have hp:qe5 e ty (L++qi1 A)=A.data.map (recT A):=by
  rw[zf6]
  have:qe5 e ty L=[]:=by
   rw[List.eq_nil_iff_forall_not_mem]
   intro r hr
   obtain⟨m1,m2,_⟩:=pick_mem.1 hr
   exact h5 (m2.symm.trans (h2 r m1))
  rw[this,List.nil_append,<-k2,<-k3]
  exact(qm8 k1).1
 rw [<-k3] at hp ⊢
 rw[yb8 k1 k2.symm hp,<-hzf]
end
end
structure Rdr where
 s:List UInt8
 p:Nat
 bad:Bool
def Rdr.kb(r:Rdr):KB:=.cells 216 [.d (.str r.s),.d (.int .i64 r.p),.d (.bool r.bad)]
structure Rdr.Ok(r:Rdr):Prop where
 len:r.s.length<4611686018427387904
 p:r.p<=r.s.length
def Rdr.raw(r:Rdr)(n:Int):Rdr × List UInt8:=if r.bad then (r,[]) else if n<0\/n > r.s.length - r.p then ({ r with bad:=true },[]) else ({ r with p:=r.p+n.toNat },(r.s.drop r.p).take n.toNat)
theorem Rdr.Ok.raw{r:Rdr}(h:r.Ok)(n:Int):(r.raw n).1.Ok:=by
 unfold Rdr.raw
 split
 ·exact h
 ·split
  ·exact⟨h.len,h.p⟩
  ·refine⟨h.len,?_⟩
   show r.p+n.toNat<=r.s.length
   omega
set_option maxHeartbeats 4000000 in
theorem xz4(s:List UInt8):COk Tryz.prog 126 [.d (.str s)] [] (fun r k=>r = .ptr 0 0/\k=[Rdr.kb ⟨s,0,false⟩]):=by
 refine qc7 (TT:=TT) (IN:=qd0 []) qd2 qa7 mixed 1000 Tryz.func126 rfl (qb7 Tryz.func126 (by kernel_rfl) rfl) 5 (by kernel_rfl) ?_
 conv=>whnf
 refine⟨[0],.ptr 0 0,_,rfl,rfl,rfl,?_,rfl,rfl⟩
 repeat'(first|exact ⟨⟩|exact rfl|exact fun _=>Iff.rfl|exact fun _ _=>rfl|exact renM_ent rfl _|apply And.intro)
set_option maxHeartbeats 4000000 in
theorem zm7(r:Rdr)(hr:r.Ok)(n:Int)(hn : -9223372036854775808<=n/\n<=9223372036854775807):COk Tryz.prog 148 [.ptr 0 0,.d (.int .i64 n)] [r.kb] (fun s k=>∃ r1,k=[Rdr.kb r1]/\(s = .d (.str (r.raw n).2)/\r1=(r.raw n).1)):=by
 refine qc7 (TT:=TT) (IN:=qd0 [(149,Tryz.f149,1),(147,Tryz.f147,1)]) qd2 (qb8 (qb8 qa7 Tryz.func147 (by kernel_rfl) (by kernel_rfl)) Tryz.func149 (by kernel_rfl) (by kernel_rfl)) mixed 1000 Tryz.func148 rfl (qb7 Tryz.func148 (by kernel_rfl) rfl) 46 (by kernel_rfl) ?_
 have hlen:=hr.len
 have hp:=hr.p
 have hwr:IntKind.i64.wrap ((r.s.length:Int) - r.p)=(r.s.length:Int) - r.p:=qa4 _ (by omega)
 conv=>whnf
 refine⟨fun h1=>?_,fun h1=>?_⟩
 ·have e:r.raw n=(r,[]):=by unfold Rdr.raw;rw[if_pos h1]
  rw[e]
  conv=>whnf
  refine⟨[0],.d (.str []),[r.kb],rfl,rfl,rfl,?_,_,rfl,rfl,rfl⟩
  repeat'(first|exact ⟨⟩|exact rfl|exact fun _=>Iff.rfl|exact fun _ _=>rfl|exact renM_ent rfl _|apply And.intro)
 conv=>whnf
 refine⟨fun h2=>?_,fun h2=>?_⟩
 ·have h2':n<0:=of_decide_eq_true h2
  have e:r.raw n=({ r with bad:=true },[]):=by unfold Rdr.raw;rw[if_neg (by simp[h1]),if_pos (.inl h2')]
  rw[e]
  conv=>whnf
  repeat(first|(refine brT rfl ?_;conv=>whnf)|(refine brF rfl ?_;conv=>whnf)|(refine .once ?_;conv=>whnf)|(refine⟨by decide,?_⟩;conv=>whnf)|(refine And.intro (Nat.le_of_ble_eq_true rfl) ?_;conv=>whnf))
  refine⟨[0],.d (.str []),[Rdr.kb { r with bad:=true }],rfl,rfl,rfl,?_,_,rfl,rfl,rfl⟩
  repeat'(first|exact ⟨⟩|exact rfl|exact fun _=>Iff.rfl|exact fun _ _=>rfl|exact renM_ent rfl _|apply And.intro)
 have h2':¬ n<0:=of_decide_eq_false h2
 conv=>whnf
 rw[hwr]
 refine⟨fun h3=>?_,fun h3=>?_⟩
 ·have h3':n > (r.s.length:Int) - r.p:=of_decide_eq_true h3
  have e:r.raw n=({ r with bad:=true },[]):=by unfold Rdr.raw;rw[if_neg (by simp[h1]),if_pos (.inr h3')]
  rw[e]
  conv=>whnf
  repeat(first|(refine brT rfl ?_;conv=>whnf)|(refine brF rfl ?_;conv=>whnf)|(refine .once ?_;conv=>whnf)|(refine⟨by decide,?_⟩;conv=>whnf)|(refine And.intro (Nat.le_of_ble_eq_true rfl) ?_;conv=>whnf))
  refine⟨[0],.d (.str []),[Rdr.kb { r with bad:=true }],rfl,rfl,rfl,?_,_,rfl,rfl,rfl⟩
  repeat'(first|exact ⟨⟩|exact rfl|exact fun _=>Iff.rfl|exact fun _ _=>rfl|exact renM_ent rfl _|apply And.intro)
 ·have h3':¬ n > (r.s.length:Int) - r.p:=of_decide_eq_false h3
  have e:r.raw n=({ r with p:=r.p+n.toNat },(r.s.drop r.p).take n.toNat):=by unfold Rdr.raw;rw[if_neg (by simp[h1]),if_neg (by omega)]
  have e1:IntKind.i64.wrap ((r.p:Int)+n)=((r.p+n.toNat:Nat):Int):=by rw[qa4 _ (by omega)];omega
  have e2:IntKind.i64.wrap (((r.p+n.toNat:Nat):Int) - n)=(r.p:Int):=by rw[qa4 _ (by omega)];omega
  have e3:sub r.s (r.p:Int) ((r.p+n.toNat:Nat):Int)=(r.s.drop r.p).take n.toNat:=by
   unfold sub
   rw[Int.toNat_natCast,Int.toNat_natCast,show r.p+n.toNat - r.p=n.toNat by omega]
  rw[e]
  conv=>whnf
  rw[e1,e2]
  refine⟨by omega,?_⟩
  rw[e3]
  conv=>whnf
  refine⟨[0],.d (.str ((r.s.drop r.p).take n.toNat)),[Rdr.kb { r with p:=r.p+n.toNat }],rfl,rfl,rfl,?_,_,rfl,rfl,rfl⟩
  repeat'(first|exact ⟨⟩|exact rfl|exact fun _=>Iff.rfl|exact fun _ _=>rfl|exact renM_ent rfl _|apply And.intro)
theorem yn5{P:Program}{f:FuncId}{al al':List SV}{a:Rdr}{Q:SV->Rdr->Prop}(h:COk P f al [a.kb] (fun s k=>∃ a1,k=[Rdr.kb a1]/\Q s a1))(pre rest:List KB)(σ:Nat->Nat)(hσ:σ=sig (List.range' pre.length 1) (pre.length+(1+rest.length)))(ha:mapL σ al=al') :
 COk P f al' (pre++(a.kb :: rest)) (fun s k=>∃ s0 a1,Q s0 a1/\s=mapV σ s0/\k=pre++(Rdr.kb a1 :: rest)) :=
 COk.fam (fun a _=>[Rdr.kb a]) 1 (fun _ _=>rfl) (fun _ _ _ _=>rfl) h pre rest σ hσ ha
theorem Rdr.raw_len{r:Rdr}(n:Nat)(h:(r.raw n).1.bad=false):(r.raw n).2.length=n:=by
 unfold Rdr.raw at h ⊢
 split
 ·rename_i hb;rw [if_pos hb] at h;rw [hb] at h;cases h
 ·rename_i hb
  rw [if_neg hb] at h
  split
  ·rename_i hc;rw [if_pos hc] at h;cases h
  ·simp
   omega
theorem acc1(x y:Nat)(hx:x<72057594037927936)(hy:y<256):bits .or .u64 (IntKind.u64.wrap ((x:Int) * 2 ^ 8)) (IntKind.u64.wrap (y:Int))=((x * 256+y:Nat):Int):=by
 have e1:IntKind.u64.wrap ((x:Int) * 2 ^ 8)=((x * 256:Nat):Int):=by rw[IntKind.wrap_u64];omega
 have e2:IntKind.u64.wrap (y:Int)=(y:Int):=by rw[IntKind.wrap_u64];omega
 rw[e1,e2,u64_or_nat _ _ (by omega) (by omega)]
 have:=Nat.two_pow_add_eq_or_of_lt (i:=8) (show y<2 ^ 8 by omega) x
 rw[show x * 256=2 ^ 8 * x by omega,<-this]
theorem acc8(y0 y1 y2 y3 y4 y5 y6 y7:Nat)(h0:y0<256)(h1:y1<256)(h2:y2<256)(h3:y3<256)(h4:y4<256)(h5:y5<256)(h6:y6<256)(h7:y7<256) :
 bits .or .u64 (IntKind.u64.wrap (bits .or .u64 (IntKind.u64.wrap (bits .or .u64 (IntKind.u64.wrap (bits .or .u64 (IntKind.u64.wrap (bits .or .u64 (IntKind.u64.wrap (bits .or .u64 (IntKind.u64.wrap (bits .or .u64 (IntKind.u64.wrap (bits .or .u64 (IntKind.u64.wrap (0 * 2 ^ 8)) (IntKind.u64.wrap (y0:Int)) * 2 ^ 8)) (IntKind.u64.wrap (y1:Int)) * 2 ^ 8)) (IntKind.u64.wrap (y2:Int)) * 2 ^ 8)) (IntKind.u64.wrap (y3:Int)) * 2 ^ 8)) (IntKind.u64.wrap (y4:Int)) * 2 ^ 8)) (IntKind.u64.wrap (y5:Int)) * 2 ^ 8)) (IntKind.u64.wrap (y6:Int)) * 2 ^ 8)) (IntKind.u64.wrap (y7:Int)) =
 ((((((((((0 * 256+y0) * 256+y1) * 256+y2) * 256+y3) * 256+y4) * 256+y5) * 256+y6) * 256+y7:Nat)):Int):=by
 have e0:=acc1 0 y0 (by omega) h0
 rw [show ((0:Nat):Int)=0 from rfl] at e0
 rw[e0,acc1 _ y1 (by omega) h1,acc1 _ y2 (by omega) h2,acc1 _ y3 (by omega) h3,acc1 _ y4 (by omega) h4,acc1 _ y5 (by omega) h5,acc1 _ y6 (by omega) h6,acc1 _ y7 (by omega) h7]
theorem qh8{α:Type}{l:List α}{n:Nat}(h:l.length=n+1):∃ a t,l=a :: t/\t.length=n:=by
 cases l with
 |nil=>simp at h
 |cons a t=>exact⟨a,t,rfl,by simpa using h⟩
def yo8(s:List UInt8):Nat:=s.foldl (fun n b=>n * 256+b.toNat) 0
def kg7(n:Nat):Prop:=n=1\/n=2\/n=4\/n=8
def Rdr.num(r:Rdr)(width:Nat):Rdr × Nat:=((r.raw width).1,if (r.raw width).1.bad then 0 else yo8 (r.raw width).2)
set_option maxHeartbeats 4000000 in
theorem xz0(r:Rdr)(hr:r.Ok)(width:Nat)(hw:kg7 width):COk Tryz.prog 127 [.ptr 0 0,.d (.int .i64 width)] [r.kb] (fun s k=>∃ r1,k=[Rdr.kb r1]/\(s = .d (.int .u64 (r.num width).2)/\r1=(r.num width).1)):=by
 refine qc7 (TT:=TT) (IN:=qd0 [(146,Tryz.f146,1),(149,Tryz.f149,1)]) qd2 (qb8 (qb8 qa7 Tryz.func149 (by kernel_rfl) (by kernel_rfl)) Tryz.func146 (by kernel_rfl) (by kernel_rfl)) mixed 1000 Tryz.func127 rfl (qb7 Tryz.func127 (by kernel_rfl) rfl) 34 (by kernel_rfl) ?_
 rcases hw with rfl|rfl|rfl|rfl
 ·conv=>whnf
  repeat(first|(refine brT rfl ?_;conv=>whnf)|(refine brF rfl ?_;conv=>whnf)|(refine .once ?_;conv=>whnf)|(refine⟨by decide,?_⟩;conv=>whnf)|(refine And.intro (Nat.le_of_ble_eq_true rfl) ?_;conv=>whnf))
  refine .rel _ (yn5 (zm7 r hr 1 (by omega)) [] [] _ rfl rfl) (fun x ks' hR=>?_)
  obtain⟨_,r1,⟨rfl,rfl⟩,rfl,rfl⟩:=hR
  conv=>whnf
  refine⟨fun h1=>?_,fun h1=>?_⟩
  ·have e:r.num 1=((r.raw 1).1,0):=by unfold Rdr.num;rw[if_pos (show(r.raw ((1:Nat):Int)).1.bad=true from h1)];rfl
   rw[e]
   conv=>whnf
   refine⟨[0],.d (.int .u64 0),[(r.raw 1).1.kb],rfl,rfl,rfl,?_,_,rfl,rfl,rfl⟩
   repeat'(first|exact ⟨⟩|exact rfl|exact fun _=>Iff.rfl|exact fun _ _=>rfl|exact renM_ent rfl _|apply And.intro)
  ·have hrl:(r.raw ((1:Nat):Int)).2.length=1:=Rdr.raw_len 1 h1
   have e:r.num 1=((r.raw 1).1,yo8 (r.raw ((1:Nat):Int)).2):=by unfold Rdr.num;rw[if_neg (by rw[show(r.raw ((1:Nat):Int)).1.bad=false from h1];simp)];rfl
   rw[e]
   obtain⟨b0,t0,e0,l0⟩:=qh8 hrl
   have e9:=List.length_eq_zero_iff.1 l0
   subst e9
   rw[e0]
   rw[show(r.raw 1).2=[b0] from e0]
   conv=>whnf
   repeat(first|(refine brT rfl ?_;conv=>whnf)|(refine brF rfl ?_;conv=>whnf)|(refine .once ?_;conv=>whnf)|(refine⟨by decide,?_⟩;conv=>whnf)|(refine And.intro (Nat.le_of_ble_eq_true rfl) ?_;conv=>whnf))
   refine⟨[0],.d (.int .u64 (yo8 [b0])),[(r.raw 1).1.kb],rfl,rfl,?_,?_,_,rfl,rfl,rfl⟩
   ·exact congrArg (fun z=>SV.d (DV.int .u64 z)) (acc8 (0) (0) (0) (0) (0) (0) (0) (b0.toNat) (by omega) (by omega) (by omega) (by omega) (by omega) (by omega) (by omega) (UInt8.toNat_lt _))
   ·repeat'(first|exact ⟨⟩|exact rfl|exact fun _=>Iff.rfl|exact fun _ _=>rfl|exact renM_ent rfl _|apply And.intro)
 ·conv=>whnf
  repeat(first|(refine brT rfl ?_;conv=>whnf)|(refine brF rfl ?_;conv=>whnf)|(refine .once ?_;conv=>whnf)|(refine⟨by decide,?_⟩;conv=>whnf)|(refine And.intro (Nat.le_of_ble_eq_true rfl) ?_;conv=>whnf))
  refine .rel _ (yn5 (zm7 r hr 2 (by omega)) [] [] _ rfl rfl) (fun x ks' hR=>?_)
  obtain⟨_,r1,⟨rfl,rfl⟩,rfl,rfl⟩:=hR
  conv=>whnf
  refine⟨fun h1=>?_,fun h1=>?_⟩
  ·have e:r.num 2=((r.raw 2).1,0):=by unfold Rdr.num;rw[if_pos (show(r.raw ((2:Nat):Int)).1.bad=true from h1)];rfl
   rw[e]
   conv=>whnf
   refine⟨[0],.d (.int .u64 0),[(r.raw 2).1.kb],rfl,rfl,rfl,?_,_,rfl,rfl,rfl⟩
   repeat'(first|exact ⟨⟩|exact rfl|exact fun _=>Iff.rfl|exact fun _ _=>rfl|exact renM_ent rfl _|apply And.intro)
  ·have hrl:(r.raw ((2:Nat):Int)).2.length=2:=Rdr.raw_len 2 h1
   have e:r.num 2=((r.raw 2).1,yo8 (r.raw ((2:Nat):Int)).2):=by unfold Rdr.num;rw[if_neg (by rw[show(r.raw ((2:Nat):Int)).1.bad=false from h1];simp)];rfl
   rw[e]
   obtain⟨b0,t0,e0,l0⟩:=qh8 hrl
   obtain⟨b1,t1,e1,l1⟩:=qh8 l0
   subst e1
   have e9:=List.length_eq_zero_iff.1 l1
   subst e9
   rw[e0]
   rw[show(r.raw 2).2=[b0,b1] from e0]
   conv=>whnf
   repeat(first|(refine brT rfl ?_;conv=>whnf)|(refine brF rfl ?_;conv=>whnf)|(refine .once ?_;conv=>whnf)|(refine⟨by decide,?_⟩;conv=>whnf)|(refine And.intro (Nat.le_of_ble_eq_true rfl) ?_;conv=>whnf))
   refine⟨[0],.d (.int .u64 (yo8 [b0,b1])),[(r.raw 2).1.kb],rfl,rfl,?_,?_,_,rfl,rfl,rfl⟩
   ·exact congrArg (fun z=>SV.d (DV.int .u64 z)) (acc8 (0) (0) (0) (0) (0) (0) (b0.toNat) (b1.toNat) (by omega) (by omega) (by omega) (by omega) (by omega) (by omega) (UInt8.toNat_lt _) (UInt8.toNat_lt _))
   ·repeat'(first|exact ⟨⟩|exact rfl|exact fun _=>Iff.rfl|exact fun _ _=>rfl|exact renM_ent rfl _|apply And.intro)
 ·conv=>whnf
  repeat(first|(refine brT rfl ?_;conv=>whnf)|(refine brF rfl ?_;conv=>whnf)|(refine .once ?_;conv=>whnf)|(refine⟨by decide,?_⟩;conv=>whnf)|(refine And.intro (Nat.le_of_ble_eq_true rfl) ?_;conv=>whnf))
  refine .rel _ (yn5 (zm7 r hr 4 (by omega)) [] [] _ rfl rfl) (fun x ks' hR=>?_)
  obtain⟨_,r1,⟨rfl,rfl⟩,rfl,rfl⟩:=hR
  conv=>whnf
  refine⟨fun h1=>?_,fun h1=>?_⟩
  ·have e:r.num 4=((r.raw 4).1,0):=by unfold Rdr.num;rw[if_pos (show(r.raw ((4:Nat):Int)).1.bad=true from h1)];rfl
   rw[e]
   conv=>whnf
   refine⟨[0],.d (.int .u64 0),[(r.raw 4).1.kb],rfl,rfl,rfl,?_,_,rfl,rfl,rfl⟩
   repeat'(first|exact ⟨⟩|exact rfl|exact fun _=>Iff.rfl|exact fun _ _=>rfl|exact renM_ent rfl _|apply And.intro)
  ·have hrl:(r.raw ((4:Nat):Int)).2.length=4:=Rdr.raw_len 4 h1
   have e:r.num 4=((r.raw 4).1,yo8 (r.raw ((4:Nat):Int)).2):=by unfold Rdr.num;rw[if_neg (by rw[show(r.raw ((4:Nat):Int)).1.bad=false from h1];simp)];rfl
   rw[e]
   obtain⟨b0,t0,e0,l0⟩:=qh8 hrl
   obtain⟨b1,t1,e1,l1⟩:=qh8 l0
   obtain⟨b2,t2,e2,l2⟩:=qh8 l1
   obtain⟨b3,t3,e3,l3⟩:=qh8 l2
   subst e1
   subst e2
   subst e3
   have e9:=List.length_eq_zero_iff.1 l3
   subst e9
   rw[e0]
   rw[show(r.raw 4).2=[b0,b1,b2,b3] from e0]
   conv=>whnf
   repeat(first|(refine brT rfl ?_;conv=>whnf)|(refine brF rfl ?_;conv=>whnf)|(refine .once ?_;conv=>whnf)|(refine⟨by decide,?_⟩;conv=>whnf)|(refine And.intro (Nat.le_of_ble_eq_true rfl) ?_;conv=>whnf))
   refine⟨[0],.d (.int .u64 (yo8 [b0,b1,b2,b3])),[(r.raw 4).1.kb],rfl,rfl,?_,?_,_,rfl,rfl,rfl⟩
   ·exact congrArg (fun z=>SV.d (DV.int .u64 z)) (acc8 (0) (0) (0) (0) (b0.toNat) (b1.toNat) (b2.toNat) (b3.toNat) (by omega) (by omega) (by omega) (by omega) (UInt8.toNat_lt _) (UInt8.toNat_lt _) (UInt8.toNat_lt _) (UInt8.toNat_lt _))
   ·repeat'(first|exact ⟨⟩|exact rfl|exact fun _=>Iff.rfl|exact fun _ _=>rfl|exact renM_ent rfl _|apply And.intro)
 ·conv=>whnf
  repeat(first|(refine brT rfl ?_;conv=>whnf)|(refine brF rfl ?_;conv=>whnf)|(refine .once ?_;conv=>whnf)|(refine⟨by decide,?_⟩;conv=>whnf)|(refine And.intro (Nat.le_of_ble_eq_true rfl) ?_;conv=>whnf))
  refine .rel _ (yn5 (zm7 r hr 8 (by omega)) [] [] _ rfl rfl) (fun x ks' hR=>?_)
  obtain⟨_,r1,⟨rfl,rfl⟩,rfl,rfl⟩:=hR
  conv=>whnf
  refine⟨fun h1=>?_,fun h1=>?_⟩
  ·have e:r.num 8=((r.raw 8).1,0):=by unfold Rdr.num;rw[if_pos (show(r.raw ((8:Nat):Int)).1.bad=true from h1)];rfl
   rw[e]
   conv=>whnf
   refine⟨[0],.d (.int .u64 0),[(r.raw 8).1.kb],rfl,rfl,rfl,?_,_,rfl,rfl,rfl⟩
   repeat'(first|exact ⟨⟩|exact rfl|exact fun _=>Iff.rfl|exact fun _ _=>rfl|exact renM_ent rfl _|apply And.intro)
  ·have hrl:(r.raw ((8:Nat):Int)).2.length=8:=Rdr.raw_len 8 h1
   have e:r.num 8=((r.raw 8).1,yo8 (r.raw ((8:Nat):Int)).2):=by unfold Rdr.num;rw[if_neg (by rw[show(r.raw ((8:Nat):Int)).1.bad=false from h1];simp)];rfl
   rw[e]
   obtain⟨b0,t0,e0,l0⟩:=qh8 hrl
   obtain⟨b1,t1,e1,l1⟩:=qh8 l0
   obtain⟨b2,t2,e2,l2⟩:=qh8 l1
   obtain⟨b3,t3,e3,l3⟩:=qh8 l2
   obtain⟨b4,t4,e4,l4⟩:=qh8 l3
   obtain⟨b5,t5,e5,l5⟩:=qh8 l4
   obtain⟨b6,t6,e6,l6⟩:=qh8 l5
   obtain⟨b7,t7,e7,l7⟩:=qh8 l6
   subst e1
   subst e2
   subst e3
   subst e4
   subst e5
   subst e6
   subst e7
   have e9:=List.length_eq_zero_iff.1 l7
   subst e9
   rw[e0]
   rw[show(r.raw 8).2=[b0,b1,b2,b3,b4,b5,b6,b7] from e0]
   conv=>whnf
   repeat(first|(refine brT rfl ?_;conv=>whnf)|(refine brF rfl ?_;conv=>whnf)|(refine .once ?_;conv=>whnf)|(refine⟨by decide,?_⟩;conv=>whnf)|(refine And.intro (Nat.le_of_ble_eq_true rfl) ?_;conv=>whnf))
   refine⟨[0],.d (.int .u64 (yo8 [b0,b1,b2,b3,b4,b5,b6,b7])),[(r.raw 8).1.kb],rfl,rfl,?_,?_,_,rfl,rfl,rfl⟩
   ·exact congrArg (fun z=>SV.d (DV.int .u64 z)) (acc8 (b0.toNat) (b1.toNat) (b2.toNat) (b3.toNat) (b4.toNat) (b5.toNat) (b6.toNat) (b7.toNat) (UInt8.toNat_lt _) (UInt8.toNat_lt _) (UInt8.toNat_lt _) (UInt8.toNat_lt _) (UInt8.toNat_lt _) (UInt8.toNat_lt _) (UInt8.toNat_lt _) (UInt8.toNat_lt _))
   ·repeat'(first|exact ⟨⟩|exact rfl|exact fun _=>Iff.rfl|exact fun _ _=>rfl|exact renM_ent rfl _|apply And.intro)
def Q.V(q:Q):SV:=.agg [.d (.str q.nm),.d (.int .u16 q.ty),.d (.int .u16 q.cl)]
def jd2(q:Q)(zone:List UInt8)(r:RR):Bool:=r.ty == 6 && (qa1 r.nm zone && (qa1 q.nm r.nm && qg4 r))
def ya7(m:Msg)(q:Q)(zone:List UInt8):Option RR:=m.heads.find? (jd2 q zone)
def noR:RR:=⟨[],0,0,0,[]⟩
def ya6(m:Msg)(q:Q)(zone:List UInt8):RR × Int:=match ya7 m q zone with
 |some r=>(r,0)
 |none=>(noR,3)
theorem yn3(r:RR):FnOk Tryz.prog 69 [r.V] (.d (.bool (qg4 r))):=by
 refine qa3 (TT:=TT) (IN:=qd0 []) qd2 qa7 mixed 1000 Tryz.func69 rfl (qb7 Tryz.func69 (by kernel_rfl) rfl) rfl 10 (by kernel_rfl) ?_
 unfold qg4
 conv=>whnf
 refine⟨fun h1=>?_,fun h1=>?_⟩
 ·have h1:(r.cl == 1)=true:=h1
  rw[h1]
  conv=>whnf
  refine .one (.data _ (jb0 r) rfl rfl ?_)
  conv=>whnf
  cases r.check <;> exact rfl
 ·have h1:(r.cl == 1)=false:=h1
  rw[h1]
  conv=>whnf
  all_goals exact rfl
theorem xh6{p:RR->Bool}{l:List RR}{i:Nat}{r:RR}(h:l[i]? = some r)(hr:p r=false)(hd:(l.drop i).find? p=l.find? p):(l.drop (i+1)).find? p=l.find? p:=by
 have hi:i<l.length:=(List.getElem?_eq_some_iff.1 h).1
 have e:l.drop i=r :: l.drop (i+1):=by rw [List.drop_eq_getElem_cons hi];congr 1;rw [List.getElem?_eq_getElem hi] at h;exact Option.some.inj h
 rw[<-hd,e,List.find?_cons,hr]
theorem xs5{p:RR->Bool}{l:List RR}{i:Nat}{r:RR}(h:l[i]? = some r)(hr:p r=true)(hd:(l.drop i).find? p=l.find? p):l.find? p=some r:=by
 have hi:i<l.length:=(List.getElem?_eq_some_iff.1 h).1
 have e:l.drop i=r :: l.drop (i+1):=by rw [List.drop_eq_getElem_cons hi];congr 1;rw [List.getElem?_eq_getElem hi] at h;exact Option.some.inj h
 rw[<-hd,e,List.find?_cons,hr]
set_option maxHeartbeats 16000000 in
theorem ys3(m:Msg)(hm:m.heads.length<=1000000)(q:Q)(zone:List UInt8):FnOk Tryz.prog 65 [.agg m.cells,q.V,.d (.str zone)] (.tup [(ya6 m q zone).1.V,.d (.int .i64 (ya6 m q zone).2)]):=by
 refine qa3 (TT:=TT) (IN:=qd0 [(104,Tryz.f104,2),(105,Tryz.f105,3)]) qd2 (qb8 (qb8 qa7 Tryz.func105 (by kernel_rfl) (by kernel_rfl)) Tryz.func104 (by kernel_rfl) (by kernel_rfl)) mixed 1000 Tryz.func65 rfl (qb7 Tryz.func65 (by kernel_rfl) rfl) rfl 18 (by kernel_rfl) ?_
 unfold ya6 ya7
 conv=>whnf
 refine .inv Nat (fun i=>i<=m.heads.length/\(m.heads.drop i).find? (jd2 q zone)=m.heads.find? (jd2 q zone)) (fun i=>[(8,iV i)]) (fun i=>[]) (fun i=>m.heads.length - i) ⟨0,[0,1,2,3],⟨Nat.zero_le _,rfl⟩,?_⟩ ?_
 ·conv=>whnf
  repeat'(first|exact ⟨⟩|exact rfl|exact qa0 _|exact .inr rfl|exact fun _ _=>rfl|exact noI|apply And.intro)
 intro i hi
 obtain⟨hi,hd⟩:=hi
 conv=>whnf
 refine⟨fun h1=>?_,fun h1=>?_⟩
 ·have h1:i<m.heads.length:=by
   have h:(i:Int)<m.heads.length:=of_decide_eq_true h1
   omega
  have hw1:IntKind.i64.wrap ((i:Int)+1)=((i+1:Nat):Int):=by rw[qa4 _ (by omega)];omega
  obtain⟨r,hr⟩:∃ r,m.heads.getD i default=r:=⟨_,rfl⟩
  have hrl:m.heads[i]? = some r:=by rw[<-hr,List.getD,List.getElem?_eq_getElem h1];rfl
  have hsk:=xh6 (p:=jd2 q zone) hrl
  conv=>whnf
  refine⟨by omega,?_⟩
  conv=>whnf
  rw[Int.toNat_natCast,hr]
  have hhit:=xs5 (p:=jd2 q zone) hrl
  refine⟨fun g1=>?_,fun g1=>?_⟩
  ·have g1:(r.ty == 6)=true:=g1
   conv=>whnf
   refine .one (.data _ (ql3 _ _) rfl rfl ?_)
   cases g2:qa1 r.nm zone with
   |false =>
    have hp:jd2 q zone r=false:=by unfold jd2;rw[g1,g2];rfl
    conv=>whnf
    repeat(first|(refine brF rfl ?_;conv=>whnf)|(refine brT rfl ?_;conv=>whnf))
    rw[hw1]
    refine⟨i+1,[0,1,2,3],⟨h1,hsk hp hd⟩,by omega,?_⟩
    conv=>whnf
    repeat'(first|exact ⟨⟩|exact rfl|exact qa0 _|exact .inr rfl|exact fun _ _=>rfl|exact noI|apply And.intro)
   |true =>
    conv=>whnf
    refine brT rfl ?_
    conv=>whnf
    refine .one (.data _ (ql3 _ _) rfl rfl ?_)
    cases g3:qa1 q.nm r.nm with
    |false =>
     have hp:jd2 q zone r=false:=by unfold jd2;rw[g1,g2,g3];rfl
     conv=>whnf
     repeat(first|(refine brF rfl ?_;conv=>whnf)|(refine brT rfl ?_;conv=>whnf))
     rw[hw1]
     refine⟨i+1,[0,1,2,3],⟨h1,hsk hp hd⟩,by omega,?_⟩
     conv=>whnf
     repeat'(first|exact ⟨⟩|exact rfl|exact qa0 _|exact .inr rfl|exact fun _ _=>rfl|exact noI|apply And.intro)
    |true =>
     conv=>whnf
     refine brT rfl ?_
     conv=>whnf
     refine .one (.data _ (yn3 r) rfl rfl ?_)
     cases g4:qg4 r with
     |false =>
      have hp:jd2 q zone r=false:=by unfold jd2;rw[g1,g2,g3,g4];rfl
      conv=>whnf
      repeat(first|(refine brF rfl ?_;conv=>whnf)|(refine brT rfl ?_;conv=>whnf))
      rw[hw1]
      refine⟨i+1,[0,1,2,3],⟨h1,hsk hp hd⟩,by omega,?_⟩
      conv=>whnf
      repeat'(first|exact ⟨⟩|exact rfl|exact qa0 _|exact .inr rfl|exact fun _ _=>rfl|exact noI|apply And.intro)
     |true =>
      have hp:jd2 q zone r=true:=by unfold jd2;rw[g1,g2,g3,g4];rfl
      rw[hhit hp hd]
      conv=>whnf
      refine brT rfl ?_
      conv=>whnf
      refine brF (decide_eq_false (by show ¬ ((i:Nat):Int)<0;omega)) ?_
      conv=>whnf
      refine⟨by omega,?_⟩
      conv=>whnf
      rw[Int.toNat_natCast,hr]
      repeat'(first|exact ⟨⟩|exact rfl|exact⟨rfl,rfl,.inr rfl,fun _ _=>rfl⟩|exact⟨rfl,rfl,.inl rfl,noI⟩|apply And.intro)
  ·have g1:(r.ty == 6)=false:=g1
   have hp:jd2 q zone r=false:=by unfold jd2;rw[g1];rfl
   conv=>whnf
   repeat(first|(refine brF rfl ?_;conv=>whnf)|(refine brT rfl ?_;conv=>whnf))
   rw[hw1]
   refine⟨i+1,[0,1,2,3],⟨h1,hsk hp hd⟩,by omega,?_⟩
   conv=>whnf
   repeat'(first|exact ⟨⟩|exact rfl|exact qa0 _|exact .inr rfl|exact fun _ _=>rfl|exact noI|apply And.intro)
 ·have h1:i=m.heads.length:=by
   have h:¬ (i:Int)<m.heads.length:=of_decide_eq_false h1
   omega
  subst h1
  rw [List.drop_length] at hd
  rw[<-hd]
  conv=>whnf
  refine brT rfl ?_
  conv=>whnf
  repeat'(first|exact ⟨⟩|exact rfl|exact⟨rfl,rfl,.inr rfl,fun _ _=>rfl⟩|exact⟨rfl,rfl,.inl rfl,noI⟩|apply And.intro)
def yf4(m:Msg)(q:Q)(zone:List UInt8):Bool:=m.code == 3 && (ya7 m q zone).isSome
theorem zq6(m:Msg):FnOk Tryz.prog 64 [.agg m.cells] (.d (.int .i64 m.code)):=by
 refine qa3 (TT:=TT) (IN:=qd0 []) qd2 qa7 mixed 1000 Tryz.func64 rfl (qb7 Tryz.func64 (by kernel_rfl) rfl) rfl 6 (by kernel_rfl) ?_
 conv=>whnf
 all_goals exact rfl
theorem jq1(m:Msg)(q:Q)(zone:List UInt8):((ya6 m q zone).2 == 0)=(ya7 m q zone).isSome:=by
 unfold ya6
 cases ya7 m q zone <;> rfl
set_option maxHeartbeats 8000000 in
theorem jv5(m:Msg)(hm:m.heads.length<=1000000)(q:Q)(zone:List UInt8):FnOk Tryz.prog 33 [.agg m.cells,q.V,.d (.str zone)] (.d (.bool (yf4 m q zone))):=by
 refine qa3 (TT:=TT) (IN:=qd0 []) qd2 qa7 mixed 1000 Tryz.func33 rfl (qb7 Tryz.func33 (by kernel_rfl) rfl) rfl 18 (by kernel_rfl) ?_
 unfold yf4
 conv=>whnf
 refine .one (.data _ (zq6 m) rfl rfl ?_)
 conv=>whnf
 refine⟨fun h1=>?_,fun h1=>?_⟩
 ·have h1:(m.code == 3)=false:=by simpa using h1
  rw[h1]
  conv=>whnf
  all_goals exact rfl
 ·have h1:(m.code == 3)=true:=by simpa using h1
  rw[h1]
  conv=>whnf
  refine .one (.data _ (ys3 m hm q zone) rfl rfl ?_)
  conv=>whnf
  rw[jq1]
  all_goals exact rfl
def qx5(q:Q)(r:RR):Bool:=(r.ty == q.ty || r.ty == 5) && (ql1 r.nm q.nm && qg4 r)
def yl9(m:Msg)(q:Q)(zone:List UInt8):Bool:=m.code == 0 && ((ya7 m q zone).isSome && !m.says.any (qx5 q))
set_option maxHeartbeats 16000000 in
theorem jv2(m:Msg)(hm:m.heads.length<=1000000)(hs:m.says.length<=1000000)(q:Q)(zone:List UInt8):FnOk Tryz.prog 35 [.agg m.cells,q.V,.d (.str zone)] (.d (.bool (yl9 m q zone))):=by
 refine qa3 (TT:=TT) (IN:=qd0 [(67,Tryz.f67,2),(104,Tryz.f104,2),(68,Tryz.f68,2)]) qd2 (qb8 (qb8 (qb8 qa7 Tryz.func68 (by kernel_rfl) (by kernel_rfl)) Tryz.func104 (by kernel_rfl) (by kernel_rfl)) Tryz.func67 (by kernel_rfl) (by kernel_rfl)) mixed 1000 Tryz.func35 rfl (qb7 Tryz.func35 (by kernel_rfl) rfl) rfl 23 (by kernel_rfl) ?_
 unfold yl9
 conv=>whnf
 refine .one (.data _ (zq6 m) rfl rfl ?_)
 conv=>whnf
 refine⟨fun h1=>?_,fun h1=>?_⟩
 ·have h1:(m.code == 0)=false:=by simpa using h1
  rw[h1]
  conv=>whnf
  all_goals exact rfl
 have h1:(m.code == 0)=true:=by simpa using h1
 rw[h1]
 conv=>whnf
 refine .one (.data _ (ys3 m hm q zone) rfl rfl ?_)
 conv=>whnf
 refine⟨fun h2=>?_,fun h2=>?_⟩
 ·have h2:(ya7 m q zone).isSome=false:=by rw[<-jq1];simpa using h2
  rw[h2]
  conv=>whnf
  all_goals exact rfl
 have h2:(ya7 m q zone).isSome=true:=by rw[<-jq1];simpa using h2
 rw[h2]
 conv=>whnf
 refine .inv Nat (fun i=>i<=m.says.length/\(m.says.take i).any (qx5 q)=false) (fun i=>[(8,iV i)]) (fun i=>[]) (fun i=>m.says.length - i) ⟨0,[0,1,2],⟨Nat.zero_le _,rfl⟩,?_⟩ ?_
 ·conv=>whnf
  repeat'(first|exact ⟨⟩|exact rfl|exact qa0 _|exact .inr rfl|exact fun _ _=>rfl|exact noI|apply And.intro)
 intro i hi
 obtain⟨hi,hd⟩:=hi
 conv=>whnf
 refine⟨fun h3=>?_,fun h3=>?_⟩
 ·have h3:i<m.says.length:=by
   have h:(i:Int)<m.says.length:=of_decide_eq_true h3
   omega
  have hw1:IntKind.i64.wrap ((i:Int)+1)=((i+1:Nat):Int):=by rw[qa4 _ (by omega)];omega
  obtain⟨r,hr⟩:∃ r,m.says.getD i default=r:=⟨_,rfl⟩
  have hrl:m.says[i]? = some r:=by rw[<-hr,List.getD,List.getElem?_eq_getElem h3];rfl
  have hsk:qx5 q r=false->(m.says.take i).any (qx5 q)=false->(m.says.take (i+1)).any (qx5 q)=false:=fun h1 h2=>by
   rw[List.take_add_one,hrl,List.any_append,h2]
   simp[h1]
  conv=>whnf
  refine⟨by omega,?_⟩
  conv=>whnf
  rw[Int.toNat_natCast,hr]
  refine⟨fun g1=>?_,fun g1=>?_⟩
  ·have g1:(r.ty == q.ty)=true:=g1
   conv=>whnf
   refine .one (.data _ (jg0 _ _) rfl rfl ?_)
   cases g2:ql1 r.nm q.nm with
   |false =>
    have hp:qx5 q r=false:=by unfold qx5;rw[g1,g2];rfl
    conv=>whnf
    repeat(first|(refine brF rfl ?_;conv=>whnf)|(refine brT rfl ?_;conv=>whnf))
    rw[hw1]
    refine⟨i+1,[0,1,2],⟨h3,hsk hp hd⟩,by omega,?_⟩
    conv=>whnf
    repeat'(first|exact ⟨⟩|exact rfl|exact qa0 _|exact .inr rfl|exact fun _ _=>rfl|exact noI|apply And.intro)
   |true =>
    conv=>whnf
    refine brT rfl ?_
    conv=>whnf
    refine .one (.data _ (yn3 r) rfl rfl ?_)
    cases g3:qg4 r with
    |false =>
     have hp:qx5 q r=false:=by unfold qx5;rw[g1,g2,g3];rfl
     conv=>whnf
     repeat(first|(refine brF rfl ?_;conv=>whnf)|(refine brT rfl ?_;conv=>whnf))
     rw[hw1]
     refine⟨i+1,[0,1,2],⟨h3,hsk hp hd⟩,by omega,?_⟩
     conv=>whnf
     repeat'(first|exact ⟨⟩|exact rfl|exact qa0 _|exact .inr rfl|exact fun _ _=>rfl|exact noI|apply And.intro)
    |true =>
     have hp:qx5 q r=true:=by unfold qx5;rw[g1,g2,g3];rfl
     have hb:m.says.any (qx5 q)=true:=List.any_eq_true.2 ⟨r,List.mem_of_getElem? hrl,hp⟩
     rw[hb]
     conv=>whnf
     repeat(first|(refine brF rfl ?_;conv=>whnf)|(refine brT rfl ?_;conv=>whnf))
     show _=_
     rw[decide_eq_true (by omega:((i:Nat):Int) >= 0)]
     rfl
  ·have g1:(r.ty == q.ty)=false:=g1
   conv=>whnf
   refine⟨fun g0=>?_,fun g0=>?_⟩
   ·have g0:(r.ty == 5)=true:=g0
    conv=>whnf
    refine .one (.data _ (jg0 _ _) rfl rfl ?_)
    cases g2:ql1 r.nm q.nm with
    |false =>
     have hp:qx5 q r=false:=by unfold qx5;rw[g1,g0,g2];rfl
     conv=>whnf
     repeat(first|(refine brF rfl ?_;conv=>whnf)|(refine brT rfl ?_;conv=>whnf))
     rw[hw1]
     refine⟨i+1,[0,1,2],⟨h3,hsk hp hd⟩,by omega,?_⟩
     conv=>whnf
     repeat'(first|exact ⟨⟩|exact rfl|exact qa0 _|exact .inr rfl|exact fun _ _=>rfl|exact noI|apply And.intro)
    |true =>
     conv=>whnf
     refine brT rfl ?_
     conv=>whnf
     refine .one (.data _ (yn3 r) rfl rfl ?_)
     cases g3:qg4 r with
     |false =>
      have hp:qx5 q r=false:=by unfold qx5;rw[g1,g0,g2,g3];rfl
      conv=>whnf
      repeat(first|(refine brF rfl ?_;conv=>whnf)|(refine brT rfl ?_;conv=>whnf))
      rw[hw1]
      refine⟨i+1,[0,1,2],⟨h3,hsk hp hd⟩,by omega,?_⟩
      conv=>whnf
      repeat'(first|exact ⟨⟩|exact rfl|exact qa0 _|exact .inr rfl|exact fun _ _=>rfl|exact noI|apply And.intro)
     |true =>
      have hp:qx5 q r=true:=by unfold qx5;rw[g1,g0,g2,g3];rfl
      have hb:m.says.any (qx5 q)=true:=List.any_eq_true.2 ⟨r,List.mem_of_getElem? hrl,hp⟩
      rw[hb]
      conv=>whnf
      repeat(first|(refine brF rfl ?_;conv=>whnf)|(refine brT rfl ?_;conv=>whnf))
      show _=_
      rw[decide_eq_true (by omega:((i:Nat):Int) >= 0)]
      rfl
   ·have g0:(r.ty == 5)=false:=g0
    have hp:qx5 q r=false:=by unfold qx5;rw[g1,g0];rfl
    conv=>whnf
    repeat(first|(refine brF rfl ?_;conv=>whnf)|(refine brT rfl ?_;conv=>whnf))
    rw[hw1]
    refine⟨i+1,[0,1,2],⟨h3,hsk hp hd⟩,by omega,?_⟩
    conv=>whnf
    repeat'(first|exact ⟨⟩|exact rfl|exact qa0 _|exact .inr rfl|exact fun _ _=>rfl|exact noI|apply And.intro)
 ·have h3:i=m.says.length:=by
   have h:¬ (i:Int)<m.says.length:=of_decide_eq_false h3
   omega
  subst h3
  rw [List.take_length] at hd
  rw[hd]
  conv=>whnf
  all_goals exact rfl
def yi8(s:List UInt8):Int × Int:=if qm2 6 s then (IntKind.u32.wrap ((Rdr.num ⟨s.drop (s.length - 4),0,false⟩ 4).2:Nat),0) else (0,2)
theorem xy4{s:List UInt8}(h:qm2 6 s=true):20<=s.length/\s.length<=4096:=by
 unfold qm2 at h
 simp only [Bool.and_eq_true,decide_eq_true_eq] at h
 refine⟨?_,h.1⟩
 have h2:(cutF 0 2 5 s).isSome=true:=h.2
 obtain⟨x,hx⟩:=Option.isSome_iff_exists.1 h2
 unfold cutF at hx
 split at hx
 ·cases hx
 ·obtain⟨p,hp,hq⟩:=Option.bind_eq_some_iff.1 hx
  split at hq
  ·rename_i hl
   obtain⟨l,r⟩:=p
   have:=(yi7 2 (s.drop (2 * 0)) l r hp).2
   simp at this hl
   omega
  ·cases hq
set_option maxHeartbeats 8000000 in
theorem xr0(s:List UInt8):FnOk Tryz.prog 106 [.d (.str s)] (.tup [.d (.int .u32 (yi8 s).1),.d (.int .i64 (yi8 s).2)]):=by
 refine qa3 (TT:=TT) (IN:=qd0 []) qd2 qa7 mixed 1000 Tryz.func106 rfl (qb7 Tryz.func106 (by kernel_rfl) rfl) rfl 14 (by kernel_rfl) ?_
 unfold yi8
 conv=>whnf
 refine .one (.data _ (jy3 6 s) rfl rfl ?_)
 cases h:qm2 6 s with
 |false =>
  rw[if_neg (by decide)]
  conv=>whnf
  refine brT rfl ?_
  conv=>whnf
  repeat'(first|exact ⟨⟩|exact rfl|exact⟨rfl,rfl,.inr rfl,fun _ _=>rfl⟩|exact⟨rfl,rfl,.inl rfl,noI⟩|apply And.intro)
 |true =>
  obtain⟨h1,h2⟩:=xy4 h
  rw[if_pos rfl]
  conv=>whnf
  refine brF rfl ?_
  conv=>whnf
  have hw1:IntKind.i64.wrap ((s.length:Int) - 4)=((s.length - 4:Nat):Int):=by rw[qa4 _ (by omega)];omega
  rw[hw1]
  refine⟨⟨by omega,by omega,Int.le_refl _⟩,?_⟩
  conv=>whnf
  rw[show sub s ((s.length - 4:Nat):Int) (s.length:Int)=s.drop (s.length - 4) by unfold sub;rw[Int.toNat_natCast,Int.toNat_natCast,List.take_of_length_le (by rw[List.length_drop];omega)]]
  refine .rel _ (xz4 _) (fun r ks' hR=>?_)
  obtain⟨rfl,rfl⟩:=hR
  conv=>whnf
  refine .rel _ (xz0 ⟨s.drop (s.length - 4),0,false⟩ ⟨by show(s.drop _).length<_;rw[List.length_drop];omega,Nat.zero_le _⟩ 4 (.inr (.inr (.inl rfl)))) (fun r ks' hR=>?_)
  obtain⟨r1,rfl,rfl,rfl⟩:=hR
  conv=>whnf
  repeat'(first|exact ⟨⟩|exact rfl|exact⟨rfl,rfl,.inr rfl,fun _ _=>rfl⟩|exact⟨rfl,rfl,.inl rfl,noI⟩|apply And.intro)
def ttlA(m:Msg)(q:Q)(zone:List UInt8):Int × Int:=if (ya6 m q zone).2=0 then (if (yi8 (ya6 m q zone).1.d).2=0 then
 ((fun a b=>if (10800:Int)<(if b<a then b else a) then 10800 else (if b<a then b else a)) (ya6 m q zone).1.ttl (yi8 (ya6 m q zone).1.d).1,0) else (0,3)) else (0,(ya6 m q zone).2)
set_option maxHeartbeats 8000000 in
theorem kc6(m:Msg)(hm:m.heads.length<=1000000)(q:Q)(zone:List UInt8):FnOk Tryz.prog 66 [.agg m.cells,q.V,.d (.str zone)] (.tup [.d (.int .u32 (ttlA m q zone).1),.d (.int .i64 (ttlA m q zone).2)]):=by
 refine qa3 (TT:=TT) (IN:=qd0 []) qd2 qa7 mixed 1000 Tryz.func66 rfl (qb7 Tryz.func66 (by kernel_rfl) rfl) rfl 30 (by kernel_rfl) ?_
 unfold ttlA
 conv=>whnf
 refine .one (.data _ (ys3 m hm q zone) rfl rfl ?_)
 generalize ya6 m q zone=h
 conv=>whnf
 refine⟨fun h1=>?_,fun h1=>?_⟩
 ·have h1:h.2≠0:=by simpa using h1
  rw[if_neg h1]
  conv=>whnf
  repeat'(first|exact ⟨⟩|exact rfl|exact⟨rfl,rfl,.inr rfl,fun _ _=>rfl⟩|exact⟨rfl,rfl,.inl rfl,noI⟩|apply And.intro)
 have h1:h.2=0:=by simpa using h1
 rw[if_pos h1]
 conv=>whnf
 refine .one (.data _ (xr0 h.1.d) rfl rfl ?_)
 generalize yi8 h.1.d=l
 conv=>whnf
 refine⟨fun h2=>?_,fun h2=>?_⟩
 ·have h2:l.2≠0:=by simpa using h2
  rw[if_neg h2]
  conv=>whnf
  repeat'(first|exact ⟨⟩|exact rfl|exact⟨rfl,rfl,.inr rfl,fun _ _=>rfl⟩|exact⟨rfl,rfl,.inl rfl,noI⟩|apply And.intro)
 have h2:l.2=0:=by simpa using h2
 rw[if_pos h2]
 conv=>whnf
 repeat'(first|exact ⟨⟩|exact rfl|exact⟨rfl,rfl,.inr rfl,fun _ _=>rfl⟩|exact⟨rfl,rfl,.inl rfl,noI⟩|apply And.intro)
structure Cls where
 kind:Int
 chain:List St
 ans:St
 target:List UInt8
 ttl:Int
def Cls.V(c:Cls):SV:=.agg [.d (.int .u8 c.kind),.d (stsD c.chain.isEmpty c.chain),.d (.str c.ans.nm),.d (.int .u16 c.ans.ty),.d (.int .u32 c.ans.ttl),.d (.sl c.ans.z c.ans.data.length 1 (strs c.ans.data)),.d (.str c.target),.d (.int .u32 c.ttl)]
def xz9(kind:Int)(m:Msg)(q:Q)(zone:List UInt8):Cls:=⟨kind,[],St.no,q.nm,(ttlA m q zone).1⟩
set_option maxHeartbeats 8000000 in
theorem qw9(kind:Int)(m:Msg)(hm:m.heads.length<=1000000)(q:Q)(zone:List UInt8):FnOk Tryz.prog 34 [.d (.int .u8 kind),.agg m.cells,q.V,.d (.str zone)] (xz9 kind m q zone).V:=by
 refine qa3 (TT:=TT) (IN:=qd0 []) qd2 qa7 mixed 1000 Tryz.func34 rfl (qb7 Tryz.func34 (by kernel_rfl) rfl) rfl 19 (by kernel_rfl) ?_
 conv=>whnf
 refine .one (.data _ (kc6 m hm q zone) rfl rfl ?_)
 conv=>whnf
 repeat'(first|exact ⟨⟩|exact rfl|exact⟨rfl,rfl,.inr rfl,fun _ _=>rfl⟩|exact⟨rfl,rfl,.inl rfl,noI⟩|apply And.intro)
def qp7(n z:List UInt8):Int:=if qa1 n z then (qa5 n:Int) - (qa5 z:Int) else -1
theorem jn7(n:List UInt8):qa5 n<=255:=qv1
theorem yr0(n z:List UInt8):FnOk Tryz.prog 70 [.d (.str n),.d (.str z)] (.d (.int .i64 (qp7 n z))):=by
 refine qa3 (TT:=TT) (IN:=qd0 []) qd2 qa7 mixed 1000 Tryz.func70 rfl (qb7 Tryz.func70 (by kernel_rfl) rfl) rfl 12 (by kernel_rfl) ?_
 unfold qp7
 conv=>whnf
 refine .one (.data _ (ql3 n z) rfl rfl ?_)
 cases qa1 n z with
 |false =>
  rw[if_neg (by decide)]
  conv=>whnf
  refine brT rfl ?_
  conv=>whnf
  all_goals exact rfl
 |true =>
  have h1:=jn7 n
  have h2:=jn7 z
  rw[if_pos rfl]
  conv=>whnf
  refine brF rfl ?_
  conv=>whnf
  refine .one (.data _ (jn6 n) rfl rfl ?_)
  conv=>whnf
  refine .one (.data _ (jn6 z) rfl rfl ?_)
  conv=>whnf
  rw[qa4 _ (by omega)]
  all_goals exact rfl
def refP(zone:List UInt8)(r:RR):Bool:=r.ty == 2 && (r.cl == 1 && (decide (qp7 r.nm zone > 0) && r.check))
def qt2(m:Msg)(zone:List UInt8):List (List UInt8):=(m.heads.filter (refP zone)).map (·.nm)
def qs4(m:Msg)(q:Q)(zone:List UInt8):St × Int:=if m.code=0 then (if (jt9 q.nm (qt2 m zone)).2=0 then qb2 (jt9 q.nm (qt2 m zone)).1 2 m.heads else (St.no,3)) else (St.no,3)
def yf1(m:Msg)(zone:List UInt8)(i:Nat):List (List UInt8):=((m.heads.take i).filter (refP zone)).map (·.nm)
theorem zt3{m:Msg}{zone:List UInt8}{i:Nat}{r:RR}(h:m.heads[i]? = some r):yf1 m zone (i+1)=if refP zone r then yf1 m zone i++[r.nm] else yf1 m zone i:=by
 unfold yf1
 rw[List.take_add_one,h]
 cases hp:refP zone r <;> simp[hp]
theorem xc1(m:Msg)(zone:List UInt8)(i:Nat):(yf1 m zone i).length<=i:=by
 unfold yf1
 rw[List.length_map]
 exact Nat.le_trans (List.length_filter_le _ _) (by rw[List.length_take];omega)
set_option maxHeartbeats 16000000 in
theorem jl1(m:Msg)(hm:ye7 m.heads)(q:Q)(zone:List UInt8):FnOk Tryz.prog 36 [.agg m.cells,q.V,.d (.str zone)] (.tup [(qs4 m q zone).1.V,.d (.int .i64 (qs4 m q zone).2)]):=by
 refine qa3 (TT:=TT) (IN:=qd0 []) qd2 qa7 mixed 1000 Tryz.func36 rfl (qb7 Tryz.func36 (by kernel_rfl) rfl) rfl 63 (by kernel_rfl) ?_
 unfold qs4
 conv=>whnf
 refine .one (.data _ (xi8 m) rfl rfl ?_)
 conv=>whnf
 refine⟨fun h1=>?_,fun h1=>?_⟩
 ·have h1:¬ m.code=0:=by simpa using h1
  rw[if_neg h1]
  conv=>whnf
  repeat'(first|exact ⟨⟩|exact rfl|exact⟨rfl,rfl,.inr rfl,fun _ _=>rfl⟩|exact⟨rfl,rfl,.inl rfl,noI⟩|apply And.intro)
 have h1:m.code=0:=by simpa using h1
 rw[if_pos h1]
 conv=>whnf
 refine .nilT 8 9 1 (strs []) _ _ rfl ?_
 conv=>whnf
 refine .inv Nat (fun i=>i<=m.heads.length) (fun i=>[(20,iV i),(8,.all 3)]) (fun i=>[(3,.row 9 1 (yf1 m zone i).length .iff (strs (yf1 m zone i)))]) (fun i=>m.heads.length - i) ⟨0,[0,1,2,3],Nat.zero_le _,?_⟩ ?_
 ·conv=>whnf
  repeat'(first|exact ⟨⟩|exact rfl|exact qa0 _|exact .inr rfl|exact fun _ _=>rfl|exact noI|apply And.intro)
 intro i hi
 conv=>whnf
 have hlen:=hm.1
 have htl:=xc1 m zone i
 refine⟨fun h2=>?_,fun h2=>?_⟩
 ·have h2:i<m.heads.length:=by
   have h:(i:Int)<m.heads.length:=of_decide_eq_true h2
   omega
  have hw1:IntKind.i64.wrap ((i:Int)+1)=((i+1:Nat):Int):=by rw[qa4 _ (by omega)];omega
  obtain⟨r,hr⟩:∃ r,m.heads.getD i default=r:=⟨_,rfl⟩
  have hrl:m.heads[i]? = some r:=by rw[<-hr,List.getD,List.getElem?_eq_getElem h2];rfl
  have hnx:=zt3 (zone:=zone) hrl
  conv=>whnf
  refine⟨by omega,?_⟩
  conv=>whnf
  rw[Int.toNat_natCast,hr]
  refine⟨fun g1=>?_,fun g1=>?_⟩
  ·have g1:(r.ty == 2)=true:=g1
   conv=>whnf
   refine⟨fun g2=>?_,fun g2=>?_⟩
   ·have g2:(r.cl == 1)=true:=g2
    conv=>whnf
    refine .one (.data _ (yr0 _ _) rfl rfl ?_)
    conv=>whnf
    refine⟨fun g3=>?_,fun g3=>?_⟩
    ·have g3:decide (qp7 r.nm zone > 0)=true:=g3
     conv=>whnf
     refine .one (.data _ (jb0 r) rfl rfl ?_)
     cases g4:r.check with
     |false =>
      have hp:refP zone r=false:=by unfold refP;rw[g1,g2,g3,g4];rfl
      rw [hp,if_neg (by decide)] at hnx
      conv=>whnf
      repeat(first|(refine brF rfl ?_;conv=>whnf)|(refine brT rfl ?_;conv=>whnf))
      rw[hw1]
      refine⟨i+1,[0,1,2,3],h2,by omega,?_⟩
      rw[hnx]
      conv=>whnf
      repeat'(first|exact ⟨⟩|exact rfl|exact qa0 _|exact .inr rfl|exact fun _ _=>rfl|exact noI|apply And.intro)
     |true =>
      have hp:refP zone r=true:=by unfold refP;rw[g1,g2,g3,g4];rfl
      rw [hp,if_pos rfl] at hnx
      conv=>whnf
      refine brT rfl ?_
      conv=>whnf
      refine⟨by omega,?_⟩
      conv=>whnf
      rw[hw1]
      refine⟨i+1,[0,1,2,6],h2,by omega,?_⟩
      rw[hnx]
      conv=>whnf
      repeat'(first|exact ⟨⟩|exact rfl|exact qa0 _|exact .inr rfl|exact fun _ _=>rfl|exact noI|apply And.intro)
      all_goals first
       |(show _+1=(_++[_]).length;simp;done)
       |exact qo8 _ _ _ rfl
    ·have g3:decide (qp7 r.nm zone > 0)=false:=g3
     have hp:refP zone r=false:=by unfold refP;rw[g1,g2,g3];rfl
     rw [hp,if_neg (by decide)] at hnx
     conv=>whnf
     repeat(first|(refine brF rfl ?_;conv=>whnf)|(refine brT rfl ?_;conv=>whnf))
     rw[hw1]
     refine⟨i+1,[0,1,2,3],h2,by omega,?_⟩
     rw[hnx]
     conv=>whnf
     repeat'(first|exact ⟨⟩|exact rfl|exact qa0 _|exact .inr rfl|exact fun _ _=>rfl|exact noI|apply And.intro)
   ·have g2:(r.cl == 1)=false:=g2
    have hp:refP zone r=false:=by unfold refP;rw[g1,g2];rfl
    rw [hp,if_neg (by decide)] at hnx
    conv=>whnf
    repeat(first|(refine brF rfl ?_;conv=>whnf)|(refine brT rfl ?_;conv=>whnf))
    rw[hw1]
    refine⟨i+1,[0,1,2,3],h2,by omega,?_⟩
    rw[hnx]
    conv=>whnf
    repeat'(first|exact ⟨⟩|exact rfl|exact qa0 _|exact .inr rfl|exact fun _ _=>rfl|exact noI|apply And.intro)
  ·have g1:(r.ty == 2)=false:=g1
   have hp:refP zone r=false:=by unfold refP;rw[g1];rfl
   rw [hp,if_neg (by decide)] at hnx
   conv=>whnf
   repeat(first|(refine brF rfl ?_;conv=>whnf)|(refine brT rfl ?_;conv=>whnf))
   rw[hw1]
   refine⟨i+1,[0,1,2,3],h2,by omega,?_⟩
   rw[hnx]
   conv=>whnf
   repeat'(first|exact ⟨⟩|exact rfl|exact qa0 _|exact .inr rfl|exact fun _ _=>rfl|exact noI|apply And.intro)
 ·have h2:i=m.heads.length:=by
   have h:¬ (i:Int)<m.heads.length:=of_decide_eq_false h2
   omega
  subst h2
  have hrn:yf1 m zone m.heads.length=qt2 m zone:=by unfold yf1 qt2;rw[List.take_length]
  rw [hrn] at htl ⊢
  have hns:∀ n ∈ qt2 m zone,n.length<=100000:=fun n hn=>by
   unfold qt2 at hn
   obtain⟨r,hr,rfl⟩:=List.mem_map.1 hn
   exact(hm.2 r (List.mem_filter.1 hr).1).1
  generalize qt2 m zone=N at htl hns ⊢
  conv=>whnf
  refine .one (.view _ _ [3] (yj9 q.nm (Nat.beq N.length 0) N (by omega)) ?_ rfl rfl ?_)
  ·conv=>whnf
   exact⟨rfl,rfl⟩
  have hdm:∀ a,(jt9 q.nm N).1=a->(jt9 q.nm N).2=0->a.length<=100000:=fun a ha h0=>by
   unfold jt9 at ha h0
   split at ha
   ·rename_i hqn
    rw [if_pos hqn] at h0
    cases hd:qr3 q.nm N none with
    |none=>rw [hd] at h0;cases h0
    |some c =>
     rw [hd] at ha
     simp only at ha
     subst ha
     rcases jn4 hd with h|h
     ·exact hns _ h
     ·cases h
   ·rename_i hqn
    rw [if_neg hqn] at h0
    cases h0
  generalize jt9 q.nm N=D at hdm ⊢
  conv=>whnf
  refine⟨fun h3=>?_,fun h3=>?_⟩
  ·have h3:¬ D.2=0:=by simpa using h3
   rw[if_neg h3]
   conv=>whnf
   repeat'(first|exact ⟨⟩|exact rfl|exact⟨rfl,rfl,.inr rfl,fun _ _=>rfl⟩|exact⟨rfl,rfl,.inl rfl,noI⟩|apply And.intro)
  ·have h3:D.2=0:=by simpa using h3
   rw[if_pos h3]
   conv=>whnf
   refine .one (.data _ (jq3 D.1 2 m.zh m.heads hm.1 (hdm _ rfl h3) (fun r hr=>(hm.2 r hr).1)) rfl rfl ?_)
   conv=>whnf
   repeat'(first|exact ⟨⟩|exact rfl|exact⟨rfl,rfl,.inr rfl,fun _ _=>rfl⟩|exact⟨rfl,rfl,.inl rfl,noI⟩|apply And.intro)
def qp8(m:Msg)(q:Q)(zone:List UInt8):Cls :=
 if m.code=0/\(qb2 (qj0 q.ty m.says 8 q.nm []).2 q.ty m.says).2=0 then ⟨1,(qj0 q.ty m.says 8 q.nm []).1,(qb2 (qj0 q.ty m.says 8 q.nm []).2 q.ty m.says).1,(qj0 q.ty m.says 8 q.nm []).2,0⟩
 else if 0<(qj0 q.ty m.says 8 q.nm []).1.length/\(m.code=0\/m.code=3) then ⟨2,(qj0 q.ty m.says 8 q.nm []).1,St.no,(qj0 q.ty m.says 8 q.nm []).2,0⟩
 else if yf4 m q zone then xz9 3 m q zone
 else if yl9 m q zone then xz9 4 m q zone
 else if (qs4 m q zone).2=0 then ⟨5,[],(qs4 m q zone).1,(qs4 m q zone).1.nm,0⟩
 else ⟨0,[],St.no,[],0⟩
theorem yk8{ty:Int}{L:List RR}(hL:∀ r ∈ L,r.d.length<=100000):∀ (k:Nat) (n:List UInt8) (c:List St),n.length<=100000->(qj0 ty L k n c).2.length<=100000
 |0,n,c,h=>h
 |k+1,n,c,h=>by
  unfold qj0
  split
  ·exact h
  ·rename_i hc
   refine yk8 hL k _ _ ?_
   cases hd:(qb2 n 5 L).1.data with
   |nil=>exact Nat.zero_le _
   |cons a b =>
    obtain⟨r,hr,e⟩:=zp3 (d:=a) (nm:=n) (t:=5) (l:=L) (by rw[hd];simp)
    show a.length<=100000
    rw[<-e]
    exact hL r hr
set_option maxHeartbeats 16000000 in
theorem xt9(m:Msg)(hs:ye7 m.says)(hh:ye7 m.heads)(q:Q)(hq:q.nm.length<=100000)(zone:List UInt8):FnOk Tryz.prog 14 [.agg m.cells,q.V,.d (.str zone)] (qp8 m q zone).V:=by
 refine qa3 (TT:=TT) (IN:=qd0 []) qd2 qa7 mixed 1000 Tryz.func14 rfl (qb7 Tryz.func14 (by kernel_rfl) rfl) rfl 81 (by kernel_rfl) ?_
 have hm1:m.heads.length<=1000000:=by have:=hh.1;omega
 have hs1:m.says.length<=1000000:=by have:=hs.1;omega
 have hce:=yk8 (ty:=q.ty) (fun r hr=>(hs.2 r hr).2) 8 q.nm [] hq
 unfold qp8
 conv=>whnf
 refine .one (.data _ (xi8 m) rfl rfl ?_)
 conv=>whnf
 refine .one (.data _ (xu0 q hq m.zs m.says hs) rfl rfl ?_)
 generalize qj0 q.ty m.says 8 q.nm []=C at hce ⊢
 obtain⟨ch,e⟩:=C
 conv=>whnf
 refine⟨fun h1=>?_,fun h1=>?_⟩
 ·have h1:m.code=0:=by simpa using h1
  conv=>whnf
  refine .one (.data _ (jq3 e q.ty m.zs m.says hs.1 hce (fun r hr=>(hs.2 r hr).1)) rfl rfl ?_)
  generalize qb2 e q.ty m.says=F
  conv=>whnf
  refine⟨fun h2=>?_,fun h2=>?_⟩
  ·have h2:F.2=0:=by simpa using h2
   rw[if_pos ⟨h1,h2⟩]
   conv=>whnf
   repeat'(first|exact ⟨⟩|exact rfl|exact⟨rfl,rfl,.inr rfl,fun _ _=>rfl⟩|exact⟨rfl,rfl,.inl rfl,noI⟩|apply And.intro)
  ·have h2:¬ F.2=0:=by simpa using h2
   rw[if_neg (fun h=>h2 h.2)]
   conv=>whnf
   refine⟨fun g1=>?_,fun g1=>?_⟩
   ·have g1:0<ch.length:=by
     have h:(ch.length:Int) > 0:=of_decide_eq_true g1
     omega
    conv=>whnf
    refine⟨fun g2=>?_,fun g2=>?_⟩
    ·have g2:m.code=0:=by simpa using g2
     rw[if_pos ⟨g1,.inl g2⟩]
     conv=>whnf
     repeat'(first|exact ⟨⟩|exact rfl|exact⟨rfl,rfl,.inr rfl,fun _ _=>rfl⟩|exact⟨rfl,rfl,.inl rfl,noI⟩|apply And.intro)
    ·have g2:¬ m.code=0:=by simpa using g2
     conv=>whnf
     refine⟨fun g3=>?_,fun g3=>?_⟩
     ·have g3:m.code=3:=by simpa using g3
      rw[if_pos ⟨g1,.inr g3⟩]
      conv=>whnf
      repeat'(first|exact ⟨⟩|exact rfl|exact⟨rfl,rfl,.inr rfl,fun _ _=>rfl⟩|exact⟨rfl,rfl,.inl rfl,noI⟩|apply And.intro)
     ·have g3:¬ m.code=3:=by simpa using g3
      rw[if_neg (fun h=>h.2.elim g2 g3)]
      conv=>whnf
      refine .one (.data _ (jv5 m hm1 q zone) rfl rfl ?_)
      cases yf4 m q zone with
      |true =>
       rw[if_pos rfl]
       conv=>whnf
       refine brT rfl ?_
       conv=>whnf
       refine .one (.data _ (qw9 3 m hm1 q zone) rfl rfl ?_)
       conv=>whnf
       repeat'(first|exact ⟨⟩|exact rfl|exact⟨rfl,rfl,.inr rfl,fun _ _=>rfl⟩|exact⟨rfl,rfl,.inl rfl,noI⟩|apply And.intro)
      |false =>
       rw[if_neg (by decide)]
       conv=>whnf
       refine brF rfl ?_
       conv=>whnf
       refine .one (.data _ (jv2 m hm1 hs1 q zone) rfl rfl ?_)
       cases yl9 m q zone with
       |true =>
        rw[if_pos rfl]
        conv=>whnf
        refine brT rfl ?_
        conv=>whnf
        refine .one (.data _ (qw9 4 m hm1 q zone) rfl rfl ?_)
        conv=>whnf
        repeat'(first|exact ⟨⟩|exact rfl|exact⟨rfl,rfl,.inr rfl,fun _ _=>rfl⟩|exact⟨rfl,rfl,.inl rfl,noI⟩|apply And.intro)
       |false =>
        rw[if_neg (by decide)]
        conv=>whnf
        refine brF rfl ?_
        conv=>whnf
        refine .one (.data _ (jl1 m hh q zone) rfl rfl ?_)
        generalize qs4 m q zone=R
        conv=>whnf
        refine⟨fun g6=>?_,fun g6=>?_⟩
        ·have g6:R.2=0:=by simpa using g6
         rw[if_pos g6]
         conv=>whnf
         repeat'(first|exact ⟨⟩|exact rfl|exact⟨rfl,rfl,.inr rfl,fun _ _=>rfl⟩|exact⟨rfl,rfl,.inl rfl,noI⟩|apply And.intro)
        ·have g6:¬ R.2=0:=by simpa using g6
         rw[if_neg g6]
         conv=>whnf
         repeat'(first|exact ⟨⟩|exact rfl|exact⟨rfl,rfl,.inr rfl,fun _ _=>rfl⟩|exact⟨rfl,rfl,.inl rfl,noI⟩|apply And.intro)
   ·have g1:¬ 0<ch.length:=by
     have h:¬ (ch.length:Int) > 0:=of_decide_eq_false g1
     omega
    rw[if_neg (fun h=>g1 h.1)]
    conv=>whnf
    refine .one (.data _ (jv5 m hm1 q zone) rfl rfl ?_)
    cases yf4 m q zone with
    |true =>
     rw[if_pos rfl]
     conv=>whnf
     refine brT rfl ?_
     conv=>whnf
     refine .one (.data _ (qw9 3 m hm1 q zone) rfl rfl ?_)
     conv=>whnf
     repeat'(first|exact ⟨⟩|exact rfl|exact⟨rfl,rfl,.inr rfl,fun _ _=>rfl⟩|exact⟨rfl,rfl,.inl rfl,noI⟩|apply And.intro)
    |false =>
     rw[if_neg (by decide)]
     conv=>whnf
     refine brF rfl ?_
     conv=>whnf
     refine .one (.data _ (jv2 m hm1 hs1 q zone) rfl rfl ?_)
     cases yl9 m q zone with
     |true =>
      rw[if_pos rfl]
      conv=>whnf
      refine brT rfl ?_
      conv=>whnf
      refine .one (.data _ (qw9 4 m hm1 q zone) rfl rfl ?_)
      conv=>whnf
      repeat'(first|exact ⟨⟩|exact rfl|exact⟨rfl,rfl,.inr rfl,fun _ _=>rfl⟩|exact⟨rfl,rfl,.inl rfl,noI⟩|apply And.intro)
     |false =>
      rw[if_neg (by decide)]
      conv=>whnf
      refine brF rfl ?_
      conv=>whnf
      refine .one (.data _ (jl1 m hh q zone) rfl rfl ?_)
      generalize qs4 m q zone=R
      conv=>whnf
      refine⟨fun g6=>?_,fun g6=>?_⟩
      ·have g6:R.2=0:=by simpa using g6
       rw[if_pos g6]
       conv=>whnf
       repeat'(first|exact ⟨⟩|exact rfl|exact⟨rfl,rfl,.inr rfl,fun _ _=>rfl⟩|exact⟨rfl,rfl,.inl rfl,noI⟩|apply And.intro)
      ·have g6:¬ R.2=0:=by simpa using g6
       rw[if_neg g6]
       conv=>whnf
       repeat'(first|exact ⟨⟩|exact rfl|exact⟨rfl,rfl,.inr rfl,fun _ _=>rfl⟩|exact⟨rfl,rfl,.inl rfl,noI⟩|apply And.intro)
 ·have h1:¬ m.code=0:=by simpa using h1
  rw[if_neg (fun h=>h1 h.1)]
  conv=>whnf
  refine⟨fun g1=>?_,fun g1=>?_⟩
  ·have g1:0<ch.length:=by
    have h:(ch.length:Int) > 0:=of_decide_eq_true g1
    omega
   conv=>whnf
   refine⟨fun g2=>?_,fun g2=>?_⟩
   ·have g2:m.code=0:=by simpa using g2
    rw[if_pos ⟨g1,.inl g2⟩]
    conv=>whnf
    repeat'(first|exact ⟨⟩|exact rfl|exact⟨rfl,rfl,.inr rfl,fun _ _=>rfl⟩|exact⟨rfl,rfl,.inl rfl,noI⟩|apply And.intro)
   ·have g2:¬ m.code=0:=by simpa using g2
    conv=>whnf
    refine⟨fun g3=>?_,fun g3=>?_⟩
    ·have g3:m.code=3:=by simpa using g3
     rw[if_pos ⟨g1,.inr g3⟩]
     conv=>whnf
     repeat'(first|exact ⟨⟩|exact rfl|exact⟨rfl,rfl,.inr rfl,fun _ _=>rfl⟩|exact⟨rfl,rfl,.inl rfl,noI⟩|apply And.intro)
    ·have g3:¬ m.code=3:=by simpa using g3
     rw[if_neg (fun h=>h.2.elim g2 g3)]
     conv=>whnf
     refine .one (.data _ (jv5 m hm1 q zone) rfl rfl ?_)
     cases yf4 m q zone with
     |true =>
      rw[if_pos rfl]
      conv=>whnf
      refine brT rfl ?_
      conv=>whnf
      refine .one (.data _ (qw9 3 m hm1 q zone) rfl rfl ?_)
      conv=>whnf
      repeat'(first|exact ⟨⟩|exact rfl|exact⟨rfl,rfl,.inr rfl,fun _ _=>rfl⟩|exact⟨rfl,rfl,.inl rfl,noI⟩|apply And.intro)
     |false =>
      rw[if_neg (by decide)]
      conv=>whnf
      refine brF rfl ?_
      conv=>whnf
      refine .one (.data _ (jv2 m hm1 hs1 q zone) rfl rfl ?_)
      cases yl9 m q zone with
      |true =>
       rw[if_pos rfl]
       conv=>whnf
       refine brT rfl ?_
       conv=>whnf
       refine .one (.data _ (qw9 4 m hm1 q zone) rfl rfl ?_)
       conv=>whnf
       repeat'(first|exact ⟨⟩|exact rfl|exact⟨rfl,rfl,.inr rfl,fun _ _=>rfl⟩|exact⟨rfl,rfl,.inl rfl,noI⟩|apply And.intro)
      |false =>
       rw[if_neg (by decide)]
       conv=>whnf
       refine brF rfl ?_
       conv=>whnf
       refine .one (.data _ (jl1 m hh q zone) rfl rfl ?_)
       generalize qs4 m q zone=R
       conv=>whnf
       refine⟨fun g6=>?_,fun g6=>?_⟩
       ·have g6:R.2=0:=by simpa using g6
        rw[if_pos g6]
        conv=>whnf
        repeat'(first|exact ⟨⟩|exact rfl|exact⟨rfl,rfl,.inr rfl,fun _ _=>rfl⟩|exact⟨rfl,rfl,.inl rfl,noI⟩|apply And.intro)
       ·have g6:¬ R.2=0:=by simpa using g6
        rw[if_neg g6]
        conv=>whnf
        repeat'(first|exact ⟨⟩|exact rfl|exact⟨rfl,rfl,.inr rfl,fun _ _=>rfl⟩|exact⟨rfl,rfl,.inl rfl,noI⟩|apply And.intro)
  ·have g1:¬ 0<ch.length:=by
    have h:¬ (ch.length:Int) > 0:=of_decide_eq_false g1
    omega
   rw[if_neg (fun h=>g1 h.1)]
   conv=>whnf
   refine .one (.data _ (jv5 m hm1 q zone) rfl rfl ?_)
   cases yf4 m q zone with
   |true =>
    rw[if_pos rfl]
    conv=>whnf
    refine brT rfl ?_
    conv=>whnf
    refine .one (.data _ (qw9 3 m hm1 q zone) rfl rfl ?_)
    conv=>whnf
    repeat'(first|exact ⟨⟩|exact rfl|exact⟨rfl,rfl,.inr rfl,fun _ _=>rfl⟩|exact⟨rfl,rfl,.inl rfl,noI⟩|apply And.intro)
   |false =>
    rw[if_neg (by decide)]
    conv=>whnf
    refine brF rfl ?_
    conv=>whnf
    refine .one (.data _ (jv2 m hm1 hs1 q zone) rfl rfl ?_)
    cases yl9 m q zone with
    |true =>
     rw[if_pos rfl]
     conv=>whnf
     refine brT rfl ?_
     conv=>whnf
     refine .one (.data _ (qw9 4 m hm1 q zone) rfl rfl ?_)
     conv=>whnf
     repeat'(first|exact ⟨⟩|exact rfl|exact⟨rfl,rfl,.inr rfl,fun _ _=>rfl⟩|exact⟨rfl,rfl,.inl rfl,noI⟩|apply And.intro)
    |false =>
     rw[if_neg (by decide)]
     conv=>whnf
     refine brF rfl ?_
     conv=>whnf
     refine .one (.data _ (jl1 m hh q zone) rfl rfl ?_)
     generalize qs4 m q zone=R
     conv=>whnf
     refine⟨fun g6=>?_,fun g6=>?_⟩
     ·have g6:R.2=0:=by simpa using g6
      rw[if_pos g6]
      conv=>whnf
      repeat'(first|exact ⟨⟩|exact rfl|exact⟨rfl,rfl,.inr rfl,fun _ _=>rfl⟩|exact⟨rfl,rfl,.inl rfl,noI⟩|apply And.intro)
     ·have g6:¬ R.2=0:=by simpa using g6
      rw[if_neg g6]
      conv=>whnf
      repeat'(first|exact ⟨⟩|exact rfl|exact⟨rfl,rfl,.inr rfl,fun _ _=>rfl⟩|exact⟨rfl,rfl,.inl rfl,noI⟩|apply And.intro)
section
def msg1(q:Q):Msg:=⟨0,0,false,[q],true,[],true,[],true,[]⟩
theorem qq3(q:Q):((msg1 q).reply 0).bits=32768:=by
 show Go.bits BinOp.or IntKind.u16 (Go.bits BinOp.and IntKind.u16 0 30976) (Go.bits BinOp.or IntKind.u16 32768 (IntKind.u16.wrap (Go.bits BinOp.and IntKind.i64 0 15)))=32768
 kernel_rfl
theorem xz5(q:Q):(msg1 q).op=0:=by
 show(IntKind.i64.wrap (Go.bits BinOp.and IntKind.u16 0 30720)).fdiv (2 ^ 11)=0
 kernel_rfl
theorem xp9:orB 32768 1024=33792:=by kernel_rfl
theorem xd9:orB (orB 32768 1024) 3=33795:=by kernel_rfl
theorem jj7{m:Msg}{b c:Int}(h:m.bits=b)(hc:IntKind.i64.wrap (Go.bits BinOp.and IntKind.u16 b 15)=c):m.code=c:=by
 unfold Msg.code
 rw[h]
 exact hc
theorem kg1:IntKind.i64.wrap (Go.bits BinOp.and IntKind.u16 32768 15)=0:=by kernel_rfl
theorem yr2:IntKind.i64.wrap (Go.bits BinOp.and IntKind.u16 33792 15)=0:=by kernel_rfl
theorem xi9:IntKind.i64.wrap (Go.bits BinOp.and IntKind.u16 33795 15)=3:=by kernel_rfl
theorem yq6(n:List UInt8)(t:Int):(qb2 n t []).2≠0:=by
 intro h
 have:=(find_ok_iff.1 h).2
 exact this rfl
theorem xj1(ty:Int)(n:List UInt8)(k:Nat):qj0 ty [] k n []=([],n):=by
 cases k with
 |zero=>rfl
 |succ k =>
  unfold qj0
  rw[if_pos (.inr (.inr (.inl (yq6 n 5))))]
section
variable{z:Zo}{q:Q}
theorem xl1(hn:qa2 q.nm)(hc:q.cl=1)(hz:z.ok=true)(hw:qa1 q.nm z.apex=true):ansF z (msg1 q)=if (cutQ z q.nm).2=0 then (msg1 q).cutM z (cutQ z q.nm).1 else (msg1 q).tellM z (jo2 z q.ty 8 q.nm []):=by
 show(if ¬ qa2 q.nm then _ else if (msg1 q).op≠0 then _ else if q.cl≠1\/z.ok=false\/qa1 q.nm z.apex=false then _ else _)=_
 rw [if_neg (fun h=>h hn),if_neg (fun h=>h (xz5 q)),if_neg (fun h=>h.elim (fun h=>h hc) (fun h=>h.elim (fun h=>by rw [hz] at h;cases h) (fun h=>by rw [hw] at h;cases h)))]
theorem zb5{n c:List UInt8}(hw:qa1 n c=true):∀ (D:List (List UInt8)) (b:Option (List UInt8)),(b=none\/b=some c)->D≠[]->qr3 n (D.map fun _=>c) b=some c
 |[],_,_,h=>absurd rfl h
 |[d],b,hb,_=>by
  show qr3 n [] (if qa1 n c then _ else _)=some c
  rw[if_pos hw]
  rcases hb with rfl|rfl
  ·rfl
  ·show(if qa5 c<qa5 c then some c else some c)=some c
   split <;> rfl
 |d :: e :: D,b,hb,_=>by
  show qr3 n ((e :: D).map fun _=>c) (if qa1 n c then _ else _)=some c
  refine zb5 hw (e :: D) _ (.inr ?_) (by simp)
  rw[if_pos hw]
  rcases hb with rfl|rfl
  ·rfl
  ·show(if qa5 c<qa5 c then some c else some c)=some c
   split <;> rfl
theorem yc9(hn:qa2 q.nm)(hc:q.cl=1)(hz:z.ok=true)(hw:qa1 q.nm z.apex=true){b:List UInt8}(hb:z.cut q.nm=some b) :
 (qp8 (ansF z (msg1 q)) q z.apex).kind=5/\(qp8 (ansF z (msg1 q)) q z.apex).chain=[]/\fold (qp8 (ansF z (msg1 q)) q z.apex).target=b/\qa2 (qp8 (ansF z (msg1 q)) q z.apex).target/\(qp8 (ansF z (msg1 q)) q z.apex).ans.ok=true:=by
 rcases jn5 hz q.nm with⟨h1,_⟩|⟨c,h1,h2,h3,h4,h5,h6,h7⟩
 ·rw [h1] at hb;cases hb
 rw [hb] at h1
 simp only [Option.some.injEq] at h1
 obtain⟨_,_,_,_,wc,sc,_,_⟩:=Zo.cutL_spec hz h5
 rw[xl1 hn hc hz hw,if_pos h2]
 rw [h7] at h2 h3 ⊢
 obtain⟨k1,k2,k3,_⟩:=qh6 h2 (by decide)
 generalize (qb2 c 2 z.rrs).1=C at h3 k1 k2 k3 ⊢
 obtain⟨p1,p2,p3⟩:=qm8 k1
 rw [h3,k3] at p1
 obtain⟨m1,m2,m3,m4,m5⟩:=(St.ok_iff C).1 k1
 have hall:∀ r ∈ qi1 C,r.ty=2/\r.nm=c/\refP z.apex r=true:=fun r hr=>by
  rw [p2] at hr
  obtain⟨d,hd,rfl⟩:=List.mem_map.1 hr
  refine⟨k3,h3,?_⟩
  have hdep:qp7 c z.apex > 0:=by
   unfold qp7
   rw[if_pos wc]
   have:=qi4 wc sc
   omega
  have hck:(recT C d).check=true:=by
   unfold RR.check recT
   simp[m1,m4 d hd,m2]
  unfold refP
  rw[hck]
  show((C.ty == 2) && ((1:Int) == 1 && (decide (qp7 C.nm z.apex > 0) && true)))=true
  rw[k3,h3,decide_eq_true hdep]
  rfl
 have hcode:((msg1 q).cutM z C).code=0:=jj7 (show((msg1 q).reply 0).bits=_ from qq3 q) kg1
 have hhead:ya7 ((msg1 q).cutM z C) q z.apex=none:=by
  show(qi1 C).find? _=none
  rw[List.find?_eq_none]
  intro r hr
  unfold jd2
  rw[(hall r hr).1]
  exact Bool.false_ne_true
 have hnames:qt2 ((msg1 q).cutM z C) z.apex=C.data.map fun _=>c:=by
  show((qi1 C).filter (refP z.apex)).map (·.nm)=_
  rw[List.filter_eq_self.2 (fun r hr=>(hall r hr).2.2),p2,List.map_map]
  refine List.map_congr_left fun d hd=>?_
  exact h3
 have hdeep:jt9 q.nm (qt2 ((msg1 q).cutM z C) z.apex)=(c,0):=by
  unfold jt9
  rw[if_pos hn,hnames,zb5 h6 C.data none (.inl rfl) p3]
 have href:qs4 ((msg1 q).cutM z C) q z.apex=(⟨C.nm,C.ty,C.ttl,false,C.data⟩,0):=by
  unfold qs4
  rw[if_pos hcode,hdeep,if_pos rfl]
  show qb2 c 2 (qi1 C)=_
  have:=yb8 k1 (n:=c) h3.symm (l:=qi1 C) (by rw[k3];exact p1)
  rw [k3] at this
  rw[this,k3]
 have hcl:qp8 ((msg1 q).cutM z C) q z.apex=⟨5,[],⟨C.nm,C.ty,C.ttl,false,C.data⟩,C.nm,0⟩:=by
  unfold qp8
  rw[show((msg1 q).cutM z C).says=[] from rfl,xj1,hcode]
  rw[if_neg (fun h=>yq6 _ _ h.2),if_neg (fun h=>absurd h.1 (by simp))]
  rw[if_neg (by unfold yf4;rw[hcode];exact Bool.false_ne_true),if_neg (by unfold yl9;rw[hhead];simp),href,if_pos rfl]
 rw[hcl]
 refine⟨rfl,rfl,?_,?_,?_⟩
 ·show fold C.nm=b
  rw[h3,<-h1]
 ·show qa2 C.nm
  rw[h3];exact h4
 ·exact k1
theorem zo5(hz:z.ok=true):∃ r,jj3 z=(r,0)/\r.ty=6/\fold r.nm=fold z.apex/\qa2 r.nm/\qg4 r=true:=by
 have hs:=Zo.ok_sound hz
 unfold qr8 at hs
 simp only [Bool.and_eq_true,List.all_eq_true,beq_iff_eq] at hs
 have hsome:∀ l:List RR,(∃ r ∈ l,r.ty=6)->∃ r ∈ l,jq0 l=some r/\r.ty=6:=by
  intro l
  induction l with
  |nil=>rintro ⟨r,hr,_⟩;cases hr
  |cons a l ih =>
   rintro ⟨r,hr,ht⟩
   unfold jq0
   by_cases ha:a.ty=6
   ·rw[if_pos ha];exact⟨a,by simp,rfl,ha⟩
   ·rw[if_neg ha]
    obtain⟨x,hx,h1,h2⟩:=ih ⟨r,(List.mem_cons.1 hr).resolve_left (fun e=>ha (e ▸ ht)),ht⟩
    exact⟨x,by simp[hx],h1,h2⟩
 have hex:∃ r ∈ z.rrs,r.ty=6:=by
  have h1:0<cntZ qv6 z.rrs (fold z.apex):=by omega
  unfold cntZ at h1
  obtain⟨r,hr⟩:=List.exists_mem_of_length_pos h1
  obtain⟨h2,h3⟩:=List.mem_filter.1 hr
  simp only [Bool.and_eq_true,qv6,beq_iff_eq] at h3
  exact⟨r,h2,h3.2⟩
 obtain⟨r,hr,h1,h2⟩:=hsome z.rrs hex
 have ht:=Zo.ok_take hz hr
 unfold qx7 at ht
 simp only [Bool.and_eq_true,beq_iff_eq] at ht
 refine⟨r,?_,h2,?_,(qb9 ht.2.2.2.2).1,?_⟩
 ·unfold jj3
  rw[if_pos hz,h1]
 ·have hf:=hs.2.2 r hr
  apply Classical.byContradiction
  intro hne
  unfold qg2 at hf
  split at hf
  ·cases hf
  ·rw [if_pos (.inl (zj3 hr (by simp [qv6,h2]) rfl))] at hf
   cases hf
 ·unfold qg4
  rw[ht.2.2.2.1,show(r.cl == 1)=true by simpa using ht.1]
  rfl
theorem xf6(hz:z.ok=true){ty:Int}:∀ (k:Nat) (n:List UInt8),∀ r ∈ (qb4 z ty k n).1.flatMap qi1,r.ty=5
 |0,n,r,hr=>by cases hr
 |k+1,n,r,hr=>by
  unfold qb4 at hr
  by_cases h1:(qb2 n ty z.rrs).2=0
  ·rw [if_pos h1] at hr;cases hr
  ·rw [if_neg h1] at hr
   by_cases h2:(qb2 n 5 z.rrs).2≠0
   ·rw [if_pos h2] at hr;cases hr
   ·have h2':(qb2 n 5 z.rrs).2=0:=Classical.not_not.1 h2
    rw [if_neg h2] at hr
    have hl:∀ r ∈ qi1 (qb2 n 5 z.rrs).1,r.ty=5:=fun r hr=>by
     obtain⟨k1,k2,k3,_⟩:=qh6 h2' (by decide)
     rw [(qm8 k1).2.1] at hr
     obtain⟨d,_,rfl⟩:=List.mem_map.1 hr
     exact k3
    split at hr
    ·simp only [List.flatMap_cons] at hr
     rcases List.mem_append.1 hr with hr|hr
     ·exact hl r hr
     ·exact xf6 hz k _ r hr
    ·simp only [List.flatMap_cons,List.flatMap_nil,List.append_nil] at hr
     exact hl r hr
theorem jo5{ty:Int}{k:Nat}{n:List UInt8}(h:(qb4 z ty (k+1) n).1=[]):(qb4 z ty (k+1) n).2.1=n/\((qb4 z ty (k+1) n).2.2≠.ans->(qb4 z ty (k+1) n).2.2 = .deny):=by
 unfold qb4 at h ⊢
 by_cases h1:(qb2 n ty z.rrs).2=0
 ·rw[if_pos h1]
  exact⟨rfl,fun h=>absurd rfl h⟩
 ·rw [if_neg h1] at h ⊢
  by_cases h2:(qb2 n 5 z.rrs).2≠0
  ·rw[if_pos h2]
   exact⟨rfl,fun _=>rfl⟩
  ·rw [if_neg h2] at h
   split at h <;> cases h
theorem jo6{k:Nat}{n:List UInt8}:(qb4 z 5 (k+1) n).1=[]:=by
 unfold qb4
 by_cases h1:(qb2 n 5 z.rrs).2=0
 ·rw[if_pos h1]
 ·rw[if_neg h1,if_pos h1]
theorem ze3(hz:z.ok=true){ty:Int}{n:List UInt8}(hin:inZ z n=true):qj0 ty (qo9 z ty (qb4 z ty 8 n)) 8 n []=((qb4 z ty 8 n).1,(qb4 z ty 8 n).2.1):=by
 by_cases h5:ty=5
 ·subst h5
  have h1:=@jo6 z 7 n
  rw[h1,(jo5 h1).1]
  show(if (5:Int)=5\/_ then _ else _)=_
  rw[if_pos (.inl rfl)]
 ·rw[yd1 hz h5 (xb4 hz h5 8 n hin) 8 n [] (fun r hr=>hr)]
  rfl
theorem yt6(hz:z.ok=true){ty:Int}{n:List UInt8}(h:(qb4 z ty 8 n).2.2 = .ans):(qb2 (qb4 z ty 8 n).2.1 ty z.rrs).2=0/\qb2 (qb4 z ty 8 n).2.1 ty (qo9 z ty (qb4 z ty 8 n))=((qb2 (qb4 z ty 8 n).2.1 ty z.rrs).1,0):=by
 by_cases h5:ty=5
 ·subst h5
  have h1:=@jo6 z 7 n
  have h2:=(jo5 h1).1
  have hf:(qb2 n 5 z.rrs).2=0:=by
   apply Classical.byContradiction
   intro hf
   have:(qb4 z 5 8 n).2.2 = .deny:=by
    unfold qb4
    rw[if_neg hf,if_pos hf]
   rw [this] at h
   cases h
  rw[h2]
  refine⟨hf,?_⟩
  unfold qo9
  rw[h1,if_pos h,h2,List.flatMap_nil,List.nil_append]
  obtain⟨k1,k2,k3,_⟩:=qh6 hf (by decide)
  have hzf:=xx2 hf
  generalize (qb2 n 5 z.rrs).1=A at k1 k2 k3 hzf ⊢
  have hp:=(qm8 k1).1
  have hfr:=yb8 k1 (n:=A.nm) rfl hp
  rw [k2,k3] at hfr
  rw[hfr,<-k2,<-k3,<-hzf]
 ·exact⟨(yd8 hz h5 8 n h).1,xu9 hz h5 h⟩
theorem yt5(hz:z.ok=true){ty:Int}{n:List UInt8}(h:(qb4 z ty 8 n).2.2≠.ans)(m:List UInt8):(qb2 m ty (qo9 z ty (qb4 z ty 8 n))).2≠0:=by
 have hl:=xf6 hz (ty:=ty) 8 n
 unfold qo9
 rw[if_neg h,List.append_nil]
 by_cases h5:ty=5
 ·subst h5
  rw[@jo6 z 7 n]
  exact yq6 m 5
 ·intro e
  obtain⟨_,hp⟩:=find_ok_iff.1 e
  obtain⟨r,hr⟩:=List.exists_mem_of_ne_nil _ hp
  obtain⟨m1,m2,_⟩:=pick_mem.1 hr
  exact h5 (m2.symm.trans (hl r m1))
theorem zc0(hn:qa2 q.nm)(hc:q.cl=1)(hz:z.ok=true)(hin:inZ z q.nm=true) :
 ((qb4 z q.ty 8 q.nm).2.2 = .ans->qp8 (ansF z (msg1 q)) q z.apex=⟨1,(qb4 z q.ty 8 q.nm).1,(qb2 (qb4 z q.ty 8 q.nm).2.1 q.ty z.rrs).1,(qb4 z q.ty 8 q.nm).2.1,0⟩) /\
 ((qb4 z q.ty 8 q.nm).2.2≠.ans->(qb4 z q.ty 8 q.nm).1≠[]->qp8 (ansF z (msg1 q)) q z.apex=⟨2,(qb4 z q.ty 8 q.nm).1,St.no,(qb4 z q.ty 8 q.nm).2.1,0⟩) /\
 ((qb4 z q.ty 8 q.nm).2.2≠.ans->(qb4 z q.ty 8 q.nm).1=[]->∃ ttl,qp8 (ansF z (msg1 q)) q z.apex=⟨if qi8 z q.nm then 4 else 3,[],St.no,q.nm,ttl⟩):=by
 obtain⟨hw,hcut⟩:=(jj1 hz).1 hin
 have hq0:¬ (cutQ z q.nm).2=0:=fun e=>(zb7 hz q.nm).1 e hcut
 rw[xl1 hn hc hz hw,if_neg hq0,jo1 hz,List.nil_append]
 have hch:=ze3 hz (ty:=q.ty) hin
 have hans:=yt6 hz (ty:=q.ty) (n:=q.nm)
 have hnof:=yt5 hz (ty:=q.ty) (n:=q.nm)
 have hnon:=@jo5 z q.ty 7 q.nm
 have hl0:(qb4 z q.ty 8 q.nm).2.2≠.ans->(qb4 z q.ty 8 q.nm).1=[]->qo9 z q.ty (qb4 z q.ty 8 q.nm)=[]:=fun h1 h2=>by
  unfold qo9
  rw[if_neg h1,h2]
  rfl
 generalize hX:qb4 z q.ty 8 q.nm=x at hch hans hnof hnon hl0 ⊢
 obtain⟨L,e,fin⟩:=x
 generalize hS:qo9 z q.ty (L,e,fin)=S at hch hans hnof hl0 ⊢
 have hcode:∀ o,((msg1 q).tellM z (S,o)).code=0\/((msg1 q).tellM z (S,o)).code=3:=fun o=>by
  cases o with
  |none=>exact .inl (jj7 (show orB ((msg1 q).reply 0).bits 1024=33792 by rw[qq3];exact xp9) yr2)
  |some m =>
   cases he:qh2 z m with
   |true=>exact .inl (jj7 (show(if qh2 z m then orB ((msg1 q).reply 0).bits 1024 else _)=33792 by rw[he,if_pos rfl,qq3];exact xp9) yr2)
   |false=>exact .inr (jj7 (show(if qh2 z m then orB ((msg1 q).reply 0).bits 1024 else orB (orB ((msg1 q).reply 0).bits 1024) 3)=33795 by rw[he,if_neg (by decide),qq3];exact xd9) xi9)
 have hsays:∀ o,((msg1 q).tellM z (S,o)).says=S:=fun o=>by cases o <;> rfl
 refine⟨fun h=>?_,fun h hL=>?_,fun h hL=>?_⟩
 ·have h:fin = .ans:=h
  subst h
  obtain⟨_,ha⟩:=hans rfl
  rw[show(if (L,e,Fin3.ans).2.2=Fin3.deny then some (L,e,Fin3.ans).2.1 else none)=none from rfl]
  have hc0:((msg1 q).tellM z (S,none)).code=0:=jj7 (show orB ((msg1 q).reply 0).bits 1024=33792 by rw[qq3];exact xp9) yr2
  unfold qp8
  rw[hsays,hch,hc0]
  simp only
  rw[ha,if_pos ⟨trivial,rfl⟩]
 ·have hc0:=hcode (if fin=Fin3.deny then some e else none)
  unfold qp8
  rw[hsays,hch]
  simp only
  have hL:0<L.length:=List.length_pos_iff.2 hL
  rw[if_neg (fun k=>hnof h e k.2),if_pos ⟨hL,hc0⟩]
 ·have hL:L=[]:=hL
  obtain⟨p1,p2⟩:=hnon hL
  have n1:e=q.nm:=p1
  have n2:fin = .deny:=p2 h
  clear p1 p2
  have hS0:=hl0 h hL
  subst hL n1 n2 hS0
  rw[show(if (([]:List St),q.nm,Fin3.deny).2.2=Fin3.deny then some (([]:List St),q.nm,Fin3.deny).2.1 else none)=some q.nm from rfl]
  obtain⟨r,s1,s2,s3,s4,s5⟩:=zo5 hz
  have hdn:jj6 z=[r]:=by unfold jj6;rw[s1];rfl
  have hheads:((msg1 q).tellM z ([],some q.nm)).heads=[r]:=hdn
  have hhead:ya7 ((msg1 q).tellM z ([],some q.nm)) q z.apex=some r:=by
   unfold ya7
   rw[hheads,List.find?_cons]
   have:jd2 q z.apex r=true:=by
    unfold jd2
    have han:=Zo.ok_name hz
    rw[s2,show qa1 r.nm z.apex=true by rw[qo6 s4 han s3];exact qt7 han,show qa1 q.nm r.nm=true by rw[jk2 s4 han s3];exact hw,s5]
    rfl
   rw[this]
  have hex:qh2 z q.nm=qi8 z q.nm:=by unfold qh2;rw[hz];rfl
  refine⟨(ttlA ((msg1 q).tellM z ([],some q.nm)) q z.apex).1,?_⟩
  unfold qp8
  rw[hsays,hch]
  simp only
  rw[if_neg (fun k=>hnof h _ k.2),if_neg (fun k=>absurd k.1 (by simp))]
  cases he:qi8 z q.nm with
  |true =>
   have hc0:((msg1 q).tellM z ([],some q.nm)).code=0:=jj7 (show(if qh2 z q.nm then orB ((msg1 q).reply 0).bits 1024 else _)=33792 by rw[hex,he,if_pos rfl,qq3];exact xp9) yr2
   rw[if_neg (by unfold yf4;rw[hc0];exact Bool.false_ne_true),if_pos (by unfold yl9;rw[hc0,hhead,hsays];rfl)]
   rfl
  |false =>
   have hc0:((msg1 q).tellM z ([],some q.nm)).code=3:=jj7 (show(if qh2 z q.nm then orB ((msg1 q).reply 0).bits 1024 else orB (orB ((msg1 q).reply 0).bits 1024) 3)=33795 by rw[hex,he,if_neg (by decide),qq3];exact xd9) xi9
   rw[if_pos (by unfold yf4;rw[hc0,hhead];rfl)]
   rfl
end
end
section
theorem jp0{s:St}(h:s.ok=true):(qi1 s).length<=64/\∀ r ∈ qi1 s,r.nm.length<=255/\r.d.length<=4096:=by
 obtain⟨k1,k2,k3,k4,k5⟩:=(St.ok_iff s).1 h
 rw[(qm8 h).2.1]
 refine⟨by rw[List.length_map];exact k3.2,fun r hr=>?_⟩
 obtain⟨d,hd,rfl⟩:=List.mem_map.1 hr
 refine⟨k1.2.1,?_⟩
 have:=k4 d hd
 unfold qm2 at this
 simp only [Bool.and_eq_true,decide_eq_true_eq] at this
 exact this.1
theorem xe7{d:List UInt8}(h:qm2 5 d=true):qa2 d:=by
 unfold qm2 at h
 rw [Bool.and_eq_true] at h
 have h2:(cutF 0 1 0 d).isSome=true:=h.2
 unfold cutF at h2
 rw [if_neg (by omega),Nat.mul_zero,List.drop_zero] at h2
 have e:qw3 1 d=if qj7 d=0 then none else some ([d.take (qj7 d)],d.drop (qj7 d)):=rfl
 rw [e] at h2
 split at h2
 ·cases h2
 ·rename_i h0
  have h3:(if (d.drop (qj7 d)).length=4 * 0 then some (d.take 0,[d.take (qj7 d)],d.drop (qj7 d)) else none).isSome=true:=h2
  split at h3
  ·rename_i hl
   have hn:=zh9 d 256 0 h0
   have ht:d.take (qj7 d)=d:=List.take_of_length_le (by rw [List.length_drop] at hl;omega)
   have hn:qa2 (d.take (qj7 d)):=hn
   rw [ht] at hn
   exact hn
  ·cases h3
section
variable{z:Zo}
theorem ym4(hz:z.ok=true){ty:Int}:∀ (k:Nat) (n:List UInt8),(qb4 z ty k n).1.length<=k/\(∀ s ∈ (qb4 z ty k n).1,s.ok=true)/\(qa2 n->qa2 (qb4 z ty k n).2.1)
 |0,n=>⟨Nat.zero_le _,fun s hs=>(by cases hs),fun h=>h⟩
 |k+1,n=>by
  unfold qb4
  by_cases h1:(qb2 n ty z.rrs).2=0
  ·rw[if_pos h1]
   exact⟨Nat.zero_le _,fun s hs=>(by cases hs),fun h=>h⟩
  ·rw[if_neg h1]
   by_cases h2:(qb2 n 5 z.rrs).2≠0
   ·rw[if_pos h2]
    exact⟨Nat.zero_le _,fun s hs=>(by cases hs),fun h=>h⟩
   ·have h2':(qb2 n 5 z.rrs).2=0:=Classical.not_not.1 h2
    rw[if_neg h2]
    obtain⟨k1,k2,k3,k4⟩:=qh6 h2' (by decide)
    have hnm:qa2 ((qb2 n 5 z.rrs).1.data.headD []):=by
     obtain⟨m1,m2,m3,m4,m5⟩:=(St.ok_iff _).1 k1
     cases hd:(qb2 n 5 z.rrs).1.data with
     |nil=>rw [hd] at m3;exact absurd m3.1 (Nat.lt_irrefl 0)
     |cons a b =>
      have:=m4 a (by rw[hd];simp)
      rw [k3] at this
      exact xe7 this
    obtain⟨g1,g2,g3⟩:=ym4 hz (ty:=ty) k ((qb2 n 5 z.rrs).1.data.headD [])
    split
    ·refine⟨Nat.succ_le_succ g1,fun s hs=>?_,fun _=>g3 hnm⟩
     rcases List.mem_cons.1 hs with rfl|hs
     ·exact k1
     ·exact g2 s hs
    ·exact⟨Nat.succ_le_succ (Nat.zero_le _),fun s hs=>by rw[List.mem_singleton.1 hs];exact k1,fun _=>hnm⟩
theorem zg8(l:List St)(h:∀ s ∈ l,s.ok=true):(l.flatMap qi1).length<=l.length * 64/\∀ r ∈ l.flatMap qi1,r.nm.length<=255/\r.d.length<=4096:=by
 induction l with
 |nil=>exact⟨Nat.zero_le _,fun r hr=>by cases hr⟩
 |cons s l ih =>
  obtain⟨i1,i2⟩:=ih (fun x hx=>h x (by simp[hx]))
  obtain⟨r1,r2⟩:=jp0 (h s (by simp))
  rw[List.flatMap_cons]
  refine⟨by rw[List.length_append,List.length_cons];omega,fun r hr=>?_⟩
  rcases List.mem_append.1 hr with hr|hr
  ·exact r2 r hr
  ·exact i2 r hr
theorem zt0(hz:z.ok=true)(ty:Int)(n:List UInt8):ye7 (qo9 z ty (qb4 z ty 8 n)):=by
 obtain⟨g1,g2,g3⟩:=ym4 hz (ty:=ty) 8 n
 obtain⟨l1,l2⟩:=zg8 _ g2
 have hr:ye7 (if (qb4 z ty 8 n).2.2 = .ans then qi1 (qb2 (qb4 z ty 8 n).2.1 ty z.rrs).1 else [])/\(if (qb4 z ty 8 n).2.2 = .ans then qi1 (qb2 (qb4 z ty 8 n).2.1 ty z.rrs).1 else []).length<=64:=by
  split
  ·by_cases hk:((qb2 (qb4 z ty 8 n).2.1 ty z.rrs).1).ok=true
   ·obtain⟨r1,r2⟩:=jp0 hk
    exact⟨⟨by omega,fun r hr=>by have:=r2 r hr;omega⟩,r1⟩
   ·have e:qi1 (qb2 (qb4 z ty 8 n).2.1 ty z.rrs).1=[]:=by unfold qi1;rw[if_neg hk]
    rw[e]
    exact⟨⟨Nat.zero_le _,fun r hr=>by cases hr⟩,Nat.zero_le _⟩
  ·exact⟨⟨Nat.zero_le _,fun r hr=>by cases hr⟩,Nat.zero_le _⟩
 unfold qo9
 obtain⟨⟨_,h2⟩,h3⟩:=hr
 refine⟨by rw[List.length_append];omega,fun r hr=>?_⟩
 rcases List.mem_append.1 hr with hr|hr
 ·have:=l2 r hr;omega
 ·exact h2 r hr
theorem zv3(hz:z.ok=true):ye7 (jj6 z):=by
 obtain⟨r,s1,s2,s3,s4,s5⟩:=zo5 hz
 have hdn:jj6 z=[r]:=by unfold jj6;rw[s1];rfl
 rw[hdn]
 refine⟨by simp,fun x hx=>?_⟩
 rw[List.mem_singleton.1 hx]
 unfold qg4 RR.check qm2 at s5
 simp only [Bool.and_eq_true,decide_eq_true_eq] at s5
 have h1:=s4.2.1
 have h2:=s5.2.1.2.1
 omega
theorem zc6{q:Q}(hn:qa2 q.nm)(hc:q.cl=1)(hz:z.ok=true)(hw:qa1 q.nm z.apex=true):ye7 (ansF z (msg1 q)).says/\ye7 (ansF z (msg1 q)).heads:=by
 have hnil:ye7 []:=⟨Nat.zero_le _,fun r hr=>by cases hr⟩
 rw[xl1 hn hc hz hw]
 split
 ·rename_i h
  refine⟨hnil,?_⟩
  rcases jn5 hz q.nm with⟨_,h1,_⟩|⟨c,h1,h2,h3,h4,h5,h6,h7⟩
  ·rw [h1] at h;cases h
  ·rw [h7] at h2 ⊢
   obtain⟨r1,r2⟩:=jp0 (qh6 h2 (by decide)).1
   show ye7 (qi1 _)
   exact⟨by omega,fun r hr=>by have:=r2 r hr;omega⟩
 ·rw[jo1 hz,List.nil_append]
  have hs:=zt0 hz q.ty q.nm
  split
  ·exact⟨hs,zv3 hz⟩
  ·exact⟨hs,hnil⟩
end
end
theorem others_mem{zs:List Zo}{i:Nat}{a:List UInt8}:a ∈ qh0 zs i↔∃ j z,j≠i/\zs[j]? = some z/\z.apex=a:=by
 unfold qh0
 rw[List.mem_map]
 constructor
 ·rintro ⟨z,hz,e⟩
  rcases List.mem_append.1 hz with hz|hz
  ·obtain⟨j,hj⟩:=List.mem_iff_getElem?.1 hz
   rw [List.getElem?_take] at hj
   split at hj
   ·exact⟨j,z,by omega,hj,e⟩
   ·cases hj
  ·obtain⟨j,hj⟩:=List.mem_iff_getElem?.1 hz
   rw [List.getElem?_drop] at hj
   exact⟨i+1+j,z,by omega,hj,e⟩
 ·rintro ⟨j,z,hji,hj,e⟩
  refine⟨z,List.mem_append.2 ?_,e⟩
  rcases Nat.lt_or_ge j i with h|h
  ·left
   exact List.mem_iff_getElem?.2 ⟨j,by rw[List.getElem?_take,if_pos h];exact hj⟩
  ·right
   exact List.mem_iff_getElem?.2 ⟨j - (i+1),by rw[List.getElem?_drop,show i+1+(j - (i+1))=j by omega];exact hj⟩
theorem qz6{n:List UInt8}:∀ {l:List (List UInt8)} {b:Option (List UInt8)} {a:List UInt8},qr3 n l b=some a->(∀ y,b=some y->qa1 n y=true) ->
 qa1 n a=true/\(∀ c ∈ l,qa1 n c=true->qa5 c<=qa5 a)/\∀ y,b=some y->qa5 y<=qa5 a
 |[],b,a,h,hb=>by
  have h:b=some a:=h
  refine⟨hb a h,fun c hc=>(by cases hc),fun y hy=>?_⟩
  rw [h] at hy
  cases hy
  exact Nat.le_refl _
 |c :: l,b,a,h,hb=>by
  have h:qr3 n l (yk0 n c b)=some a:=h
  unfold yk0 at h
  cases hw:qa1 n c with
  |false =>
   rw [hw,if_neg (by decide)] at h
   obtain⟨h1,h2,h3⟩:=qz6 h hb
   refine⟨h1,fun x hx hxw=>?_,h3⟩
   rcases List.mem_cons.1 hx with rfl|hx
   ·rw [hw] at hxw;cases hxw
   ·exact h2 x hx hxw
  |true =>
   rw [hw,if_pos rfl] at h
   cases b with
   |none =>
    obtain⟨h1,h2,h3⟩:=qz6 h (fun y hy=>by cases hy;exact hw)
    refine⟨h1,fun x hx hxw=>?_,fun y hy=>by cases hy⟩
    rcases List.mem_cons.1 hx with rfl|hx
    ·exact h3 _ rfl
    ·exact h2 x hx hxw
   |some y =>
    simp only at h
    split at h
    ·rename_i hlt
     obtain⟨h1,h2,h3⟩:=qz6 h (fun y hy=>by cases hy;exact hw)
     refine⟨h1,fun x hx hxw=>?_,fun y' hy=>?_⟩
     ·rcases List.mem_cons.1 hx with rfl|hx
      ·exact h3 _ rfl
      ·exact h2 x hx hxw
     ·cases hy
      exact Nat.le_trans (Nat.le_of_lt hlt) (h3 _ rfl)
    ·rename_i hlt
     obtain⟨h1,h2,h3⟩:=qz6 h hb
     refine⟨h1,fun x hx hxw=>?_,h3⟩
     rcases List.mem_cons.1 hx with rfl|hx
     ·exact Nat.le_trans (Nat.le_of_not_lt hlt) (h3 _ rfl)
     ·exact h2 x hx hxw
theorem Fo.good{f:Fo}(h:f.ok=true):Good f.zones:=by
 obtain⟨⟨h1,h2,_⟩,hz,ho,hr,hh,_⟩:=Fo.parts h
 refine⟨hz,fun i j a b hi hj e=>zk0 ho hi hj e,fun z h0=>?_,fun i z hi hne=>?_⟩
 ·have:f.zones.getD 0 default=z:=by rw[List.getD_eq_getElem?_getD,h0];rfl
  rw[<-this];exact hr
 ·have hil:=(List.getElem?_eq_some_iff.1 hi).1
  have hzd:f.zones.getD i default=z:=by rw[List.getD_eq_getElem?_getD,hi];rfl
  unfold zv6 at hh
  rw [List.all_eq_true] at hh
  have hi':=hh i (List.mem_range.2 hil)
  rw [Bool.or_eq_true] at hi'
  have hi':=hi'.resolve_left (by simpa using hne)
  rw [hzd] at hi'
  have e1:zd1 f.zones i z.apex=match qr3 z.apex (qh0 f.zones i) none with
   |none=>none
   |some a=>qg6 f.zones (fold a):=rfl
  rw [e1] at hi'
  cases hd:qr3 z.apex (qh0 f.zones i) none with
  |none=>rw [hd] at hi';cases hi'
  |some a0 =>
   rw [hd] at hi'
   simp only at hi'
   cases hp:qg6 f.zones (fold a0) with
   |none=>rw [hp] at hi';cases hi'
   |some a =>
    rw [hp] at hi'
    simp only at hi'
    obtain⟨w,mx,_⟩:=qz6 hd (fun y hy=>by cases hy)
    obtain⟨za,hza,eza⟩:=qo1 hp
    have hzad:f.zones.getD a default=za:=by rw[List.getD_eq_getElem?_getD,hza];rfl
    rw [hzad,List.any_eq_true] at hi'
    obtain⟨c,hc,ec⟩:=hi'
    have ec:fold c=fold z.apex:=by simpa using ec
    have hm:=(jn4 hd).resolve_right (fun e=>by cases e)
    obtain⟨j,zj,hji,hj,ej⟩:=others_mem.1 hm
    have haj:a=j:=zk0 ho hza hj (by rw[eza,ej])
    have hna:=Zo.ok_name (hz za (List.mem_of_getElem? hza))
    refine⟨a,za,c,hza,by rw[haj];exact hji,hc,ec,qe7 hna eza w,fun j' zj' hj'i hj' hw'=>?_⟩
    have:=mx zj'.apex (others_mem.2 ⟨j',zj',hj'i,hj',rfl⟩) hw'
    rw[jg5 hna (qb9 w).2 eza]
    exact this
theorem yg3{f:Fo}(h:f.ok=true){n:List UInt8}(hn:qa2 n) :
 (∃ (a:Nat) (z:Zo),jv9 f n=(a,0)/\qo4 f.zones n 300 0=some a/\f.zones[a]? = some z/\qa1 n z.apex=true/\z.cut n=none) \/
 (jv9 f n=(0,12)/\qo4 f.zones n 300 0=none/\∀ (i:Nat) (z:Zo),f.zones[i]? = some z->qa1 n z.apex=true->z.cut n≠none):=by
 obtain⟨⟨h1,h2,_⟩,hz,ho,hr,hh,_⟩:=Fo.parts h
 have hz0:f.zones[0]? = some (f.zones.getD 0 default):=by rw[List.getD_eq_getElem?_getD,List.getElem?_eq_getElem h1];rfl
 have hw0:=qu3 (Zo.ok_name (hz _ (List.mem_of_getElem? hz0))) hr hn
 have hc:qa5 n<300+qa5 (f.zones.getD 0 default).apex:=by have:=@qv1 n;omega
 have e:jv9 f n=(match qo4 f.zones n 300 0 with
  |none=>(0,12)
  |some a=>(a,0)):=by unfold jv9 yf9;rw[if_pos h,if_pos hn];cases qo4 f.zones n 300 0 <;> rfl
 rw[e]
 cases hd:qo4 f.zones n 300 0 with
 |some a =>
  obtain⟨z,h3,h4,h5⟩:=(yc4 hz 300 0 _ hz0 hw0 hc).2 a hd
  exact .inl ⟨a,z,rfl,rfl,h3,h4,h5⟩
 |none =>
  obtain⟨j,zj,b,h3,h4,h5,h6⟩:=zb4 hz 300 0 _ hz0 hw0 hc hd
  exact .inr ⟨rfl,rfl,fun i z hi hw=>(Fo.good h).lost h3 h4 h5 h6 hi hw⟩
theorem zy5{f:Fo}(h:f.ok=true){n:List UInt8}{i:Nat}{z:Zo}(hi:f.zones[i]? = some z)(hw:qa1 n z.apex=true)(hc:z.cut n=none):jv9 f n=(i,0)/\qo4 f.zones n 300 0=some i:=by
 have hn:=(qb9 hw).1
 rcases yg3 h hn with⟨a,za,e1,e2,e3,e4,e5⟩|⟨_,_,e3⟩
 ·have:a=i:=by
   apply Classical.byContradiction
   intro hne
   exact(Fo.good h).others hi hw hc e3 e4 hne e5
  subst this
  exact⟨e1,e2⟩
 ·exact absurd hc (e3 i z hi hw)
theorem ys8{f:Fo}(h:f.ok=true){n:List UInt8}{i:Nat}{z:Zo}(hi:f.zones[i]? = some z)(hw:qa1 n z.apex=true){b:List UInt8}(hb:z.cut n=some b)(hp:qg6 f.zones b=none):jv9 f n=(0,12)/\qo4 f.zones n 300 0=none:=by
 have hn:=(qb9 hw).1
 rcases yg3 h hn with⟨a,za,e1,e2,e3,e4,e5⟩|⟨e1,e2,_⟩
 ·exact absurd e5 ((Fo.good h).lost hi hw hb hp e3 e4)
 ·exact⟨e1,e2⟩
theorem zx0{z:Zo}(hz:z.ok=true){n x b:List UInt8}(hw:qa1 n x=true)(hb:z.cut x=some b):z.cut n=some b:=by
 obtain⟨⟨c0,k1,k2,k3⟩,k4⟩:=qk1 hb
 obtain⟨_,_,_,_,_,_,n0,_⟩:=z.cutL_spec hz k1
 have hwn:=ql2 hw k3
 cases hc:z.cut n with
 |none =>
  have:=topCut_none.1 hc c0 k1
  rw [this] at hwn
  cases hwn
 |some b' =>
  obtain⟨⟨c1,m1,m2,m3⟩,m4⟩:=qk1 hc
  obtain⟨_,_,_,_,_,_,n1,_⟩:=z.cutL_spec hz m1
  have hle:=m4 c0 k1 hwn
  rw [<-m2,qf8 n1] at hle
  have he:=yk2 hz m1 k1 (qy3 m3 hwn hle)
  rw[<-m2,<-he,k2]
def eqF(t u:Int)(a b:List (List UInt8)):Bool:=a.map (qf6 t) == b.map (qf6 u)
def ja6(a b:St):Bool:=a.ok && (b.ok && (ql1 a.nm b.nm && (a.ty == b.ty && eqF a.ty b.ty a.data b.data)))
set_option maxHeartbeats 8000000 in
theorem ze4(a b:St):FnOk Tryz.prog 21 [a.V,b.V] (.d (.bool (ja6 a b))):=by
 refine qa3 (TT:=TT) (IN:=qd0 [(52,Tryz.f52,3),(53,Tryz.f53,4)]) qd2 (qb8 (qb8 qa7 Tryz.func53 (by kernel_rfl) (by kernel_rfl)) Tryz.func52 (by kernel_rfl) (by kernel_rfl)) mixed 1000 Tryz.func21 rfl (qb7 Tryz.func21 (by kernel_rfl) rfl) rfl 32 (by kernel_rfl) ?_
 conv=>whnf
 refine .one (.data _ (jk5 a.nm a.ty a.ttl a.z a.data) rfl rfl ?_)
 rw[show qs7 a.nm a.ty a.ttl a.data=a.ok from rfl]
 cases hok:a.ok with
 |false =>
  rw[show ja6 a b=false by unfold ja6;rw[hok];rfl]
  conv=>whnf
  repeat(first|(refine brT rfl ?_;conv=>whnf))
  try exact rfl
 |true =>
  conv=>whnf
  refine brF rfl ?_
  conv=>whnf
  refine .one (.data _ (jk5 b.nm b.ty b.ttl b.z b.data) rfl rfl ?_)
  rw[show qs7 b.nm b.ty b.ttl b.data=b.ok from rfl]
  cases hok2:b.ok with
  |false =>
   rw[show ja6 a b=false by unfold ja6;rw[hok,hok2];rfl]
   conv=>whnf
   repeat(first|(refine brT rfl ?_;conv=>whnf))
   try exact rfl
  |true =>
   conv=>whnf
   refine brF rfl ?_
   conv=>whnf
   refine .one (.data _ (jg0 a.nm b.nm) rfl rfl ?_)
   conv=>whnf
   cases hs:ql1 a.nm b.nm with
   |false =>
    rw[show ja6 a b=false by unfold ja6;rw[hok,hok2,hs];rfl]
    repeat(first|(refine brT rfl ?_;conv=>whnf))
    try exact rfl
   |true =>
    refine brF rfl ?_
    conv=>whnf
    cases ht:a.ty == b.ty with
    |false =>
     rw[show ja6 a b=false by unfold ja6;rw[hok,hok2,hs,ht];rfl]
     refine brT (by show(!(a.ty == b.ty))=true;rw[ht];rfl) ?_
     conv=>whnf
     try exact rfl
    |true =>
     rw[show ja6 a b=eqF a.ty b.ty a.data b.data by unfold ja6;rw[hok,hok2,hs,ht];rfl]
     have h64:a.data.length<=64:=by
      unfold St.ok qs7 at hok
      simp only [Bool.and_eq_true,decide_eq_true_eq] at hok
      exact hok.1.2.2
     refine brF (by show(!(a.ty == b.ty))=false;rw[ht];rfl) ?_
     conv=>whnf
     refine⟨fun h1=>?_,fun h1=>?_⟩
     ·have h:a.data.length≠b.data.length:=by intro e;rw [e] at h1;simp at h1
      rw[show eqF a.ty b.ty a.data b.data=false from zz6 (by simpa using h)]
      conv=>whnf
      try exact rfl
     have hl:a.data.length=b.data.length:=by simp at h1;omega
     conv=>whnf
     refine .inv Nat (fun i=>i<=a.data.length/\eqF a.ty b.ty (a.data.drop i) (b.data.drop i)=eqF a.ty b.ty a.data b.data) (fun i=>[(17,iV i)]) (fun _=>[]) (fun i=>a.data.length - i) ⟨0,[0,1],⟨Nat.zero_le _,rfl⟩,?_⟩ ?_
     ·conv=>whnf
      repeat'(first|exact ⟨⟩|exact rfl|exact fun _=>Iff.rfl|exact fun _ _=>rfl|exact renM_ent rfl _|apply And.intro)
     rintro i ⟨hi,hrest⟩
     conv=>whnf
     refine⟨fun c5=>?_,fun c5=>?_⟩
     ·have c5':i<a.data.length:=(by have h:(i:Int)<a.data.length:=of_decide_eq_true c5;omega)
      obtain⟨q,hq⟩:∃ q,a.data[i]?.getD []=q:=⟨_,rfl⟩
      obtain⟨r,hr⟩:∃ r,b.data[i]?.getD []=r:=⟨_,rfl⟩
      have hda:a.data.drop i=q :: a.data.drop (i+1):=by
       rw[List.drop_eq_getElem_cons c5',<-hq,List.getElem?_eq_getElem c5']
       rfl
      have hdb:b.data.drop i=r :: b.data.drop (i+1):=by
       rw[List.drop_eq_getElem_cons (by omega),<-hr,List.getElem?_eq_getElem (by omega)]
       rfl
      have hst:(qf6 a.ty q == qf6 b.ty r && eqF a.ty b.ty (a.data.drop (i+1)) (b.data.drop (i+1)))=eqF a.ty b.ty a.data b.data:=by rw[<-hrest,hda,hdb];rfl
      have hw1:IntKind.i64.wrap ((i:Int)+1)=((i+1:Nat):Int):=by rw[qa4 _ (by omega)];omega
      conv=>whnf
      refine⟨by omega,?_⟩
      conv=>whnf
      refine⟨by omega,?_⟩
      conv=>whnf
      rw[Int.toNat_natCast,hq,hr]
      refine .data _ (jk8 a.ty q) rfl rfl ?_
      conv=>whnf
      refine .data _ (jk8 b.ty r) rfl rfl ?_
      conv=>whnf
      cases he:qf6 a.ty q == qf6 b.ty r
      ·rw [he,Bool.false_and] at hst
       rw[<-hst]
       refine brT rfl ?_
       conv=>whnf
       try exact rfl
      ·rw [he,Bool.true_and] at hst
       refine brF rfl ?_
       conv=>whnf
       rw[hw1]
       refine⟨i+1,[0,1],⟨c5',hst⟩,by omega,?_⟩
       conv=>whnf
       repeat'(first|exact ⟨⟩|exact rfl|exact fun _=>Iff.rfl|exact fun _ _=>rfl|exact renM_ent rfl _|apply And.intro)
     have hia:i=a.data.length:=(by have h:¬ (i:Int)<a.data.length:=of_decide_eq_false c5;omega)
     rw [List.drop_of_length_le (by omega),List.drop_of_length_le (by omega)] at hrest
     rw[<-hrest]
     conv=>whnf
     exact rfl
def yu8(l m:List St)(i:Nat):Bool:=(List.range i).all fun j=>ja6 (l.getD j default) (m.getD j default)
def zs6(l m:List St):Bool:=l.length == m.length && yu8 l m l.length
theorem zs7(l m:List St)(i:Nat):yu8 l m (i+1)=(yu8 l m i && ja6 (l.getD i default) (m.getD i default)):=by
 unfold yu8
 rw[List.range_succ,List.all_append]
 simp
theorem xb1{l m:List St}{i:Nat}(hi:i<l.length)(h:ja6 (l.getD i default) (m.getD i default)=false):yu8 l m l.length=false:=by
 unfold yu8
 rw[List.all_eq_false]
 exact⟨i,List.mem_range.2 hi,by rw[h];decide⟩
set_option maxHeartbeats 8000000 in
theorem xi0(y z:Bool)(l m:List St)(hl:l.length<=100000):FnOk Tryz.prog 55 [.d (stsD y l),.d (stsD z m),.fn 21 []] (.d (.bool (zs6 l m))):=by
 refine qa3 (TT:=TT) (IN:=qd0 []) qd2 qa7 mixed 1000 Tryz.func55 rfl (qb7 Tryz.func55 (by kernel_rfl) rfl) rfl 29 (by kernel_rfl) ?_
 unfold zs6
 conv=>whnf
 by_cases hlen:l.length=m.length
 case neg =>
  rw[show(l.length == m.length)=false by simpa using hlen,Bool.false_and]
  refine brT (by rw[bne_iff_ne];omega) ?_
  conv=>whnf
  all_goals exact rfl
 rw[show(l.length == m.length)=true by simpa using hlen,Bool.true_and]
 refine brF (by rw[bne_eq_false_iff_eq];omega) ?_
 conv=>whnf
 refine .inv Nat (fun i=>i<=l.length/\yu8 l m i=true) (fun i=>[(17,iV i)]) (fun _=>[]) (fun i=>l.length - i) ⟨0,[],⟨Nat.zero_le _,rfl⟩,?_⟩ ?_
 ·conv=>whnf
  repeat'(first|exact ⟨⟩|exact rfl|exact qa0 _|exact .inr rfl|exact fun _ _=>rfl|exact noI|apply And.intro)
 intro i hi
 obtain⟨hi,hti⟩:=hi
 conv=>whnf
 refine⟨fun h1=>?_,fun h1=>?_⟩
 ·have h1:i<l.length:=by
   have h:(i:Int)<l.length:=of_decide_eq_true h1
   omega
  have hw1:IntKind.i64.wrap ((i:Int)+1)=((i+1:Nat):Int):=by rw[qa4 _ (by omega)];omega
  have hnx:=zs7 l m i
  rw [hti,Bool.true_and] at hnx
  have hbad:=xb1 (m:=m) h1
  conv=>whnf
  refine⟨by omega,?_⟩
  conv=>whnf
  refine⟨by omega,?_⟩
  conv=>whnf
  rw[Int.toNat_natCast]
  generalize l.getD i default=a at hnx hbad ⊢
  generalize m.getD i default=b at hnx hbad ⊢
  refine .one (.data _ (ze4 a b) rfl rfl ?_)
  cases hs:ja6 a b with
  |false =>
   rw[hbad hs]
   conv=>whnf
   refine brT rfl ?_
   conv=>whnf
   all_goals exact rfl
  |true =>
   conv=>whnf
   refine brF rfl ?_
   conv=>whnf
   rw[hw1]
   refine⟨i+1,[],⟨h1,by rw[hnx,hs]⟩,by omega,?_⟩
   conv=>whnf
   repeat'(first|exact ⟨⟩|exact rfl|exact qa0 _|exact .inr rfl|exact fun _ _=>rfl|exact noI|apply And.intro)
 ·have h1:i=l.length:=by
   have h:¬ (i:Int)<l.length:=of_decide_eq_false h1
   omega
  subst h1
  conv=>whnf
  rw[hti]
  all_goals exact rfl
def qs3(a b:Ver):Bool:=a.code == b.code && (zs6 a.chain b.chain && (if a.ans.data.length=0/\b.ans.data.length=0 then true else ja6 a.ans b.ans))
set_option maxHeartbeats 8000000 in
theorem yp9(a b:Ver)(hl:a.chain.length<=100000):FnOk Tryz.prog 22 [a.V,b.V] (.d (.bool (qs3 a b))):=by
 refine qa3 (TT:=TT) (IN:=qd0 []) qd2 qa7 mixed 1000 Tryz.func22 rfl (qb7 Tryz.func22 (by kernel_rfl) rfl) rfl 33 (by kernel_rfl) ?_
 conv=>whnf
 refine⟨fun h1=>?_,fun h1=>?_⟩
 ·have h1:(a.code == b.code)=false:=by simpa using h1
  rw[show qs3 a b=false by unfold qs3;rw[h1];rfl]
  conv=>whnf
  all_goals exact rfl
 have h1:(a.code == b.code)=true:=by simpa using h1
 conv=>whnf
 refine .one (.data _ (xi0 a.chain.isEmpty b.chain.isEmpty a.chain b.chain hl) rfl rfl ?_)
 cases h2:zs6 a.chain b.chain with
 |false =>
  rw[show qs3 a b=false by unfold qs3;rw[h1,h2];rfl]
  conv=>whnf
  refine brT rfl ?_
  conv=>whnf
  all_goals exact rfl
 |true =>
  have hs:qs3 a b=if a.ans.data.length=0/\b.ans.data.length=0 then true else ja6 a.ans b.ans:=by unfold qs3;rw[h1,h2];rfl
  rw[hs]
  conv=>whnf
  refine brF rfl ?_
  conv=>whnf
  refine⟨fun h3=>?_,fun h3=>?_⟩
  ·have h3:a.ans.data.length=0:=by
    have h:(a.ans.data.length:Int)=0:=by simpa using h3
    omega
   conv=>whnf
   refine⟨fun h4=>?_,fun h4=>?_⟩
   ·have h4:b.ans.data.length=0:=by
     have h:(b.ans.data.length:Int)=0:=by simpa using h4
     omega
    rw[if_pos ⟨h3,h4⟩]
    conv=>whnf
    all_goals exact rfl
   ·have h4:¬ b.ans.data.length=0:=by
     have h:¬ (b.ans.data.length:Int)=0:=by simpa using h4
     omega
    rw[if_neg (fun h=>h4 h.2)]
    conv=>whnf
    refine .one (.data _ (ze4 a.ans b.ans) rfl rfl ?_)
    conv=>whnf
    all_goals exact rfl
  ·have h3:¬ a.ans.data.length=0:=by
    have h:¬ (a.ans.data.length:Int)=0:=by simpa using h3
    omega
   rw[if_neg (fun h=>h3 h.1)]
   conv=>whnf
   refine .one (.data _ (ze4 a.ans b.ans) rfl rfl ?_)
   conv=>whnf
   all_goals exact rfl
def qq2(z:Zo):Bool:=decide (z.apex.length<=1000) && (decide (z.rrs.length<=60) && z.rrs.all fun r=>decide (r.d.length<=5000) && decide (r.nm.length<=1000))
set_option maxHeartbeats 8000000 in
theorem zs3(z:Zo):FnOk Tryz.prog 25 [z.V] (.d (.int .i64 (if qq2 z then 1 else 0))):=by
 refine qa3 (TT:=TT) (IN:=qd0 []) qd2 qa7 mixed 1000 Tryz.func25 rfl (qb7 Tryz.func25 (by kernel_rfl) rfl) rfl 32 (by kernel_rfl) ?_
 conv=>whnf
 refine⟨fun h1=>?_,fun h1=>?_⟩
 ·have h1:¬ z.apex.length<=1000:=by
   have h:(z.apex.length:Int) > 1000:=of_decide_eq_true h1
   omega
  rw[show qq2 z=false by unfold qq2;rw[decide_eq_false h1];rfl]
  conv=>whnf
  all_goals exact rfl
 have h1:z.apex.length<=1000:=by
  have h:¬ (z.apex.length:Int) > 1000:=of_decide_eq_false h1
  omega
 conv=>whnf
 refine⟨fun h2=>?_,fun h2=>?_⟩
 ·have h2:¬ z.rrs.length<=60:=by
   have h:(z.rrs.length:Int) > 60:=of_decide_eq_true h2
   omega
  rw[show qq2 z=false by unfold qq2;rw[decide_eq_false h2,Bool.false_and,Bool.and_false]]
  conv=>whnf
  all_goals exact rfl
 have h2:z.rrs.length<=60:=by
  have h:¬ (z.rrs.length:Int) > 60:=of_decide_eq_false h2
  omega
 have hs:qq2 z=z.rrs.all fun r=>decide (r.d.length<=5000) && decide (r.nm.length<=1000):=by unfold qq2;rw[decide_eq_true h1,decide_eq_true h2];rfl
 rw[hs]
 conv=>whnf
 refine .inv Nat (fun i=>i<=z.rrs.length/\(z.rrs.take i).all (fun r=>decide (r.d.length<=5000) && decide (r.nm.length<=1000))=true) (fun i=>[(18,iV i)]) (fun i=>[]) (fun i=>z.rrs.length - i) ⟨0,[0],⟨Nat.zero_le _,rfl⟩,?_⟩ ?_
 ·conv=>whnf
  repeat'(first|exact ⟨⟩|exact rfl|exact qa0 _|exact .inr rfl|exact fun _ _=>rfl|exact noI|apply And.intro)
 intro i hi
 obtain⟨hi,hti⟩:=hi
 conv=>whnf
 refine⟨fun h3=>?_,fun h3=>?_⟩
 ·have h3:i<z.rrs.length:=by
   have h:(i:Int)<z.rrs.length:=of_decide_eq_true h3
   omega
  have hw1:IntKind.i64.wrap ((i:Int)+1)=((i+1:Nat):Int):=by rw[qa4 _ (by omega)];omega
  obtain⟨r,hr⟩:∃ r,z.rrs.getD i default=r:=⟨_,rfl⟩
  have hrl:z.rrs[i]? = some r:=by rw[<-hr,List.getD,List.getElem?_eq_getElem h3];rfl
  have hbad:(decide (r.d.length<=5000) && decide (r.nm.length<=1000))=false->(z.rrs.all fun r=>decide (r.d.length<=5000) && decide (r.nm.length<=1000))=false:=fun h=>by
   rw[List.all_eq_false]
   exact⟨r,List.mem_of_getElem? hrl,by rw[h];decide⟩
  conv=>whnf
  refine⟨by omega,?_⟩
  conv=>whnf
  rw[Int.toNat_natCast,hr]
  refine⟨fun h4=>?_,fun h4=>?_⟩
  ·have h4:¬ r.d.length<=5000:=by
    have h:(r.d.length:Int) > 5000:=of_decide_eq_true h4
    omega
   rw[hbad (by rw[decide_eq_false h4];rfl)]
   conv=>whnf
   all_goals exact rfl
  have h4:r.d.length<=5000:=by
   have h:¬ (r.d.length:Int) > 5000:=of_decide_eq_false h4
   omega
  conv=>whnf
  refine⟨fun h5=>?_,fun h5=>?_⟩
  ·have h5:¬ r.nm.length<=1000:=by
    have h:(r.nm.length:Int) > 1000:=of_decide_eq_true h5
    omega
   rw[hbad (by rw[decide_eq_false h5,Bool.and_false])]
   conv=>whnf
   all_goals exact rfl
  have h5:r.nm.length<=1000:=by
   have h:¬ (r.nm.length:Int) > 1000:=of_decide_eq_false h5
   omega
  conv=>whnf
  rw[hw1]
  refine⟨i+1,[0],⟨h3,by rw[List.take_add_one,hrl,List.all_append,hti];simp[h4,h5]⟩,by omega,?_⟩
  conv=>whnf
  repeat'(first|exact ⟨⟩|exact rfl|exact qa0 _|exact .inr rfl|exact fun _ _=>rfl|exact noI|apply And.intro)
 ·have h3:i=z.rrs.length:=by
   have h:¬ (i:Int)<z.rrs.length:=of_decide_eq_false h3
   omega
  subst h3
  rw [List.take_length] at hti
  rw[hti]
  conv=>whnf
  all_goals exact rfl
def Fo.small(f:Fo):Bool:=decide (f.zones.length<=8) && (decide (f.hosts.length<=12) && f.zones.all qq2)
set_option maxHeartbeats 8000000 in
theorem yh2(f:Fo):FnOk Tryz.prog 8 [f.V] (.d (.int .i64 (if f.small then 1 else 0))):=by
 refine qa3 (TT:=TT) (IN:=qd0 []) qd2 qa7 mixed 1000 Tryz.func8 rfl (qb7 Tryz.func8 (by kernel_rfl) rfl) rfl 25 (by kernel_rfl) ?_
 conv=>whnf
 refine⟨fun h1=>?_,fun h1=>?_⟩
 ·have h1:¬ f.zones.length<=8:=by
   have h:(f.zones.length:Int) > 8:=of_decide_eq_true h1
   omega
  rw[show f.small=false by unfold Fo.small;rw[decide_eq_false h1];rfl]
  conv=>whnf
  all_goals exact rfl
 have h1:f.zones.length<=8:=by
  have h:¬ (f.zones.length:Int) > 8:=of_decide_eq_false h1
  omega
 conv=>whnf
 refine⟨fun h2=>?_,fun h2=>?_⟩
 ·have h2:¬ f.hosts.length<=12:=by
   have h:(f.hosts.length:Int) > 12:=of_decide_eq_true h2
   omega
  rw[show f.small=false by unfold Fo.small;rw[decide_eq_false h2,Bool.false_and,Bool.and_false]]
  conv=>whnf
  all_goals exact rfl
 have h2:f.hosts.length<=12:=by
  have h:¬ (f.hosts.length:Int) > 12:=of_decide_eq_false h2
  omega
 have hs:f.small=f.zones.all qq2:=by unfold Fo.small;rw[decide_eq_true h1,decide_eq_true h2];rfl
 rw[hs]
 conv=>whnf
 refine .inv Nat (fun i=>i<=f.zones.length/\(f.zones.take i).all qq2=true) (fun i=>[(18,iV i)]) (fun i=>[]) (fun i=>f.zones.length - i) ⟨0,[0],⟨Nat.zero_le _,rfl⟩,?_⟩ ?_
 ·conv=>whnf
  repeat'(first|exact ⟨⟩|exact rfl|exact qa0 _|exact .inr rfl|exact fun _ _=>rfl|exact noI|apply And.intro)
 intro i hi
 obtain⟨hi,hti⟩:=hi
 conv=>whnf
 refine⟨fun h3=>?_,fun h3=>?_⟩
 ·have h3:i<f.zones.length:=by
   have h:(i:Int)<f.zones.length:=of_decide_eq_true h3
   omega
  have hw1:IntKind.i64.wrap ((i:Int)+1)=((i+1:Nat):Int):=by rw[qa4 _ (by omega)];omega
  obtain⟨z,hzd⟩:∃ z,f.zones.getD i default=z:=⟨_,rfl⟩
  have hzl:f.zones[i]? = some z:=by rw[<-hzd,List.getD,List.getElem?_eq_getElem h3];rfl
  conv=>whnf
  refine⟨by omega,?_⟩
  conv=>whnf
  rw[Int.toNat_natCast,hzd]
  refine .one (.data _ (zs3 z) rfl rfl ?_)
  cases hz:qq2 z with
  |false =>
   have hb:f.zones.all qq2=false:=by
    rw[List.all_eq_false]
    exact⟨z,List.mem_of_getElem? hzl,by rw[hz];decide⟩
   rw[hb,if_neg (by decide)]
   conv=>whnf
   refine brT rfl ?_
   conv=>whnf
   all_goals exact rfl
  |true =>
   rw[if_pos rfl]
   conv=>whnf
   refine brF rfl ?_
   conv=>whnf
   rw[hw1]
   refine⟨i+1,[0],⟨h3,by rw[List.take_add_one,hzl,List.all_append,hti];simp[hz]⟩,by omega,?_⟩
   conv=>whnf
   repeat'(first|exact ⟨⟩|exact rfl|exact qa0 _|exact .inr rfl|exact fun _ _=>rfl|exact noI|apply And.intro)
 ·have h3:i=f.zones.length:=by
   have h:¬ (i:Int)<f.zones.length:=of_decide_eq_false h3
   omega
  subst h3
  rw [List.take_length] at hti
  rw[hti]
  conv=>whnf
  all_goals exact rfl
theorem Fo.fit_small{f:Fo}(h:f.small=true):f.Fit:=fun z hz=>by
 unfold Fo.small at h
 simp only [Bool.and_eq_true,List.all_eq_true] at h
 have h1:=h.2.2 z hz
 unfold qq2 at h1
 simp only [Bool.and_eq_true,decide_eq_true_eq,List.all_eq_true] at h1
 exact⟨by omega,fun r hr=>by have:=h1.2.2 r hr;omega⟩
theorem zc4:FnOk Tryz.prog 7 [] (.d (.bool true)):=by
 have c:=jn6 [1,97,3,111,114,103,0]
 rw [show qa5 [1,97,3,111,114,103,0]=2 by kernel_rfl] at c
 refine qa3 (TT:=TT) (IN:=qd0 []) qd2 qa7 mixed 1000 Tryz.func7 rfl (qb7 Tryz.func7 (by kernel_rfl) rfl) rfl 3 (by kernel_rfl) ?_
 conv=>whnf
 refine .one (.data _ c rfl rfl ?_)
 conv=>whnf
 all_goals exact rfl
def ask1(q:Q):SV:=.agg [.d (.int .u16 0),.d (.int .u16 0),.d (.sl false 1 3 (ql0 q.enc 3)),nilS,nilS,nilS]
theorem xb2(z:Zo)(hz:z.Fit)(q:Q):FnOk Tryz.prog 15 [z.V,ask1 q] (.agg (ansF z (msg1 q)).cells) :=
 (xl0 z hz (msg1 q) (fun h=>by cases h) (by show 1<=1000000;decide)).convA ⟨.refl _,AEq.aggL ⟨.refl _,.refl _,.d (DS.rows fun i hi=>(match i,hi with
  |0,_=>DSL.refl _)),.none _ _ _ _ _,.none _ _ _ _ _,.none _ _ _ _ _,trivial⟩,trivial⟩
def ql7(z:Zo)(q:Q):Cls:=qp8 (ansF z (msg1 q)) q z.apex
theorem xg0{z:Zo}{q:Q}(hn:qa2 q.nm)(hc:q.cl=1)(hz:z.ok=true)(hw:qa1 q.nm z.apex=true):FnOk Tryz.prog 14 [.agg (ansF z (msg1 q)).cells,q.V,.d (.str z.apex)] (ql7 z q).V :=
 xt9 _ (zc6 hn hc hz hw).1 (zc6 hn hc hz hw).2 q (by have:=hn.2.1;omega) _
theorem zh1{z:Zo}{q:Q}(hn:qa2 q.nm)(hc:q.cl=1)(hz:z.ok=true)(hw:qa1 q.nm z.apex=true):(ql7 z q).kind=5↔z.cut q.nm≠none:=by
 constructor
 ·intro h e
  obtain⟨c1,c2,c3⟩:=zc0 hn hc hz ((jj1 hz).2 ⟨hw,e⟩)
  unfold ql7 at h
  by_cases h1:(qb4 z q.ty 8 q.nm).2.2 = .ans
  ·rw [c1 h1] at h
   exact absurd (show(1:Int)=5 from h) (by decide)
  ·by_cases h2:(qb4 z q.ty 8 q.nm).1=[]
   ·obtain⟨ttl,h3⟩:=c3 h1 h2
    rw [h3] at h
    have h:(if qi8 z q.nm=true then (4:Int) else 3)=5:=h
    split at h <;> exact absurd h (by decide)
   ·rw [c2 h1 h2] at h
    exact absurd (show(2:Int)=5 from h) (by decide)
 ·intro h
  cases hb:z.cut q.nm with
  |none=>exact absurd hb h
  |some b=>exact(yc9 hn hc hz hw hb).1
theorem zp6{z:Zo}(hz:z.ok=true):z.cut z.apex=none:=by
 unfold Zo.cut
 rw[topCut_none]
 intro c hc
 obtain⟨_,_,_,_,w,s,_,_⟩:=z.cutL_spec hz hc
 cases h:qa1 z.apex c with
 |false=>rfl
 |true =>
  have h1:=qi4 w s
  have h2:=qj9 h
  omega
def jp3(zs:List Zo)(t:List UInt8):Nat->Int
 |0=>-1
 |i+1=>if ql1 (zs.getD i default).apex t=true then (i:Int) else jp3 zs t i
theorem yi5(zs:List Zo)(t:List UInt8):∀ i,i<=zs.length->(jp3 zs t i = -1/\∀ (j:Nat) (z:Zo),j<i->zs[j]? = some z->ql1 z.apex t=false)\/∃ (j:Nat) (z:Zo),jp3 zs t i=(j:Int)/\zs[j]? = some z/\ql1 z.apex t=true
 |0,_=>.inl ⟨rfl,fun j z hj=>absurd hj (Nat.not_lt_zero _)⟩
 |i+1,hi=>by
  have hz:zs[i]? = some (zs.getD i default):=by rw[List.getD_eq_getElem?_getD,List.getElem?_eq_getElem (by omega)];rfl
  have e:jp3 zs t (i+1)=if ql1 (zs.getD i default).apex t=true then (i:Int) else jp3 zs t i:=rfl
  rw[e]
  split
  ·rename_i h
   exact .inr ⟨i,_,rfl,hz,h⟩
  ·rename_i h
   rcases yi5 zs t i (by omega) with⟨h1,h2⟩|h1
   ·refine .inl ⟨h1,fun j z hj hjz=>?_⟩
    rcases Nat.lt_or_ge j i with k|k
    ·exact h2 j z k hjz
    ·have:j=i:=by omega
     subst this
     rw [hz] at hjz
     cases hjz
     simpa using h
   ·exact .inr h1
theorem zs9{a b:List UInt8}(h:ql1 a b=true):qa2 a/\qa2 b/\fold a=fold b:=by
 unfold ql1 at h
 simp only [Bool.and_eq_true,decide_eq_true_eq,beq_iff_eq] at h
 exact h
theorem zn5{f:Fo}(hok:f.ok=true){t:List UInt8}(ht:qa2 t):(jp3 f.zones t f.zones.length = -1/\qg6 f.zones (fold t)=none)\/∃ (j:Nat) (z:Zo),jp3 f.zones t f.zones.length=(j:Int)/\f.zones[j]? = some z/\fold z.apex=fold t:=by
 rcases yi5 f.zones t _ (Nat.le_refl _) with⟨h1,h2⟩|⟨j,z,h1,h2,h3⟩
 ·refine .inl ⟨h1,?_⟩
  rw[place_none]
  intro z hz e
  obtain⟨j,hj⟩:=List.mem_iff_getElem?.1 hz
  have:=h2 j z (List.getElem?_eq_some_iff.1 hj).1 hj
  rw [zl8 (Zo.ok_name ((Fo.parts hok).2.1 z hz)) ht,e,beq_self_eq_true] at this
  cases this
 ·exact .inr ⟨j,z,h1,h2,(zs9 h3).2.2⟩
theorem xo6{f:Fo}(hok:f.ok=true){n:List UInt8}{at_:Nat}{z:Zo}(hz:f.zones[at_]? = some z)(hw:qa1 n z.apex=true){b:List UInt8}(hb:z.cut n=some b) :
 (qg6 f.zones b=none->qo4 f.zones n 300 0=none)/\∀ (j:Nat) (y:Zo),f.zones[j]? = some y->fold y.apex=b->qa1 n y.apex=true/\qa5 z.apex<qa5 y.apex:=by
 obtain⟨⟨h1,h2,_⟩,hzs,ho,hr,hh,_⟩:=Fo.parts hok
 have hzo:=hzs z (List.mem_of_getElem? hz)
 refine⟨fun hp=>(ys8 hok hz hw hb hp).2,fun j y hy e=>?_⟩
 obtain⟨⟨c0,k1,k2,k3⟩,_⟩:=qk1 hb
 obtain⟨_,_,_,_,w,s,_,_⟩:=z.cutL_spec hzo k1
 have hyn:=Zo.ok_name (hzs y (List.mem_of_getElem? hy))
 have hyc:fold y.apex=fold c0:=by rw[e,k2]
 refine⟨qe7 hyn hyc k3,?_⟩
 rw[jg5 hyn (qb9 k3).2 hyc]
 exact qi4 w s
end Go.Proofs.YtnfoihdifohkeaaGreat
