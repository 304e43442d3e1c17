/-
  Part of the proof: lemmas about the functions that the row calls, and about the steps of a run. Conditions: those ahead of each lemma.
-/
import Derived.Laws.BitsAllLaws
import Derived.Test.YtnfoihdifohkeaaGreatB2
import Derived.Test.YtnfoihdifohkeaaGreatB1
import Derived.Test.YtnfoihdifohkeaaGreatM4
set_option linter.unusedVariables false
set_option linter.unusedSimpArgs false
set_option maxRecDepth 100000
namespace Go.Proofs.YtnfoihdifohkeaaGreat
open Go Go.Eng
def recT(s:St)(d:List UInt8):RR:=⟨s.nm,s.ty,1,s.ttl,d⟩
def qi1(s:St):List RR:=if s.ok then s.data.map (recT s) else []
theorem xa7{s:St}{i:Nat}{d:List UInt8}(h:s.data[i]? = some d):(s.data.take (i+1)).map (recT s)=(s.data.take i).map (recT s)++[recT s d]:=by
 rw[List.take_add_one,h,List.map_append]
 rfl
set_option maxHeartbeats 8000000 in
theorem jn5(s:St):FnOk Tryz.prog 23 [s.V] (.d (rrsD (!s.ok) (qi1 s))):=by
 refine qa5 (TT:=TT) (IN:=qd0 []) qd2 qa8 mixed 1000 Tryz.func23 rfl (qb6 Tryz.func23 (by kernel_rfl) rfl) rfl 32 (by kernel_rfl) ?_
 conv=>whnf
 refine .one (.data _ (ys1 s.nm s.ty s.ttl s.z s.data) rfl rfl ?_)
 rw[show qx5 s.nm s.ty s.ttl s.data=s.ok from rfl]
 unfold qi1
 cases hok:s.ok with
 |false =>
  rw[if_neg (by decide)]
  conv=>whnf
  refine brT rfl ?_
  conv=>whnf
  repeat'(first|exact ⟨⟩|exact rfl|exact⟨rfl,rfl,.inr rfl,fun _ _=>rfl⟩|exact⟨rfl,rfl,.inl rfl,noI⟩|apply And.intro)
 |true =>
  have hl:=((St.ok_iff s).1 hok).2.2.1
  rw[if_pos rfl]
  conv=>whnf
  refine brF rfl ?_
  conv=>whnf
  refine⟨⟨Int.le_refl 0,by omega,by omega,by omega⟩,?_⟩
  conv=>whnf
  refine .inv Nat (fun i=>i<=s.data.length) (fun i=>[(12,.any),(16,iV i),(3,.all 1)]) (fun i=>[(1,.row 94 5 ((s.data.take i).map (recT s)).length .no (fun j=>(((s.data.take i).map (recT s)).getD j default).enc))]) (fun i=>s.data.length - i) ⟨0,[0,1],Nat.zero_le _,?_⟩ ?_
  ·conv=>whnf
   repeat'(first|exact ⟨⟩|exact rfl|exact qa0 _|exact .inr rfl|exact fun _ _=>rfl|exact noI|apply And.intro)
  intro i hi
  conv=>whnf
  refine⟨fun h1=>?_,fun h1=>?_⟩
  ·have h1:i<s.data.length:=by
    have h:(i:Int)<s.data.length:=of_decide_eq_true h1
    omega
   have hw1:IntKind.i64.wrap ((i:Int)+1)=((i+1:Nat):Int):=by rw[qa2 _ (by omega)];omega
   have hli:s.data[i]? = some (s.data[i]?.getD []):=by rw[List.getElem?_eq_getElem h1];rfl
   have hlen:((s.data.take i).map (recT s)).length=i:=by rw[List.length_map,List.length_take];omega
   conv=>whnf
   refine⟨by omega,?_⟩
   conv=>whnf
   rw[Int.toNat_natCast]
   generalize s.data[i]?.getD []=d at hli ⊢
   have hnx:=xa7 hli
   refine⟨by omega,?_⟩
   conv=>whnf
   rw[hw1]
   refine⟨i+1,[0,3],h1,by omega,?_⟩
   rw[hnx]
   conv=>whnf
   repeat'(first|exact ⟨⟩|exact rfl|exact qa0 _|exact .inr rfl|exact fun _ _=>rfl|exact noI|apply And.intro)
   all_goals first
    |(show _+1=(_++[_]).length;simp;done)
    |exact fun j hj=>zj1 _ (recT s d) j hj
  ·have h1:i=s.data.length:=by
    have h:¬ (i:Int)<s.data.length:=of_decide_eq_false h1
    omega
   subst h1
   rw[List.take_length]
   conv=>whnf
   repeat'(first|exact ⟨⟩|exact rfl|exact⟨rfl,rfl,.inr rfl,fun _ _=>rfl⟩|exact⟨rfl,rfl,.inl rfl,noI⟩|apply And.intro)
def xz2(C:List (List UInt8 × Nat)):KB:=.map [.str] false false (aenc strK intV C)
theorem qn9{ρ:List Nat}(C:List (List UInt8 × Nat)):renM ρ (aenc strK intV C)=aenc strK intV C:=jb2 (fun _=>rfl) C
def jo4:List RR->Option RR
 |[]=>none
 |r :: l=>if r.ty=6 then some r else jo4 l
def noRR:RR:=⟨[],0,0,0,[]⟩
def jh9(z:Zo):RR × Int:=if z.ok then (match jo4 z.rrs with
 |some r=>(r,0)
 |none=>(noRR,3)) else (noRR,2)
theorem zr6{l:List RR}{i:Nat}{r:RR}(h:l[i]? = some r)(hr:r.ty≠6)(hd:jo4 (l.drop i)=jo4 l):jo4 (l.drop (i+1))=jo4 l:=by
 have hi:i<l.length:=(List.getElem?_eq_some_iff.1 h).1
 have e:l.drop i=r :: l.drop (i+1):=by rw [List.drop_eq_getElem_cons hi];congr 1;rw [List.getElem?_eq_getElem hi] at h;exact Option.some.inj h
 rw[<-hd,e]
 unfold jo4
 rw[if_neg hr]
 cases List.drop (i+1) l <;> rfl
set_option maxHeartbeats 8000000 in
theorem zi0(z:Zo)(hz:z.Fit):FnOk Tryz.prog 110 [z.V] (.tup [(jh9 z).1.V,.d (.int .i64 (jh9 z).2)]):=by
 refine qa5 (TT:=TT) (IN:=qd0 []) qd2 qa8 mixed 1000 Tryz.func110 rfl (qb6 Tryz.func110 (by kernel_rfl) rfl) rfl 29 (by kernel_rfl) ?_
 conv=>whnf
 refine .rel _ (jv9 z hz _) (fun r ks' hR=>?_)
 obtain⟨S,N,rfl,rfl⟩:=hR
 unfold jh9
 cases h:z.ok with
 |false =>
  conv=>whnf
  refine brT rfl ?_
  conv=>whnf
  repeat'(first|exact ⟨⟩|exact rfl|exact⟨rfl,rfl,.inr rfl,fun _ _=>rfl⟩|exact⟨rfl,rfl,.inl rfl,noI⟩|apply And.intro)
 |true =>
  have hl:=z.ok_len h
  rw[if_pos rfl]
  conv=>whnf
  refine brF rfl ?_
  conv=>whnf
  refine .inv Nat (fun i=>i<=z.rrs.length/\jo4 (z.rrs.drop i)=jo4 z.rrs) (fun i=>[(20,iV i)]) (fun i=>[]) (fun i=>z.rrs.length - i) ⟨0,[0,1,2,3,4],⟨Nat.zero_le _,rfl⟩,?_⟩ ?_
  ·conv=>whnf
   repeat'(first|exact ⟨⟩|exact rfl|exact qa0 _|exact .inr rfl|exact fun _ _=>rfl|exact noI|apply And.intro)
   all_goals first
    |exact qa9 _
    |exact qa7 _
    |exact qn9 _
  intro i hi
  obtain⟨hi,hd⟩:=hi
  conv=>whnf
  refine⟨fun h2=>?_,fun h2=>?_⟩
  ·have h2:i<z.rrs.length:=by
    have h:(i:Int)<z.rrs.length:=of_decide_eq_true h2
    omega
   have hw1:IntKind.i64.wrap ((i:Int)+1)=((i+1:Nat):Int):=by rw[qa2 _ (by omega)];omega
   obtain⟨r,hr⟩:∃ r,z.rrs.getD i default=r:=⟨_,rfl⟩
   have hrl:z.rrs[i]? = some r:=by rw[<-hr,List.getD,List.getElem?_eq_getElem h2];rfl
   conv=>whnf
   refine⟨by omega,?_⟩
   conv=>whnf
   rw[Int.toNat_natCast,hr]
   refine⟨fun h3=>?_,fun h3=>?_⟩
   ·have h3:r.ty=6:=by simpa using h3
    have hh:jo4 z.rrs=some r:=by
     have e:z.rrs.drop i=r :: z.rrs.drop (i+1):=by rw [List.drop_eq_getElem_cons h2];congr 1;rw [List.getElem?_eq_getElem h2] at hrl;exact Option.some.inj hrl
     rw[<-hd,e]
     unfold jo4
     rw[if_pos h3]
    rw[hh]
    conv=>whnf
    repeat'(first|exact ⟨⟩|exact rfl|exact⟨rfl,rfl,.inr rfl,fun _ _=>rfl⟩|exact⟨rfl,rfl,.inl rfl,noI⟩|apply And.intro)
   ·have h3:r.ty≠6:=by simpa using h3
    conv=>whnf
    rw[hw1]
    refine⟨i+1,[0,1,2,3,4],⟨h2,zr6 hrl h3 hd⟩,by omega,?_⟩
    conv=>whnf
    repeat'(first|exact ⟨⟩|exact rfl|exact qa0 _|exact .inr rfl|exact fun _ _=>rfl|exact noI|apply And.intro)
    all_goals first
     |exact qa9 _
     |exact qa7 _
     |exact qn9 _
  ·have h2:i=z.rrs.length:=by
    have h:¬ (i:Int)<z.rrs.length:=of_decide_eq_false h2
    omega
   subst h2
   rw [List.drop_length] at hd
   rw[<-hd]
   conv=>whnf
   repeat'(first|exact ⟨⟩|exact rfl|exact⟨rfl,rfl,.inr rfl,fun _ _=>rfl⟩|exact⟨rfl,rfl,.inl rfl,noI⟩|apply And.intro)
def jz6(D:List (List UInt8))(r:RR):Bool:=r.ty == 1 && D.any (fun h=>fold h == fold r.nm)
def xc9(z:Zo)(s:St):List RR:=if z.ok && (s.ty == 2 && s.ok) then z.rrs.filter (jz6 s.data) else []
structure GInv(D:List (List UInt8))(C:List (List UInt8 × Nat)):Prop where
 has:∀ k,(aget C k).isSome=D.any (fun h=>fold h == k)
 le:∀ k v,aget C k=some v->1<=v/\v<=D.length
theorem GInv.zero:GInv [] []:=⟨fun _=>rfl,fun _ _ h=>by cases h⟩
theorem GInv.put{D:List (List UInt8)}{C:List (List UInt8 × Nat)}(h:GInv D C)(d:List UInt8){v:Nat}(hv:(aget C (fold d)).getD 0=v):GInv (D++[d]) (aput C (fold d) (v+1)):=by
 refine⟨fun k=>?_,fun k w hw=>?_⟩
 ·rw[jf5,List.any_append,<-h.has]
  by_cases hk:k=fold d
  ·rw[if_pos hk,hk];simp
  ·rw[if_neg hk]
   have:(fold d == k)=false:=by simpa using fun e=>hk e.symm
   simp[this]
 ·rw [jf5] at hw
  rw[List.length_append,List.length_singleton]
  split at hw
  ·simp only [Option.some.injEq] at hw
   cases hg:aget C (fold d) with
   |none=>rw [hg] at hv;simp at hv;omega
   |some x =>
    rw [hg] at hv
    simp at hv
    have:=h.le _ _ hg
    omega
  ·have:=h.le k w hw
   omega
theorem zf3{α:Type}{p:α->Bool}{l:List α}{i:Nat}{r:α}(h:l[i]? = some r):(l.take (i+1)).filter p=if p r then (l.take i).filter p++[r] else (l.take i).filter p:=by
 rw[List.take_add_one,h]
 cases hp:p r <;> simp[hp]
set_option maxHeartbeats 16000000 in
theorem xi2(z:Zo)(hz:z.Fit)(s:St)(hs:∀ d ∈ s.data,d.length<=100000):FnOk Tryz.prog 41 [z.V,s.V] (.d (rrsD (xc9 z s).isEmpty (xc9 z s))):=by
 refine qa5 (TT:=TT) (IN:=qd0 []) qd2 qa8 mixed 1000 Tryz.func41 rfl (qb6 Tryz.func41 (by kernel_rfl) rfl) rfl 67 (by kernel_rfl) ?_
 conv=>whnf
 refine .rel _ (jv9 z hz _) (fun r ks' hR=>?_)
 obtain⟨S,N,rfl,rfl⟩:=hR
 unfold xc9
 cases h:z.ok with
 |false =>
  rw[Bool.false_and,if_neg (by decide)]
  conv=>whnf
  refine brT rfl ?_
  conv=>whnf
  repeat'(first|exact ⟨⟩|exact rfl|exact⟨rfl,rfl,.inr rfl,fun _ _=>rfl⟩|exact⟨rfl,rfl,.inl rfl,noI⟩|apply And.intro)
 |true =>
  have hl:=z.ok_len h
  rw[Bool.true_and]
  conv=>whnf
  refine brF rfl ?_
  conv=>whnf
  refine⟨fun h1=>?_,fun h1=>?_⟩
  ·have h1:(s.ty == 2)=false:=by simpa using h1
   rw[h1,Bool.false_and,if_neg (by decide)]
   conv=>whnf
   repeat'(first|exact ⟨⟩|exact rfl|exact⟨rfl,rfl,.inr rfl,fun _ _=>rfl⟩|exact⟨rfl,rfl,.inl rfl,noI⟩|apply And.intro)
  have h1:(s.ty == 2)=true:=by simpa using h1
  rw[h1,Bool.true_and]
  conv=>whnf
  refine .one (.data _ (ys1 s.nm s.ty s.ttl s.z s.data) rfl rfl ?_)
  rw[show qx5 s.nm s.ty s.ttl s.data=s.ok from rfl]
  cases hok:s.ok with
  |false =>
   rw[if_neg (by decide)]
   conv=>whnf
   refine brT rfl ?_
   conv=>whnf
   repeat'(first|exact ⟨⟩|exact rfl|exact⟨rfl,rfl,.inr rfl,fun _ _=>rfl⟩|exact⟨rfl,rfl,.inl rfl,noI⟩|apply And.intro)
  |true =>
   have hdl:=((St.ok_iff s).1 hok).2.2.1.2
   rw[if_pos rfl]
   conv=>whnf
   refine brF rfl ?_
   conv=>whnf
   refine .inv (Nat × List (List UInt8 × Nat)) (fun x=>x.1<=s.data.length/\GInv (s.data.take x.1) x.2) (fun x=>[(34,iV x.1)]) (fun x=>[(5,xz2 x.2)]) (fun x=>s.data.length - x.1) ⟨(0,[]),[0,1,2,3,4,5],⟨Nat.zero_le _,GInv.zero⟩,?_⟩ ?_
   ·conv=>whnf
    repeat'(first|exact ⟨⟩|exact rfl|exact qa0 _|exact .inr rfl|exact fun _ _=>rfl|exact noI|apply And.intro)
    all_goals first
     |exact qa9 _
     |exact qa7 _
     |exact qn9 _
   intro x hx
   obtain⟨hi,hI⟩:=hx
   conv=>whnf
   generalize x.1=i at hi hI ⊢
   generalize x.2=C at hI ⊢
   refine⟨fun h2=>?_,fun h2=>?_⟩
   ·have h2:i<s.data.length:=by
     have h:(i:Int)<s.data.length:=of_decide_eq_true h2
     omega
    have hw1:IntKind.i64.wrap ((i:Int)+1)=((i+1:Nat):Int):=by rw[qa2 _ (by omega)];omega
    have hli:s.data[i]? = some (s.data[i]?.getD []):=by rw[List.getElem?_eq_getElem h2];rfl
    conv=>whnf
    refine⟨by omega,?_⟩
    conv=>whnf
    rw[Int.toNat_natCast]
    generalize s.data[i]?.getD []=d at hli ⊢
    have hdlen:=hs d (List.mem_of_getElem? hli)
    have htk:s.data.take (i+1)=s.data.take i++[d]:=by rw[List.take_add_one,hli];rfl
    have htl:(s.data.take i).length=i:=by rw[List.length_take];omega
    refine .one (.data _ (qj2 d (by omega)) rfl rfl ?_)
    conv=>whnf
    have hfs:=qg7 (ev:=intV) qg8 C (fold d)
    refine⟨_,hfs,?_⟩
    cases hg:aget C (fold d) with
    |none =>
     have hput:=qx0 (ev:=intV) qg8 C (fold d) 1
     conv=>whnf
     refine⟨_,hput,?_⟩
     conv=>whnf
     rw[hw1]
     refine⟨(i+1,aput C (fold d) 1),[0,1,2,3,4,5],⟨h2,by rw[htk];exact hI.put d (v:=0) (by rw[hg];rfl)⟩,by show _ - (i+1)<_;omega,?_⟩
     conv=>whnf
     repeat'(first|exact ⟨⟩|exact rfl|exact qa0 _|exact .inr rfl|exact fun _ _=>rfl|exact noI|apply And.intro)
     all_goals first
      |exact qa9 _
      |exact qa7 _
      |exact qn9 _
    |some v =>
     have hvb:=hI.le _ _ hg
     have hwv:IntKind.i64.wrap ((v:Int)+1)=((v+1:Nat):Int):=by rw[qa2 _ (by omega)];omega
     have hput:=qx0 (ev:=intV) qg8 C (fold d) (v+1)
     conv=>whnf
     rw[hwv]
     refine⟨_,hput,?_⟩
     conv=>whnf
     rw[hw1]
     refine⟨(i+1,aput C (fold d) (v+1)),[0,1,2,3,4,5],⟨h2,by rw[htk];exact hI.put d (v:=v) (by rw[hg];rfl)⟩,by show _ - (i+1)<_;omega,?_⟩
     conv=>whnf
     repeat'(first|exact ⟨⟩|exact rfl|exact qa0 _|exact .inr rfl|exact fun _ _=>rfl|exact noI|apply And.intro)
     all_goals first
      |exact qa9 _
      |exact qa7 _
      |exact qn9 _
   ·have h2:i=s.data.length:=by
     have h:¬ (i:Int)<s.data.length:=of_decide_eq_false h2
     omega
    subst h2
    rw [List.take_length] at hI
    conv=>whnf
    refine .nilT 10 94 5 (fun _=>[]) _ _ rfl ?_
    conv=>whnf
    refine .inv Nat (fun i=>i<=z.rrs.length) (fun i=>[(48,iV i),(10,.all 6)]) (fun i=>[(6,.row 94 5 ((z.rrs.take i).filter (jz6 s.data)).length .iff (fun j=>(((z.rrs.take i).filter (jz6 s.data)).getD j default).enc))]) (fun i=>z.rrs.length - i) ⟨0,[0,1,2,3,4,5,6],Nat.zero_le _,?_⟩ ?_
    ·conv=>whnf
     repeat'(first|exact ⟨⟩|exact rfl|exact qa0 _|exact .inr rfl|exact fun _ _=>rfl|exact noI|apply And.intro)
     all_goals first
      |exact qa9 _
      |exact qa7 _
      |exact qn9 _
    intro i hi
    conv=>whnf
    refine⟨fun h2=>?_,fun h2=>?_⟩
    ·have h2:i<z.rrs.length:=by
      have h:(i:Int)<z.rrs.length:=of_decide_eq_true h2
      omega
     have hw1:IntKind.i64.wrap ((i:Int)+1)=((i+1:Nat):Int):=by rw[qa2 _ (by omega)];omega
     obtain⟨r,hr⟩:∃ r,z.rrs.getD i default=r:=⟨_,rfl⟩
     have hrl:z.rrs[i]? = some r:=by rw[<-hr,List.getD,List.getElem?_eq_getElem h2];rfl
     have hnx:=zf3 (p:=jz6 s.data) hrl
     have hfl:((z.rrs.take i).filter (jz6 s.data)).length<=i:=Nat.le_trans (List.length_filter_le _ _) (by rw[List.length_take];omega)
     conv=>whnf
     refine⟨by omega,?_⟩
     conv=>whnf
     rw[Int.toNat_natCast,hr]
     refine⟨fun h3=>?_,fun h3=>?_⟩
     ·have h3:(r.ty == 1)=true:=h3
      have hrn:=(hz r (List.mem_of_getElem? hrl)).1
      conv=>whnf
      refine .one (.data _ (qj2 r.nm (by omega)) rfl rfl ?_)
      conv=>whnf
      have hfs:=qg7 (ev:=intV) qg8 C (fold r.nm)
      have hhas:=hI.has (fold r.nm)
      refine⟨_,hfs,?_⟩
      cases hg:aget C (fold r.nm) with
      |none =>
       rw [hg] at hhas
       rw [show jz6 s.data r=false by unfold jz6;rw [h3,<-hhas];rfl,if_neg (by decide)] at hnx
       conv=>whnf
       refine brF rfl ?_
       conv=>whnf
       rw[hw1]
       refine⟨i+1,[0,1,2,3,4,5,6],h2,by omega,?_⟩
       rw[hnx]
       conv=>whnf
       repeat'(first|exact ⟨⟩|exact rfl|exact qa0 _|exact .inr rfl|exact fun _ _=>rfl|exact noI|apply And.intro)
       all_goals first
        |exact qa9 _
        |exact qa7 _
        |exact qn9 _
      |some v =>
       rw [hg] at hhas
       have hvb:=hI.le _ _ hg
       rw [show jz6 s.data r=true by unfold jz6;rw [h3,<-hhas];rfl,if_pos rfl] at hnx
       conv=>whnf
       refine brT (decide_eq_true (by show((v:Nat):Int) > 0;omega)) ?_
       conv=>whnf
       refine⟨by omega,?_⟩
       conv=>whnf
       rw[hw1]
       refine⟨i+1,[0,1,2,3,4,5,9],h2,by omega,?_⟩
       rw[hnx]
       conv=>whnf
       repeat'(first|exact ⟨⟩|exact rfl|exact qa0 _|exact .inr rfl|exact fun _ _=>rfl|exact noI|apply And.intro)
       all_goals first
        |exact qa9 _
        |exact qa7 _
        |exact qn9 _
        |(show _+1=(_++[_]).length;simp;done)
        |exact fun j hj=>zj1 _ r j hj
     ·have h3:(r.ty == 1)=false:=h3
      rw [show jz6 s.data r=false by unfold jz6;rw [h3];rfl,if_neg (by decide)] at hnx
      conv=>whnf
      rw[hw1]
      refine⟨i+1,[0,1,2,3,4,5,6],h2,by omega,?_⟩
      rw[hnx]
      conv=>whnf
      repeat'(first|exact ⟨⟩|exact rfl|exact qa0 _|exact .inr rfl|exact fun _ _=>rfl|exact noI|apply And.intro)
      all_goals first
       |exact qa9 _
       |exact qa7 _
       |exact qn9 _
    ·have h2:i=z.rrs.length:=by
      have h:¬ (i:Int)<z.rrs.length:=of_decide_eq_false h2
      omega
     subst h2
     rw[List.take_length]
     conv=>whnf
     repeat'(first|exact ⟨⟩|exact rfl|exact⟨rfl,rfl,.inr rfl,fun _ _=>rfl⟩|exact⟨rfl,rfl,.inl rfl,noI⟩|apply And.intro)
     all_goals first
      |exact qf6 _
      |exact .inr rfl
      |exact fun _ _=>rfl
set_option maxRecDepth 100000 in
set_option maxHeartbeats 4000000 in
theorem zy0(y:Bool)(a:List Q)(h:y=true->a=[])(ha:a.length<=1000000):FnOk Tryz.prog 73 [.d (qsD y a)] (.d (qsD y a)):=by
 refine qa5 (TT:=TT) (IN:=qd0 []) qd2 qa8 mixed 1000 Tryz.func73 rfl (qb6 Tryz.func73 (by kernel_rfl) rfl) rfl 7 (by kernel_rfl) ?_
 conv=>whnf
 refine⟨fun h1=>?_,fun h1=>?_⟩
 ·have h1:y=true:=h1
  rw[h h1,h1]
  conv=>whnf
  exact⟨rfl,rfl,.inl rfl,noI⟩
 ·have h1:y=false:=h1
  rw[h1]
  conv=>whnf
  refine⟨by omega,?_⟩
  conv=>whnf
  refine⟨rfl,Nat.zero_add _,.inr rfl,fun i hi=>?_⟩
  unfold catF
  rw[if_neg (Nat.not_lt_zero _),Nat.sub_zero]
def Msg.reply(m:Msg)(code:Int):Msg:=⟨m.id,Go.bits BinOp.or IntKind.u16 (Go.bits BinOp.and IntKind.u16 m.bits 30976) (Go.bits BinOp.or IntKind.u16 32768 (IntKind.u16.wrap (Go.bits BinOp.and IntKind.i64 code 15))),m.za,m.asks,true,[],true,[],true,[]⟩
set_option maxRecDepth 100000 in
set_option maxHeartbeats 4000000 in
theorem qz6(m:Msg)(code:Int)(h:m.za=true->m.asks=[])(ha:m.asks.length<=1000000):FnOk Tryz.prog 37 [.agg m.cells,.d (.int .i64 code)] (.agg (m.reply code).cells):=by
 refine qa5 (TT:=TT) (IN:=qd0 []) qd2 qa8 mixed 1000 Tryz.func37 rfl (qb6 Tryz.func37 (by kernel_rfl) rfl) rfl 20 (by kernel_rfl) ?_
 conv=>whnf
 refine .data _ (zy0 m.za m.asks h ha) rfl rfl ?_
 conv=>whnf
 repeat'(first|exact ⟨⟩|exact rfl|exact⟨rfl,rfl,.inr rfl,fun _ _=>rfl⟩|exact⟨rfl,rfl,.inl rfl,noI⟩|apply And.intro)
def Msg.code(m:Msg):Int:=IntKind.i64.wrap (Go.bits BinOp.and IntKind.u16 m.bits 15)
theorem xe5(m:Msg):FnOk Tryz.prog 30 [.agg m.cells] (.d (.int .i64 m.code)):=by
 refine qa5 (TT:=TT) (IN:=qd0 []) qd2 qa8 mixed 1000 Tryz.func30 rfl (qb6 Tryz.func30 (by kernel_rfl) rfl) rfl 6 (by kernel_rfl) ?_
 conv=>whnf
 exact rfl
def Msg.op(m:Msg):Int:=(IntKind.i64.wrap (Go.bits BinOp.and IntKind.u16 m.bits 30720)).fdiv (2 ^ 11)
theorem kc4(m:Msg):FnOk Tryz.prog 38 [.agg m.cells] (.d (.int .i64 m.op)):=by
 refine qa5 (TT:=TT) (IN:=qd0 []) qd2 qa8 mixed 1000 Tryz.func38 rfl (qb6 Tryz.func38 (by kernel_rfl) rfl) rfl 7 (by kernel_rfl) ?_
 conv=>whnf
 refine⟨by decide,?_⟩
 conv=>whnf
 exact rfl
def jm6(z:Zo)(ty:Int):Nat->List UInt8->List RR->List RR × Option (List UInt8)
 |0,_,l=>(l,none)
 |k+1,n,l=>if (getZ z n ty).2=0 then (l++qi1 (getZ z n ty).1,none)
  else if (getZ z n 5).2≠0\/(getZ z n 5).1.data.length=0 then (l,some n)
  else if qa1 ((getZ z n 5).1.data.headD []) z.apex=false\/(cutQ z ((getZ z n 5).1.data.headD [])).2=0 then (l++qi1 (getZ z n 5).1,none)
  else jm6 z ty k ((getZ z n 5).1.data.headD []) (l++qi1 (getZ z n 5).1)
def orB(a b:Int):Int:=Go.bits BinOp.or IntKind.u16 a b
def Msg.cutM(m:Msg)(z:Zo)(c:St):Msg:={ m.reply 0 with zh:=!c.ok,heads:=qi1 c,ze:=(xc9 z c).isEmpty,extra:=xc9 z c }
def ji2(z:Zo):List RR:=if (jh9 z).2=0 then [(jh9 z).1] else []
def Msg.tellM(m:Msg)(z:Zo)(x:List RR × Option (List UInt8)):Msg:=match x.2 with
 |none=>{ m.reply 0 with bits:=orB (m.reply 0).bits 1024,zs:=x.1.isEmpty,says:=x.1 }
 |some n=>{ m.reply 0 with bits:=if qk5 z n then orB (m.reply 0).bits 1024 else orB (orB (m.reply 0).bits 1024) 3,zs:=x.1.isEmpty,says:=x.1,zh:=(ji2 z).isEmpty,heads:=ji2 z }
def ansF(z:Zo)(m:Msg):Msg:=match m.asks with
 |[q]=>if ¬ qa3 q.nm then m.reply 1 else if m.op≠0 then m.reply 4 else if q.cl≠1\/z.ok=false\/qa1 q.nm z.apex=false then m.reply 5
  else if (cutQ z q.nm).2=0 then m.cutM z (cutQ z q.nm).1 else m.tellM z (jm6 z q.ty 8 q.nm [])
 |_=>m.reply 1
theorem yx5{nm:List UInt8}{t:Int}{l:List RR}{d:List UInt8}(h:d ∈ (qb5 nm t l).1.data):∃ r ∈ l,r.d=d:=by
 unfold qb5 at h
 split at h
 ·split at h
  ·cases h
  ·have hd:d ∈ qo7 (qg4 t) ((qe3 nm t l).map (·.d)):=List.mem_of_mem_take h
   obtain⟨i,hi⟩:=(ja9 t (qe3 nm t l)).from hd
   obtain⟨r,hr,rfl⟩:=List.mem_map.1 (List.mem_of_getElem? hi)
   unfold qe3 at hr
   exact⟨r,(List.mem_filter.1 (List.mem_filter.1 hr).1).1,rfl⟩
 ·cases h
theorem xn7{z:Zo}{nm:List UInt8}{t:Int}{d:List UInt8}(h:d ∈ (getZ z nm t).1.data):∃ r ∈ z.rrs,r.d=d:=by
 unfold getZ at h
 split at h
 ·exact yx5 h
 ·cases h
theorem xp3{z:Zo}{nm:List UInt8}{d:List UInt8}(h:d ∈ (cutQ z nm).1.data):∃ r ∈ z.rrs,r.d=d:=by
 unfold cutQ at h
 split at h
 ·split at h
  ·cases h
  ·exact yx5 h
 ·cases h
theorem zj5(s:St):(qi1 s).length<=64:=by
 unfold qi1
 split
 ·rename_i h
  rw[List.length_map]
  exact((St.ok_iff s).1 h).2.2.1.2
 ·exact Nat.zero_le _
theorem qm6{α:Type}(l m:List α):Nat.beq (l.length+m.length) 0=(l++m).isEmpty:=by cases l <;> cases m <;> rfl
theorem ql1{l m:List RR}(j:Nat)(hj:j<l.length+m.length):catF l.length (fun j=>(l.getD j default).enc) (fun j=>(m.getD j default).enc) j=((l++m).getD j default).enc:=by
 unfold catF
 split
 ·rename_i h
  show(l.getD j default).enc=_
  rw[List.getD_eq_getElem?_getD,List.getD_eq_getElem?_getD,List.getElem?_append_left h]
 ·show(m.getD (j - l.length) default).enc=_
  rw[List.getD_eq_getElem?_getD,List.getD_eq_getElem?_getD,List.getElem?_append_right (by omega)]
structure TlS where
 k:Nat
 n:List UInt8
 l:List RR
set_option maxHeartbeats 32000000 in
theorem xg9(z:Zo)(hz:z.Fit)(m:Msg)(h:m.za=true->m.asks=[])(ha:m.asks.length<=1000000):FnOk Tryz.prog 15 [z.V,.agg m.cells] (.agg (ansF z m).cells):=by
 refine qa5 (TT:=TT) (IN:=qd0 [(42,Tryz.f42,3),(76,Tryz.f76,2),(77,Tryz.f77,3)]) qd2 (qc4 (qc4 (qc4 qa8 Tryz.func77 (by kernel_rfl) (by kernel_rfl)) Tryz.func76 (by kernel_rfl) (by kernel_rfl)) Tryz.func42 (by kernel_rfl) (by kernel_rfl)) mixed 1000 Tryz.func15 rfl (qb6 Tryz.func15 (by kernel_rfl) rfl) rfl 83 (by kernel_rfl) ?_
 conv=>whnf
 refine⟨fun h1=>?_,fun h1=>?_⟩
 ·have h1:m.asks.length≠1:=by
   have h:((m.asks.length:Nat):Int)≠1:=by simpa using h1
   omega
  rw[show ansF z m=m.reply 1 by
   unfold ansF
   split
   ·rename_i q hq;rw [hq] at h1;exact absurd rfl h1
   ·rfl]
  conv=>whnf
  refine .one (.data _ (qz6 m 1 h ha) rfl rfl ?_)
  conv=>whnf
  repeat'(first|exact ⟨⟩|exact rfl|exact⟨rfl,rfl,.inr rfl,fun _ _=>rfl⟩|exact⟨rfl,rfl,.inl rfl,noI⟩|apply And.intro)
 have h1:m.asks.length=1:=by
  have h:((m.asks.length:Nat):Int)=1:=by simpa using h1
  omega
 obtain⟨q,hq⟩:∃ q,m.asks=[q]:=by
  cases hm:m.asks with
  |nil=>rw [hm] at h1;simp at h1
  |cons q l =>
   rw [hm] at h1
   have:l=[]:=List.eq_nil_of_length_eq_zero (by simpa using h1)
   exact⟨q,by rw[this]⟩
 have hans:ansF z m=if ¬ qa3 q.nm then m.reply 1 else if m.op≠0 then m.reply 4 else if q.cl≠1\/z.ok=false\/qa1 q.nm z.apex=false then m.reply 5
  else if (cutQ z q.nm).2=0 then m.cutM z (cutQ z q.nm).1 else m.tellM z (jm6 z q.ty 8 q.nm []):=by
  unfold ansF
  rw[hq]
 have hqd:m.asks.getD 0 default=q:=by rw[hq];rfl
 conv=>whnf
 refine⟨⟨Int.le_refl 0,by show(0:Int)<(m.asks.length:Int);omega⟩,?_⟩
 conv=>whnf
 rw[show(0:Int).toNat=0 from rfl,hqd]
 refine .one (.data _ (qg2 q.nm) rfl rfl ?_)
 by_cases hn:qa3 q.nm
 case neg =>
  rw [if_pos hn] at hans
  rw[if_neg hn,hans]
  conv=>whnf
  refine brT rfl ?_
  conv=>whnf
  refine .one (.data _ (qz6 m 1 h ha) rfl rfl ?_)
  conv=>whnf
  repeat'(first|exact ⟨⟩|exact rfl|exact⟨rfl,rfl,.inr rfl,fun _ _=>rfl⟩|exact⟨rfl,rfl,.inl rfl,noI⟩|apply And.intro)
 rw [if_neg (fun h=>h hn)] at hans
 rw[if_pos hn]
 conv=>whnf
 refine brF rfl ?_
 conv=>whnf
 refine⟨⟨Int.le_refl 0,by show(0:Int)<(m.asks.length:Int);omega⟩,?_⟩
 conv=>whnf
 rw[show(0:Int).toNat=0 from rfl,hqd]
 refine .one (.data _ (kc4 m) rfl rfl ?_)
 conv=>whnf
 refine⟨fun h2=>?_,fun h2=>?_⟩
 ·have h2:m.op≠0:=by simpa using h2
  rw [if_pos h2] at hans
  rw[hans]
  conv=>whnf
  refine .one (.data _ (qz6 m 4 h ha) rfl rfl ?_)
  conv=>whnf
  repeat'(first|exact ⟨⟩|exact rfl|exact⟨rfl,rfl,.inr rfl,fun _ _=>rfl⟩|exact⟨rfl,rfl,.inl rfl,noI⟩|apply And.intro)
 have h2:¬ m.op≠0:=by simpa using h2
 rw [if_neg h2] at hans
 conv=>whnf
 refine⟨fun h3=>?_,fun h3=>?_⟩
 ·have h3:q.cl≠1:=by simpa using h3
  rw [if_pos (.inl h3)] at hans
  rw[hans]
  conv=>whnf
  refine .one (.data _ (qz6 m 5 h ha) rfl rfl ?_)
  conv=>whnf
  repeat'(first|exact ⟨⟩|exact rfl|exact⟨rfl,rfl,.inr rfl,fun _ _=>rfl⟩|exact⟨rfl,rfl,.inl rfl,noI⟩|apply And.intro)
 have h3:¬ q.cl≠1:=by simpa using h3
 conv=>whnf
 refine .one (.data _ (yq2 z hz) rfl rfl ?_)
 cases hok:z.ok with
 |false =>
  rw [if_pos (.inr (.inl hok))] at hans
  rw[hans,if_neg (by decide)]
  conv=>whnf
  refine brT rfl ?_
  conv=>whnf
  refine .one (.data _ (qz6 m 5 h ha) rfl rfl ?_)
  conv=>whnf
  repeat'(first|exact ⟨⟩|exact rfl|exact⟨rfl,rfl,.inr rfl,fun _ _=>rfl⟩|exact⟨rfl,rfl,.inl rfl,noI⟩|apply And.intro)
 |true =>
  rw[if_pos rfl]
  conv=>whnf
  refine brF rfl ?_
  conv=>whnf
  refine .one (.data _ (qj0 q.nm z.apex) rfl rfl ?_)
  cases hw:qa1 q.nm z.apex with
  |false =>
   rw [if_pos (.inr (.inr hw))] at hans
   rw[hans]
   conv=>whnf
   refine brT rfl ?_
   conv=>whnf
   refine .one (.data _ (qz6 m 5 h ha) rfl rfl ?_)
   conv=>whnf
   repeat'(first|exact ⟨⟩|exact rfl|exact⟨rfl,rfl,.inr rfl,fun _ _=>rfl⟩|exact⟨rfl,rfl,.inl rfl,noI⟩|apply And.intro)
  |true =>
   rw [if_neg (fun h=>h.elim h3 (fun h=>h.elim (fun h=>by rw [hok] at h;cases h) (fun h=>by rw [hw] at h;cases h)))] at hans
   conv=>whnf
   refine brF rfl ?_
   conv=>whnf
   refine .one (.data _ (qz6 m 0 h ha) rfl rfl ?_)
   conv=>whnf
   refine .one (.data _ (za4 z hz q.nm) rfl rfl ?_)
   have hcd:∀ d ∈ (cutQ z q.nm).1.data,d.length<=100000:=fun d hd=>by obtain⟨r,hr,rfl⟩:=xp3 hd;exact(hz r hr).2
   generalize hcq:cutQ z q.nm=cq at hans hcd ⊢
   conv=>whnf
   refine⟨fun h4=>?_,fun h4=>?_⟩
   ·have h4:cq.2=0:=by simpa using h4
    rw [if_pos h4] at hans
    rw[hans]
    conv=>whnf
    refine .one (.data _ (jn5 cq.1) rfl rfl ?_)
    conv=>whnf
    refine .one (.data _ (xi2 z hz cq.1 hcd) rfl rfl ?_)
    conv=>whnf
    repeat'(first|exact ⟨⟩|exact rfl|exact⟨rfl,rfl,.inr rfl,fun _ _=>rfl⟩|exact⟨rfl,rfl,.inl rfl,noI⟩|apply And.intro)
   have h4:¬ cq.2=0:=by simpa using h4
   rw [if_neg h4] at hans
   rw[hans]
   clear hans
   conv=>whnf
   refine .nilC 4 3 94 5 (fun _=>[]) _ _ _ _ rfl rfl ?_
   refine .inv TlS (fun s=>jm6 z q.ty s.k s.n s.l=jm6 z q.ty 8 q.nm []/\s.k<=8/\s.n.length<=100000/\s.l.length<=(8 - s.k) * 64) (fun s=>[(15,.d (.int .i64 ((8 - s.k:Nat):Int))),(6,.d (.str s.n))]) (fun s=>[(4,.cells 87 [.d (.int .u16 (m.reply 0).id),.d (.int .u16 (orB (m.reply 0).bits 1024)),.d (qsD (m.reply 0).za (m.reply 0).asks),.all 8,.d (rrsD true []),.d (rrsD true [])]),(8,.row 94 5 s.l.length .iff (fun j=>(s.l.getD j default).enc))]) (fun s=>s.k) ⟨⟨8,q.nm,[]⟩,[0,1,2,3,4,5,6,7,8],⟨rfl,Nat.le_refl _,by have:=hn.2.1;show q.nm.length<=100000;omega,Nat.zero_le _⟩,?_⟩ ?_
   ·conv=>whnf
    repeat'(first|exact ⟨⟩|exact rfl|exact qa0 _|exact .inr rfl|exact fun _ _=>rfl|exact noI|apply And.intro)
   intro s hs
   obtain⟨ht,hk,hnl,hll⟩:=hs
   conv=>whnf
   generalize s.k=k at ht hk hll ⊢
   generalize s.n=n at ht hnl ⊢
   generalize s.l=l at ht hll ⊢
   generalize jm6 z q.ty 8 q.nm []=T at ht ⊢
   refine⟨fun h5=>?_,fun h5=>?_⟩
   ·have h5:((8 - k:Nat):Int)<8:=of_decide_eq_true h5
    obtain⟨k,rfl⟩:∃ k',k=k'+1:=⟨k - 1,by omega⟩
    have hw1:IntKind.i64.wrap (((8 - (k+1):Nat):Int)+1)=((8 - k:Nat):Int):=by rw[qa2 _ (by omega)];omega
    have e1:jm6 z q.ty (k+1) n l=if (getZ z n q.ty).2=0 then (l++qi1 (getZ z n q.ty).1,none)
     else if (getZ z n 5).2≠0\/(getZ z n 5).1.data.length=0 then (l,some n)
     else if qa1 ((getZ z n 5).1.data.headD []) z.apex=false\/(cutQ z ((getZ z n 5).1.data.headD [])).2=0 then (l++qi1 (getZ z n 5).1,none)
     else jm6 z q.ty k ((getZ z n 5).1.data.headD []) (l++qi1 (getZ z n 5).1):=rfl
    conv=>whnf
    refine .one (.data _ (zu6 z hz n q.ty hnl) rfl rfl ?_)
    generalize getZ z n q.ty=g1 at e1 ⊢
    conv=>whnf
    refine⟨fun h6=>?_,fun h6=>?_⟩
    ·have h6:g1.2=0:=by simpa using h6
     rw [if_pos h6] at e1
     rw[<-ht,e1]
     have hrl:=zj5 g1.1
     conv=>whnf
     have hrec:=jn5 g1.1
     apply Exists.intro
     apply Exists.intro
     refine⟨?_,?_⟩
     ·conv=>whnf
      repeat'(first|exact ⟨⟩|exact⟨rfl,rfl⟩|refine .data _ hrec rfl rfl ?_|refine And.intro (by omega) ?_|apply And.intro|(conv=>whnf))
     conv=>whnf
     repeat'(first|exact ⟨⟩|exact rfl|exact⟨rfl,rfl,.inr rfl,fun _ _=>rfl⟩|exact⟨rfl,rfl,.inl rfl,noI⟩|apply And.intro)
     all_goals first
      |exact qf6 _
      |exact qm6 _ _
      |exact .inr rfl
      |exact(List.length_append ..).symm
      |exact fun j hj=>ql1 j hj
      |exact fun _ _=>rfl
      |(intro j hj;match j,hj with|0,_=>rfl)
    have h6:¬ g1.2=0:=by simpa using h6
    rw [if_neg h6] at e1
    conv=>whnf
    refine .one (.data _ (zu6 z hz n 5 hnl) rfl rfl ?_)
    have hgd:∀ d ∈ (getZ z n 5).1.data,d.length<=100000:=fun d hd=>by obtain⟨r,hr,rfl⟩:=xn7 hd;exact(hz r hr).2
    generalize getZ z n 5=g2 at e1 hgd ⊢
    obtain⟨L,e2⟩:=g2
    have hhd:L.data.headD []=L.data[0]?.getD []:=by cases L.data <;> rfl
    have hno:(e2≠0\/L.data.length=0)->T=(l,some n):=fun h=>by rw[<-ht,e1,if_pos h]
    have hyes:¬ (e2≠0\/L.data.length=0)->T=if qa1 (L.data[0]?.getD []) z.apex=false\/(cutQ z (L.data[0]?.getD [])).2=0 then (l++qi1 L,none) else jm6 z q.ty k (L.data[0]?.getD []) (l++qi1 L):=fun h=>by rw[<-ht,e1,if_neg h,hhd]
    clear e1
    conv=>whnf
    refine⟨fun h7=>?_,fun h7=>?_⟩
    ·have h7:e2≠0:=by simpa using h7
     rw[hno (.inl h7)]
     conv=>whnf
     refine .one (.data _ (zi0 z hz) rfl rfl ?_)
     conv=>whnf
     refine⟨fun d1=>?_,fun d1=>?_⟩
     ·have d1:(jh9 z).2=0:=by simpa using d1
      have hdn:ji2 z=[(jh9 z).1]:=by unfold ji2;rw[if_pos d1]
      rw[show m.tellM z (l,some n)=⟨(m.reply 0).id,if qk5 z n then orB (m.reply 0).bits 1024 else orB (orB (m.reply 0).bits 1024) 3,(m.reply 0).za,(m.reply 0).asks,l.isEmpty,l,false,[(jh9 z).1],true,[]⟩ by unfold Msg.tellM;rw[hdn];rfl]
      conv=>whnf
      refine⟨by omega,?_⟩
      conv=>whnf
      refine .one (.data _ (je0 z hz n) rfl rfl ?_)
      cases qk5 z n with
      |true =>
       rw[if_pos rfl]
       conv=>whnf
       refine brF rfl ?_
       conv=>whnf
       repeat'(first|exact ⟨⟩|exact rfl|exact⟨rfl,rfl,.inr rfl,fun _ _=>rfl⟩|exact⟨rfl,rfl,.inl rfl,noI⟩|apply And.intro)
       all_goals first
        |exact qf6 _
        |exact qm6 _ _
        |exact .inr rfl
        |exact(List.length_append ..).symm
        |exact fun j hj=>ql1 j hj
        |exact fun _ _=>rfl
        |(intro j hj;match j,hj with|0,_=>rfl)
      |false =>
       rw[if_neg (by decide)]
       conv=>whnf
       refine brT rfl ?_
       conv=>whnf
       repeat'(first|exact ⟨⟩|exact rfl|exact⟨rfl,rfl,.inr rfl,fun _ _=>rfl⟩|exact⟨rfl,rfl,.inl rfl,noI⟩|apply And.intro)
       all_goals first
        |exact qf6 _
        |exact qm6 _ _
        |exact .inr rfl
        |exact(List.length_append ..).symm
        |exact fun j hj=>ql1 j hj
        |exact fun _ _=>rfl
        |(intro j hj;match j,hj with|0,_=>rfl)
     ·have d1:¬ (jh9 z).2=0:=by simpa using d1
      have hdn:ji2 z=[]:=by unfold ji2;rw[if_neg d1]
      rw[show m.tellM z (l,some n)=⟨(m.reply 0).id,if qk5 z n then orB (m.reply 0).bits 1024 else orB (orB (m.reply 0).bits 1024) 3,(m.reply 0).za,(m.reply 0).asks,l.isEmpty,l,true,[],true,[]⟩ by unfold Msg.tellM;rw[hdn];rfl]
      conv=>whnf
      refine .one (.data _ (je0 z hz n) rfl rfl ?_)
      cases qk5 z n with
      |true =>
       rw[if_pos rfl]
       conv=>whnf
       refine brF rfl ?_
       conv=>whnf
       repeat'(first|exact ⟨⟩|exact rfl|exact⟨rfl,rfl,.inr rfl,fun _ _=>rfl⟩|exact⟨rfl,rfl,.inl rfl,noI⟩|apply And.intro)
       all_goals first
        |exact qf6 _
        |exact qm6 _ _
        |exact .inr rfl
        |exact(List.length_append ..).symm
        |exact fun j hj=>ql1 j hj
        |exact fun _ _=>rfl
        |(intro j hj;match j,hj with|0,_=>rfl)
      |false =>
       rw[if_neg (by decide)]
       conv=>whnf
       refine brT rfl ?_
       conv=>whnf
       repeat'(first|exact ⟨⟩|exact rfl|exact⟨rfl,rfl,.inr rfl,fun _ _=>rfl⟩|exact⟨rfl,rfl,.inl rfl,noI⟩|apply And.intro)
       all_goals first
        |exact qf6 _
        |exact qm6 _ _
        |exact .inr rfl
        |exact(List.length_append ..).symm
        |exact fun j hj=>ql1 j hj
        |exact fun _ _=>rfl
        |(intro j hj;match j,hj with|0,_=>rfl)
    have h7:e2=0:=by simpa using h7
    conv=>whnf
    refine⟨fun h8=>?_,fun h8=>?_⟩
    ·have h8:L.data.length=0:=by
      have h:(L.data.length:Int)=0:=by simpa using h8
      omega
     rw[hno (.inr h8)]
     conv=>whnf
     refine .one (.data _ (zi0 z hz) rfl rfl ?_)
     conv=>whnf
     refine⟨fun d1=>?_,fun d1=>?_⟩
     ·have d1:(jh9 z).2=0:=by simpa using d1
      have hdn:ji2 z=[(jh9 z).1]:=by unfold ji2;rw[if_pos d1]
      rw[show m.tellM z (l,some n)=⟨(m.reply 0).id,if qk5 z n then orB (m.reply 0).bits 1024 else orB (orB (m.reply 0).bits 1024) 3,(m.reply 0).za,(m.reply 0).asks,l.isEmpty,l,false,[(jh9 z).1],true,[]⟩ by unfold Msg.tellM;rw[hdn];rfl]
      conv=>whnf
      refine⟨by omega,?_⟩
      conv=>whnf
      refine .one (.data _ (je0 z hz n) rfl rfl ?_)
      cases qk5 z n with
      |true =>
       rw[if_pos rfl]
       conv=>whnf
       refine brF rfl ?_
       conv=>whnf
       repeat'(first|exact ⟨⟩|exact rfl|exact⟨rfl,rfl,.inr rfl,fun _ _=>rfl⟩|exact⟨rfl,rfl,.inl rfl,noI⟩|apply And.intro)
       all_goals first
        |exact qf6 _
        |exact qm6 _ _
        |exact .inr rfl
        |exact(List.length_append ..).symm
        |exact fun j hj=>ql1 j hj
        |exact fun _ _=>rfl
        |(intro j hj;match j,hj with|0,_=>rfl)
      |false =>
       rw[if_neg (by decide)]
       conv=>whnf
       refine brT rfl ?_
       conv=>whnf
       repeat'(first|exact ⟨⟩|exact rfl|exact⟨rfl,rfl,.inr rfl,fun _ _=>rfl⟩|exact⟨rfl,rfl,.inl rfl,noI⟩|apply And.intro)
       all_goals first
        |exact qf6 _
        |exact qm6 _ _
        |exact .inr rfl
        |exact(List.length_append ..).symm
        |exact fun j hj=>ql1 j hj
        |exact fun _ _=>rfl
        |(intro j hj;match j,hj with|0,_=>rfl)
     ·have d1:¬ (jh9 z).2=0:=by simpa using d1
      have hdn:ji2 z=[]:=by unfold ji2;rw[if_neg d1]
      rw[show m.tellM z (l,some n)=⟨(m.reply 0).id,if qk5 z n then orB (m.reply 0).bits 1024 else orB (orB (m.reply 0).bits 1024) 3,(m.reply 0).za,(m.reply 0).asks,l.isEmpty,l,true,[],true,[]⟩ by unfold Msg.tellM;rw[hdn];rfl]
      conv=>whnf
      refine .one (.data _ (je0 z hz n) rfl rfl ?_)
      cases qk5 z n with
      |true =>
       rw[if_pos rfl]
       conv=>whnf
       refine brF rfl ?_
       conv=>whnf
       repeat'(first|exact ⟨⟩|exact rfl|exact⟨rfl,rfl,.inr rfl,fun _ _=>rfl⟩|exact⟨rfl,rfl,.inl rfl,noI⟩|apply And.intro)
       all_goals first
        |exact qf6 _
        |exact qm6 _ _
        |exact .inr rfl
        |exact(List.length_append ..).symm
        |exact fun j hj=>ql1 j hj
        |exact fun _ _=>rfl
        |(intro j hj;match j,hj with|0,_=>rfl)
      |false =>
       rw[if_neg (by decide)]
       conv=>whnf
       refine brT rfl ?_
       conv=>whnf
       repeat'(first|exact ⟨⟩|exact rfl|exact⟨rfl,rfl,.inr rfl,fun _ _=>rfl⟩|exact⟨rfl,rfl,.inl rfl,noI⟩|apply And.intro)
       all_goals first
        |exact qf6 _
        |exact qm6 _ _
        |exact .inr rfl
        |exact(List.length_append ..).symm
        |exact fun j hj=>ql1 j hj
        |exact fun _ _=>rfl
        |(intro j hj;match j,hj with|0,_=>rfl)
    have h8:¬ L.data.length=0:=by
     have h:¬ (L.data.length:Int)=0:=by simpa using h8
     omega
    have hT:=hyes (fun h=>h.elim (fun h=>h h7) h8)
    have hrl:=zj5 L
    have hrec:=jn5 L
    conv=>whnf
    apply Exists.intro
    apply Exists.intro
    refine⟨?_,?_⟩
    ·conv=>whnf
     repeat'(first|exact ⟨⟩|exact⟨rfl,rfl⟩|refine .data _ hrec rfl rfl ?_|refine And.intro (by omega) ?_|apply And.intro|(conv=>whnf))
    conv=>whnf
    refine⟨⟨Int.le_refl 0,by show(0:Int)<(L.data.length:Int);omega⟩,?_⟩
    conv=>whnf
    refine .one (.data _ (qj0 _ z.apex) rfl rfl ?_)
    have hdl:(L.data[0]?.getD []).length<=100000:=by
     cases hL:L.data with
     |nil=>rw [hL] at h8;exact absurd rfl h8
     |cons a b=>exact hgd a (by rw[show(L,e2).1.data=L.data from rfl,hL];simp)
    rw[show L.data[(0:Int).toNat]?.getD []=L.data[0]?.getD [] from rfl]
    generalize L.data[0]?.getD []=n2 at hT hdl ⊢
    cases h9:qa1 n2 z.apex with
    |false =>
     rw [if_pos (.inl h9)] at hT
     rw[hT]
     conv=>whnf
     refine brT rfl ?_
     conv=>whnf
     repeat'(first|exact ⟨⟩|exact rfl|exact⟨rfl,rfl,.inr rfl,fun _ _=>rfl⟩|exact⟨rfl,rfl,.inl rfl,noI⟩|apply And.intro)
     all_goals first
      |exact qf6 _
      |exact qm6 _ _
      |exact .inr rfl
      |exact(List.length_append ..).symm
      |exact fun j hj=>ql1 j hj
      |exact fun _ _=>rfl
      |(intro j hj;match j,hj with|0,_=>rfl)
    |true =>
     conv=>whnf
     refine brF rfl ?_
     conv=>whnf
     refine .one (.data _ (za4 z hz n2) rfl rfl ?_)
     generalize cutQ z n2=cq2 at hT ⊢
     conv=>whnf
     refine⟨fun h10=>?_,fun h10=>?_⟩
     ·have h10:cq2.2=0:=by simpa using h10
      rw [if_pos (.inr h10)] at hT
      rw[hT]
      conv=>whnf
      repeat'(first|exact ⟨⟩|exact rfl|exact⟨rfl,rfl,.inr rfl,fun _ _=>rfl⟩|exact⟨rfl,rfl,.inl rfl,noI⟩|apply And.intro)
      all_goals first
       |exact qf6 _
       |exact qm6 _ _
       |exact .inr rfl
       |exact(List.length_append ..).symm
       |exact fun j hj=>ql1 j hj
       |exact fun _ _=>rfl
       |(intro j hj;match j,hj with|0,_=>rfl)
     ·have h10:¬ cq2.2=0:=by simpa using h10
      rw [if_neg (fun h=>h.elim (fun h=>by rw [h9] at h;cases h) h10)] at hT
      conv=>whnf
      rw[hw1]
      refine⟨⟨k,n2,l++qi1 L⟩,[0,1,2,3,4,5,6,7,12],⟨hT.symm,by show k<=8;omega,hdl,by show(l++qi1 L).length<=(8 - k) * 64;rw[List.length_append];omega⟩,Nat.lt_succ_self k,?_⟩
      conv=>whnf
      repeat'(first|exact ⟨⟩|exact rfl|exact qa0 _|exact .inr rfl|exact fun _ _=>rfl|exact noI|apply And.intro)
      all_goals first
       |exact(List.length_append ..).symm
       |exact fun j hj=>ql1 j hj
   ·have h5:¬ ((8 - k:Nat):Int)<8:=of_decide_eq_false h5
    have hk0:k=0:=by omega
    subst hk0
    rw[<-ht,show jm6 z q.ty 0 n l=(l,none) from rfl]
    conv=>whnf
    repeat'(first|exact ⟨⟩|exact rfl|exact⟨rfl,rfl,.inr rfl,fun _ _=>rfl⟩|exact⟨rfl,rfl,.inl rfl,noI⟩|apply And.intro)
    all_goals first
     |exact qf6 _
     |exact qm6 _ _
     |exact .inr rfl
     |exact(List.length_append ..).symm
     |exact fun j hj=>ql1 j hj
     |exact fun _ _=>rfl
     |(intro j hj;match j,hj with|0,_=>rfl)
def qi6(ty:Int)(L:List RR):Nat->List UInt8->List St->List St × List UInt8
 |0,n,c=>(c,n)
 |k+1,n,c=>if ty=5\/(qb5 n ty L).2=0\/(qb5 n 5 L).2≠0\/(qb5 n 5 L).1.data.length=0 then (c,n) else qi6 ty L k ((qb5 n 5 L).1.data.headD []) (c++[(qb5 n 5 L).1])
theorem zm2{nm:List UInt8}{t:Int}{l:List RR}{d:List UInt8}(h:d ∈ (qb5 nm t l).1.data):∃ r ∈ l,r.d=d:=by
 unfold qb5 at h
 split at h
 ·split at h
  ·cases h
  ·have hd:d ∈ qo7 (qg4 t) ((qe3 nm t l).map (·.d)):=List.mem_of_mem_take h
   obtain⟨i,hi⟩:=(ja9 t (qe3 nm t l)).from hd
   obtain⟨r,hr,rfl⟩:=List.mem_map.1 (List.mem_of_getElem? hi)
   unfold qe3 at hr
   exact⟨r,(List.mem_filter.1 (List.mem_filter.1 hr).1).1,rfl⟩
 ·cases h
structure ChS where
 k:Nat
 n:List UInt8
 c:List St
def yd1(l:List RR):Prop:=l.length<=100000/\∀ r ∈ l,r.nm.length<=100000/\r.d.length<=100000
set_option maxHeartbeats 16000000 in
theorem xp8(q:Q)(hq:q.nm.length<=100000)(z:Bool)(L:List RR)(hL:yd1 L):FnOk Tryz.prog 31 [.agg [.d (.str q.nm),.d (.int .u16 q.ty),.d (.int .u16 q.cl)],.d (rrsD z L)] (.tup [.d (stsD (qi6 q.ty L 8 q.nm []).1.isEmpty (qi6 q.ty L 8 q.nm []).1),.d (.str (qi6 q.ty L 8 q.nm []).2)]):=by
 refine qa5 (TT:=TT) (IN:=qd0 []) qd2 qa8 mixed 1000 Tryz.func31 rfl (qb6 Tryz.func31 (by kernel_rfl) rfl) rfl 52 (by kernel_rfl) ?_
 conv=>whnf
 refine .nilT 6 47 4 (fun _=>[]) _ _ rfl ?_
 conv=>whnf
 refine .inv ChS (fun s=>qi6 q.ty L s.k s.n s.c=qi6 q.ty L 8 q.nm []/\s.c.length+s.k=8/\s.n.length<=100000) (fun s=>[(6,.all 1),(7,.d (.str s.n))]) (fun s=>[(1,.row 47 4 s.c.length .iff (fun j=>(s.c.getD j default).enc))]) (fun s=>s.k) ⟨⟨8,q.nm,[]⟩,[0,1],⟨rfl,rfl,hq⟩,?_⟩ ?_
 ·conv=>whnf
  repeat'(first|exact ⟨⟩|exact rfl|exact qa0 _|exact .inr rfl|exact fun _ _=>rfl|exact noI|apply And.intro)
 intro s hs
 obtain⟨ht,hk,hn⟩:=hs
 conv=>whnf
 generalize s.k=k at ht hk ⊢
 generalize s.n=n at ht hn ⊢
 generalize s.c=c at ht hk ⊢
 generalize qi6 q.ty L 8 q.nm []=T at ht ⊢
 refine⟨fun h1=>?_,fun h1=>?_⟩
 ·have h1:c.length<8:=by
   have h:(c.length:Int)<8:=of_decide_eq_true h1
   omega
  obtain⟨k,rfl⟩:∃ k',k=k'+1:=⟨k - 1,by omega⟩
  have e1:qi6 q.ty L (k+1) n c=if q.ty=5\/(qb5 n q.ty L).2=0\/(qb5 n 5 L).2≠0\/(qb5 n 5 L).1.data.length=0 then (c,n) else qi6 q.ty L k ((qb5 n 5 L).1.data.headD []) (c++[(qb5 n 5 L).1]):=rfl
  conv=>whnf
  refine .one (.data _ (jo7 n q.ty z L hL.1 hn (fun r hr=>(hL.2 r hr).1)) rfl rfl ?_)
  generalize qb5 n q.ty L=g1 at e1 ⊢
  conv=>whnf
  refine⟨fun h2=>?_,fun h2=>?_⟩
  ·have h2r:=h2
   have h2:q.ty=5:=by simpa using h2
   rw [if_pos (.inl h2)] at e1
   rw[<-ht,e1]
   conv=>whnf
   refine brT h2r ?_
   conv=>whnf
   repeat'(first|exact ⟨⟩|exact rfl|exact⟨rfl,rfl,.inr rfl,fun _ _=>rfl⟩|exact⟨rfl,rfl,.inl rfl,noI⟩|apply And.intro)
   all_goals first
    |exact qf6 _
    |exact .inr rfl
    |exact fun _ _=>rfl
  have h2:¬ q.ty=5:=by simpa using h2
  conv=>whnf
  refine⟨fun h3=>?_,fun h3=>?_⟩
  ·have h3:g1.2=0:=by simpa using h3
   rw [if_pos (.inr (.inl h3))] at e1
   rw[<-ht,e1]
   conv=>whnf
   repeat'(first|exact ⟨⟩|exact rfl|exact⟨rfl,rfl,.inr rfl,fun _ _=>rfl⟩|exact⟨rfl,rfl,.inl rfl,noI⟩|apply And.intro)
   all_goals first
    |exact qf6 _
    |exact .inr rfl
    |exact fun _ _=>rfl
  have h3:¬ g1.2=0:=by simpa using h3
  conv=>whnf
  refine .one (.data _ (jo7 n 5 z L hL.1 hn (fun r hr=>(hL.2 r hr).1)) rfl rfl ?_)
  have hgd:∀ d ∈ (qb5 n 5 L).1.data,d.length<=100000:=fun d hd=>by obtain⟨r,hr,rfl⟩:=zm2 hd;exact(hL.2 r hr).2
  generalize qb5 n 5 L=g2 at e1 hgd ⊢
  obtain⟨X,e2⟩:=g2
  have hhd:X.data.headD []=X.data[0]?.getD []:=by cases X.data <;> rfl
  rw [show (X,e2).1.data.headD []=X.data[0]?.getD [] from hhd] at e1
  conv=>whnf
  refine⟨fun h4=>?_,fun h4=>?_⟩
  ·have h4:e2≠0:=by simpa using h4
   rw [if_pos (.inr (.inr (.inl h4)))] at e1
   rw[<-ht,e1]
   conv=>whnf
   repeat'(first|exact ⟨⟩|exact rfl|exact⟨rfl,rfl,.inr rfl,fun _ _=>rfl⟩|exact⟨rfl,rfl,.inl rfl,noI⟩|apply And.intro)
   all_goals first
    |exact qf6 _
    |exact .inr rfl
    |exact fun _ _=>rfl
  have h4:e2=0:=by simpa using h4
  conv=>whnf
  refine⟨fun h5=>?_,fun h5=>?_⟩
  ·have h5:X.data.length=0:=by
    have h:(X.data.length:Int)=0:=by simpa using h5
    omega
   rw [if_pos (.inr (.inr (.inr h5)))] at e1
   rw[<-ht,e1]
   conv=>whnf
   repeat'(first|exact ⟨⟩|exact rfl|exact⟨rfl,rfl,.inr rfl,fun _ _=>rfl⟩|exact⟨rfl,rfl,.inl rfl,noI⟩|apply And.intro)
   all_goals first
    |exact qf6 _
    |exact .inr rfl
    |exact fun _ _=>rfl
  have h5:¬ X.data.length=0:=by
   have h:¬ (X.data.length:Int)=0:=by simpa using h5
   omega
  rw [if_neg (fun h=>h.elim h2 (fun h=>h.elim h3 (fun h=>h.elim (fun h=>h h4) h5)))] at e1
  conv=>whnf
  refine⟨by omega,?_⟩
  conv=>whnf
  refine⟨⟨Int.le_refl 0,by show(0:Int)<(X.data.length:Int);omega⟩,?_⟩
  conv=>whnf
  have hdl:(X.data[0]?.getD []).length<=100000:=by
   cases hL:X.data with
   |nil=>rw [hL] at h5;exact absurd rfl h5
   |cons a b=>exact hgd a (by rw[show(X,e2).1.data=X.data from rfl,hL];simp)
  refine⟨⟨k,X.data[0]?.getD [],c++[X]⟩,[0,5],⟨by rw[<-ht,e1],by show(c++[X]).length+k=8;rw[List.length_append,List.length_singleton];omega,hdl⟩,Nat.lt_succ_self k,?_⟩
  conv=>whnf
  repeat'(first|exact ⟨⟩|exact rfl|exact qa0 _|exact .inr rfl|exact fun _ _=>rfl|exact noI|apply And.intro)
  all_goals first
   |(show _+1=(_++[_]).length;simp;done)
   |exact fun j hj=>xz5 _ _ j hj
 ·have h1:¬ c.length<8:=by
   have h:¬ (c.length:Int)<8:=of_decide_eq_false h1
   omega
  have hk0:k=0:=by omega
  subst hk0
  rw[<-ht,show qi6 q.ty L 0 n c=(c,n) from rfl]
  conv=>whnf
  repeat'(first|exact ⟨⟩|exact rfl|exact⟨rfl,rfl,.inr rfl,fun _ _=>rfl⟩|exact⟨rfl,rfl,.inl rfl,noI⟩|apply And.intro)
  all_goals first
   |exact qf6 _
   |exact .inr rfl
   |exact fun _ _=>rfl
section
theorem yu0{a b:List UInt8}(h:fold a=fold b)(t:Int)(l:List RR):qe3 a t l=qe3 b t l:=by
 unfold qe3
 congr 1
 congr 1
 funext r
 unfold ql3
 rw[h,jy3 h]
theorem zc7(n:List UInt8)(t:Int)(l m:List RR):qe3 n t (l++m)=qe3 n t l++qe3 n t m:=by
 unfold qe3
 rw[List.filter_append,List.filter_append]
theorem pick_mem{n:List UInt8}{t:Int}{l:List RR}{r:RR}:r ∈ qe3 n t l↔r ∈ l/\r.ty=t/\fold r.nm=fold n/\qg3 r=true:=by
 unfold qe3 ql3
 rw[List.mem_filter,List.mem_filter]
 simp only[Bool.and_eq_true,beq_iff_eq]
 constructor
 ·rintro ⟨⟨h1,h2,h3,h4⟩,h5⟩;exact⟨h1,h2,h4,h5⟩
 ·rintro ⟨h1,h2,h4,h5⟩;exact⟨⟨h1,h2,jy3 h4,h4⟩,h5⟩
theorem find_ok_iff{n:List UInt8}{t:Int}{l:List RR}:(qb5 n t l).2=0↔qa3 n/\qe3 n t l≠[]:=by
 unfold qb5
 split
 ·rename_i hn
  cases hp:qe3 n t l with
  |nil=>simp
  |cons a b=>simp[hn]
 ·rename_i hn
  simp[hn]
theorem zf0{n:List UInt8}{t:Int}{l:List RR}(hn:qa3 n)(h:qe3 n t l≠[]):qb5 n t l=(jr4 n t (qe3 n t l),0):=by
 unfold qb5
 rw[if_pos hn,if_neg (by simpa using h)]
theorem yx3{a b:List UInt8}(ha:qa3 a)(hb:qa3 b)(h:fold a=fold b)(t:Int)(l:List RR):(qb5 a t l).2=0↔(qb5 b t l).2=0:=by
 rw[find_ok_iff,find_ok_iff,yu0 h t l]
 exact⟨fun h=>⟨hb,h.2⟩,fun h=>⟨ha,h.2⟩⟩
theorem zm1{n:List UInt8}{t:Int}{l:List RR}(hn:qa3 n){d:List UInt8}{ttl:Int}(h:qe3 n t l≠[])(hall:∀ r ∈ qe3 n t l,r.d=d/\r.ttl=ttl):qb5 n t l=(⟨n,t,ttl,false,[d]⟩,0):=by
 rw[zf0 hn h]
 have hF:=jl5 (qg4 t) ((qe3 n t l).map (·.d))
 have hm:((qe3 n t l).getD 0 default) ∈ qe3 n t l:=by
  cases hP:qe3 n t l with
  |nil=>exact absurd hP h
  |cons a P=>simp
 have hd:qo7 (qg4 t) ((qe3 n t l).map (·.d))=[d]:=by
  have hlen:=hF.len (by simpa using h)
  have hall2:∀ x ∈ qo7 (qg4 t) ((qe3 n t l).map (·.d)),x=d:=fun x hx=>by
   obtain⟨i,hi⟩:=hF.from hx
   obtain⟨r,hr,rfl⟩:=List.mem_map.1 (List.mem_of_getElem? hi)
   exact(hall r hr).1
  have hrise:=hF.rise
  generalize qo7 (qg4 t) ((qe3 n t l).map (·.d))=D at hlen hall2 hrise
  match D,hlen,hall2,hrise with
  |[x],_,h2,_=>rw[h2 x (by simp)]
  |x :: y :: D,_,h2,h3 =>
   have h4:=(List.pairwise_cons.1 h3).1 y (by simp)
   rw [h2 x (by simp),h2 y (by simp),qu3] at h4
   cases h4
 unfold jr4 qw2
 rw[hd,(hall _ hm).2,jn8 _ (fun r hr=>(hall r hr).2)]
 rfl
theorem ya5{s:St}(hok:s.ok=true){n:List UInt8}(hn:n=s.nm){l:List RR}(h:qe3 n s.ty l=s.data.map (recT s)):qb5 n s.ty l=(⟨s.nm,s.ty,s.ttl,false,s.data⟩,0):=by
 obtain⟨k1,k2,k3,k4,k5⟩:=(St.ok_iff s).1 hok
 subst hn
 have hne:s.data≠[]:=fun e=>by rw [e] at k3;simp at k3
 have hp:qe3 s.nm s.ty l≠[]:=by rw[h];simpa using hne
 rw[zf0 k1 hp,h]
 unfold jr4 qw2
 have e1:(s.data.map (recT s)).map (·.d)=s.data:=by rw[List.map_map];exact List.map_id _
 rw[e1]
 have e2:qo7 (qg4 s.ty) s.data=s.data:=Firsts.uniq (jl5 _ _) (Firsts.self k5)
 rw[e2,List.take_of_length_le k3.2]
 have e3:((s.data.map (recT s)).getD 0 default).ttl=s.ttl:=by
  cases hd:s.data with
  |nil=>exact absurd hd hne
  |cons a b=>rfl
 rw[e3,jn8 _ (fun r hr=>by obtain⟨d,_,rfl⟩:=List.mem_map.1 hr;rfl)]
def inZ(z:Zo)(n:List UInt8):Bool:=qa1 n z.apex && (cutQ z n).2 != 0
theorem xp2{z:Zo}{a b:List UInt8}(ha:qa3 a)(hb:qa3 b)(h:fold a=fold b):z.cut a=none↔z.cut b=none:=by
 unfold Zo.cut
 rw[topCut_none,topCut_none]
 constructor
 ·intro k c hc;rw[<-qn7 ha hb h];exact k c hc
 ·intro k c hc;rw[qn7 ha hb h];exact k c hc
theorem yy8{z:Zo}(hz:z.ok=true)(n:List UInt8):(cutQ z n).2=0↔z.cut n≠none:=by
 rcases jm0 hz n with⟨h1,h2,_⟩|⟨c,h1,h2,_⟩
 ·rw[h1,h2];simp
 ·rw[h1,h2];simp
theorem jz1{z:Zo}(hz:z.ok=true){n:List UInt8}:inZ z n=true↔qa1 n z.apex=true/\z.cut n=none:=by
 unfold inZ
 rw[Bool.and_eq_true,bne_iff_ne,Ne,yy8 hz]
 constructor
 ·rintro ⟨h1,h2⟩;exact⟨h1,Classical.not_not.1 h2⟩
 ·rintro ⟨h1,h2⟩;exact⟨h1,fun h=>h h2⟩
theorem xn3{z:Zo}(hz:z.ok=true){a b:List UInt8}(ha:qa3 a)(hb:qa3 b)(h:fold a=fold b):inZ z a=inZ z b:=by
 rw[Bool.eq_iff_iff,jz1 hz,jz1 hz,qn7 ha hb h,xp2 ha hb h]
inductive Fin3 where
 |ans|deny|off
deriving DecidableEq
def qc1(z:Zo)(ty:Int):Nat->List UInt8->List St × List UInt8 × Fin3
 |0,n=>([],n,.off)
 |k+1,n=>if (qb5 n ty z.rrs).2=0 then ([],n,.ans)
  else if (qb5 n 5 z.rrs).2≠0 then ([],n,.deny)
  else if inZ z ((qb5 n 5 z.rrs).1.data.headD []) then ((qb5 n 5 z.rrs).1 :: (qc1 z ty k ((qb5 n 5 z.rrs).1.data.headD [])).1,(qc1 z ty k ((qb5 n 5 z.rrs).1.data.headD [])).2)
  else ([(qb5 n 5 z.rrs).1],(qb5 n 5 z.rrs).1.data.headD [],.off)
theorem yx4{n:List UInt8}{t:Int}{l:List RR}(h:(qb5 n t l).2=0)(ht:t≠41):(qb5 n t l).1.data.length≠0:=by
 have:=((St.ok_iff _).1 (qj4 h ht).1).2.2.1.1
 omega
def qo1(z:Zo)(ty:Int)(x:List St × List UInt8 × Fin3):List RR:=x.1.flatMap qi1++(if x.2.2 = .ans then qi1 (qb5 x.2.1 ty z.rrs).1 else [])
theorem jm5{z:Zo}(hz:z.ok=true)(ty:Int):∀ (k:Nat) (n:List UInt8) (l:List RR),jm6 z ty k n l=(l++qo1 z ty (qc1 z ty k n),if (qc1 z ty k n).2.2 = .deny then some (qc1 z ty k n).2.1 else none)
 |0,n,l=>by
  show(l,none)=(l++qo1 z ty ([],n,Fin3.off),none)
  unfold qo1
  simp
 |k+1,n,l=>by
  have hg:∀ t,getZ z n t=qb5 n t z.rrs:=fun t=>by unfold getZ;rw[if_pos hz]
  unfold jm6 qc1
  rw[hg,hg]
  by_cases h1:(qb5 n ty z.rrs).2=0
  ·rw[if_pos h1,if_pos h1]
   unfold qo1
   simp
  ·rw[if_neg h1,if_neg h1]
   by_cases h2:(qb5 n 5 z.rrs).2≠0
   ·rw[if_pos (.inl h2),if_pos h2]
    unfold qo1
    simp
   ·have h2':(qb5 n 5 z.rrs).2=0:=Classical.not_not.1 h2
    rw[if_neg (fun h=>h.elim h2 (yx4 h2' (by decide))),if_neg h2]
    cases h3:inZ z ((qb5 n 5 z.rrs).1.data.headD []) with
    |false =>
     have:qa1 ((qb5 n 5 z.rrs).1.data.headD []) z.apex=false\/(cutQ z ((qb5 n 5 z.rrs).1.data.headD [])).2=0:=by
      unfold inZ at h3
      rw [Bool.and_eq_false_iff,bne_eq_false_iff_eq] at h3
      exact h3
     rw[if_pos this,if_neg (by decide)]
     unfold qo1
     simp
    |true =>
     have:¬ (qa1 ((qb5 n 5 z.rrs).1.data.headD []) z.apex=false\/(cutQ z ((qb5 n 5 z.rrs).1.data.headD [])).2=0):=by
      unfold inZ at h3
      rw [Bool.and_eq_true,bne_iff_ne] at h3
      rintro (h|h)
      ·rw [h3.1] at h;cases h
      ·exact h3.2 h
     rw[if_neg this,if_pos rfl,jm5 hz ty k]
     unfold qo1
     simp[List.append_assoc]
theorem yz9{z:Zo}(hz:z.ok=true){n:List UInt8}(h:(qb5 n 5 z.rrs).2=0):∃ r ∈ z.rrs,qe3 n 5 z.rrs=[r]/\qb5 n 5 z.rrs=(⟨n,5,r.ttl,false,[r.d]⟩,0)/\r.ty=5/\fold r.nm=fold n:=by
 obtain⟨hn,hp⟩:=find_ok_iff.1 h
 obtain⟨r,hr⟩:=List.exists_mem_of_ne_nil _ hp
 obtain⟨m1,m2,m3,m4⟩:=pick_mem.1 hr
 have hs:=Zo.ok_sound hz
 unfold qq8 at hs
 simp only [Bool.and_eq_true,List.all_eq_true] at hs
 have hf:=hs.2.2 r m1
 unfold qf8 at hf
 have hal:0<cntZ qq0 z.rrs (fold r.nm):=zg3 m1 (by simp[qq0,m2]) rfl
 have hone:¬ 1<cntZ anyR z.rrs (fold r.nm):=fun h=>by rw [if_pos ⟨hal,h⟩] at hf;cases hf
 have hlen:(qe3 n 5 z.rrs).length<=1:=by
  have h1:(qe3 n 5 z.rrs).length<=cntZ anyR z.rrs (fold r.nm):=by
   unfold qe3 cntZ
   refine Nat.le_trans (List.length_filter_le _ _) ?_
   have e:z.rrs.filter (ql3 n 5)=(z.rrs.filter fun x=>fold x.nm == fold r.nm && anyR x).filter (ql3 n 5):=by
    rw[List.filter_filter]
    apply List.filter_congr
    intro x _
    unfold ql3 anyR
    rw[m3]
    cases (x.ty == 5) <;> cases (x.nm.length == n.length) <;> cases (fold x.nm == fold n) <;> rfl
   rw[e]
   exact List.length_filter_le _ _
  omega
 have he:qe3 n 5 z.rrs=[r]:=by
  match hP:qe3 n 5 z.rrs,hlen,hr with
  |[x],_,hm=>rw[List.mem_singleton.1 hm]
 refine⟨r,m1,he,zm1 hn hp (fun x hx=>?_),m2,m3⟩
 rw [he] at hx
 rw[List.mem_singleton.1 hx]
 exact⟨rfl,rfl⟩
def SOk(z:Zo)(ty:Int)(S:List RR):Prop:=∀ r ∈ S,(qa3 r.nm/\inZ z r.nm=true)/\((r.ty=5/\(qb5 r.nm 5 z.rrs).2=0/\∀ x ∈ qe3 r.nm 5 z.rrs,x.d=r.d/\x.ttl=r.ttl)\/(r.ty=ty/\(qb5 r.nm ty z.rrs).2=0))
section
variable{z:Zo}{ty:Int}{S:List RR}
theorem SOk.none_ty(h:SOk z ty S)(h5:ty≠5){m:List UInt8}(hf:(qb5 m ty z.rrs).2≠0):(qb5 m ty S).2≠0:=by
 intro e
 obtain⟨hm,hp⟩:=find_ok_iff.1 e
 obtain⟨r,hr⟩:=List.exists_mem_of_ne_nil _ hp
 obtain⟨m1,m2,m3,_⟩:=pick_mem.1 hr
 obtain⟨⟨k1,_⟩,k2⟩:=h r m1
 rcases k2 with⟨k2,_⟩|⟨_,k2⟩
 ·exact h5 (m2.symm.trans k2)
 ·exact hf ((yx3 k1 hm m3 ty z.rrs).1 k2)
theorem SOk.none_5(h:SOk z ty S)(h5:ty≠5){m:List UInt8}(hf:(qb5 m 5 z.rrs).2≠0):(qb5 m 5 S).2≠0:=by
 intro e
 obtain⟨hm,hp⟩:=find_ok_iff.1 e
 obtain⟨r,hr⟩:=List.exists_mem_of_ne_nil _ hp
 obtain⟨m1,m2,m3,_⟩:=pick_mem.1 hr
 obtain⟨⟨k1,_⟩,k2⟩:=h r m1
 rcases k2 with⟨_,k2,_⟩|⟨k2,_⟩
 ·exact hf ((yx3 k1 hm m3 5 z.rrs).1 k2)
 ·exact h5 (k2.symm.trans m2)
theorem SOk.off(h:SOk z ty S)(hz:z.ok=true){m:List UInt8}(ho:inZ z m=false)(t:Int):(qb5 m t S).2≠0:=by
 intro e
 obtain⟨hm,hp⟩:=find_ok_iff.1 e
 obtain⟨r,hr⟩:=List.exists_mem_of_ne_nil _ hp
 obtain⟨m1,_,m3,_⟩:=pick_mem.1 hr
 obtain⟨⟨k1,k2⟩,_⟩:=h r m1
 rw [xn3 hz k1 hm m3,ho] at k2
 cases k2
theorem SOk.link(h:SOk z ty S)(hz:z.ok=true)(h5:ty≠5){n:List UInt8}(hf:(qb5 n 5 z.rrs).2=0)(hp:qe3 n 5 S≠[]):qb5 n 5 S=qb5 n 5 z.rrs:=by
 obtain⟨r0,_,he,hfe,_,_⟩:=yz9 hz hf
 rw[hfe]
 refine zm1 (find_ok_iff.1 hf).1 hp (fun x hx=>?_)
 obtain⟨m1,m2,m3,_⟩:=pick_mem.1 hx
 rcases(h x m1).2 with⟨_,_,k3⟩|⟨k2,_⟩
 ·have:=k3 r0 (by rw[yu0 m3,he];simp)
  exact⟨this.1.symm,this.2.symm⟩
 ·exact absurd (k2.symm.trans m2) h5
theorem qo4{s:St}(hok:s.ok=true):qe3 s.nm s.ty (qi1 s)=s.data.map (recT s)/\qi1 s=s.data.map (recT s)/\s.data≠[]:=by
 obtain⟨k1,k2,k3,k4,k5⟩:=(St.ok_iff s).1 hok
 have e:qi1 s=s.data.map (recT s):=by unfold qi1;rw[if_pos hok]
 refine ⟨?_,e,fun h=>by rw [h] at k3;simp at k3⟩
 rw[e]
 unfold qe3
 rw[List.filter_filter,List.filter_eq_self]
 intro r hr
 obtain⟨d,hd,rfl⟩:=List.mem_map.1 hr
 unfold ql3 qg3 RR.check recT
 simp[k1,k4 d hd,k2]
theorem zb0(hz:z.ok=true){n:List UInt8}{t:Int}(h:(qb5 n t z.rrs).2=0):t≠41:=by
 obtain⟨r,hr,e⟩:=xw8 h
 have:=Zo.ok_take hz hr
 unfold qw7 at this
 simp only [Bool.and_eq_true,bne_iff_ne] at this
 rw[<-e]
 exact this.2.1
theorem xk0{k:Nat}{n:List UInt8}:(qo1 z ty (qc1 z ty k n))=(qc1 z ty k n).1.flatMap qi1++(if (qc1 z ty k n).2.2 = .ans then qi1 (qb5 (qc1 z ty k n).2.1 ty z.rrs).1 else []):=rfl
theorem xl1{n:List UInt8}{t:Int}{l m:List RR}(h:∀ r ∈ l,r ∈ m)(hp:qe3 n t l≠[]):qe3 n t m≠[]:=by
 obtain⟨r,hr⟩:=List.exists_mem_of_ne_nil _ hp
 obtain⟨m1,m2⟩:=pick_mem.1 hr
 intro e
 have:r ∈ qe3 n t m:=pick_mem.2 ⟨h r m1,m2⟩
 rw [e] at this
 cases this
theorem yx2(hz:z.ok=true){n:List UInt8}{t:Int}(h:(qb5 n t z.rrs).2=0){S:List RR}(hS:∀ r ∈ qi1 (qb5 n t z.rrs).1,r ∈ S):qe3 n t S≠[]:=by
 obtain⟨k1,k2,k3,k4⟩:=qj4 h (zb0 hz h)
 obtain⟨p1,p2,p3⟩:=qo4 k1
 rw [k2,k3] at p1
 refine xl1 hS ?_
 rw[p1]
 simpa using p3
theorem yb5(hz:z.ok=true)(h5:ty≠5)(hS:SOk z ty S):∀ (k:Nat) (n:List UInt8) (c:List St),(∀ r ∈ qo1 z ty (qc1 z ty k n),r ∈ S)->qi6 ty S k n c=(c++(qc1 z ty k n).1,(qc1 z ty k n).2.1)
 |0,n,c,_=>by
  show(c,n)=(c++[],n)
  rw[List.append_nil]
 |k+1,n,c,hs=>by
  have e1:qi6 ty S (k+1) n c=if ty=5\/(qb5 n ty S).2=0\/(qb5 n 5 S).2≠0\/(qb5 n 5 S).1.data.length=0 then (c,n) else qi6 ty S k ((qb5 n 5 S).1.data.headD []) (c++[(qb5 n 5 S).1]):=rfl
  rw[e1]
  unfold qc1 at hs ⊢
  by_cases h1:(qb5 n ty z.rrs).2=0
  ·rw [if_pos h1] at hs ⊢
   unfold qo1 at hs
   have hp:=yx2 hz h1 (S:=S) (fun r hr=>hs r (by simpa using hr))
   rw[if_pos (.inr (.inl (find_ok_iff.2 ⟨(find_ok_iff.1 h1).1,hp⟩)))]
   simp
  ·rw [if_neg h1] at hs ⊢
   have h1':=hS.none_ty h5 h1
   by_cases h2:(qb5 n 5 z.rrs).2≠0
   ·rw[if_pos h2]
    rw[if_pos (.inr (.inr (.inl (hS.none_5 h5 h2))))]
    simp
   ·have h2':(qb5 n 5 z.rrs).2=0:=Classical.not_not.1 h2
    rw [if_neg h2] at hs ⊢
    have hp:qe3 n 5 S≠[]:=by
     refine yx2 hz h2' (fun r hr=>hs r ?_)
     unfold qo1
     split <;> simp[hr]
    have hl:=hS.link hz h5 h2' hp
    rw[hl,if_neg (fun h=>h.elim h5 (fun h=>h.elim h1' (fun h=>h.elim h2 (yx4 h2' (by decide)))))]
    cases h3:inZ z ((qb5 n 5 z.rrs).1.data.headD []) with
    |true =>
     rw [h3,if_pos rfl] at hs
     rw[if_pos rfl,yb5 hz h5 hS k _ _ (fun r hr=>hs r (by
      unfold qo1 at hr ⊢
      simp only[List.flatMap_cons,List.append_assoc]
      exact List.mem_append_right _ hr))]
     simp
    |false =>
     rw[if_neg (by decide)]
     cases k with
     |zero=>rfl
     |succ k =>
      have e2:∀ m (c:List St),qi6 ty S (k+1) m c=if ty=5\/(qb5 m ty S).2=0\/(qb5 m 5 S).2≠0\/(qb5 m 5 S).1.data.length=0 then (c,m) else qi6 ty S k ((qb5 m 5 S).1.data.headD []) (c++[(qb5 m 5 S).1]):=fun _ _=>rfl
      rw[e2,if_pos (.inr (.inr (.inl (hS.off hz h3 5))))]
theorem zx1(hz:z.ok=true)(h5:ty≠5):∀ (k:Nat) (n:List UInt8),inZ z n=true->SOk z ty (qo1 z ty (qc1 z ty k n))
 |0,n,_=>by
  unfold qc1 qo1
  intro r hr
  simp at hr
 |k+1,n,hn=>by
  have hnn:qa3 n:=(qd3 ((jz1 hz).1 hn).1).1
  unfold qc1
  by_cases h1:(qb5 n ty z.rrs).2=0
  ·rw[if_pos h1]
   unfold qo1
   intro r hr
   simp only [List.flatMap_nil,List.nil_append,if_true] at hr
   obtain⟨k1,k2,k3,_⟩:=qj4 h1 (zb0 hz h1)
   rw [(qo4 k1).2.1] at hr
   obtain⟨d,_,rfl⟩:=List.mem_map.1 hr
   have e:(recT (qb5 n ty z.rrs).1 d).nm=n:=k2
   rw[e]
   exact⟨⟨hnn,hn⟩,.inr ⟨k3,h1⟩⟩
  ·rw[if_neg h1]
   by_cases h2:(qb5 n 5 z.rrs).2≠0
   ·rw[if_pos h2]
    unfold qo1
    intro r hr
    simp at hr
   ·have h2':(qb5 n 5 z.rrs).2=0:=Classical.not_not.1 h2
    rw[if_neg h2]
    have hlink:∀ r ∈ qi1 (qb5 n 5 z.rrs).1,(qa3 r.nm/\inZ z r.nm=true)/\((r.ty=5/\(qb5 r.nm 5 z.rrs).2=0/\∀ x ∈ qe3 r.nm 5 z.rrs,x.d=r.d/\x.ttl=r.ttl)\/(r.ty=ty/\(qb5 r.nm ty z.rrs).2=0)):=by
     intro r hr
     obtain⟨r0,_,he,hfe,_,_⟩:=yz9 hz h2'
     obtain⟨k1,k2,k3,_⟩:=qj4 h2' (by decide)
     rw [(qo4 k1).2.1] at hr
     obtain⟨d,hd,rfl⟩:=List.mem_map.1 hr
     have e:(recT (qb5 n 5 z.rrs).1 d).nm=n:=k2
     rw[e]
     refine⟨⟨hnn,hn⟩,.inl ⟨k3,h2',fun x hx=>?_⟩⟩
     rw [he] at hx
     rw[List.mem_singleton.1 hx]
     rw [hfe] at hd ⊢
     exact⟨(List.mem_singleton.1 hd).symm,rfl⟩
    cases h3:inZ z ((qb5 n 5 z.rrs).1.data.headD []) with
    |true =>
     rw[if_pos rfl]
     intro r hr
     unfold qo1 at hr
     simp only [List.flatMap_cons,List.append_assoc] at hr
     rcases List.mem_append.1 hr with hr|hr
     ·exact hlink r hr
     ·exact zx1 hz h5 k _ h3 r hr
    |false =>
     rw[if_neg (by decide)]
     intro r hr
     unfold qo1 at hr
     simp only [List.flatMap_cons,List.flatMap_nil,List.append_nil] at hr
     exact hlink r (by simpa using hr)
theorem yc2(hz:z.ok=true)(h5:ty≠5):∀ (k:Nat) (n:List UInt8),(qc1 z ty k n).2.2 = .ans->(qb5 (qc1 z ty k n).2.1 ty z.rrs).2=0/\∀ r ∈ (qc1 z ty k n).1.flatMap qi1,r.ty=5
 |0,n,h=>by cases h
 |k+1,n,h=>by
  unfold qc1 at h ⊢
  by_cases h1:(qb5 n ty z.rrs).2=0
  ·rw[if_pos h1]
   exact ⟨h1,fun r hr=>by simp at hr⟩
  ·rw [if_neg h1] at h ⊢
   by_cases h2:(qb5 n 5 z.rrs).2≠0
   ·rw [if_pos h2] at h
    cases h
   ·have h2':(qb5 n 5 z.rrs).2=0:=Classical.not_not.1 h2
    rw [if_neg h2] at h ⊢
    split at h
    ·rename_i h3
     rw[if_pos h3]
     obtain⟨q1,q2⟩:=yc2 hz h5 k _ h
     refine⟨q1,fun r hr=>?_⟩
     simp only [List.flatMap_cons] at hr
     rcases List.mem_append.1 hr with hr|hr
     ·obtain⟨k1,k2,k3,_⟩:=qj4 h2' (by decide)
      rw [(qo4 k1).2.1] at hr
      obtain⟨d,_,rfl⟩:=List.mem_map.1 hr
      exact k3
     ·exact q2 r hr
    ·cases h
theorem xs7{n:List UInt8}{t:Int}{l:List RR}(h:(qb5 n t l).2=0):(qb5 n t l).1.z=false:=by
 obtain⟨h1,h2⟩:=find_ok_iff.1 h
 rw[zf0 h1 h2]
 rfl
theorem xq7(hz:z.ok=true)(h5:ty≠5){k:Nat}{n:List UInt8}(h:(qc1 z ty k n).2.2 = .ans):qb5 (qc1 z ty k n).2.1 ty (qo1 z ty (qc1 z ty k n))=((qb5 (qc1 z ty k n).2.1 ty z.rrs).1,0):=by
 obtain⟨h1,h2⟩:=yc2 hz h5 k n h
 obtain⟨k1,k2,k3,_⟩:=qj4 h1 (zb0 hz h1)
 have hzf:=xs7 h1
 rw[xk0,if_pos h]
 generalize (qc1 z ty k n).2.1=e at h1 k1 k2 k3 hzf ⊢
 generalize (qc1 z ty k n).1.flatMap qi1=L at h2 ⊢
 generalize (qb5 e ty z.rrs).1=A at k1 k2 k3 hzf ⊢
 have hp:qe3 e ty (L++qi1 A)=A.data.map (recT A):=by
  rw[zc7]
  have:qe3 e ty L=[]:=by
   rw[List.eq_nil_iff_forall_not_mem]
   intro r hr
   obtain⟨m1,m2,_⟩:=pick_mem.1 hr
   exact h5 (m2.symm.trans (h2 r m1))
  rw[this,List.nil_append,<-k2,<-k3]
  exact(qo4 k1).1
 rw [<-k3] at hp ⊢
 rw[ya5 k1 k2.symm hp,<-hzf]
end
end
structure Rdr where
 s:List UInt8
 p:Nat
 bad:Bool
def Rdr.kb(r:Rdr):KB:=.cells 216 [.d (.str r.s),.d (.int .i64 r.p),.d (.bool r.bad)]
structure Rdr.Ok(r:Rdr):Prop where
 len:r.s.length<4611686018427387904
 p:r.p<=r.s.length
def Rdr.raw(r:Rdr)(n:Int):Rdr × List UInt8:=if r.bad then (r,[]) else if n<0\/n > r.s.length - r.p then ({ r with bad:=true },[]) else ({ r with p:=r.p+n.toNat },(r.s.drop r.p).take n.toNat)
theorem Rdr.Ok.raw{r:Rdr}(h:r.Ok)(n:Int):(r.raw n).1.Ok:=by
 unfold Rdr.raw
 split
 ·exact h
 ·split
  ·exact⟨h.len,h.p⟩
  ·refine⟨h.len,?_⟩
   show r.p+n.toNat<=r.s.length
   omega
set_option maxHeartbeats 4000000 in
theorem xu8(s:List UInt8):COk Tryz.prog 126 [.d (.str s)] [] (fun r k=>r = .ptr 0 0/\k=[Rdr.kb ⟨s,0,false⟩]):=by
 refine qc6 (TT:=TT) (IN:=qd0 []) qd2 qa8 mixed 1000 Tryz.func126 rfl (qb6 Tryz.func126 (by kernel_rfl) rfl) 5 (by kernel_rfl) ?_
 conv=>whnf
 refine⟨[0],.ptr 0 0,_,rfl,rfl,rfl,?_,rfl,rfl⟩
 repeat'(first|exact ⟨⟩|exact rfl|exact fun _=>Iff.rfl|exact fun _ _=>rfl|exact renM_ent rfl _|apply And.intro)
set_option maxHeartbeats 4000000 in
theorem zj7(r:Rdr)(hr:r.Ok)(n:Int)(hn : -9223372036854775808<=n/\n<=9223372036854775807):COk Tryz.prog 148 [.ptr 0 0,.d (.int .i64 n)] [r.kb] (fun s k=>∃ r1,k=[Rdr.kb r1]/\(s = .d (.str (r.raw n).2)/\r1=(r.raw n).1)):=by
 refine qc6 (TT:=TT) (IN:=qd0 [(149,Tryz.f149,1),(147,Tryz.f147,1)]) qd2 (qc4 (qc4 qa8 Tryz.func147 (by kernel_rfl) (by kernel_rfl)) Tryz.func149 (by kernel_rfl) (by kernel_rfl)) mixed 1000 Tryz.func148 rfl (qb6 Tryz.func148 (by kernel_rfl) rfl) 46 (by kernel_rfl) ?_
 have hlen:=hr.len
 have hp:=hr.p
 have hwr:IntKind.i64.wrap ((r.s.length:Int) - r.p)=(r.s.length:Int) - r.p:=qa2 _ (by omega)
 conv=>whnf
 refine⟨fun h1=>?_,fun h1=>?_⟩
 ·have e:r.raw n=(r,[]):=by unfold Rdr.raw;rw[if_pos h1]
  rw[e]
  conv=>whnf
  refine⟨[0],.d (.str []),[r.kb],rfl,rfl,rfl,?_,_,rfl,rfl,rfl⟩
  repeat'(first|exact ⟨⟩|exact rfl|exact fun _=>Iff.rfl|exact fun _ _=>rfl|exact renM_ent rfl _|apply And.intro)
 conv=>whnf
 refine⟨fun h2=>?_,fun h2=>?_⟩
 ·have h2':n<0:=of_decide_eq_true h2
  have e:r.raw n=({ r with bad:=true },[]):=by unfold Rdr.raw;rw[if_neg (by simp[h1]),if_pos (.inl h2')]
  rw[e]
  conv=>whnf
  repeat(first|(refine brT rfl ?_;conv=>whnf)|(refine brF rfl ?_;conv=>whnf)|(refine .once ?_;conv=>whnf)|(refine⟨by decide,?_⟩;conv=>whnf)|(refine And.intro (Nat.le_of_ble_eq_true rfl) ?_;conv=>whnf))
  refine⟨[0],.d (.str []),[Rdr.kb { r with bad:=true }],rfl,rfl,rfl,?_,_,rfl,rfl,rfl⟩
  repeat'(first|exact ⟨⟩|exact rfl|exact fun _=>Iff.rfl|exact fun _ _=>rfl|exact renM_ent rfl _|apply And.intro)
 have h2':¬ n<0:=of_decide_eq_false h2
 conv=>whnf
 rw[hwr]
 refine⟨fun h3=>?_,fun h3=>?_⟩
 ·have h3':n > (r.s.length:Int) - r.p:=of_decide_eq_true h3
  have e:r.raw n=({ r with bad:=true },[]):=by unfold Rdr.raw;rw[if_neg (by simp[h1]),if_pos (.inr h3')]
  rw[e]
  conv=>whnf
  repeat(first|(refine brT rfl ?_;conv=>whnf)|(refine brF rfl ?_;conv=>whnf)|(refine .once ?_;conv=>whnf)|(refine⟨by decide,?_⟩;conv=>whnf)|(refine And.intro (Nat.le_of_ble_eq_true rfl) ?_;conv=>whnf))
  refine⟨[0],.d (.str []),[Rdr.kb { r with bad:=true }],rfl,rfl,rfl,?_,_,rfl,rfl,rfl⟩
  repeat'(first|exact ⟨⟩|exact rfl|exact fun _=>Iff.rfl|exact fun _ _=>rfl|exact renM_ent rfl _|apply And.intro)
 ·have h3':¬ n > (r.s.length:Int) - r.p:=of_decide_eq_false h3
  have e:r.raw n=({ r with p:=r.p+n.toNat },(r.s.drop r.p).take n.toNat):=by unfold Rdr.raw;rw[if_neg (by simp[h1]),if_neg (by omega)]
  have e1:IntKind.i64.wrap ((r.p:Int)+n)=((r.p+n.toNat:Nat):Int):=by rw[qa2 _ (by omega)];omega
  have e2:IntKind.i64.wrap (((r.p+n.toNat:Nat):Int) - n)=(r.p:Int):=by rw[qa2 _ (by omega)];omega
  have e3:sub r.s (r.p:Int) ((r.p+n.toNat:Nat):Int)=(r.s.drop r.p).take n.toNat:=by
   unfold sub
   rw[Int.toNat_natCast,Int.toNat_natCast,show r.p+n.toNat - r.p=n.toNat by omega]
  rw[e]
  conv=>whnf
  rw[e1,e2]
  refine⟨by omega,?_⟩
  rw[e3]
  conv=>whnf
  refine⟨[0],.d (.str ((r.s.drop r.p).take n.toNat)),[Rdr.kb { r with p:=r.p+n.toNat }],rfl,rfl,rfl,?_,_,rfl,rfl,rfl⟩
  repeat'(first|exact ⟨⟩|exact rfl|exact fun _=>Iff.rfl|exact fun _ _=>rfl|exact renM_ent rfl _|apply And.intro)
theorem yl1{P:Program}{f:FuncId}{al al':List SV}{a:Rdr}{Q:SV->Rdr->Prop}(h:COk P f al [a.kb] (fun s k=>∃ a1,k=[Rdr.kb a1]/\Q s a1))(pre rest:List KB)(σ:Nat->Nat)(hσ:σ=sig (List.range' pre.length 1) (pre.length+(1+rest.length)))(ha:mapL σ al=al') :
 COk P f al' (pre++(a.kb :: rest)) (fun s k=>∃ s0 a1,Q s0 a1/\s=mapV σ s0/\k=pre++(Rdr.kb a1 :: rest)) :=
 COk.fam (fun a _=>[Rdr.kb a]) 1 (fun _ _=>rfl) (fun _ _ _ _=>rfl) h pre rest σ hσ ha
theorem Rdr.raw_len{r:Rdr}(n:Nat)(h:(r.raw n).1.bad=false):(r.raw n).2.length=n:=by
 unfold Rdr.raw at h ⊢
 split
 ·rename_i hb;rw [if_pos hb] at h;rw [hb] at h;cases h
 ·rename_i hb
  rw [if_neg hb] at h
  split
  ·rename_i hc;rw [if_pos hc] at h;cases h
  ·simp
   omega
theorem acc1(x y:Nat)(hx:x<72057594037927936)(hy:y<256):bits .or .u64 (IntKind.u64.wrap ((x:Int) * 2 ^ 8)) (IntKind.u64.wrap (y:Int))=((x * 256+y:Nat):Int):=by
 have e1:IntKind.u64.wrap ((x:Int) * 2 ^ 8)=((x * 256:Nat):Int):=by rw[IntKind.wrap_u64];omega
 have e2:IntKind.u64.wrap (y:Int)=(y:Int):=by rw[IntKind.wrap_u64];omega
 rw[e1,e2,u64_or_nat _ _ (by omega) (by omega)]
 have:=Nat.two_pow_add_eq_or_of_lt (i:=8) (show y<2 ^ 8 by omega) x
 rw[show x * 256=2 ^ 8 * x by omega,<-this]
theorem acc8(y0 y1 y2 y3 y4 y5 y6 y7:Nat)(h0:y0<256)(h1:y1<256)(h2:y2<256)(h3:y3<256)(h4:y4<256)(h5:y5<256)(h6:y6<256)(h7:y7<256) :
 bits .or .u64 (IntKind.u64.wrap (bits .or .u64 (IntKind.u64.wrap (bits .or .u64 (IntKind.u64.wrap (bits .or .u64 (IntKind.u64.wrap (bits .or .u64 (IntKind.u64.wrap (bits .or .u64 (IntKind.u64.wrap (bits .or .u64 (IntKind.u64.wrap (bits .or .u64 (IntKind.u64.wrap (0 * 2 ^ 8)) (IntKind.u64.wrap (y0:Int)) * 2 ^ 8)) (IntKind.u64.wrap (y1:Int)) * 2 ^ 8)) (IntKind.u64.wrap (y2:Int)) * 2 ^ 8)) (IntKind.u64.wrap (y3:Int)) * 2 ^ 8)) (IntKind.u64.wrap (y4:Int)) * 2 ^ 8)) (IntKind.u64.wrap (y5:Int)) * 2 ^ 8)) (IntKind.u64.wrap (y6:Int)) * 2 ^ 8)) (IntKind.u64.wrap (y7:Int)) =
 ((((((((((0 * 256+y0) * 256+y1) * 256+y2) * 256+y3) * 256+y4) * 256+y5) * 256+y6) * 256+y7:Nat)):Int):=by
 have e0:=acc1 0 y0 (by omega) h0
 rw [show ((0:Nat):Int)=0 from rfl] at e0
 rw[e0,acc1 _ y1 (by omega) h1,acc1 _ y2 (by omega) h2,acc1 _ y3 (by omega) h3,acc1 _ y4 (by omega) h4,acc1 _ y5 (by omega) h5,acc1 _ y6 (by omega) h6,acc1 _ y7 (by omega) h7]
theorem qh5{α:Type}{l:List α}{n:Nat}(h:l.length=n+1):∃ a t,l=a :: t/\t.length=n:=by
 cases l with
 |nil=>simp at h
 |cons a t=>exact⟨a,t,rfl,by simpa using h⟩
def ym4(s:List UInt8):Nat:=s.foldl (fun n b=>n * 256+b.toNat) 0
def kc0(n:Nat):Prop:=n=1\/n=2\/n=4\/n=8
def Rdr.num(r:Rdr)(width:Nat):Rdr × Nat:=((r.raw width).1,if (r.raw width).1.bad then 0 else ym4 (r.raw width).2)
set_option maxHeartbeats 4000000 in
theorem xu5(r:Rdr)(hr:r.Ok)(width:Nat)(hw:kc0 width):COk Tryz.prog 127 [.ptr 0 0,.d (.int .i64 width)] [r.kb] (fun s k=>∃ r1,k=[Rdr.kb r1]/\(s = .d (.int .u64 (r.num width).2)/\r1=(r.num width).1)):=by
 refine qc6 (TT:=TT) (IN:=qd0 [(146,Tryz.f146,1),(149,Tryz.f149,1)]) qd2 (qc4 (qc4 qa8 Tryz.func149 (by kernel_rfl) (by kernel_rfl)) Tryz.func146 (by kernel_rfl) (by kernel_rfl)) mixed 1000 Tryz.func127 rfl (qb6 Tryz.func127 (by kernel_rfl) rfl) 34 (by kernel_rfl) ?_
 rcases hw with rfl|rfl|rfl|rfl
 ·conv=>whnf
  repeat(first|(refine brT rfl ?_;conv=>whnf)|(refine brF rfl ?_;conv=>whnf)|(refine .once ?_;conv=>whnf)|(refine⟨by decide,?_⟩;conv=>whnf)|(refine And.intro (Nat.le_of_ble_eq_true rfl) ?_;conv=>whnf))
  refine .rel _ (yl1 (zj7 r hr 1 (by omega)) [] [] _ rfl rfl) (fun x ks' hR=>?_)
  obtain⟨_,r1,⟨rfl,rfl⟩,rfl,rfl⟩:=hR
  conv=>whnf
  refine⟨fun h1=>?_,fun h1=>?_⟩
  ·have e:r.num 1=((r.raw 1).1,0):=by unfold Rdr.num;rw[if_pos (show(r.raw ((1:Nat):Int)).1.bad=true from h1)];rfl
   rw[e]
   conv=>whnf
   refine⟨[0],.d (.int .u64 0),[(r.raw 1).1.kb],rfl,rfl,rfl,?_,_,rfl,rfl,rfl⟩
   repeat'(first|exact ⟨⟩|exact rfl|exact fun _=>Iff.rfl|exact fun _ _=>rfl|exact renM_ent rfl _|apply And.intro)
  ·have hrl:(r.raw ((1:Nat):Int)).2.length=1:=Rdr.raw_len 1 h1
   have e:r.num 1=((r.raw 1).1,ym4 (r.raw ((1:Nat):Int)).2):=by unfold Rdr.num;rw[if_neg (by rw[show(r.raw ((1:Nat):Int)).1.bad=false from h1];simp)];rfl
   rw[e]
   obtain⟨b0,t0,e0,l0⟩:=qh5 hrl
   have e9:=List.length_eq_zero_iff.1 l0
   subst e9
   rw[e0]
   rw[show(r.raw 1).2=[b0] from e0]
   conv=>whnf
   repeat(first|(refine brT rfl ?_;conv=>whnf)|(refine brF rfl ?_;conv=>whnf)|(refine .once ?_;conv=>whnf)|(refine⟨by decide,?_⟩;conv=>whnf)|(refine And.intro (Nat.le_of_ble_eq_true rfl) ?_;conv=>whnf))
   refine⟨[0],.d (.int .u64 (ym4 [b0])),[(r.raw 1).1.kb],rfl,rfl,?_,?_,_,rfl,rfl,rfl⟩
   ·exact congrArg (fun z=>SV.d (DV.int .u64 z)) (acc8 (0) (0) (0) (0) (0) (0) (0) (b0.toNat) (by omega) (by omega) (by omega) (by omega) (by omega) (by omega) (by omega) (UInt8.toNat_lt _))
   ·repeat'(first|exact ⟨⟩|exact rfl|exact fun _=>Iff.rfl|exact fun _ _=>rfl|exact renM_ent rfl _|apply And.intro)
 ·conv=>whnf
  repeat(first|(refine brT rfl ?_;conv=>whnf)|(refine brF rfl ?_;conv=>whnf)|(refine .once ?_;conv=>whnf)|(refine⟨by decide,?_⟩;conv=>whnf)|(refine And.intro (Nat.le_of_ble_eq_true rfl) ?_;conv=>whnf))
  refine .rel _ (yl1 (zj7 r hr 2 (by omega)) [] [] _ rfl rfl) (fun x ks' hR=>?_)
  obtain⟨_,r1,⟨rfl,rfl⟩,rfl,rfl⟩:=hR
  conv=>whnf
  refine⟨fun h1=>?_,fun h1=>?_⟩
  ·have e:r.num 2=((r.raw 2).1,0):=by unfold Rdr.num;rw[if_pos (show(r.raw ((2:Nat):Int)).1.bad=true from h1)];rfl
   rw[e]
   conv=>whnf
   refine⟨[0],.d (.int .u64 0),[(r.raw 2).1.kb],rfl,rfl,rfl,?_,_,rfl,rfl,rfl⟩
   repeat'(first|exact ⟨⟩|exact rfl|exact fun _=>Iff.rfl|exact fun _ _=>rfl|exact renM_ent rfl _|apply And.intro)
  ·have hrl:(r.raw ((2:Nat):Int)).2.length=2:=Rdr.raw_len 2 h1
   have e:r.num 2=((r.raw 2).1,ym4 (r.raw ((2:Nat):Int)).2):=by unfold Rdr.num;rw[if_neg (by rw[show(r.raw ((2:Nat):Int)).1.bad=false from h1];simp)];rfl
   rw[e]
   obtain⟨b0,t0,e0,l0⟩:=qh5 hrl
   obtain⟨b1,t1,e1,l1⟩:=qh5 l0
   subst e1
   have e9:=List.length_eq_zero_iff.1 l1
   subst e9
   rw[e0]
   rw[show(r.raw 2).2=[b0,b1] from e0]
   conv=>whnf
   repeat(first|(refine brT rfl ?_;conv=>whnf)|(refine brF rfl ?_;conv=>whnf)|(refine .once ?_;conv=>whnf)|(refine⟨by decide,?_⟩;conv=>whnf)|(refine And.intro (Nat.le_of_ble_eq_true rfl) ?_;conv=>whnf))
   refine⟨[0],.d (.int .u64 (ym4 [b0,b1])),[(r.raw 2).1.kb],rfl,rfl,?_,?_,_,rfl,rfl,rfl⟩
   ·exact congrArg (fun z=>SV.d (DV.int .u64 z)) (acc8 (0) (0) (0) (0) (0) (0) (b0.toNat) (b1.toNat) (by omega) (by omega) (by omega) (by omega) (by omega) (by omega) (UInt8.toNat_lt _) (UInt8.toNat_lt _))
   ·repeat'(first|exact ⟨⟩|exact rfl|exact fun _=>Iff.rfl|exact fun _ _=>rfl|exact renM_ent rfl _|apply And.intro)
 ·conv=>whnf
  repeat(first|(refine brT rfl ?_;conv=>whnf)|(refine brF rfl ?_;conv=>whnf)|(refine .once ?_;conv=>whnf)|(refine⟨by decide,?_⟩;conv=>whnf)|(refine And.intro (Nat.le_of_ble_eq_true rfl) ?_;conv=>whnf))
  refine .rel _ (yl1 (zj7 r hr 4 (by omega)) [] [] _ rfl rfl) (fun x ks' hR=>?_)
  obtain⟨_,r1,⟨rfl,rfl⟩,rfl,rfl⟩:=hR
  conv=>whnf
  refine⟨fun h1=>?_,fun h1=>?_⟩
  ·have e:r.num 4=((r.raw 4).1,0):=by unfold Rdr.num;rw[if_pos (show(r.raw ((4:Nat):Int)).1.bad=true from h1)];rfl
   rw[e]
   conv=>whnf
   refine⟨[0],.d (.int .u64 0),[(r.raw 4).1.kb],rfl,rfl,rfl,?_,_,rfl,rfl,rfl⟩
   repeat'(first|exact ⟨⟩|exact rfl|exact fun _=>Iff.rfl|exact fun _ _=>rfl|exact renM_ent rfl _|apply And.intro)
  ·have hrl:(r.raw ((4:Nat):Int)).2.length=4:=Rdr.raw_len 4 h1
   have e:r.num 4=((r.raw 4).1,ym4 (r.raw ((4:Nat):Int)).2):=by unfold Rdr.num;rw[if_neg (by rw[show(r.raw ((4:Nat):Int)).1.bad=false from h1];simp)];rfl
   rw[e]
   obtain⟨b0,t0,e0,l0⟩:=qh5 hrl
   obtain⟨b1,t1,e1,l1⟩:=qh5 l0
   obtain⟨b2,t2,e2,l2⟩:=qh5 l1
   obtain⟨b3,t3,e3,l3⟩:=qh5 l2
   subst e1
   subst e2
   subst e3
   have e9:=List.length_eq_zero_iff.1 l3
   subst e9
   rw[e0]
   rw[show(r.raw 4).2=[b0,b1,b2,b3] from e0]
   conv=>whnf
   repeat(first|(refine brT rfl ?_;conv=>whnf)|(refine brF rfl ?_;conv=>whnf)|(refine .once ?_;conv=>whnf)|(refine⟨by decide,?_⟩;conv=>whnf)|(refine And.intro (Nat.le_of_ble_eq_true rfl) ?_;conv=>whnf))
   refine⟨[0],.d (.int .u64 (ym4 [b0,b1,b2,b3])),[(r.raw 4).1.kb],rfl,rfl,?_,?_,_,rfl,rfl,rfl⟩
   ·exact congrArg (fun z=>SV.d (DV.int .u64 z)) (acc8 (0) (0) (0) (0) (b0.toNat) (b1.toNat) (b2.toNat) (b3.toNat) (by omega) (by omega) (by omega) (by omega) (UInt8.toNat_lt _) (UInt8.toNat_lt _) (UInt8.toNat_lt _) (UInt8.toNat_lt _))
   ·repeat'(first|exact ⟨⟩|exact rfl|exact fun _=>Iff.rfl|exact fun _ _=>rfl|exact renM_ent rfl _|apply And.intro)
 ·conv=>whnf
  repeat(first|(refine brT rfl ?_;conv=>whnf)|(refine brF rfl ?_;conv=>whnf)|(refine .once ?_;conv=>whnf)|(refine⟨by decide,?_⟩;conv=>whnf)|(refine And.intro (Nat.le_of_ble_eq_true rfl) ?_;conv=>whnf))
  refine .rel _ (yl1 (zj7 r hr 8 (by omega)) [] [] _ rfl rfl) (fun x ks' hR=>?_)
  obtain⟨_,r1,⟨rfl,rfl⟩,rfl,rfl⟩:=hR
  conv=>whnf
  refine⟨fun h1=>?_,fun h1=>?_⟩
  ·have e:r.num 8=((r.raw 8).1,0):=by unfold Rdr.num;rw[if_pos (show(r.raw ((8:Nat):Int)).1.bad=true from h1)];rfl
   rw[e]
   conv=>whnf
   refine⟨[0],.d (.int .u64 0),[(r.raw 8).1.kb],rfl,rfl,rfl,?_,_,rfl,rfl,rfl⟩
   repeat'(first|exact ⟨⟩|exact rfl|exact fun _=>Iff.rfl|exact fun _ _=>rfl|exact renM_ent rfl _|apply And.intro)
  ·have hrl:(r.raw ((8:Nat):Int)).2.length=8:=Rdr.raw_len 8 h1
   have e:r.num 8=((r.raw 8).1,ym4 (r.raw ((8:Nat):Int)).2):=by unfold Rdr.num;rw[if_neg (by rw[show(r.raw ((8:Nat):Int)).1.bad=false from h1];simp)];rfl
   rw[e]
   obtain⟨b0,t0,e0,l0⟩:=qh5 hrl
   obtain⟨b1,t1,e1,l1⟩:=qh5 l0
   obtain⟨b2,t2,e2,l2⟩:=qh5 l1
   obtain⟨b3,t3,e3,l3⟩:=qh5 l2
   obtain⟨b4,t4,e4,l4⟩:=qh5 l3
   obtain⟨b5,t5,e5,l5⟩:=qh5 l4
   obtain⟨b6,t6,e6,l6⟩:=qh5 l5
   obtain⟨b7,t7,e7,l7⟩:=qh5 l6
   subst e1
   subst e2
   subst e3
   subst e4
   subst e5
   subst e6
   subst e7
   have e9:=List.length_eq_zero_iff.1 l7
   subst e9
   rw[e0]
   rw[show(r.raw 8).2=[b0,b1,b2,b3,b4,b5,b6,b7] from e0]
   conv=>whnf
   repeat(first|(refine brT rfl ?_;conv=>whnf)|(refine brF rfl ?_;conv=>whnf)|(refine .once ?_;conv=>whnf)|(refine⟨by decide,?_⟩;conv=>whnf)|(refine And.intro (Nat.le_of_ble_eq_true rfl) ?_;conv=>whnf))
   refine⟨[0],.d (.int .u64 (ym4 [b0,b1,b2,b3,b4,b5,b6,b7])),[(r.raw 8).1.kb],rfl,rfl,?_,?_,_,rfl,rfl,rfl⟩
   ·exact congrArg (fun z=>SV.d (DV.int .u64 z)) (acc8 (b0.toNat) (b1.toNat) (b2.toNat) (b3.toNat) (b4.toNat) (b5.toNat) (b6.toNat) (b7.toNat) (UInt8.toNat_lt _) (UInt8.toNat_lt _) (UInt8.toNat_lt _) (UInt8.toNat_lt _) (UInt8.toNat_lt _) (UInt8.toNat_lt _) (UInt8.toNat_lt _) (UInt8.toNat_lt _))
   ·repeat'(first|exact ⟨⟩|exact rfl|exact fun _=>Iff.rfl|exact fun _ _=>rfl|exact renM_ent rfl _|apply And.intro)
def Q.V(q:Q):SV:=.agg [.d (.str q.nm),.d (.int .u16 q.ty),.d (.int .u16 q.cl)]
def jb9(q:Q)(zone:List UInt8)(r:RR):Bool:=r.ty == 6 && (qa1 r.nm zone && (qa1 q.nm r.nm && qg3 r))
def jz4(m:Msg)(q:Q)(zone:List UInt8):Option RR:=m.heads.find? (jb9 q zone)
def noR:RR:=⟨[],0,0,0,[]⟩
def jz3(m:Msg)(q:Q)(zone:List UInt8):RR × Int:=match jz4 m q zone with
 |some r=>(r,0)
 |none=>(noR,3)
theorem yk8(r:RR):FnOk Tryz.prog 69 [r.V] (.d (.bool (qg3 r))):=by
 refine qa5 (TT:=TT) (IN:=qd0 []) qd2 qa8 mixed 1000 Tryz.func69 rfl (qb6 Tryz.func69 (by kernel_rfl) rfl) rfl 10 (by kernel_rfl) ?_
 unfold qg3
 conv=>whnf
 refine⟨fun h1=>?_,fun h1=>?_⟩
 ·have h1:(r.cl == 1)=true:=h1
  rw[h1]
  conv=>whnf
  refine .one (.data _ (qz8 r) rfl rfl ?_)
  conv=>whnf
  cases r.check <;> exact rfl
 ·have h1:(r.cl == 1)=false:=h1
  rw[h1]
  conv=>whnf
  all_goals exact rfl
theorem xd5{p:RR->Bool}{l:List RR}{i:Nat}{r:RR}(h:l[i]? = some r)(hr:p r=false)(hd:(l.drop i).find? p=l.find? p):(l.drop (i+1)).find? p=l.find? p:=by
 have hi:i<l.length:=(List.getElem?_eq_some_iff.1 h).1
 have e:l.drop i=r :: l.drop (i+1):=by rw [List.drop_eq_getElem_cons hi];congr 1;rw [List.getElem?_eq_getElem hi] at h;exact Option.some.inj h
 rw[<-hd,e,List.find?_cons,hr]
theorem xo2{p:RR->Bool}{l:List RR}{i:Nat}{r:RR}(h:l[i]? = some r)(hr:p r=true)(hd:(l.drop i).find? p=l.find? p):l.find? p=some r:=by
 have hi:i<l.length:=(List.getElem?_eq_some_iff.1 h).1
 have e:l.drop i=r :: l.drop (i+1):=by rw [List.drop_eq_getElem_cons hi];congr 1;rw [List.getElem?_eq_getElem hi] at h;exact Option.some.inj h
 rw[<-hd,e,List.find?_cons,hr]
set_option maxHeartbeats 16000000 in
theorem yp7(m:Msg)(hm:m.heads.length<=1000000)(q:Q)(zone:List UInt8):FnOk Tryz.prog 65 [.agg m.cells,q.V,.d (.str zone)] (.tup [(jz3 m q zone).1.V,.d (.int .i64 (jz3 m q zone).2)]):=by
 refine qa5 (TT:=TT) (IN:=qd0 [(104,Tryz.f104,2),(105,Tryz.f105,3)]) qd2 (qc4 (qc4 qa8 Tryz.func105 (by kernel_rfl) (by kernel_rfl)) Tryz.func104 (by kernel_rfl) (by kernel_rfl)) mixed 1000 Tryz.func65 rfl (qb6 Tryz.func65 (by kernel_rfl) rfl) rfl 18 (by kernel_rfl) ?_
 unfold jz3 jz4
 conv=>whnf
 refine .inv Nat (fun i=>i<=m.heads.length/\(m.heads.drop i).find? (jb9 q zone)=m.heads.find? (jb9 q zone)) (fun i=>[(8,iV i)]) (fun i=>[]) (fun i=>m.heads.length - i) ⟨0,[0,1,2,3],⟨Nat.zero_le _,rfl⟩,?_⟩ ?_
 ·conv=>whnf
  repeat'(first|exact ⟨⟩|exact rfl|exact qa0 _|exact .inr rfl|exact fun _ _=>rfl|exact noI|apply And.intro)
 intro i hi
 obtain⟨hi,hd⟩:=hi
 conv=>whnf
 refine⟨fun h1=>?_,fun h1=>?_⟩
 ·have h1:i<m.heads.length:=by
   have h:(i:Int)<m.heads.length:=of_decide_eq_true h1
   omega
  have hw1:IntKind.i64.wrap ((i:Int)+1)=((i+1:Nat):Int):=by rw[qa2 _ (by omega)];omega
  obtain⟨r,hr⟩:∃ r,m.heads.getD i default=r:=⟨_,rfl⟩
  have hrl:m.heads[i]? = some r:=by rw[<-hr,List.getD,List.getElem?_eq_getElem h1];rfl
  have hsk:=xd5 (p:=jb9 q zone) hrl
  conv=>whnf
  refine⟨by omega,?_⟩
  conv=>whnf
  rw[Int.toNat_natCast,hr]
  have hhit:=xo2 (p:=jb9 q zone) hrl
  refine⟨fun g1=>?_,fun g1=>?_⟩
  ·have g1:(r.ty == 6)=true:=g1
   conv=>whnf
   refine .one (.data _ (qj0 _ _) rfl rfl ?_)
   cases g2:qa1 r.nm zone with
   |false =>
    have hp:jb9 q zone r=false:=by unfold jb9;rw[g1,g2];rfl
    conv=>whnf
    repeat(first|(refine brF rfl ?_;conv=>whnf)|(refine brT rfl ?_;conv=>whnf))
    rw[hw1]
    refine⟨i+1,[0,1,2,3],⟨h1,hsk hp hd⟩,by omega,?_⟩
    conv=>whnf
    repeat'(first|exact ⟨⟩|exact rfl|exact qa0 _|exact .inr rfl|exact fun _ _=>rfl|exact noI|apply And.intro)
   |true =>
    conv=>whnf
    refine brT rfl ?_
    conv=>whnf
    refine .one (.data _ (qj0 _ _) rfl rfl ?_)
    cases g3:qa1 q.nm r.nm with
    |false =>
     have hp:jb9 q zone r=false:=by unfold jb9;rw[g1,g2,g3];rfl
     conv=>whnf
     repeat(first|(refine brF rfl ?_;conv=>whnf)|(refine brT rfl ?_;conv=>whnf))
     rw[hw1]
     refine⟨i+1,[0,1,2,3],⟨h1,hsk hp hd⟩,by omega,?_⟩
     conv=>whnf
     repeat'(first|exact ⟨⟩|exact rfl|exact qa0 _|exact .inr rfl|exact fun _ _=>rfl|exact noI|apply And.intro)
    |true =>
     conv=>whnf
     refine brT rfl ?_
     conv=>whnf
     refine .one (.data _ (yk8 r) rfl rfl ?_)
     cases g4:qg3 r with
     |false =>
      have hp:jb9 q zone r=false:=by unfold jb9;rw[g1,g2,g3,g4];rfl
      conv=>whnf
      repeat(first|(refine brF rfl ?_;conv=>whnf)|(refine brT rfl ?_;conv=>whnf))
      rw[hw1]
      refine⟨i+1,[0,1,2,3],⟨h1,hsk hp hd⟩,by omega,?_⟩
      conv=>whnf
      repeat'(first|exact ⟨⟩|exact rfl|exact qa0 _|exact .inr rfl|exact fun _ _=>rfl|exact noI|apply And.intro)
     |true =>
      have hp:jb9 q zone r=true:=by unfold jb9;rw[g1,g2,g3,g4];rfl
      rw[hhit hp hd]
      conv=>whnf
      refine brT rfl ?_
      conv=>whnf
      refine brF (decide_eq_false (by show ¬ ((i:Nat):Int)<0;omega)) ?_
      conv=>whnf
      refine⟨by omega,?_⟩
      conv=>whnf
      rw[Int.toNat_natCast,hr]
      repeat'(first|exact ⟨⟩|exact rfl|exact⟨rfl,rfl,.inr rfl,fun _ _=>rfl⟩|exact⟨rfl,rfl,.inl rfl,noI⟩|apply And.intro)
  ·have g1:(r.ty == 6)=false:=g1
   have hp:jb9 q zone r=false:=by unfold jb9;rw[g1];rfl
   conv=>whnf
   repeat(first|(refine brF rfl ?_;conv=>whnf)|(refine brT rfl ?_;conv=>whnf))
   rw[hw1]
   refine⟨i+1,[0,1,2,3],⟨h1,hsk hp hd⟩,by omega,?_⟩
   conv=>whnf
   repeat'(first|exact ⟨⟩|exact rfl|exact qa0 _|exact .inr rfl|exact fun _ _=>rfl|exact noI|apply And.intro)
 ·have h1:i=m.heads.length:=by
   have h:¬ (i:Int)<m.heads.length:=of_decide_eq_false h1
   omega
  subst h1
  rw [List.drop_length] at hd
  rw[<-hd]
  conv=>whnf
  refine brT rfl ?_
  conv=>whnf
  repeat'(first|exact ⟨⟩|exact rfl|exact⟨rfl,rfl,.inr rfl,fun _ _=>rfl⟩|exact⟨rfl,rfl,.inl rfl,noI⟩|apply And.intro)
def yd9(m:Msg)(q:Q)(zone:List UInt8):Bool:=m.code == 3 && (jz4 m q zone).isSome
theorem zn4(m:Msg):FnOk Tryz.prog 64 [.agg m.cells] (.d (.int .i64 m.code)):=by
 refine qa5 (TT:=TT) (IN:=qd0 []) qd2 qa8 mixed 1000 Tryz.func64 rfl (qb6 Tryz.func64 (by kernel_rfl) rfl) rfl 6 (by kernel_rfl) ?_
 conv=>whnf
 all_goals exact rfl
theorem jo5(m:Msg)(q:Q)(zone:List UInt8):((jz3 m q zone).2 == 0)=(jz4 m q zone).isSome:=by
 unfold jz3
 cases jz4 m q zone <;> rfl
set_option maxHeartbeats 8000000 in
theorem ju3(m:Msg)(hm:m.heads.length<=1000000)(q:Q)(zone:List UInt8):FnOk Tryz.prog 33 [.agg m.cells,q.V,.d (.str zone)] (.d (.bool (yd9 m q zone))):=by
 refine qa5 (TT:=TT) (IN:=qd0 []) qd2 qa8 mixed 1000 Tryz.func33 rfl (qb6 Tryz.func33 (by kernel_rfl) rfl) rfl 18 (by kernel_rfl) ?_
 unfold yd9
 conv=>whnf
 refine .one (.data _ (zn4 m) rfl rfl ?_)
 conv=>whnf
 refine⟨fun h1=>?_,fun h1=>?_⟩
 ·have h1:(m.code == 3)=false:=by simpa using h1
  rw[h1]
  conv=>whnf
  all_goals exact rfl
 ·have h1:(m.code == 3)=true:=by simpa using h1
  rw[h1]
  conv=>whnf
  refine .one (.data _ (yp7 m hm q zone) rfl rfl ?_)
  conv=>whnf
  rw[jo5]
  all_goals exact rfl
def qw5(q:Q)(r:RR):Bool:=(r.ty == q.ty || r.ty == 5) && (qu4 r.nm q.nm && qg3 r)
def yj7(m:Msg)(q:Q)(zone:List UInt8):Bool:=m.code == 0 && ((jz4 m q zone).isSome && !m.says.any (qw5 q))
set_option maxHeartbeats 16000000 in
theorem ju0(m:Msg)(hm:m.heads.length<=1000000)(hs:m.says.length<=1000000)(q:Q)(zone:List UInt8):FnOk Tryz.prog 35 [.agg m.cells,q.V,.d (.str zone)] (.d (.bool (yj7 m q zone))):=by
 refine qa5 (TT:=TT) (IN:=qd0 [(67,Tryz.f67,2),(104,Tryz.f104,2),(68,Tryz.f68,2)]) qd2 (qc4 (qc4 (qc4 qa8 Tryz.func68 (by kernel_rfl) (by kernel_rfl)) Tryz.func104 (by kernel_rfl) (by kernel_rfl)) Tryz.func67 (by kernel_rfl) (by kernel_rfl)) mixed 1000 Tryz.func35 rfl (qb6 Tryz.func35 (by kernel_rfl) rfl) rfl 23 (by kernel_rfl) ?_
 unfold yj7
 conv=>whnf
 refine .one (.data _ (zn4 m) rfl rfl ?_)
 conv=>whnf
 refine⟨fun h1=>?_,fun h1=>?_⟩
 ·have h1:(m.code == 0)=false:=by simpa using h1
  rw[h1]
  conv=>whnf
  all_goals exact rfl
 have h1:(m.code == 0)=true:=by simpa using h1
 rw[h1]
 conv=>whnf
 refine .one (.data _ (yp7 m hm q zone) rfl rfl ?_)
 conv=>whnf
 refine⟨fun h2=>?_,fun h2=>?_⟩
 ·have h2:(jz4 m q zone).isSome=false:=by rw[<-jo5];simpa using h2
  rw[h2]
  conv=>whnf
  all_goals exact rfl
 have h2:(jz4 m q zone).isSome=true:=by rw[<-jo5];simpa using h2
 rw[h2]
 conv=>whnf
 refine .inv Nat (fun i=>i<=m.says.length/\(m.says.take i).any (qw5 q)=false) (fun i=>[(8,iV i)]) (fun i=>[]) (fun i=>m.says.length - i) ⟨0,[0,1,2],⟨Nat.zero_le _,rfl⟩,?_⟩ ?_
 ·conv=>whnf
  repeat'(first|exact ⟨⟩|exact rfl|exact qa0 _|exact .inr rfl|exact fun _ _=>rfl|exact noI|apply And.intro)
 intro i hi
 obtain⟨hi,hd⟩:=hi
 conv=>whnf
 refine⟨fun h3=>?_,fun h3=>?_⟩
 ·have h3:i<m.says.length:=by
   have h:(i:Int)<m.says.length:=of_decide_eq_true h3
   omega
  have hw1:IntKind.i64.wrap ((i:Int)+1)=((i+1:Nat):Int):=by rw[qa2 _ (by omega)];omega
  obtain⟨r,hr⟩:∃ r,m.says.getD i default=r:=⟨_,rfl⟩
  have hrl:m.says[i]? = some r:=by rw[<-hr,List.getD,List.getElem?_eq_getElem h3];rfl
  have hsk:qw5 q r=false->(m.says.take i).any (qw5 q)=false->(m.says.take (i+1)).any (qw5 q)=false:=fun h1 h2=>by
   rw[List.take_add_one,hrl,List.any_append,h2]
   simp[h1]
  conv=>whnf
  refine⟨by omega,?_⟩
  conv=>whnf
  rw[Int.toNat_natCast,hr]
  refine⟨fun g1=>?_,fun g1=>?_⟩
  ·have g1:(r.ty == q.ty)=true:=g1
   conv=>whnf
   refine .one (.data _ (yn2 _ _) rfl rfl ?_)
   cases g2:qu4 r.nm q.nm with
   |false =>
    have hp:qw5 q r=false:=by unfold qw5;rw[g1,g2];rfl
    conv=>whnf
    repeat(first|(refine brF rfl ?_;conv=>whnf)|(refine brT rfl ?_;conv=>whnf))
    rw[hw1]
    refine⟨i+1,[0,1,2],⟨h3,hsk hp hd⟩,by omega,?_⟩
    conv=>whnf
    repeat'(first|exact ⟨⟩|exact rfl|exact qa0 _|exact .inr rfl|exact fun _ _=>rfl|exact noI|apply And.intro)
   |true =>
    conv=>whnf
    refine brT rfl ?_
    conv=>whnf
    refine .one (.data _ (yk8 r) rfl rfl ?_)
    cases g3:qg3 r with
    |false =>
     have hp:qw5 q r=false:=by unfold qw5;rw[g1,g2,g3];rfl
     conv=>whnf
     repeat(first|(refine brF rfl ?_;conv=>whnf)|(refine brT rfl ?_;conv=>whnf))
     rw[hw1]
     refine⟨i+1,[0,1,2],⟨h3,hsk hp hd⟩,by omega,?_⟩
     conv=>whnf
     repeat'(first|exact ⟨⟩|exact rfl|exact qa0 _|exact .inr rfl|exact fun _ _=>rfl|exact noI|apply And.intro)
    |true =>
     have hp:qw5 q r=true:=by unfold qw5;rw[g1,g2,g3];rfl
     have hb:m.says.any (qw5 q)=true:=List.any_eq_true.2 ⟨r,List.mem_of_getElem? hrl,hp⟩
     rw[hb]
     conv=>whnf
     repeat(first|(refine brF rfl ?_;conv=>whnf)|(refine brT rfl ?_;conv=>whnf))
     show _=_
     rw[decide_eq_true (by omega:((i:Nat):Int) >= 0)]
     rfl
  ·have g1:(r.ty == q.ty)=false:=g1
   conv=>whnf
   refine⟨fun g0=>?_,fun g0=>?_⟩
   ·have g0:(r.ty == 5)=true:=g0
    conv=>whnf
    refine .one (.data _ (yn2 _ _) rfl rfl ?_)
    cases g2:qu4 r.nm q.nm with
    |false =>
     have hp:qw5 q r=false:=by unfold qw5;rw[g1,g0,g2];rfl
     conv=>whnf
     repeat(first|(refine brF rfl ?_;conv=>whnf)|(refine brT rfl ?_;conv=>whnf))
     rw[hw1]
     refine⟨i+1,[0,1,2],⟨h3,hsk hp hd⟩,by omega,?_⟩
     conv=>whnf
     repeat'(first|exact ⟨⟩|exact rfl|exact qa0 _|exact .inr rfl|exact fun _ _=>rfl|exact noI|apply And.intro)
    |true =>
     conv=>whnf
     refine brT rfl ?_
     conv=>whnf
     refine .one (.data _ (yk8 r) rfl rfl ?_)
     cases g3:qg3 r with
     |false =>
      have hp:qw5 q r=false:=by unfold qw5;rw[g1,g0,g2,g3];rfl
      conv=>whnf
      repeat(first|(refine brF rfl ?_;conv=>whnf)|(refine brT rfl ?_;conv=>whnf))
      rw[hw1]
      refine⟨i+1,[0,1,2],⟨h3,hsk hp hd⟩,by omega,?_⟩
      conv=>whnf
      repeat'(first|exact ⟨⟩|exact rfl|exact qa0 _|exact .inr rfl|exact fun _ _=>rfl|exact noI|apply And.intro)
     |true =>
      have hp:qw5 q r=true:=by unfold qw5;rw[g1,g0,g2,g3];rfl
      have hb:m.says.any (qw5 q)=true:=List.any_eq_true.2 ⟨r,List.mem_of_getElem? hrl,hp⟩
      rw[hb]
      conv=>whnf
      repeat(first|(refine brF rfl ?_;conv=>whnf)|(refine brT rfl ?_;conv=>whnf))
      show _=_
      rw[decide_eq_true (by omega:((i:Nat):Int) >= 0)]
      rfl
   ·have g0:(r.ty == 5)=false:=g0
    have hp:qw5 q r=false:=by unfold qw5;rw[g1,g0];rfl
    conv=>whnf
    repeat(first|(refine brF rfl ?_;conv=>whnf)|(refine brT rfl ?_;conv=>whnf))
    rw[hw1]
    refine⟨i+1,[0,1,2],⟨h3,hsk hp hd⟩,by omega,?_⟩
    conv=>whnf
    repeat'(first|exact ⟨⟩|exact rfl|exact qa0 _|exact .inr rfl|exact fun _ _=>rfl|exact noI|apply And.intro)
 ·have h3:i=m.says.length:=by
   have h:¬ (i:Int)<m.says.length:=of_decide_eq_false h3
   omega
  subst h3
  rw [List.take_length] at hd
  rw[hd]
  conv=>whnf
  all_goals exact rfl
def yg9(s:List UInt8):Int × Int:=if ql5 6 s then (IntKind.u32.wrap ((Rdr.num ⟨s.drop (s.length - 4),0,false⟩ 4).2:Nat),0) else (0,2)
theorem xt9{s:List UInt8}(h:ql5 6 s=true):20<=s.length/\s.length<=4096:=by
 unfold ql5 at h
 simp only [Bool.and_eq_true,decide_eq_true_eq] at h
 refine⟨?_,h.1⟩
 have h2:(cutF 0 2 5 s).isSome=true:=h.2
 obtain⟨x,hx⟩:=Option.isSome_iff_exists.1 h2
 unfold cutF at hx
 split at hx
 ·cases hx
 ·obtain⟨p,hp,hq⟩:=Option.bind_eq_some_iff.1 hx
  split at hq
  ·rename_i hl
   obtain⟨l,r⟩:=p
   have:=(yg8 2 (s.drop (2 * 0)) l r hp).2
   simp at this hl
   omega
  ·cases hq
set_option maxHeartbeats 8000000 in
theorem xm7(s:List UInt8):FnOk Tryz.prog 106 [.d (.str s)] (.tup [.d (.int .u32 (yg9 s).1),.d (.int .i64 (yg9 s).2)]):=by
 refine qa5 (TT:=TT) (IN:=qd0 []) qd2 qa8 mixed 1000 Tryz.func106 rfl (qb6 Tryz.func106 (by kernel_rfl) rfl) rfl 14 (by kernel_rfl) ?_
 unfold yg9
 conv=>whnf
 refine .one (.data _ (jw8 6 s) rfl rfl ?_)
 cases h:ql5 6 s with
 |false =>
  rw[if_neg (by decide)]
  conv=>whnf
  refine brT rfl ?_
  conv=>whnf
  repeat'(first|exact ⟨⟩|exact rfl|exact⟨rfl,rfl,.inr rfl,fun _ _=>rfl⟩|exact⟨rfl,rfl,.inl rfl,noI⟩|apply And.intro)
 |true =>
  obtain⟨h1,h2⟩:=xt9 h
  rw[if_pos rfl]
  conv=>whnf
  refine brF rfl ?_
  conv=>whnf
  have hw1:IntKind.i64.wrap ((s.length:Int) - 4)=((s.length - 4:Nat):Int):=by rw[qa2 _ (by omega)];omega
  rw[hw1]
  refine⟨⟨by omega,by omega,Int.le_refl _⟩,?_⟩
  conv=>whnf
  rw[show sub s ((s.length - 4:Nat):Int) (s.length:Int)=s.drop (s.length - 4) by unfold sub;rw[Int.toNat_natCast,Int.toNat_natCast,List.take_of_length_le (by rw[List.length_drop];omega)]]
  refine .rel _ (xu8 _) (fun r ks' hR=>?_)
  obtain⟨rfl,rfl⟩:=hR
  conv=>whnf
  refine .rel _ (xu5 ⟨s.drop (s.length - 4),0,false⟩ ⟨by show(s.drop _).length<_;rw[List.length_drop];omega,Nat.zero_le _⟩ 4 (.inr (.inr (.inl rfl)))) (fun r ks' hR=>?_)
  obtain⟨r1,rfl,rfl,rfl⟩:=hR
  conv=>whnf
  repeat'(first|exact ⟨⟩|exact rfl|exact⟨rfl,rfl,.inr rfl,fun _ _=>rfl⟩|exact⟨rfl,rfl,.inl rfl,noI⟩|apply And.intro)
def ttlA(m:Msg)(q:Q)(zone:List UInt8):Int × Int:=if (jz3 m q zone).2=0 then (if (yg9 (jz3 m q zone).1.d).2=0 then
 ((fun a b=>if (10800:Int)<(if b<a then b else a) then 10800 else (if b<a then b else a)) (jz3 m q zone).1.ttl (yg9 (jz3 m q zone).1.d).1,0) else (0,3)) else (0,(jz3 m q zone).2)
set_option maxHeartbeats 8000000 in
theorem xy0(m:Msg)(hm:m.heads.length<=1000000)(q:Q)(zone:List UInt8):FnOk Tryz.prog 66 [.agg m.cells,q.V,.d (.str zone)] (.tup [.d (.int .u32 (ttlA m q zone).1),.d (.int .i64 (ttlA m q zone).2)]):=by
 refine qa5 (TT:=TT) (IN:=qd0 []) qd2 qa8 mixed 1000 Tryz.func66 rfl (qb6 Tryz.func66 (by kernel_rfl) rfl) rfl 30 (by kernel_rfl) ?_
 unfold ttlA
 conv=>whnf
 refine .one (.data _ (yp7 m hm q zone) rfl rfl ?_)
 generalize jz3 m q zone=h
 conv=>whnf
 refine⟨fun h1=>?_,fun h1=>?_⟩
 ·have h1:h.2≠0:=by simpa using h1
  rw[if_neg h1]
  conv=>whnf
  repeat'(first|exact ⟨⟩|exact rfl|exact⟨rfl,rfl,.inr rfl,fun _ _=>rfl⟩|exact⟨rfl,rfl,.inl rfl,noI⟩|apply And.intro)
 have h1:h.2=0:=by simpa using h1
 rw[if_pos h1]
 conv=>whnf
 refine .one (.data _ (xm7 h.1.d) rfl rfl ?_)
 generalize yg9 h.1.d=l
 conv=>whnf
 refine⟨fun h2=>?_,fun h2=>?_⟩
 ·have h2:l.2≠0:=by simpa using h2
  rw[if_neg h2]
  conv=>whnf
  repeat'(first|exact ⟨⟩|exact rfl|exact⟨rfl,rfl,.inr rfl,fun _ _=>rfl⟩|exact⟨rfl,rfl,.inl rfl,noI⟩|apply And.intro)
 have h2:l.2=0:=by simpa using h2
 rw[if_pos h2]
 conv=>whnf
 repeat'(first|exact ⟨⟩|exact rfl|exact⟨rfl,rfl,.inr rfl,fun _ _=>rfl⟩|exact⟨rfl,rfl,.inl rfl,noI⟩|apply And.intro)
structure Cls where
 kind:Int
 chain:List St
 ans:St
 target:List UInt8
 ttl:Int
def Cls.V(c:Cls):SV:=.agg [.d (.int .u8 c.kind),.d (stsD c.chain.isEmpty c.chain),.d (.str c.ans.nm),.d (.int .u16 c.ans.ty),.d (.int .u32 c.ans.ttl),.d (.sl c.ans.z c.ans.data.length 1 (strs c.ans.data)),.d (.str c.target),.d (.int .u32 c.ttl)]
def xv1(kind:Int)(m:Msg)(q:Q)(zone:List UInt8):Cls:=⟨kind,[],St.no,q.nm,(ttlA m q zone).1⟩
set_option maxHeartbeats 8000000 in
theorem qw0(kind:Int)(m:Msg)(hm:m.heads.length<=1000000)(q:Q)(zone:List UInt8):FnOk Tryz.prog 34 [.d (.int .u8 kind),.agg m.cells,q.V,.d (.str zone)] (xv1 kind m q zone).V:=by
 refine qa5 (TT:=TT) (IN:=qd0 []) qd2 qa8 mixed 1000 Tryz.func34 rfl (qb6 Tryz.func34 (by kernel_rfl) rfl) rfl 19 (by kernel_rfl) ?_
 conv=>whnf
 refine .one (.data _ (xy0 m hm q zone) rfl rfl ?_)
 conv=>whnf
 repeat'(first|exact ⟨⟩|exact rfl|exact⟨rfl,rfl,.inr rfl,fun _ _=>rfl⟩|exact⟨rfl,rfl,.inl rfl,noI⟩|apply And.intro)
def jr1(n z:List UInt8):Int:=if qa1 n z then (qb0 n:Int) - (qb0 z:Int) else -1
theorem yy9(n:List UInt8):qb0 n<=255:=ji3
theorem xp1(n z:List UInt8):FnOk Tryz.prog 70 [.d (.str n),.d (.str z)] (.d (.int .i64 (jr1 n z))):=by
 refine qa5 (TT:=TT) (IN:=qd0 []) qd2 qa8 mixed 1000 Tryz.func70 rfl (qb6 Tryz.func70 (by kernel_rfl) rfl) rfl 12 (by kernel_rfl) ?_
 unfold jr1
 conv=>whnf
 refine .one (.data _ (qj0 n z) rfl rfl ?_)
 cases qa1 n z with
 |false =>
  rw[if_neg (by decide)]
  conv=>whnf
  refine brT rfl ?_
  conv=>whnf
  all_goals exact rfl
 |true =>
  have h1:=yy9 n
  have h2:=yy9 z
  rw[if_pos rfl]
  conv=>whnf
  refine brF rfl ?_
  conv=>whnf
  refine .one (.data _ (jf2 n) rfl rfl ?_)
  conv=>whnf
  refine .one (.data _ (jf2 z) rfl rfl ?_)
  conv=>whnf
  rw[qa2 _ (by omega)]
  all_goals exact rfl
def refP(zone:List UInt8)(r:RR):Bool:=r.ty == 2 && (r.cl == 1 && (decide (jr1 r.nm zone > 0) && r.check))
def qs1(m:Msg)(zone:List UInt8):List (List UInt8):=(m.heads.filter (refP zone)).map (·.nm)
def qr3(m:Msg)(q:Q)(zone:List UInt8):St × Int:=if m.code=0 then (if (js6 q.nm (qs1 m zone)).2=0 then qb5 (js6 q.nm (qs1 m zone)).1 2 m.heads else (St.no,3)) else (St.no,3)
def yd6(m:Msg)(zone:List UInt8)(i:Nat):List (List UInt8):=((m.heads.take i).filter (refP zone)).map (·.nm)
theorem zp6{m:Msg}{zone:List UInt8}{i:Nat}{r:RR}(h:m.heads[i]? = some r):yd6 m zone (i+1)=if refP zone r then yd6 m zone i++[r.nm] else yd6 m zone i:=by
 unfold yd6
 rw[List.take_add_one,h]
 cases hp:refP zone r <;> simp[hp]
theorem zx8(m:Msg)(zone:List UInt8)(i:Nat):(yd6 m zone i).length<=i:=by
 unfold yd6
 rw[List.length_map]
 exact Nat.le_trans (List.length_filter_le _ _) (by rw[List.length_take];omega)
set_option maxHeartbeats 16000000 in
theorem jj6(m:Msg)(hm:yd1 m.heads)(q:Q)(zone:List UInt8):FnOk Tryz.prog 36 [.agg m.cells,q.V,.d (.str zone)] (.tup [(qr3 m q zone).1.V,.d (.int .i64 (qr3 m q zone).2)]):=by
 refine qa5 (TT:=TT) (IN:=qd0 []) qd2 qa8 mixed 1000 Tryz.func36 rfl (qb6 Tryz.func36 (by kernel_rfl) rfl) rfl 63 (by kernel_rfl) ?_
 unfold qr3
 conv=>whnf
 refine .one (.data _ (xe5 m) rfl rfl ?_)
 conv=>whnf
 refine⟨fun h1=>?_,fun h1=>?_⟩
 ·have h1:¬ m.code=0:=by simpa using h1
  rw[if_neg h1]
  conv=>whnf
  repeat'(first|exact ⟨⟩|exact rfl|exact⟨rfl,rfl,.inr rfl,fun _ _=>rfl⟩|exact⟨rfl,rfl,.inl rfl,noI⟩|apply And.intro)
 have h1:m.code=0:=by simpa using h1
 rw[if_pos h1]
 conv=>whnf
 refine .nilT 8 9 1 (strs []) _ _ rfl ?_
 conv=>whnf
 refine .inv Nat (fun i=>i<=m.heads.length) (fun i=>[(20,iV i),(8,.all 3)]) (fun i=>[(3,.row 9 1 (yd6 m zone i).length .iff (strs (yd6 m zone i)))]) (fun i=>m.heads.length - i) ⟨0,[0,1,2,3],Nat.zero_le _,?_⟩ ?_
 ·conv=>whnf
  repeat'(first|exact ⟨⟩|exact rfl|exact qa0 _|exact .inr rfl|exact fun _ _=>rfl|exact noI|apply And.intro)
 intro i hi
 conv=>whnf
 have hlen:=hm.1
 have htl:=zx8 m zone i
 refine⟨fun h2=>?_,fun h2=>?_⟩
 ·have h2:i<m.heads.length:=by
   have h:(i:Int)<m.heads.length:=of_decide_eq_true h2
   omega
  have hw1:IntKind.i64.wrap ((i:Int)+1)=((i+1:Nat):Int):=by rw[qa2 _ (by omega)];omega
  obtain⟨r,hr⟩:∃ r,m.heads.getD i default=r:=⟨_,rfl⟩
  have hrl:m.heads[i]? = some r:=by rw[<-hr,List.getD,List.getElem?_eq_getElem h2];rfl
  have hnx:=zp6 (zone:=zone) hrl
  conv=>whnf
  refine⟨by omega,?_⟩
  conv=>whnf
  rw[Int.toNat_natCast,hr]
  refine⟨fun g1=>?_,fun g1=>?_⟩
  ·have g1:(r.ty == 2)=true:=g1
   conv=>whnf
   refine⟨fun g2=>?_,fun g2=>?_⟩
   ·have g2:(r.cl == 1)=true:=g2
    conv=>whnf
    refine .one (.data _ (xp1 _ _) rfl rfl ?_)
    conv=>whnf
    refine⟨fun g3=>?_,fun g3=>?_⟩
    ·have g3:decide (jr1 r.nm zone > 0)=true:=g3
     conv=>whnf
     refine .one (.data _ (qz8 r) rfl rfl ?_)
     cases g4:r.check with
     |false =>
      have hp:refP zone r=false:=by unfold refP;rw[g1,g2,g3,g4];rfl
      rw [hp,if_neg (by decide)] at hnx
      conv=>whnf
      repeat(first|(refine brF rfl ?_;conv=>whnf)|(refine brT rfl ?_;conv=>whnf))
      rw[hw1]
      refine⟨i+1,[0,1,2,3],h2,by omega,?_⟩
      rw[hnx]
      conv=>whnf
      repeat'(first|exact ⟨⟩|exact rfl|exact qa0 _|exact .inr rfl|exact fun _ _=>rfl|exact noI|apply And.intro)
     |true =>
      have hp:refP zone r=true:=by unfold refP;rw[g1,g2,g3,g4];rfl
      rw [hp,if_pos rfl] at hnx
      conv=>whnf
      refine brT rfl ?_
      conv=>whnf
      refine⟨by omega,?_⟩
      conv=>whnf
      rw[hw1]
      refine⟨i+1,[0,1,2,6],h2,by omega,?_⟩
      rw[hnx]
      conv=>whnf
      repeat'(first|exact ⟨⟩|exact rfl|exact qa0 _|exact .inr rfl|exact fun _ _=>rfl|exact noI|apply And.intro)
      all_goals first
       |(show _+1=(_++[_]).length;simp;done)
       |exact qo0 _ _ _ rfl
    ·have g3:decide (jr1 r.nm zone > 0)=false:=g3
     have hp:refP zone r=false:=by unfold refP;rw[g1,g2,g3];rfl
     rw [hp,if_neg (by decide)] at hnx
     conv=>whnf
     repeat(first|(refine brF rfl ?_;conv=>whnf)|(refine brT rfl ?_;conv=>whnf))
     rw[hw1]
     refine⟨i+1,[0,1,2,3],h2,by omega,?_⟩
     rw[hnx]
     conv=>whnf
     repeat'(first|exact ⟨⟩|exact rfl|exact qa0 _|exact .inr rfl|exact fun _ _=>rfl|exact noI|apply And.intro)
   ·have g2:(r.cl == 1)=false:=g2
    have hp:refP zone r=false:=by unfold refP;rw[g1,g2];rfl
    rw [hp,if_neg (by decide)] at hnx
    conv=>whnf
    repeat(first|(refine brF rfl ?_;conv=>whnf)|(refine brT rfl ?_;conv=>whnf))
    rw[hw1]
    refine⟨i+1,[0,1,2,3],h2,by omega,?_⟩
    rw[hnx]
    conv=>whnf
    repeat'(first|exact ⟨⟩|exact rfl|exact qa0 _|exact .inr rfl|exact fun _ _=>rfl|exact noI|apply And.intro)
  ·have g1:(r.ty == 2)=false:=g1
   have hp:refP zone r=false:=by unfold refP;rw[g1];rfl
   rw [hp,if_neg (by decide)] at hnx
   conv=>whnf
   repeat(first|(refine brF rfl ?_;conv=>whnf)|(refine brT rfl ?_;conv=>whnf))
   rw[hw1]
   refine⟨i+1,[0,1,2,3],h2,by omega,?_⟩
   rw[hnx]
   conv=>whnf
   repeat'(first|exact ⟨⟩|exact rfl|exact qa0 _|exact .inr rfl|exact fun _ _=>rfl|exact noI|apply And.intro)
 ·have h2:i=m.heads.length:=by
   have h:¬ (i:Int)<m.heads.length:=of_decide_eq_false h2
   omega
  subst h2
  have hrn:yd6 m zone m.heads.length=qs1 m zone:=by unfold yd6 qs1;rw[List.take_length]
  rw [hrn] at htl ⊢
  have hns:∀ n ∈ qs1 m zone,n.length<=100000:=fun n hn=>by
   unfold qs1 at hn
   obtain⟨r,hr,rfl⟩:=List.mem_map.1 hn
   exact(hm.2 r (List.mem_filter.1 hr).1).1
  generalize qs1 m zone=N at htl hns ⊢
  conv=>whnf
  refine .one (.view _ _ [3] (yi0 q.nm (Nat.beq N.length 0) N (by omega)) ?_ rfl rfl ?_)
  ·conv=>whnf
   exact⟨rfl,rfl⟩
  have hdm:∀ a,(js6 q.nm N).1=a->(js6 q.nm N).2=0->a.length<=100000:=fun a ha h0=>by
   unfold js6 at ha h0
   split at ha
   ·rename_i hqn
    rw [if_pos hqn] at h0
    cases hd:qq3 q.nm N none with
    |none=>rw [hd] at h0;cases h0
    |some c =>
     rw [hd] at ha
     simp only at ha
     subst ha
     rcases jl9 hd with h|h
     ·exact hns _ h
     ·cases h
   ·rename_i hqn
    rw [if_neg hqn] at h0
    cases h0
  generalize js6 q.nm N=D at hdm ⊢
  conv=>whnf
  refine⟨fun h3=>?_,fun h3=>?_⟩
  ·have h3:¬ D.2=0:=by simpa using h3
   rw[if_neg h3]
   conv=>whnf
   repeat'(first|exact ⟨⟩|exact rfl|exact⟨rfl,rfl,.inr rfl,fun _ _=>rfl⟩|exact⟨rfl,rfl,.inl rfl,noI⟩|apply And.intro)
  ·have h3:D.2=0:=by simpa using h3
   rw[if_pos h3]
   conv=>whnf
   refine .one (.data _ (jo7 D.1 2 m.zh m.heads hm.1 (hdm _ rfl h3) (fun r hr=>(hm.2 r hr).1)) rfl rfl ?_)
   conv=>whnf
   repeat'(first|exact ⟨⟩|exact rfl|exact⟨rfl,rfl,.inr rfl,fun _ _=>rfl⟩|exact⟨rfl,rfl,.inl rfl,noI⟩|apply And.intro)
def qr7(m:Msg)(q:Q)(zone:List UInt8):Cls :=
 if m.code=0/\(qb5 (qi6 q.ty m.says 8 q.nm []).2 q.ty m.says).2=0 then ⟨1,(qi6 q.ty m.says 8 q.nm []).1,(qb5 (qi6 q.ty m.says 8 q.nm []).2 q.ty m.says).1,(qi6 q.ty m.says 8 q.nm []).2,0⟩
 else if 0<(qi6 q.ty m.says 8 q.nm []).1.length/\(m.code=0\/m.code=3) then ⟨2,(qi6 q.ty m.says 8 q.nm []).1,St.no,(qi6 q.ty m.says 8 q.nm []).2,0⟩
 else if yd9 m q zone then xv1 3 m q zone
 else if yj7 m q zone then xv1 4 m q zone
 else if (qr3 m q zone).2=0 then ⟨5,[],(qr3 m q zone).1,(qr3 m q zone).1.nm,0⟩
 else ⟨0,[],St.no,[],0⟩
theorem yi9{ty:Int}{L:List RR}(hL:∀ r ∈ L,r.d.length<=100000):∀ (k:Nat) (n:List UInt8) (c:List St),n.length<=100000->(qi6 ty L k n c).2.length<=100000
 |0,n,c,h=>h
 |k+1,n,c,h=>by
  unfold qi6
  split
  ·exact h
  ·rename_i hc
   refine yi9 hL k _ _ ?_
   cases hd:(qb5 n 5 L).1.data with
   |nil=>exact Nat.zero_le _
   |cons a b =>
    obtain⟨r,hr,e⟩:=zm2 (d:=a) (nm:=n) (t:=5) (l:=L) (by rw[hd];simp)
    show a.length<=100000
    rw[<-e]
    exact hL r hr
set_option maxHeartbeats 16000000 in
theorem xp7(m:Msg)(hs:yd1 m.says)(hh:yd1 m.heads)(q:Q)(hq:q.nm.length<=100000)(zone:List UInt8):FnOk Tryz.prog 14 [.agg m.cells,q.V,.d (.str zone)] (qr7 m q zone).V:=by
 refine qa5 (TT:=TT) (IN:=qd0 []) qd2 qa8 mixed 1000 Tryz.func14 rfl (qb6 Tryz.func14 (by kernel_rfl) rfl) rfl 81 (by kernel_rfl) ?_
 have hm1:m.heads.length<=1000000:=by have:=hh.1;omega
 have hs1:m.says.length<=1000000:=by have:=hs.1;omega
 have hce:=yi9 (ty:=q.ty) (fun r hr=>(hs.2 r hr).2) 8 q.nm [] hq
 unfold qr7
 conv=>whnf
 refine .one (.data _ (xe5 m) rfl rfl ?_)
 conv=>whnf
 refine .one (.data _ (xp8 q hq m.zs m.says hs) rfl rfl ?_)
 generalize qi6 q.ty m.says 8 q.nm []=C at hce ⊢
 obtain⟨ch,e⟩:=C
 conv=>whnf
 refine⟨fun h1=>?_,fun h1=>?_⟩
 ·have h1:m.code=0:=by simpa using h1
  conv=>whnf
  refine .one (.data _ (jo7 e q.ty m.zs m.says hs.1 hce (fun r hr=>(hs.2 r hr).1)) rfl rfl ?_)
  generalize qb5 e q.ty m.says=F
  conv=>whnf
  refine⟨fun h2=>?_,fun h2=>?_⟩
  ·have h2:F.2=0:=by simpa using h2
   rw[if_pos ⟨h1,h2⟩]
   conv=>whnf
   repeat'(first|exact ⟨⟩|exact rfl|exact⟨rfl,rfl,.inr rfl,fun _ _=>rfl⟩|exact⟨rfl,rfl,.inl rfl,noI⟩|apply And.intro)
  ·have h2:¬ F.2=0:=by simpa using h2
   rw[if_neg (fun h=>h2 h.2)]
   conv=>whnf
   refine⟨fun g1=>?_,fun g1=>?_⟩
   ·have g1:0<ch.length:=by
     have h:(ch.length:Int) > 0:=of_decide_eq_true g1
     omega
    conv=>whnf
    refine⟨fun g2=>?_,fun g2=>?_⟩
    ·have g2:m.code=0:=by simpa using g2
     rw[if_pos ⟨g1,.inl g2⟩]
     conv=>whnf
     repeat'(first|exact ⟨⟩|exact rfl|exact⟨rfl,rfl,.inr rfl,fun _ _=>rfl⟩|exact⟨rfl,rfl,.inl rfl,noI⟩|apply And.intro)
    ·have g2:¬ m.code=0:=by simpa using g2
     conv=>whnf
     refine⟨fun g3=>?_,fun g3=>?_⟩
     ·have g3:m.code=3:=by simpa using g3
      rw[if_pos ⟨g1,.inr g3⟩]
      conv=>whnf
      repeat'(first|exact ⟨⟩|exact rfl|exact⟨rfl,rfl,.inr rfl,fun _ _=>rfl⟩|exact⟨rfl,rfl,.inl rfl,noI⟩|apply And.intro)
     ·have g3:¬ m.code=3:=by simpa using g3
      rw[if_neg (fun h=>h.2.elim g2 g3)]
      conv=>whnf
      refine .one (.data _ (ju3 m hm1 q zone) rfl rfl ?_)
      cases yd9 m q zone with
      |true =>
       rw[if_pos rfl]
       conv=>whnf
       refine brT rfl ?_
       conv=>whnf
       refine .one (.data _ (qw0 3 m hm1 q zone) rfl rfl ?_)
       conv=>whnf
       repeat'(first|exact ⟨⟩|exact rfl|exact⟨rfl,rfl,.inr rfl,fun _ _=>rfl⟩|exact⟨rfl,rfl,.inl rfl,noI⟩|apply And.intro)
      |false =>
       rw[if_neg (by decide)]
       conv=>whnf
       refine brF rfl ?_
       conv=>whnf
       refine .one (.data _ (ju0 m hm1 hs1 q zone) rfl rfl ?_)
       cases yj7 m q zone with
       |true =>
        rw[if_pos rfl]
        conv=>whnf
        refine brT rfl ?_
        conv=>whnf
        refine .one (.data _ (qw0 4 m hm1 q zone) rfl rfl ?_)
        conv=>whnf
        repeat'(first|exact ⟨⟩|exact rfl|exact⟨rfl,rfl,.inr rfl,fun _ _=>rfl⟩|exact⟨rfl,rfl,.inl rfl,noI⟩|apply And.intro)
       |false =>
        rw[if_neg (by decide)]
        conv=>whnf
        refine brF rfl ?_
        conv=>whnf
        refine .one (.data _ (jj6 m hh q zone) rfl rfl ?_)
        generalize qr3 m q zone=R
        conv=>whnf
        refine⟨fun g6=>?_,fun g6=>?_⟩
        ·have g6:R.2=0:=by simpa using g6
         rw[if_pos g6]
         conv=>whnf
         repeat'(first|exact ⟨⟩|exact rfl|exact⟨rfl,rfl,.inr rfl,fun _ _=>rfl⟩|exact⟨rfl,rfl,.inl rfl,noI⟩|apply And.intro)
        ·have g6:¬ R.2=0:=by simpa using g6
         rw[if_neg g6]
         conv=>whnf
         repeat'(first|exact ⟨⟩|exact rfl|exact⟨rfl,rfl,.inr rfl,fun _ _=>rfl⟩|exact⟨rfl,rfl,.inl rfl,noI⟩|apply And.intro)
   ·have g1:¬ 0<ch.length:=by
     have h:¬ (ch.length:Int) > 0:=of_decide_eq_false g1
     omega
    rw[if_neg (fun h=>g1 h.1)]
    conv=>whnf
    refine .one (.data _ (ju3 m hm1 q zone) rfl rfl ?_)
    cases yd9 m q zone with
    |true =>
     rw[if_pos rfl]
     conv=>whnf
     refine brT rfl ?_
     conv=>whnf
     refine .one (.data _ (qw0 3 m hm1 q zone) rfl rfl ?_)
     conv=>whnf
     repeat'(first|exact ⟨⟩|exact rfl|exact⟨rfl,rfl,.inr rfl,fun _ _=>rfl⟩|exact⟨rfl,rfl,.inl rfl,noI⟩|apply And.intro)
    |false =>
     rw[if_neg (by decide)]
     conv=>whnf
     refine brF rfl ?_
     conv=>whnf
     refine .one (.data _ (ju0 m hm1 hs1 q zone) rfl rfl ?_)
     cases yj7 m q zone with
     |true =>
      rw[if_pos rfl]
      conv=>whnf
      refine brT rfl ?_
      conv=>whnf
      refine .one (.data _ (qw0 4 m hm1 q zone) rfl rfl ?_)
      conv=>whnf
      repeat'(first|exact ⟨⟩|exact rfl|exact⟨rfl,rfl,.inr rfl,fun _ _=>rfl⟩|exact⟨rfl,rfl,.inl rfl,noI⟩|apply And.intro)
     |false =>
      rw[if_neg (by decide)]
      conv=>whnf
      refine brF rfl ?_
      conv=>whnf
      refine .one (.data _ (jj6 m hh q zone) rfl rfl ?_)
      generalize qr3 m q zone=R
      conv=>whnf
      refine⟨fun g6=>?_,fun g6=>?_⟩
      ·have g6:R.2=0:=by simpa using g6
       rw[if_pos g6]
       conv=>whnf
       repeat'(first|exact ⟨⟩|exact rfl|exact⟨rfl,rfl,.inr rfl,fun _ _=>rfl⟩|exact⟨rfl,rfl,.inl rfl,noI⟩|apply And.intro)
      ·have g6:¬ R.2=0:=by simpa using g6
       rw[if_neg g6]
       conv=>whnf
       repeat'(first|exact ⟨⟩|exact rfl|exact⟨rfl,rfl,.inr rfl,fun _ _=>rfl⟩|exact⟨rfl,rfl,.inl rfl,noI⟩|apply And.intro)
 ·have h1:¬ m.code=0:=by simpa using h1
  rw[if_neg (fun h=>h1 h.1)]
  conv=>whnf
  refine⟨fun g1=>?_,fun g1=>?_⟩
  ·have g1:0<ch.length:=by
    have h:(ch.length:Int) > 0:=of_decide_eq_true g1
    omega
   conv=>whnf
   refine⟨fun g2=>?_,fun g2=>?_⟩
   ·have g2:m.code=0:=by simpa using g2
    rw[if_pos ⟨g1,.inl g2⟩]
    conv=>whnf
    repeat'(first|exact ⟨⟩|exact rfl|exact⟨rfl,rfl,.inr rfl,fun _ _=>rfl⟩|exact⟨rfl,rfl,.inl rfl,noI⟩|apply And.intro)
   ·have g2:¬ m.code=0:=by simpa using g2
    conv=>whnf
    refine⟨fun g3=>?_,fun g3=>?_⟩
    ·have g3:m.code=3:=by simpa using g3
     rw[if_pos ⟨g1,.inr g3⟩]
     conv=>whnf
     repeat'(first|exact ⟨⟩|exact rfl|exact⟨rfl,rfl,.inr rfl,fun _ _=>rfl⟩|exact⟨rfl,rfl,.inl rfl,noI⟩|apply And.intro)
    ·have g3:¬ m.code=3:=by simpa using g3
     rw[if_neg (fun h=>h.2.elim g2 g3)]
     conv=>whnf
     refine .one (.data _ (ju3 m hm1 q zone) rfl rfl ?_)
     cases yd9 m q zone with
     |true =>
      rw[if_pos rfl]
      conv=>whnf
      refine brT rfl ?_
      conv=>whnf
      refine .one (.data _ (qw0 3 m hm1 q zone) rfl rfl ?_)
      conv=>whnf
      repeat'(first|exact ⟨⟩|exact rfl|exact⟨rfl,rfl,.inr rfl,fun _ _=>rfl⟩|exact⟨rfl,rfl,.inl rfl,noI⟩|apply And.intro)
     |false =>
      rw[if_neg (by decide)]
      conv=>whnf
      refine brF rfl ?_
      conv=>whnf
      refine .one (.data _ (ju0 m hm1 hs1 q zone) rfl rfl ?_)
      cases yj7 m q zone with
      |true =>
       rw[if_pos rfl]
       conv=>whnf
       refine brT rfl ?_
       conv=>whnf
       refine .one (.data _ (qw0 4 m hm1 q zone) rfl rfl ?_)
       conv=>whnf
       repeat'(first|exact ⟨⟩|exact rfl|exact⟨rfl,rfl,.inr rfl,fun _ _=>rfl⟩|exact⟨rfl,rfl,.inl rfl,noI⟩|apply And.intro)
      |false =>
       rw[if_neg (by decide)]
       conv=>whnf
       refine brF rfl ?_
       conv=>whnf
       refine .one (.data _ (jj6 m hh q zone) rfl rfl ?_)
       generalize qr3 m q zone=R
       conv=>whnf
       refine⟨fun g6=>?_,fun g6=>?_⟩
       ·have g6:R.2=0:=by simpa using g6
        rw[if_pos g6]
        conv=>whnf
        repeat'(first|exact ⟨⟩|exact rfl|exact⟨rfl,rfl,.inr rfl,fun _ _=>rfl⟩|exact⟨rfl,rfl,.inl rfl,noI⟩|apply And.intro)
       ·have g6:¬ R.2=0:=by simpa using g6
        rw[if_neg g6]
        conv=>whnf
        repeat'(first|exact ⟨⟩|exact rfl|exact⟨rfl,rfl,.inr rfl,fun _ _=>rfl⟩|exact⟨rfl,rfl,.inl rfl,noI⟩|apply And.intro)
  ·have g1:¬ 0<ch.length:=by
    have h:¬ (ch.length:Int) > 0:=of_decide_eq_false g1
    omega
   rw[if_neg (fun h=>g1 h.1)]
   conv=>whnf
   refine .one (.data _ (ju3 m hm1 q zone) rfl rfl ?_)
   cases yd9 m q zone with
   |true =>
    rw[if_pos rfl]
    conv=>whnf
    refine brT rfl ?_
    conv=>whnf
    refine .one (.data _ (qw0 3 m hm1 q zone) rfl rfl ?_)
    conv=>whnf
    repeat'(first|exact ⟨⟩|exact rfl|exact⟨rfl,rfl,.inr rfl,fun _ _=>rfl⟩|exact⟨rfl,rfl,.inl rfl,noI⟩|apply And.intro)
   |false =>
    rw[if_neg (by decide)]
    conv=>whnf
    refine brF rfl ?_
    conv=>whnf
    refine .one (.data _ (ju0 m hm1 hs1 q zone) rfl rfl ?_)
    cases yj7 m q zone with
    |true =>
     rw[if_pos rfl]
     conv=>whnf
     refine brT rfl ?_
     conv=>whnf
     refine .one (.data _ (qw0 4 m hm1 q zone) rfl rfl ?_)
     conv=>whnf
     repeat'(first|exact ⟨⟩|exact rfl|exact⟨rfl,rfl,.inr rfl,fun _ _=>rfl⟩|exact⟨rfl,rfl,.inl rfl,noI⟩|apply And.intro)
    |false =>
     rw[if_neg (by decide)]
     conv=>whnf
     refine brF rfl ?_
     conv=>whnf
     refine .one (.data _ (jj6 m hh q zone) rfl rfl ?_)
     generalize qr3 m q zone=R
     conv=>whnf
     refine⟨fun g6=>?_,fun g6=>?_⟩
     ·have g6:R.2=0:=by simpa using g6
      rw[if_pos g6]
      conv=>whnf
      repeat'(first|exact ⟨⟩|exact rfl|exact⟨rfl,rfl,.inr rfl,fun _ _=>rfl⟩|exact⟨rfl,rfl,.inl rfl,noI⟩|apply And.intro)
     ·have g6:¬ R.2=0:=by simpa using g6
      rw[if_neg g6]
      conv=>whnf
      repeat'(first|exact ⟨⟩|exact rfl|exact⟨rfl,rfl,.inr rfl,fun _ _=>rfl⟩|exact⟨rfl,rfl,.inl rfl,noI⟩|apply And.intro)
section
def msg1(q:Q):Msg:=⟨0,0,false,[q],true,[],true,[],true,[]⟩
theorem qp3(q:Q):((msg1 q).reply 0).bits=32768:=by
 show Go.bits BinOp.or IntKind.u16 (Go.bits BinOp.and IntKind.u16 0 30976) (Go.bits BinOp.or IntKind.u16 32768 (IntKind.u16.wrap (Go.bits BinOp.and IntKind.i64 0 15)))=32768
 kernel_rfl
theorem xu9(q:Q):(msg1 q).op=0:=by
 show(IntKind.i64.wrap (Go.bits BinOp.and IntKind.u16 0 30720)).fdiv (2 ^ 11)=0
 kernel_rfl
theorem xl7:orB 32768 1024=33792:=by kernel_rfl
theorem zz5:orB (orB 32768 1024) 3=33795:=by kernel_rfl
theorem ji4{m:Msg}{b c:Int}(h:m.bits=b)(hc:IntKind.i64.wrap (Go.bits BinOp.and IntKind.u16 b 15)=c):m.code=c:=by
 unfold Msg.code
 rw[h]
 exact hc
theorem kb4:IntKind.i64.wrap (Go.bits BinOp.and IntKind.u16 32768 15)=0:=by kernel_rfl
theorem yo6:IntKind.i64.wrap (Go.bits BinOp.and IntKind.u16 33792 15)=0:=by kernel_rfl
theorem xe6:IntKind.i64.wrap (Go.bits BinOp.and IntKind.u16 33795 15)=3:=by kernel_rfl
theorem yo1(n:List UInt8)(t:Int):(qb5 n t []).2≠0:=by
 intro h
 have:=(find_ok_iff.1 h).2
 exact this rfl
theorem xf0(ty:Int)(n:List UInt8)(k:Nat):qi6 ty [] k n []=([],n):=by
 cases k with
 |zero=>rfl
 |succ k =>
  unfold qi6
  rw[if_pos (.inr (.inr (.inl (yo1 n 5))))]
section
variable{z:Zo}{q:Q}
theorem xh0(hn:qa3 q.nm)(hc:q.cl=1)(hz:z.ok=true)(hw:qa1 q.nm z.apex=true):ansF z (msg1 q)=if (cutQ z q.nm).2=0 then (msg1 q).cutM z (cutQ z q.nm).1 else (msg1 q).tellM z (jm6 z q.ty 8 q.nm []):=by
 show(if ¬ qa3 q.nm then _ else if (msg1 q).op≠0 then _ else if q.cl≠1\/z.ok=false\/qa1 q.nm z.apex=false then _ else _)=_
 rw [if_neg (fun h=>h hn),if_neg (fun h=>h (xu9 q)),if_neg (fun h=>h.elim (fun h=>h hc) (fun h=>h.elim (fun h=>by rw [hz] at h;cases h) (fun h=>by rw [hw] at h;cases h)))]
theorem yy6{n c:List UInt8}(hw:qa1 n c=true):∀ (D:List (List UInt8)) (b:Option (List UInt8)),(b=none\/b=some c)->D≠[]->qq3 n (D.map fun _=>c) b=some c
 |[],_,_,h=>absurd rfl h
 |[d],b,hb,_=>by
  show qq3 n [] (if qa1 n c then _ else _)=some c
  rw[if_pos hw]
  rcases hb with rfl|rfl
  ·rfl
  ·show(if qb0 c<qb0 c then some c else some c)=some c
   split <;> rfl
 |d :: e :: D,b,hb,_=>by
  show qq3 n ((e :: D).map fun _=>c) (if qa1 n c then _ else _)=some c
  refine yy6 hw (e :: D) _ (.inr ?_) (by simp)
  rw[if_pos hw]
  rcases hb with rfl|rfl
  ·rfl
  ·show(if qb0 c<qb0 c then some c else some c)=some c
   split <;> rfl
theorem xe9(hn:qa3 q.nm)(hc:q.cl=1)(hz:z.ok=true)(hw:qa1 q.nm z.apex=true){b:List UInt8}(hb:z.cut q.nm=some b) :
 (qr7 (ansF z (msg1 q)) q z.apex).kind=5/\(qr7 (ansF z (msg1 q)) q z.apex).chain=[]/\fold (qr7 (ansF z (msg1 q)) q z.apex).target=b/\qa3 (qr7 (ansF z (msg1 q)) q z.apex).target/\(qr7 (ansF z (msg1 q)) q z.apex).ans.ok=true:=by
 rcases jm0 hz q.nm with⟨h1,_⟩|⟨c,h1,h2,h3,h4,h5,h6,h7⟩
 ·rw [h1] at hb;cases hb
 rw [hb] at h1
 simp only [Option.some.injEq] at h1
 obtain⟨_,_,_,_,wc,sc,_,_⟩:=Zo.cutL_spec hz h5
 rw[xh0 hn hc hz hw,if_pos h2]
 rw [h7] at h2 h3 ⊢
 obtain⟨k1,k2,k3,_⟩:=qj4 h2 (by decide)
 generalize (qb5 c 2 z.rrs).1=C at h3 k1 k2 k3 ⊢
 obtain⟨p1,p2,p3⟩:=qo4 k1
 rw [h3,k3] at p1
 obtain⟨m1,m2,m3,m4,m5⟩:=(St.ok_iff C).1 k1
 have hall:∀ r ∈ qi1 C,r.ty=2/\r.nm=c/\refP z.apex r=true:=fun r hr=>by
  rw [p2] at hr
  obtain⟨d,hd,rfl⟩:=List.mem_map.1 hr
  refine⟨k3,h3,?_⟩
  have hdep:jr1 c z.apex > 0:=by
   unfold jr1
   rw[if_pos wc]
   have:=ql0 wc sc
   omega
  have hck:(recT C d).check=true:=by
   unfold RR.check recT
   simp[m1,m4 d hd,m2]
  unfold refP
  rw[hck]
  show((C.ty == 2) && ((1:Int) == 1 && (decide (jr1 C.nm z.apex > 0) && true)))=true
  rw[k3,h3,decide_eq_true hdep]
  rfl
 have hcode:((msg1 q).cutM z C).code=0:=ji4 (show((msg1 q).reply 0).bits=_ from qp3 q) kb4
 have hhead:jz4 ((msg1 q).cutM z C) q z.apex=none:=by
  show(qi1 C).find? _=none
  rw[List.find?_eq_none]
  intro r hr
  unfold jb9
  rw[(hall r hr).1]
  exact Bool.false_ne_true
 have hnames:qs1 ((msg1 q).cutM z C) z.apex=C.data.map fun _=>c:=by
  show((qi1 C).filter (refP z.apex)).map (·.nm)=_
  rw[List.filter_eq_self.2 (fun r hr=>(hall r hr).2.2),p2,List.map_map]
  refine List.map_congr_left fun d hd=>?_
  exact h3
 have hdeep:js6 q.nm (qs1 ((msg1 q).cutM z C) z.apex)=(c,0):=by
  unfold js6
  rw[if_pos hn,hnames,yy6 h6 C.data none (.inl rfl) p3]
 have href:qr3 ((msg1 q).cutM z C) q z.apex=(⟨C.nm,C.ty,C.ttl,false,C.data⟩,0):=by
  unfold qr3
  rw[if_pos hcode,hdeep,if_pos rfl]
  show qb5 c 2 (qi1 C)=_
  have:=ya5 k1 (n:=c) h3.symm (l:=qi1 C) (by rw[k3];exact p1)
  rw [k3] at this
  rw[this,k3]
 have hcl:qr7 ((msg1 q).cutM z C) q z.apex=⟨5,[],⟨C.nm,C.ty,C.ttl,false,C.data⟩,C.nm,0⟩:=by
  unfold qr7
  rw[show((msg1 q).cutM z C).says=[] from rfl,xf0,hcode]
  rw[if_neg (fun h=>yo1 _ _ h.2),if_neg (fun h=>absurd h.1 (by simp))]
  rw[if_neg (by unfold yd9;rw[hcode];exact Bool.false_ne_true),if_neg (by unfold yj7;rw[hhead];simp),href,if_pos rfl]
 rw[hcl]
 refine⟨rfl,rfl,?_,?_,?_⟩
 ·show fold C.nm=b
  rw[h3,<-h1]
 ·show qa3 C.nm
  rw[h3];exact h4
 ·exact k1
theorem zl4(hz:z.ok=true):∃ r,jh9 z=(r,0)/\r.ty=6/\fold r.nm=fold z.apex/\qa3 r.nm/\qg3 r=true:=by
 have hs:=Zo.ok_sound hz
 unfold qq8 at hs
 simp only [Bool.and_eq_true,List.all_eq_true,beq_iff_eq] at hs
 have hsome:∀ l:List RR,(∃ r ∈ l,r.ty=6)->∃ r ∈ l,jo4 l=some r/\r.ty=6:=by
  intro l
  induction l with
  |nil=>rintro ⟨r,hr,_⟩;cases hr
  |cons a l ih =>
   rintro ⟨r,hr,ht⟩
   unfold jo4
   by_cases ha:a.ty=6
   ·rw[if_pos ha];exact⟨a,by simp,rfl,ha⟩
   ·rw[if_neg ha]
    obtain⟨x,hx,h1,h2⟩:=ih ⟨r,(List.mem_cons.1 hr).resolve_left (fun e=>ha (e ▸ ht)),ht⟩
    exact⟨x,by simp[hx],h1,h2⟩
 have hex:∃ r ∈ z.rrs,r.ty=6:=by
  have h1:0<cntZ qu6 z.rrs (fold z.apex):=by omega
  unfold cntZ at h1
  obtain⟨r,hr⟩:=List.exists_mem_of_length_pos h1
  obtain⟨h2,h3⟩:=List.mem_filter.1 hr
  simp only [Bool.and_eq_true,qu6,beq_iff_eq] at h3
  exact⟨r,h2,h3.2⟩
 obtain⟨r,hr,h1,h2⟩:=hsome z.rrs hex
 have ht:=Zo.ok_take hz hr
 unfold qw7 at ht
 simp only [Bool.and_eq_true,beq_iff_eq] at ht
 refine⟨r,?_,h2,?_,(qd3 ht.2.2.2.2).1,?_⟩
 ·unfold jh9
  rw[if_pos hz,h1]
 ·have hf:=hs.2.2 r hr
  apply Classical.byContradiction
  intro hne
  unfold qf8 at hf
  split at hf
  ·cases hf
  ·rw [if_pos (.inl (zg3 hr (by simp [qu6,h2]) rfl))] at hf
   cases hf
 ·unfold qg3
  rw[ht.2.2.2.1,show(r.cl == 1)=true by simpa using ht.1]
  rfl
theorem xb1(hz:z.ok=true){ty:Int}:∀ (k:Nat) (n:List UInt8),∀ r ∈ (qc1 z ty k n).1.flatMap qi1,r.ty=5
 |0,n,r,hr=>by cases hr
 |k+1,n,r,hr=>by
  unfold qc1 at hr
  by_cases h1:(qb5 n ty z.rrs).2=0
  ·rw [if_pos h1] at hr;cases hr
  ·rw [if_neg h1] at hr
   by_cases h2:(qb5 n 5 z.rrs).2≠0
   ·rw [if_pos h2] at hr;cases hr
   ·have h2':(qb5 n 5 z.rrs).2=0:=Classical.not_not.1 h2
    rw [if_neg h2] at hr
    have hl:∀ r ∈ qi1 (qb5 n 5 z.rrs).1,r.ty=5:=fun r hr=>by
     obtain⟨k1,k2,k3,_⟩:=qj4 h2' (by decide)
     rw [(qo4 k1).2.1] at hr
     obtain⟨d,_,rfl⟩:=List.mem_map.1 hr
     exact k3
    split at hr
    ·simp only [List.flatMap_cons] at hr
     rcases List.mem_append.1 hr with hr|hr
     ·exact hl r hr
     ·exact xb1 hz k _ r hr
    ·simp only [List.flatMap_cons,List.flatMap_nil,List.append_nil] at hr
     exact hl r hr
theorem jm9{ty:Int}{k:Nat}{n:List UInt8}(h:(qc1 z ty (k+1) n).1=[]):(qc1 z ty (k+1) n).2.1=n/\((qc1 z ty (k+1) n).2.2≠.ans->(qc1 z ty (k+1) n).2.2 = .deny):=by
 unfold qc1 at h ⊢
 by_cases h1:(qb5 n ty z.rrs).2=0
 ·rw[if_pos h1]
  exact⟨rfl,fun h=>absurd rfl h⟩
 ·rw [if_neg h1] at h ⊢
  by_cases h2:(qb5 n 5 z.rrs).2≠0
  ·rw[if_pos h2]
   exact⟨rfl,fun _=>rfl⟩
  ·rw [if_neg h2] at h
   split at h <;> cases h
theorem jn0{k:Nat}{n:List UInt8}:(qc1 z 5 (k+1) n).1=[]:=by
 unfold qc1
 by_cases h1:(qb5 n 5 z.rrs).2=0
 ·rw[if_pos h1]
 ·rw[if_neg h1,if_pos h1]
theorem zb5(hz:z.ok=true){ty:Int}{n:List UInt8}(hin:inZ z n=true):qi6 ty (qo1 z ty (qc1 z ty 8 n)) 8 n []=((qc1 z ty 8 n).1,(qc1 z ty 8 n).2.1):=by
 by_cases h5:ty=5
 ·subst h5
  have h1:=@jn0 z 7 n
  rw[h1,(jm9 h1).1]
  show(if (5:Int)=5\/_ then _ else _)=_
  rw[if_pos (.inl rfl)]
 ·rw[yb5 hz h5 (zx1 hz h5 8 n hin) 8 n [] (fun r hr=>hr)]
  rfl
theorem zv7(hz:z.ok=true){ty:Int}{n:List UInt8}(h:(qc1 z ty 8 n).2.2 = .ans):(qb5 (qc1 z ty 8 n).2.1 ty z.rrs).2=0/\qb5 (qc1 z ty 8 n).2.1 ty (qo1 z ty (qc1 z ty 8 n))=((qb5 (qc1 z ty 8 n).2.1 ty z.rrs).1,0):=by
 by_cases h5:ty=5
 ·subst h5
  have h1:=@jn0 z 7 n
  have h2:=(jm9 h1).1
  have hf:(qb5 n 5 z.rrs).2=0:=by
   apply Classical.byContradiction
   intro hf
   have:(qc1 z 5 8 n).2.2 = .deny:=by
    unfold qc1
    rw[if_neg hf,if_pos hf]
   rw [this] at h
   cases h
  rw[h2]
  refine⟨hf,?_⟩
  unfold qo1
  rw[h1,if_pos h,h2,List.flatMap_nil,List.nil_append]
  obtain⟨k1,k2,k3,_⟩:=qj4 hf (by decide)
  have hzf:=xs7 hf
  generalize (qb5 n 5 z.rrs).1=A at k1 k2 k3 hzf ⊢
  have hp:=(qo4 k1).1
  have hfr:=ya5 k1 (n:=A.nm) rfl hp
  rw [k2,k3] at hfr
  rw[hfr,<-k2,<-k3,<-hzf]
 ·exact⟨(yc2 hz h5 8 n h).1,xq7 hz h5 h⟩
theorem yr0(hz:z.ok=true){ty:Int}{n:List UInt8}(h:(qc1 z ty 8 n).2.2≠.ans)(m:List UInt8):(qb5 m ty (qo1 z ty (qc1 z ty 8 n))).2≠0:=by
 have hl:=xb1 hz (ty:=ty) 8 n
 unfold qo1
 rw[if_neg h,List.append_nil]
 by_cases h5:ty=5
 ·subst h5
  rw[@jn0 z 7 n]
  exact yo1 m 5
 ·intro e
  obtain⟨_,hp⟩:=find_ok_iff.1 e
  obtain⟨r,hr⟩:=List.exists_mem_of_ne_nil _ hp
  obtain⟨m1,m2,_⟩:=pick_mem.1 hr
  exact h5 (m2.symm.trans (hl r m1))
theorem xe8(hn:qa3 q.nm)(hc:q.cl=1)(hz:z.ok=true)(hin:inZ z q.nm=true) :
 ((qc1 z q.ty 8 q.nm).2.2 = .ans->qr7 (ansF z (msg1 q)) q z.apex=⟨1,(qc1 z q.ty 8 q.nm).1,(qb5 (qc1 z q.ty 8 q.nm).2.1 q.ty z.rrs).1,(qc1 z q.ty 8 q.nm).2.1,0⟩) /\
 ((qc1 z q.ty 8 q.nm).2.2≠.ans->(qc1 z q.ty 8 q.nm).1≠[]->qr7 (ansF z (msg1 q)) q z.apex=⟨2,(qc1 z q.ty 8 q.nm).1,St.no,(qc1 z q.ty 8 q.nm).2.1,0⟩) /\
 ((qc1 z q.ty 8 q.nm).2.2≠.ans->(qc1 z q.ty 8 q.nm).1=[]->∃ ttl,qr7 (ansF z (msg1 q)) q z.apex=⟨if jp1 z q.nm then 4 else 3,[],St.no,q.nm,ttl⟩):=by
 obtain⟨hw,hcut⟩:=(jz1 hz).1 hin
 have hq0:¬ (cutQ z q.nm).2=0:=fun e=>(yy8 hz q.nm).1 e hcut
 rw[xh0 hn hc hz hw,if_neg hq0,jm5 hz,List.nil_append]
 have hch:=zb5 hz (ty:=q.ty) hin
 have hans:=zv7 hz (ty:=q.ty) (n:=q.nm)
 have hnof:=yr0 hz (ty:=q.ty) (n:=q.nm)
 have hnon:=@jm9 z q.ty 7 q.nm
 have hl0:(qc1 z q.ty 8 q.nm).2.2≠.ans->(qc1 z q.ty 8 q.nm).1=[]->qo1 z q.ty (qc1 z q.ty 8 q.nm)=[]:=fun h1 h2=>by
  unfold qo1
  rw[if_neg h1,h2]
  rfl
 generalize hX:qc1 z q.ty 8 q.nm=x at hch hans hnof hnon hl0 ⊢
 obtain⟨L,e,fin⟩:=x
 generalize hS:qo1 z q.ty (L,e,fin)=S at hch hans hnof hl0 ⊢
 have hcode:∀ o,((msg1 q).tellM z (S,o)).code=0\/((msg1 q).tellM z (S,o)).code=3:=fun o=>by
  cases o with
  |none=>exact .inl (ji4 (show orB ((msg1 q).reply 0).bits 1024=33792 by rw[qp3];exact xl7) yo6)
  |some m =>
   cases he:qk5 z m with
   |true=>exact .inl (ji4 (show(if qk5 z m then orB ((msg1 q).reply 0).bits 1024 else _)=33792 by rw[he,if_pos rfl,qp3];exact xl7) yo6)
   |false=>exact .inr (ji4 (show(if qk5 z m then orB ((msg1 q).reply 0).bits 1024 else orB (orB ((msg1 q).reply 0).bits 1024) 3)=33795 by rw[he,if_neg (by decide),qp3];exact zz5) xe6)
 have hsays:∀ o,((msg1 q).tellM z (S,o)).says=S:=fun o=>by cases o <;> rfl
 refine⟨fun h=>?_,fun h hL=>?_,fun h hL=>?_⟩
 ·have h:fin = .ans:=h
  subst h
  obtain⟨_,ha⟩:=hans rfl
  rw[show(if (L,e,Fin3.ans).2.2=Fin3.deny then some (L,e,Fin3.ans).2.1 else none)=none from rfl]
  have hc0:((msg1 q).tellM z (S,none)).code=0:=ji4 (show orB ((msg1 q).reply 0).bits 1024=33792 by rw[qp3];exact xl7) yo6
  unfold qr7
  rw[hsays,hch,hc0]
  simp only
  rw[ha,if_pos ⟨trivial,rfl⟩]
 ·have hc0:=hcode (if fin=Fin3.deny then some e else none)
  unfold qr7
  rw[hsays,hch]
  simp only
  have hL:0<L.length:=List.length_pos_iff.2 hL
  rw[if_neg (fun k=>hnof h e k.2),if_pos ⟨hL,hc0⟩]
 ·have hL:L=[]:=hL
  obtain⟨p1,p2⟩:=hnon hL
  have n1:e=q.nm:=p1
  have n2:fin = .deny:=p2 h
  clear p1 p2
  have hS0:=hl0 h hL
  subst hL n1 n2 hS0
  rw[show(if (([]:List St),q.nm,Fin3.deny).2.2=Fin3.deny then some (([]:List St),q.nm,Fin3.deny).2.1 else none)=some q.nm from rfl]
  obtain⟨r,s1,s2,s3,s4,s5⟩:=zl4 hz
  have hdn:ji2 z=[r]:=by unfold ji2;rw[s1];rfl
  have hheads:((msg1 q).tellM z ([],some q.nm)).heads=[r]:=hdn
  have hhead:jz4 ((msg1 q).tellM z ([],some q.nm)) q z.apex=some r:=by
   unfold jz4
   rw[hheads,List.find?_cons]
   have:jb9 q z.apex r=true:=by
    unfold jb9
    have han:=Zo.ok_name hz
    rw[s2,show qa1 r.nm z.apex=true by rw[qn7 s4 han s3];exact za6 han,show qa1 q.nm r.nm=true by rw[ji9 s4 han s3];exact hw,s5]
    rfl
   rw[this]
  have hex:qk5 z q.nm=jp1 z q.nm:=by unfold qk5;rw[hz];rfl
  refine⟨(ttlA ((msg1 q).tellM z ([],some q.nm)) q z.apex).1,?_⟩
  unfold qr7
  rw[hsays,hch]
  simp only
  rw[if_neg (fun k=>hnof h _ k.2),if_neg (fun k=>absurd k.1 (by simp))]
  cases he:jp1 z q.nm with
  |true =>
   have hc0:((msg1 q).tellM z ([],some q.nm)).code=0:=ji4 (show(if qk5 z q.nm then orB ((msg1 q).reply 0).bits 1024 else _)=33792 by rw[hex,he,if_pos rfl,qp3];exact xl7) yo6
   rw[if_neg (by unfold yd9;rw[hc0];exact Bool.false_ne_true),if_pos (by unfold yj7;rw[hc0,hhead,hsays];rfl)]
   rfl
  |false =>
   have hc0:((msg1 q).tellM z ([],some q.nm)).code=3:=ji4 (show(if qk5 z q.nm then orB ((msg1 q).reply 0).bits 1024 else orB (orB ((msg1 q).reply 0).bits 1024) 3)=33795 by rw[hex,he,if_neg (by decide),qp3];exact zz5) xe6
   rw[if_pos (by unfold yd9;rw[hc0,hhead];rfl)]
   rfl
end
end
section
theorem jn4{s:St}(h:s.ok=true):(qi1 s).length<=64/\∀ r ∈ qi1 s,r.nm.length<=255/\r.d.length<=4096:=by
 obtain⟨k1,k2,k3,k4,k5⟩:=(St.ok_iff s).1 h
 rw[(qo4 h).2.1]
 refine⟨by rw[List.length_map];exact k3.2,fun r hr=>?_⟩
 obtain⟨d,hd,rfl⟩:=List.mem_map.1 hr
 refine⟨k1.2.1,?_⟩
 have:=k4 d hd
 unfold ql5 at this
 simp only [Bool.and_eq_true,decide_eq_true_eq] at this
 exact this.1
theorem xa2{d:List UInt8}(h:ql5 5 d=true):qa3 d:=by
 unfold ql5 at h
 rw [Bool.and_eq_true] at h
 have h2:(cutF 0 1 0 d).isSome=true:=h.2
 unfold cutF at h2
 rw [if_neg (by omega),Nat.mul_zero,List.drop_zero] at h2
 have e:qv4 1 d=if qj3 d=0 then none else some ([d.take (qj3 d)],d.drop (qj3 d)):=rfl
 rw [e] at h2
 split at h2
 ·cases h2
 ·rename_i h0
  have h3:(if (d.drop (qj3 d)).length=4 * 0 then some (d.take 0,[d.take (qj3 d)],d.drop (qj3 d)) else none).isSome=true:=h2
  split at h3
  ·rename_i hl
   have hn:=ze9 d 256 0 h0
   have ht:d.take (qj3 d)=d:=List.take_of_length_le (by rw [List.length_drop] at hl;omega)
   have hn:qa3 (d.take (qj3 d)):=hn
   rw [ht] at hn
   exact hn
  ·cases h3
section
variable{z:Zo}
theorem zi7(hz:z.ok=true){ty:Int}:∀ (k:Nat) (n:List UInt8),(qc1 z ty k n).1.length<=k/\(∀ s ∈ (qc1 z ty k n).1,s.ok=true)/\(qa3 n->qa3 (qc1 z ty k n).2.1)
 |0,n=>⟨Nat.zero_le _,fun s hs=>(by cases hs),fun h=>h⟩
 |k+1,n=>by
  unfold qc1
  by_cases h1:(qb5 n ty z.rrs).2=0
  ·rw[if_pos h1]
   exact⟨Nat.zero_le _,fun s hs=>(by cases hs),fun h=>h⟩
  ·rw[if_neg h1]
   by_cases h2:(qb5 n 5 z.rrs).2≠0
   ·rw[if_pos h2]
    exact⟨Nat.zero_le _,fun s hs=>(by cases hs),fun h=>h⟩
   ·have h2':(qb5 n 5 z.rrs).2=0:=Classical.not_not.1 h2
    rw[if_neg h2]
    obtain⟨k1,k2,k3,k4⟩:=qj4 h2' (by decide)
    have hnm:qa3 ((qb5 n 5 z.rrs).1.data.headD []):=by
     obtain⟨m1,m2,m3,m4,m5⟩:=(St.ok_iff _).1 k1
     cases hd:(qb5 n 5 z.rrs).1.data with
     |nil=>rw [hd] at m3;exact absurd m3.1 (Nat.lt_irrefl 0)
     |cons a b =>
      have:=m4 a (by rw[hd];simp)
      rw [k3] at this
      exact xa2 this
    obtain⟨g1,g2,g3⟩:=zi7 hz (ty:=ty) k ((qb5 n 5 z.rrs).1.data.headD [])
    split
    ·refine⟨Nat.succ_le_succ g1,fun s hs=>?_,fun _=>g3 hnm⟩
     rcases List.mem_cons.1 hs with rfl|hs
     ·exact k1
     ·exact g2 s hs
    ·exact⟨Nat.succ_le_succ (Nat.zero_le _),fun s hs=>by rw[List.mem_singleton.1 hs];exact k1,fun _=>hnm⟩
theorem zd9(l:List St)(h:∀ s ∈ l,s.ok=true):(l.flatMap qi1).length<=l.length * 64/\∀ r ∈ l.flatMap qi1,r.nm.length<=255/\r.d.length<=4096:=by
 induction l with
 |nil=>exact⟨Nat.zero_le _,fun r hr=>by cases hr⟩
 |cons s l ih =>
  obtain⟨i1,i2⟩:=ih (fun x hx=>h x (by simp[hx]))
  obtain⟨r1,r2⟩:=jn4 (h s (by simp))
  rw[List.flatMap_cons]
  refine⟨by rw[List.length_append,List.length_cons];omega,fun r hr=>?_⟩
  rcases List.mem_append.1 hr with hr|hr
  ·exact r2 r hr
  ·exact i2 r hr
theorem zp3(hz:z.ok=true)(ty:Int)(n:List UInt8):yd1 (qo1 z ty (qc1 z ty 8 n)):=by
 obtain⟨g1,g2,g3⟩:=zi7 hz (ty:=ty) 8 n
 obtain⟨l1,l2⟩:=zd9 _ g2
 have hr:yd1 (if (qc1 z ty 8 n).2.2 = .ans then qi1 (qb5 (qc1 z ty 8 n).2.1 ty z.rrs).1 else [])/\(if (qc1 z ty 8 n).2.2 = .ans then qi1 (qb5 (qc1 z ty 8 n).2.1 ty z.rrs).1 else []).length<=64:=by
  split
  ·by_cases hk:((qb5 (qc1 z ty 8 n).2.1 ty z.rrs).1).ok=true
   ·obtain⟨r1,r2⟩:=jn4 hk
    exact⟨⟨by omega,fun r hr=>by have:=r2 r hr;omega⟩,r1⟩
   ·have e:qi1 (qb5 (qc1 z ty 8 n).2.1 ty z.rrs).1=[]:=by unfold qi1;rw[if_neg hk]
    rw[e]
    exact⟨⟨Nat.zero_le _,fun r hr=>by cases hr⟩,Nat.zero_le _⟩
  ·exact⟨⟨Nat.zero_le _,fun r hr=>by cases hr⟩,Nat.zero_le _⟩
 unfold qo1
 obtain⟨⟨_,h2⟩,h3⟩:=hr
 refine⟨by rw[List.length_append];omega,fun r hr=>?_⟩
 rcases List.mem_append.1 hr with hr|hr
 ·have:=l2 r hr;omega
 ·exact h2 r hr
theorem zr4(hz:z.ok=true):yd1 (ji2 z):=by
 obtain⟨r,s1,s2,s3,s4,s5⟩:=zl4 hz
 have hdn:ji2 z=[r]:=by unfold ji2;rw[s1];rfl
 rw[hdn]
 refine⟨by simp,fun x hx=>?_⟩
 rw[List.mem_singleton.1 hx]
 unfold qg3 RR.check ql5 at s5
 simp only [Bool.and_eq_true,decide_eq_true_eq] at s5
 have h1:=s4.2.1
 have h2:=s5.2.1.2.1
 omega
theorem yz7{q:Q}(hn:qa3 q.nm)(hc:q.cl=1)(hz:z.ok=true)(hw:qa1 q.nm z.apex=true):yd1 (ansF z (msg1 q)).says/\yd1 (ansF z (msg1 q)).heads:=by
 have hnil:yd1 []:=⟨Nat.zero_le _,fun r hr=>by cases hr⟩
 rw[xh0 hn hc hz hw]
 split
 ·rename_i h
  refine⟨hnil,?_⟩
  rcases jm0 hz q.nm with⟨_,h1,_⟩|⟨c,h1,h2,h3,h4,h5,h6,h7⟩
  ·rw [h1] at h;cases h
  ·rw [h7] at h2 ⊢
   obtain⟨r1,r2⟩:=jn4 (qj4 h2 (by decide)).1
   show yd1 (qi1 _)
   exact⟨by omega,fun r hr=>by have:=r2 r hr;omega⟩
 ·rw[jm5 hz,List.nil_append]
  have hs:=zp3 hz q.ty q.nm
  split
  ·exact⟨hs,zr4 hz⟩
  ·exact⟨hs,hnil⟩
end
end
theorem others_mem{zs:List Zo}{i:Nat}{a:List UInt8}:a ∈ qg9 zs i↔∃ j z,j≠i/\zs[j]? = some z/\z.apex=a:=by
 unfold qg9
 rw[List.mem_map]
 constructor
 ·rintro ⟨z,hz,e⟩
  rcases List.mem_append.1 hz with hz|hz
  ·obtain⟨j,hj⟩:=List.mem_iff_getElem?.1 hz
   rw [List.getElem?_take] at hj
   split at hj
   ·exact⟨j,z,by omega,hj,e⟩
   ·cases hj
  ·obtain⟨j,hj⟩:=List.mem_iff_getElem?.1 hz
   rw [List.getElem?_drop] at hj
   exact⟨i+1+j,z,by omega,hj,e⟩
 ·rintro ⟨j,z,hji,hj,e⟩
  refine⟨z,List.mem_append.2 ?_,e⟩
  rcases Nat.lt_or_ge j i with h|h
  ·left
   exact List.mem_iff_getElem?.2 ⟨j,by rw[List.getElem?_take,if_pos h];exact hj⟩
  ·right
   exact List.mem_iff_getElem?.2 ⟨j - (i+1),by rw[List.getElem?_drop,show i+1+(j - (i+1))=j by omega];exact hj⟩
theorem qy6{n:List UInt8}:∀ {l:List (List UInt8)} {b:Option (List UInt8)} {a:List UInt8},qq3 n l b=some a->(∀ y,b=some y->qa1 n y=true) ->
 qa1 n a=true/\(∀ c ∈ l,qa1 n c=true->qb0 c<=qb0 a)/\∀ y,b=some y->qb0 y<=qb0 a
 |[],b,a,h,hb=>by
  have h:b=some a:=h
  refine⟨hb a h,fun c hc=>(by cases hc),fun y hy=>?_⟩
  rw [h] at hy
  cases hy
  exact Nat.le_refl _
 |c :: l,b,a,h,hb=>by
  have h:qq3 n l (yi1 n c b)=some a:=h
  unfold yi1 at h
  cases hw:qa1 n c with
  |false =>
   rw [hw,if_neg (by decide)] at h
   obtain⟨h1,h2,h3⟩:=qy6 h hb
   refine⟨h1,fun x hx hxw=>?_,h3⟩
   rcases List.mem_cons.1 hx with rfl|hx
   ·rw [hw] at hxw;cases hxw
   ·exact h2 x hx hxw
  |true =>
   rw [hw,if_pos rfl] at h
   cases b with
   |none =>
    obtain⟨h1,h2,h3⟩:=qy6 h (fun y hy=>by cases hy;exact hw)
    refine⟨h1,fun x hx hxw=>?_,fun y hy=>by cases hy⟩
    rcases List.mem_cons.1 hx with rfl|hx
    ·exact h3 _ rfl
    ·exact h2 x hx hxw
   |some y =>
    simp only at h
    split at h
    ·rename_i hlt
     obtain⟨h1,h2,h3⟩:=qy6 h (fun y hy=>by cases hy;exact hw)
     refine⟨h1,fun x hx hxw=>?_,fun y' hy=>?_⟩
     ·rcases List.mem_cons.1 hx with rfl|hx
      ·exact h3 _ rfl
      ·exact h2 x hx hxw
     ·cases hy
      exact Nat.le_trans (Nat.le_of_lt hlt) (h3 _ rfl)
    ·rename_i hlt
     obtain⟨h1,h2,h3⟩:=qy6 h hb
     refine⟨h1,fun x hx hxw=>?_,h3⟩
     rcases List.mem_cons.1 hx with rfl|hx
     ·exact Nat.le_trans (Nat.le_of_not_lt hlt) (h3 _ rfl)
     ·exact h2 x hx hxw
theorem Fo.good{f:Fo}(h:f.ok=true):Good f.zones:=by
 obtain⟨⟨h1,h2,_⟩,hz,ho,hr,hh,_⟩:=Fo.parts h
 refine⟨hz,fun i j a b hi hj e=>zh1 ho hi hj e,fun z h0=>?_,fun i z hi hne=>?_⟩
 ·have:f.zones.getD 0 default=z:=by rw[List.getD_eq_getElem?_getD,h0];rfl
  rw[<-this];exact hr
 ·have hil:=(List.getElem?_eq_some_iff.1 hi).1
  have hzd:f.zones.getD i default=z:=by rw[List.getD_eq_getElem?_getD,hi];rfl
  unfold zr7 at hh
  rw [List.all_eq_true] at hh
  have hi':=hh i (List.mem_range.2 hil)
  rw [Bool.or_eq_true] at hi'
  have hi':=hi'.resolve_left (by simpa using hne)
  rw [hzd] at hi'
  have e1:za2 f.zones i z.apex=match qq3 z.apex (qg9 f.zones i) none with
   |none=>none
   |some a=>qh8 f.zones (fold a):=rfl
  rw [e1] at hi'
  cases hd:qq3 z.apex (qg9 f.zones i) none with
  |none=>rw [hd] at hi';cases hi'
  |some a0 =>
   rw [hd] at hi'
   simp only at hi'
   cases hp:qh8 f.zones (fold a0) with
   |none=>rw [hp] at hi';cases hi'
   |some a =>
    rw [hp] at hi'
    simp only at hi'
    obtain⟨w,mx,_⟩:=qy6 hd (fun y hy=>by cases hy)
    obtain⟨za,hza,eza⟩:=qn3 hp
    have hzad:f.zones.getD a default=za:=by rw[List.getD_eq_getElem?_getD,hza];rfl
    rw [hzad,List.any_eq_true] at hi'
    obtain⟨c,hc,ec⟩:=hi'
    have ec:fold c=fold z.apex:=by simpa using ec
    have hm:=(jl9 hd).resolve_right (fun e=>by cases e)
    obtain⟨j,zj,hji,hj,ej⟩:=others_mem.1 hm
    have haj:a=j:=zh1 ho hza hj (by rw[eza,ej])
    have hna:=Zo.ok_name (hz za (List.mem_of_getElem? hza))
    refine⟨a,za,c,hza,by rw[haj];exact hji,hc,ec,qg1 hna eza w,fun j' zj' hj'i hj' hw'=>?_⟩
    have:=mx zj'.apex (others_mem.2 ⟨j',zj',hj'i,hj',rfl⟩) hw'
    rw[jt9 hna (qd3 w).2 eza]
    exact this
theorem jm3{f:Fo}(h:f.ok=true){n:List UInt8}(hn:qa3 n) :
 (∃ (a:Nat) (z:Zo),jm4 f n=(a,0)/\qt9 f.zones n 300 0=some a/\f.zones[a]? = some z/\qa1 n z.apex=true/\z.cut n=none) \/
 (jm4 f n=(0,12)/\qt9 f.zones n 300 0=none/\∀ (i:Nat) (z:Zo),f.zones[i]? = some z->qa1 n z.apex=true->z.cut n≠none):=by
 obtain⟨⟨h1,h2,_⟩,hz,ho,hr,hh,_⟩:=Fo.parts h
 have hz0:f.zones[0]? = some (f.zones.getD 0 default):=by rw[List.getD_eq_getElem?_getD,List.getElem?_eq_getElem h1];rfl
 have hw0:=jh1 (Zo.ok_name (hz _ (List.mem_of_getElem? hz0))) hr hn
 have hc:qb0 n<300+qb0 (f.zones.getD 0 default).apex:=by have:=@ji3 n;omega
 have e:jm4 f n=(match qt9 f.zones n 300 0 with
  |none=>(0,12)
  |some a=>(a,0)):=by unfold jm4 xe1;rw[if_pos h,if_pos hn];cases qt9 f.zones n 300 0 <;> rfl
 rw[e]
 cases hd:qt9 f.zones n 300 0 with
 |some a =>
  obtain⟨z,h3,h4,h5⟩:=(yy4 hz 300 0 _ hz0 hw0 hc).2 a hd
  exact .inl ⟨a,z,rfl,rfl,h3,h4,h5⟩
 |none =>
  obtain⟨j,zj,b,h3,h4,h5,h6⟩:=yy5 hz 300 0 _ hz0 hw0 hc hd
  exact .inr ⟨rfl,rfl,fun i z hi hw=>(Fo.good h).lost h3 h4 h5 h6 hi hw⟩
theorem xt3{f:Fo}(h:f.ok=true){n:List UInt8}{i:Nat}{z:Zo}(hi:f.zones[i]? = some z)(hw:qa1 n z.apex=true)(hc:z.cut n=none):jm4 f n=(i,0)/\qt9 f.zones n 300 0=some i:=by
 have hn:=(qd3 hw).1
 rcases jm3 h hn with⟨a,za,e1,e2,e3,e4,e5⟩|⟨_,_,e3⟩
 ·have:a=i:=by
   apply Classical.byContradiction
   intro hne
   exact(Fo.good h).others hi hw hc e3 e4 hne e5
  subst this
  exact⟨e1,e2⟩
 ·exact absurd hc (e3 i z hi hw)
def qu8(zs:List Zo)(n:List UInt8):Nat->Nat × Int
 |0=>(0,-1)
 |i+1=>if qa1 n (zs.getD i default).apex=true/\(qu8 zs n i).2<qb0 (zs.getD i default).apex then (i,qb0 (zs.getD i default).apex) else qu8 zs n i
def zg8(zs:List Zo)(n:List UInt8):Nat × Int:=if (qu8 zs n zs.length).2<0 then (0,3) else ((qu8 zs n zs.length).1,0)
set_option maxHeartbeats 8000000 in
theorem xx9(b:Bool)(zs:List Zo)(hl:zs.length<=100000)(n:List UInt8):FnOk Tryz.prog 12 [.d (zh9 b zs),.d (.str n)] (.tup [iV (zg8 zs n).1,.d (.int .i64 (zg8 zs n).2)]):=by
 refine qa5 (TT:=TT) (IN:=qd0 []) qd2 qa8 mixed 1000 Tryz.func12 rfl (qb6 Tryz.func12 (by kernel_rfl) rfl) rfl 33 (by kernel_rfl) ?_
 unfold zg8
 conv=>whnf
 refine .inv Nat (fun i=>i<=zs.length) (fun i=>[(6,iV (qu8 zs n i).1),(7,.d (.int .i64 (qu8 zs n i).2)),(13,iV i)]) (fun i=>[]) (fun i=>zs.length - i) ⟨0,[],Nat.zero_le _,?_⟩ ?_
 ·conv=>whnf
  repeat'(first|exact ⟨⟩|exact rfl|exact qa0 _|exact .inr rfl|exact fun _ _=>rfl|exact noI|apply And.intro)
 intro i hi
 conv=>whnf
 refine⟨fun h2=>?_,fun h2=>?_⟩
 ·have h2:i<zs.length:=by
   have h:(i:Int)<zs.length:=of_decide_eq_true h2
   omega
  have hw1:IntKind.i64.wrap ((i:Int)+1)=((i+1:Nat):Int):=by rw[qa2 _ (by omega)];omega
  have hnx:qu8 zs n (i+1)=if qa1 n (zs.getD i default).apex=true/\(qu8 zs n i).2<qb0 (zs.getD i default).apex then (i,(qb0 (zs.getD i default).apex:Int)) else qu8 zs n i:=rfl
  conv=>whnf
  refine⟨by omega,?_⟩
  conv=>whnf
  rw[Int.toNat_natCast]
  obtain⟨z,hzd⟩:∃ z,zs.getD i default=z:=⟨_,rfl⟩
  rw [hzd] at hnx ⊢
  refine .one (.data _ (qj0 n z.apex) rfl rfl ?_)
  cases hw:qa1 n z.apex with
  |false =>
   rw [hw,if_neg (fun h=>by cases h.1)] at hnx
   conv=>whnf
   refine brT rfl ?_
   conv=>whnf
   rw[hw1]
   refine⟨i+1,[],h2,by omega,?_⟩
   rw[hnx]
   conv=>whnf
   repeat'(first|exact ⟨⟩|exact rfl|exact qa0 _|exact .inr rfl|exact fun _ _=>rfl|exact noI|apply And.intro)
  |true =>
   conv=>whnf
   refine brF rfl ?_
   conv=>whnf
   refine .one (.data _ (jf2 z.apex) rfl rfl ?_)
   conv=>whnf
   refine⟨fun h3=>?_,fun h3=>?_⟩
   ·have h3:(qu8 zs n i).2<qb0 z.apex:=by
     have h:(qb0 z.apex:Int) > (qu8 zs n i).2:=of_decide_eq_true h3
     omega
    rw [if_pos ⟨hw,h3⟩] at hnx
    conv=>whnf
    rw[hw1]
    refine⟨i+1,[],h2,by omega,?_⟩
    rw[hnx]
    conv=>whnf
    repeat'(first|exact ⟨⟩|exact rfl|exact qa0 _|exact .inr rfl|exact fun _ _=>rfl|exact noI|apply And.intro)
   ·have h3:¬ (qu8 zs n i).2<qb0 z.apex:=by
     have h:¬ (qb0 z.apex:Int) > (qu8 zs n i).2:=of_decide_eq_false h3
     omega
    rw [if_neg (fun h=>h3 h.2)] at hnx
    conv=>whnf
    rw[hw1]
    refine⟨i+1,[],h2,by omega,?_⟩
    rw[hnx]
    conv=>whnf
    repeat'(first|exact ⟨⟩|exact rfl|exact qa0 _|exact .inr rfl|exact fun _ _=>rfl|exact noI|apply And.intro)
 ·have h2:i=zs.length:=by
   have h:¬ (i:Int)<zs.length:=of_decide_eq_false h2
   omega
  subst h2
  generalize qu8 zs n zs.length=B
  conv=>whnf
  refine⟨fun h3=>?_,fun h3=>?_⟩
  ·have h3:B.2<0:=of_decide_eq_true h3
   rw[if_pos h3]
   conv=>whnf
   repeat'(first|exact ⟨⟩|exact rfl|exact⟨rfl,rfl,.inr rfl,fun _ _=>rfl⟩|exact⟨rfl,rfl,.inl rfl,noI⟩|apply And.intro)
  ·have h3:¬ B.2<0:=of_decide_eq_false h3
   rw[if_neg h3]
   conv=>whnf
   repeat'(first|exact ⟨⟩|exact rfl|exact⟨rfl,rfl,.inr rfl,fun _ _=>rfl⟩|exact⟨rfl,rfl,.inl rfl,noI⟩|apply And.intro)
theorem yz5(zs:List Zo)(n:List UInt8):∀ i,i<=zs.length->((qu8 zs n i).2 = -1\/∃ z,zs[(qu8 zs n i).1]? = some z/\qa1 n z.apex=true/\(qu8 zs n i).2=qb0 z.apex) /\
 ∀ j z,j<i->zs[j]? = some z->qa1 n z.apex=true->(qb0 z.apex:Int)<=(qu8 zs n i).2
 |0,_=>⟨.inl rfl,fun j z hj=>absurd hj (Nat.not_lt_zero _)⟩
 |i+1,hi=>by
  obtain⟨h1,h2⟩:=yz5 zs n i (by omega)
  have hz:zs[i]? = some (zs.getD i default):=by rw[List.getD_eq_getElem?_getD,List.getElem?_eq_getElem (by omega)];rfl
  have e:qu8 zs n (i+1)=if qa1 n (zs.getD i default).apex=true/\(qu8 zs n i).2<qb0 (zs.getD i default).apex then (i,(qb0 (zs.getD i default).apex:Int)) else qu8 zs n i:=rfl
  generalize zs.getD i default=zi at hz e
  rw[e]
  split
  ·rename_i hc
   refine⟨.inr ⟨zi,hz,hc.1,rfl⟩,fun j z hj hjz hw=>?_⟩
   show(qb0 z.apex:Int)<=qb0 zi.apex
   rcases Nat.lt_or_ge j i with h|h
   ·have:=h2 j z h hjz hw
    omega
   ·have:j=i:=by omega
    subst this
    rw [hz] at hjz
    cases hjz
    exact Int.le_refl _
  ·rename_i hc
   refine⟨h1,fun j z hj hjz hw=>?_⟩
   rcases Nat.lt_or_ge j i with h|h
   ·exact h2 j z h hjz hw
   ·have:j=i:=by omega
    subst this
    rw [hz] at hjz
    cases hjz
    exact Int.le_of_not_gt (fun h=>hc ⟨hw,h⟩)
theorem xf9{f:Fo}(h:f.ok=true){n:List UInt8}(hn:qa3 n):(zg8 f.zones n).2=0/\((jm4 f n).2=0->(jm4 f n).1=(zg8 f.zones n).1):=by
 obtain⟨⟨h1,h2,_⟩,hz,ho,hr,hh,_⟩:=Fo.parts h
 have hz0:f.zones[0]? = some (f.zones.getD 0 default):=by rw[List.getD_eq_getElem?_getD,List.getElem?_eq_getElem h1];rfl
 have hw0:=jh1 (Zo.ok_name (hz _ (List.mem_of_getElem? hz0))) hr hn
 obtain⟨s1,s2⟩:=yz5 f.zones n f.zones.length (Nat.le_refl _)
 have s0:=s2 0 _ h1 hz0 hw0
 unfold zg8
 generalize qu8 f.zones n f.zones.length=B at s0 s1 s2
 rw[if_neg (by omega)]
 refine⟨rfl,fun hz0=>?_⟩
 obtain⟨z,e1,e2,e3⟩:=s1.resolve_left (by omega)
 rcases jm3 h hn with⟨a,za,k1,k2,k3,k4,k5⟩|⟨k1,_⟩
 ·rw[k1]
  apply Classical.byContradiction
  intro hne
  have hlt:=(Fo.good h).best k3 k4 k5 e1 e2 (fun e=>hne e.symm)
  have:=s2 a za (List.getElem?_eq_some_iff.1 k3).1 k3 k4
  omega
 ·rw [k1] at hz0
  cases hz0
def qp2(z:Zo):Bool:=decide (z.apex.length<=1000) && (decide (z.rrs.length<=60) && z.rrs.all fun r=>decide (r.d.length<=5000) && decide (r.nm.length<=1000))
set_option maxHeartbeats 8000000 in
theorem zp1(z:Zo):FnOk Tryz.prog 25 [z.V] (.d (.int .i64 (if qp2 z then 1 else 0))):=by
 refine qa5 (TT:=TT) (IN:=qd0 []) qd2 qa8 mixed 1000 Tryz.func25 rfl (qb6 Tryz.func25 (by kernel_rfl) rfl) rfl 32 (by kernel_rfl) ?_
 conv=>whnf
 refine⟨fun h1=>?_,fun h1=>?_⟩
 ·have h1:¬ z.apex.length<=1000:=by
   have h:(z.apex.length:Int) > 1000:=of_decide_eq_true h1
   omega
  rw[show qp2 z=false by unfold qp2;rw[decide_eq_false h1];rfl]
  conv=>whnf
  all_goals exact rfl
 have h1:z.apex.length<=1000:=by
  have h:¬ (z.apex.length:Int) > 1000:=of_decide_eq_false h1
  omega
 conv=>whnf
 refine⟨fun h2=>?_,fun h2=>?_⟩
 ·have h2:¬ z.rrs.length<=60:=by
   have h:(z.rrs.length:Int) > 60:=of_decide_eq_true h2
   omega
  rw[show qp2 z=false by unfold qp2;rw[decide_eq_false h2,Bool.false_and,Bool.and_false]]
  conv=>whnf
  all_goals exact rfl
 have h2:z.rrs.length<=60:=by
  have h:¬ (z.rrs.length:Int) > 60:=of_decide_eq_false h2
  omega
 have hs:qp2 z=z.rrs.all fun r=>decide (r.d.length<=5000) && decide (r.nm.length<=1000):=by unfold qp2;rw[decide_eq_true h1,decide_eq_true h2];rfl
 rw[hs]
 conv=>whnf
 refine .inv Nat (fun i=>i<=z.rrs.length/\(z.rrs.take i).all (fun r=>decide (r.d.length<=5000) && decide (r.nm.length<=1000))=true) (fun i=>[(18,iV i)]) (fun i=>[]) (fun i=>z.rrs.length - i) ⟨0,[0],⟨Nat.zero_le _,rfl⟩,?_⟩ ?_
 ·conv=>whnf
  repeat'(first|exact ⟨⟩|exact rfl|exact qa0 _|exact .inr rfl|exact fun _ _=>rfl|exact noI|apply And.intro)
 intro i hi
 obtain⟨hi,hti⟩:=hi
 conv=>whnf
 refine⟨fun h3=>?_,fun h3=>?_⟩
 ·have h3:i<z.rrs.length:=by
   have h:(i:Int)<z.rrs.length:=of_decide_eq_true h3
   omega
  have hw1:IntKind.i64.wrap ((i:Int)+1)=((i+1:Nat):Int):=by rw[qa2 _ (by omega)];omega
  obtain⟨r,hr⟩:∃ r,z.rrs.getD i default=r:=⟨_,rfl⟩
  have hrl:z.rrs[i]? = some r:=by rw[<-hr,List.getD,List.getElem?_eq_getElem h3];rfl
  have hbad:(decide (r.d.length<=5000) && decide (r.nm.length<=1000))=false->(z.rrs.all fun r=>decide (r.d.length<=5000) && decide (r.nm.length<=1000))=false:=fun h=>by
   rw[List.all_eq_false]
   exact⟨r,List.mem_of_getElem? hrl,by rw[h];decide⟩
  conv=>whnf
  refine⟨by omega,?_⟩
  conv=>whnf
  rw[Int.toNat_natCast,hr]
  refine⟨fun h4=>?_,fun h4=>?_⟩
  ·have h4:¬ r.d.length<=5000:=by
    have h:(r.d.length:Int) > 5000:=of_decide_eq_true h4
    omega
   rw[hbad (by rw[decide_eq_false h4];rfl)]
   conv=>whnf
   all_goals exact rfl
  have h4:r.d.length<=5000:=by
   have h:¬ (r.d.length:Int) > 5000:=of_decide_eq_false h4
   omega
  conv=>whnf
  refine⟨fun h5=>?_,fun h5=>?_⟩
  ·have h5:¬ r.nm.length<=1000:=by
    have h:(r.nm.length:Int) > 1000:=of_decide_eq_true h5
    omega
   rw[hbad (by rw[decide_eq_false h5,Bool.and_false])]
   conv=>whnf
   all_goals exact rfl
  have h5:r.nm.length<=1000:=by
   have h:¬ (r.nm.length:Int) > 1000:=of_decide_eq_false h5
   omega
  conv=>whnf
  rw[hw1]
  refine⟨i+1,[0],⟨h3,by rw[List.take_add_one,hrl,List.all_append,hti];simp[h4,h5]⟩,by omega,?_⟩
  conv=>whnf
  repeat'(first|exact ⟨⟩|exact rfl|exact qa0 _|exact .inr rfl|exact fun _ _=>rfl|exact noI|apply And.intro)
 ·have h3:i=z.rrs.length:=by
   have h:¬ (i:Int)<z.rrs.length:=of_decide_eq_false h3
   omega
  subst h3
  rw [List.take_length] at hti
  rw[hti]
  conv=>whnf
  all_goals exact rfl
def Fo.small(f:Fo):Bool:=decide (f.zones.length<=8) && (decide (f.hosts.length<=12) && f.zones.all qp2)
set_option maxHeartbeats 8000000 in
theorem zp0(f:Fo):FnOk Tryz.prog 8 [f.V] (.d (.int .i64 (if f.small then 1 else 0))):=by
 refine qa5 (TT:=TT) (IN:=qd0 []) qd2 qa8 mixed 1000 Tryz.func8 rfl (qb6 Tryz.func8 (by kernel_rfl) rfl) rfl 25 (by kernel_rfl) ?_
 conv=>whnf
 refine⟨fun h1=>?_,fun h1=>?_⟩
 ·have h1:¬ f.zones.length<=8:=by
   have h:(f.zones.length:Int) > 8:=of_decide_eq_true h1
   omega
  rw[show f.small=false by unfold Fo.small;rw[decide_eq_false h1];rfl]
  conv=>whnf
  all_goals exact rfl
 have h1:f.zones.length<=8:=by
  have h:¬ (f.zones.length:Int) > 8:=of_decide_eq_false h1
  omega
 conv=>whnf
 refine⟨fun h2=>?_,fun h2=>?_⟩
 ·have h2:¬ f.hosts.length<=12:=by
   have h:(f.hosts.length:Int) > 12:=of_decide_eq_true h2
   omega
  rw[show f.small=false by unfold Fo.small;rw[decide_eq_false h2,Bool.false_and,Bool.and_false]]
  conv=>whnf
  all_goals exact rfl
 have h2:f.hosts.length<=12:=by
  have h:¬ (f.hosts.length:Int) > 12:=of_decide_eq_false h2
  omega
 have hs:f.small=f.zones.all qp2:=by unfold Fo.small;rw[decide_eq_true h1,decide_eq_true h2];rfl
 rw[hs]
 conv=>whnf
 refine .inv Nat (fun i=>i<=f.zones.length/\(f.zones.take i).all qp2=true) (fun i=>[(18,iV i)]) (fun i=>[]) (fun i=>f.zones.length - i) ⟨0,[0],⟨Nat.zero_le _,rfl⟩,?_⟩ ?_
 ·conv=>whnf
  repeat'(first|exact ⟨⟩|exact rfl|exact qa0 _|exact .inr rfl|exact fun _ _=>rfl|exact noI|apply And.intro)
 intro i hi
 obtain⟨hi,hti⟩:=hi
 conv=>whnf
 refine⟨fun h3=>?_,fun h3=>?_⟩
 ·have h3:i<f.zones.length:=by
   have h:(i:Int)<f.zones.length:=of_decide_eq_true h3
   omega
  have hw1:IntKind.i64.wrap ((i:Int)+1)=((i+1:Nat):Int):=by rw[qa2 _ (by omega)];omega
  obtain⟨z,hzd⟩:∃ z,f.zones.getD i default=z:=⟨_,rfl⟩
  have hzl:f.zones[i]? = some z:=by rw[<-hzd,List.getD,List.getElem?_eq_getElem h3];rfl
  conv=>whnf
  refine⟨by omega,?_⟩
  conv=>whnf
  rw[Int.toNat_natCast,hzd]
  refine .one (.data _ (zp1 z) rfl rfl ?_)
  cases hz:qp2 z with
  |false =>
   have hb:f.zones.all qp2=false:=by
    rw[List.all_eq_false]
    exact⟨z,List.mem_of_getElem? hzl,by rw[hz];decide⟩
   rw[hb,if_neg (by decide)]
   conv=>whnf
   refine brT rfl ?_
   conv=>whnf
   all_goals exact rfl
  |true =>
   rw[if_pos rfl]
   conv=>whnf
   refine brF rfl ?_
   conv=>whnf
   rw[hw1]
   refine⟨i+1,[0],⟨h3,by rw[List.take_add_one,hzl,List.all_append,hti];simp[hz]⟩,by omega,?_⟩
   conv=>whnf
   repeat'(first|exact ⟨⟩|exact rfl|exact qa0 _|exact .inr rfl|exact fun _ _=>rfl|exact noI|apply And.intro)
 ·have h3:i=f.zones.length:=by
   have h:¬ (i:Int)<f.zones.length:=of_decide_eq_false h3
   omega
  subst h3
  rw [List.take_length] at hti
  rw[hti]
  conv=>whnf
  all_goals exact rfl
theorem Fo.fit_small{f:Fo}(h:f.small=true):f.Fit:=fun z hz=>by
 unfold Fo.small at h
 simp only [Bool.and_eq_true,List.all_eq_true] at h
 have h1:=h.2.2 z hz
 unfold qp2 at h1
 simp only [Bool.and_eq_true,decide_eq_true_eq,List.all_eq_true] at h1
 exact⟨by omega,fun r hr=>by have:=h1.2.2 r hr;omega⟩
theorem xg1:FnOk Tryz.prog 7 [] (.d (.bool true)):=by
 have c:=jf2 [1,97,3,111,114,103,0]
 rw [show qb0 [1,97,3,111,114,103,0]=2 by kernel_rfl] at c
 refine qa5 (TT:=TT) (IN:=qd0 []) qd2 qa8 mixed 1000 Tryz.func7 rfl (qb6 Tryz.func7 (by kernel_rfl) rfl) rfl 3 (by kernel_rfl) ?_
 conv=>whnf
 refine .one (.data _ c rfl rfl ?_)
 conv=>whnf
 all_goals exact rfl
def ask1(q:Q):SV:=.agg [.d (.int .u16 0),.d (.int .u16 0),.d (.sl false 1 3 (qk6 q.enc 3)),nilS,nilS,nilS]
theorem zw9(z:Zo)(hz:z.Fit)(q:Q):FnOk Tryz.prog 15 [z.V,ask1 q] (.agg (ansF z (msg1 q)).cells) :=
 (xg9 z hz (msg1 q) (fun h=>by cases h) (by show 1<=1000000;decide)).convA ⟨.refl _,AEq.aggL ⟨.refl _,.refl _,.d (DS.rows fun i hi=>(match i,hi with
  |0,_=>DSL.refl _)),.none _ _ _ _ _,.none _ _ _ _ _,.none _ _ _ _ _,trivial⟩,trivial⟩
def xb7(z:Zo)(q:Q):Cls:=qr7 (ansF z (msg1 q)) q z.apex
theorem xb6{z:Zo}{q:Q}(hn:qa3 q.nm)(hc:q.cl=1)(hz:z.ok=true)(hw:qa1 q.nm z.apex=true):FnOk Tryz.prog 14 [.agg (ansF z (msg1 q)).cells,q.V,.d (.str z.apex)] (xb7 z q).V :=
 xp7 _ (yz7 hn hc hz hw).1 (yz7 hn hc hz hw).2 q (by have:=hn.2.1;omega) _
theorem jy7{z:Zo}{q:Q}(hn:qa3 q.nm)(hc:q.cl=1)(hz:z.ok=true)(hw:qa1 q.nm z.apex=true):(xb7 z q).kind=5↔z.cut q.nm≠none:=by
 constructor
 ·intro h e
  obtain⟨c1,c2,c3⟩:=xe8 hn hc hz ((jz1 hz).2 ⟨hw,e⟩)
  unfold xb7 at h
  by_cases h1:(qc1 z q.ty 8 q.nm).2.2 = .ans
  ·rw [c1 h1] at h
   exact absurd (show(1:Int)=5 from h) (by decide)
  ·by_cases h2:(qc1 z q.ty 8 q.nm).1=[]
   ·obtain⟨ttl,h3⟩:=c3 h1 h2
    rw [h3] at h
    have h:(if jp1 z q.nm=true then (4:Int) else 3)=5:=h
    split at h <;> exact absurd h (by decide)
   ·rw [c2 h1 h2] at h
    exact absurd (show(2:Int)=5 from h) (by decide)
 ·intro h
  cases hb:z.cut q.nm with
  |none=>exact absurd hb h
  |some b=>exact(xe9 hn hc hz hw hb).1
set_option maxHeartbeats 32000000 in
theorem zo7(f:Fo)(hl:f.Len)(n:List UInt8):FnOk Tryz.prog 3 [f.V,.d (.str n)] (.d (.bool true)):=by
 refine qa5 (TT:=TT) (IN:=qd0 []) qd2 qa8 mixed 1000 Tryz.func3 rfl (qb6 Tryz.func3 (by kernel_rfl) rfl) rfl 88 (by kernel_rfl) ?_
 conv=>whnf
 refine .one (.data _ xg1 rfl rfl ?_)
 conv=>whnf
 refine brF rfl ?_
 conv=>whnf
 refine .one (.data _ (zp0 f) rfl rfl ?_)
 cases hs:f.small with
 |false =>
  rw[if_neg (by decide)]
  conv=>whnf
  repeat(first|(refine brT rfl ?_;conv=>whnf)|(refine brF rfl ?_;conv=>whnf)|(refine .once ?_;conv=>whnf)|(refine⟨by decide,?_⟩;conv=>whnf)|(refine And.intro (Nat.le_of_ble_eq_true rfl) ?_;conv=>whnf))
  all_goals exact rfl
 |true =>
 have hf:=Fo.fit_small hs
 rw[if_pos rfl]
 conv=>whnf
 refine brF rfl ?_
 conv=>whnf
 refine .one (.data _ (xc2 f hf hl) rfl rfl ?_)
 cases hok:f.ok with
 |false =>
  rw[if_neg (by decide)]
  conv=>whnf
  repeat(first|(refine brT rfl ?_;conv=>whnf)|(refine brF rfl ?_;conv=>whnf)|(refine .once ?_;conv=>whnf)|(refine⟨by decide,?_⟩;conv=>whnf)|(refine And.intro (Nat.le_of_ble_eq_true rfl) ?_;conv=>whnf))
  all_goals exact rfl
 |true =>
 obtain⟨⟨h1,h2,h3⟩,hz,ho,hr,_,_⟩:=Fo.parts hok
 rw[if_pos rfl]
 conv=>whnf
 refine brF rfl ?_
 conv=>whnf
 refine .one (.data _ (qg2 n) rfl rfl ?_)
 by_cases hn:qa3 n
 case neg =>
  rw[if_neg hn]
  conv=>whnf
  repeat(first|(refine brT rfl ?_;conv=>whnf)|(refine brF rfl ?_;conv=>whnf)|(refine .once ?_;conv=>whnf)|(refine⟨by decide,?_⟩;conv=>whnf)|(refine And.intro (Nat.le_of_ble_eq_true rfl) ?_;conv=>whnf))
  all_goals exact rfl
 rw[if_pos hn]
 conv=>whnf
 refine brF rfl ?_
 conv=>whnf
 refine .one (.data _ (xn1 f hf hl n) rfl rfl ?_)
 conv=>whnf
 refine .one (.data _ (xx9 f.zz f.zones (by omega) n) rfl rfl ?_)
 obtain⟨b1,b2⟩:=xf9 hok hn
 have hZ:=jm3 hok hn
 have hG:=Fo.good hok
 generalize zg8 f.zones n=B at b1 b2 ⊢
 have hfin:∀ i z,f.zones[i]? = some z->qa1 n z.apex=true->(z.cut n=none↔((jm4 f n).2=0/\(jm4 f n).1=i)):=fun i z hi hw=>by
  constructor
  ·intro hc
   rw[(xt3 hok hi hw hc).1]
   exact⟨rfl,rfl⟩
  ·rintro ⟨e1,e2⟩
   rcases hZ with⟨a,za,k1,k2,k3,k4,k5⟩|⟨k1,_⟩
   ·rw [k1] at e2
    have e2:a=i:=e2
    subst e2
    rw [hi] at k3
    cases k3
    exact k5
   ·rw [k1] at e1;cases e1
 generalize jm4 f n=Z at b2 hfin ⊢
 clear hZ
 conv=>whnf
 refine brF (by rw[b1];rfl) ?_
 conv=>whnf
 refine⟨fun g1=>?_,fun g1=>?_⟩
 ·have g1:Z.2=0:=by simpa using g1
  conv=>whnf
  refine brF (by rw[b2 g1];simp) ?_
  conv=>whnf
  refine .inv Nat (fun i=>i<=f.zones.length) (fun i=>[(58,iV i)]) (fun i=>[]) (fun i=>f.zones.length - i) ⟨0,[0,1],Nat.zero_le _,?_⟩ ?_
  ·conv=>whnf
   repeat'(first|exact ⟨⟩|exact rfl|exact qa0 _|exact .inr rfl|exact fun _ _=>rfl|exact noI|apply And.intro)
  intro i hi
  conv=>whnf
  refine⟨fun g2=>?_,fun g2=>?_⟩
  ·have g2:i<f.zones.length:=by
    have h:(i:Int)<f.zones.length:=of_decide_eq_true g2
    omega
   have hw1:IntKind.i64.wrap ((i:Int)+1)=((i+1:Nat):Int):=by rw[qa2 _ (by omega)];omega
   obtain⟨z,hzd⟩:∃ z,f.zones.getD i default=z:=⟨_,rfl⟩
   have hzl:f.zones[i]? = some z:=by rw[<-hzd,List.getD_eq_getElem?_getD,List.getElem?_eq_getElem g2];rfl
   have hzm:=List.mem_of_getElem? hzl
   have hzf:=hf z hzm
   have hzo:=hz z hzm
   conv=>whnf
   refine⟨by omega,?_⟩
   conv=>whnf
   rw[Int.toNat_natCast,hzd]
   refine .one (.data _ (qj0 n z.apex) rfl rfl ?_)
   cases hw:qa1 n z.apex with
   |false =>
    conv=>whnf
    refine brT rfl ?_
    conv=>whnf
    rw[hw1]
    refine⟨i+1,[0,1],g2,by omega,?_⟩
    conv=>whnf
    repeat'(first|exact ⟨⟩|exact rfl|exact qa0 _|exact .inr rfl|exact fun _ _=>rfl|exact noI|apply And.intro)
   |true =>
    have hfi:=hfin i z hzl hw
    have hkr:=jy7 (z:=z) (q:=⟨n,1,1⟩) hn rfl hzo hw
    have hko:=xb6 (z:=z) (q:=⟨n,1,1⟩) hn rfl hzo hw
    have hsa:=zw9 z hzf.2 ⟨n,1,1⟩
    generalize xb7 z ⟨n,1,1⟩=K at hkr hko
    have key:∀ b:Bool,(b=true↔(Z.2=0/\Z.1=i))->((K.kind == 5) == b)=false:=fun b hb=>by
     rw [<-hfi] at hb
     by_cases h5:K.kind=5
     ·have:b=false:=by rw[<-Bool.not_eq_true,hb];exact hkr.1 h5
      rw[h5,this];rfl
     ·have:b=true:=hb.2 (Classical.not_not.1 fun h=>h5 (hkr.2 h))
      rw[this,beq_false_of_ne h5];rfl
    conv=>whnf
    refine brF rfl ?_
    conv=>whnf
    refine .data _ hsa rfl rfl ?_
    conv=>whnf
    refine .data _ hko rfl rfl ?_
    conv=>whnf
    first
     |(
      refine brT (by rw[g1];rfl) ?_
      conv=>whnf
      refine brF (key ((i:Int) == (Z.1:Int)) ⟨fun h=>⟨g1,by
       have h:(i:Int)=Z.1:=by simpa using h
       omega⟩,fun h=>by rw[h.2];simp⟩) ?_)
     |(
      refine brF (by simpa using g1) ?_
      conv=>whnf
      refine brF (key false ⟨fun h=>(by cases h),fun h=>absurd h.1 g1⟩) ?_)
    conv=>whnf
    rw[hw1]
    refine⟨i+1,[0,1],g2,by omega,?_⟩
    conv=>whnf
    repeat'(first|exact ⟨⟩|exact rfl|exact qa0 _|exact .inr rfl|exact fun _ _=>rfl|exact noI|apply And.intro)
  ·have g2:i=f.zones.length:=by
    have h:¬ (i:Int)<f.zones.length:=of_decide_eq_false g2
    omega
   conv=>whnf
   all_goals exact rfl
 ·have g1:¬ Z.2=0:=by simpa using g1
  conv=>whnf
  refine .inv Nat (fun i=>i<=f.zones.length) (fun i=>[(58,iV i)]) (fun i=>[]) (fun i=>f.zones.length - i) ⟨0,[0,1],Nat.zero_le _,?_⟩ ?_
  ·conv=>whnf
   repeat'(first|exact ⟨⟩|exact rfl|exact qa0 _|exact .inr rfl|exact fun _ _=>rfl|exact noI|apply And.intro)
  intro i hi
  conv=>whnf
  refine⟨fun g2=>?_,fun g2=>?_⟩
  ·have g2:i<f.zones.length:=by
    have h:(i:Int)<f.zones.length:=of_decide_eq_true g2
    omega
   have hw1:IntKind.i64.wrap ((i:Int)+1)=((i+1:Nat):Int):=by rw[qa2 _ (by omega)];omega
   obtain⟨z,hzd⟩:∃ z,f.zones.getD i default=z:=⟨_,rfl⟩
   have hzl:f.zones[i]? = some z:=by rw[<-hzd,List.getD_eq_getElem?_getD,List.getElem?_eq_getElem g2];rfl
   have hzm:=List.mem_of_getElem? hzl
   have hzf:=hf z hzm
   have hzo:=hz z hzm
   conv=>whnf
   refine⟨by omega,?_⟩
   conv=>whnf
   rw[Int.toNat_natCast,hzd]
   refine .one (.data _ (qj0 n z.apex) rfl rfl ?_)
   cases hw:qa1 n z.apex with
   |false =>
    conv=>whnf
    refine brT rfl ?_
    conv=>whnf
    rw[hw1]
    refine⟨i+1,[0,1],g2,by omega,?_⟩
    conv=>whnf
    repeat'(first|exact ⟨⟩|exact rfl|exact qa0 _|exact .inr rfl|exact fun _ _=>rfl|exact noI|apply And.intro)
   |true =>
    have hfi:=hfin i z hzl hw
    have hkr:=jy7 (z:=z) (q:=⟨n,1,1⟩) hn rfl hzo hw
    have hko:=xb6 (z:=z) (q:=⟨n,1,1⟩) hn rfl hzo hw
    have hsa:=zw9 z hzf.2 ⟨n,1,1⟩
    generalize xb7 z ⟨n,1,1⟩=K at hkr hko
    have key:∀ b:Bool,(b=true↔(Z.2=0/\Z.1=i))->((K.kind == 5) == b)=false:=fun b hb=>by
     rw [<-hfi] at hb
     by_cases h5:K.kind=5
     ·have:b=false:=by rw[<-Bool.not_eq_true,hb];exact hkr.1 h5
      rw[h5,this];rfl
     ·have:b=true:=hb.2 (Classical.not_not.1 fun h=>h5 (hkr.2 h))
      rw[this,beq_false_of_ne h5];rfl
    conv=>whnf
    refine brF rfl ?_
    conv=>whnf
    refine .data _ hsa rfl rfl ?_
    conv=>whnf
    refine .data _ hko rfl rfl ?_
    conv=>whnf
    first
     |(
      refine brT (by rw[g1];rfl) ?_
      conv=>whnf
      refine brF (key ((i:Int) == (Z.1:Int)) ⟨fun h=>⟨g1,by
       have h:(i:Int)=Z.1:=by simpa using h
       omega⟩,fun h=>by rw[h.2];simp⟩) ?_)
     |(
      refine brF (by simpa using g1) ?_
      conv=>whnf
      refine brF (key false ⟨fun h=>(by cases h),fun h=>absurd h.1 g1⟩) ?_)
    conv=>whnf
    rw[hw1]
    refine⟨i+1,[0,1],g2,by omega,?_⟩
    conv=>whnf
    repeat'(first|exact ⟨⟩|exact rfl|exact qa0 _|exact .inr rfl|exact fun _ _=>rfl|exact noI|apply And.intro)
  ·have g2:i=f.zones.length:=by
    have h:¬ (i:Int)<f.zones.length:=of_decide_eq_false g2
    omega
   conv=>whnf
   all_goals exact rfl
end Go.Proofs.YtnfoihdifohkeaaGreat
