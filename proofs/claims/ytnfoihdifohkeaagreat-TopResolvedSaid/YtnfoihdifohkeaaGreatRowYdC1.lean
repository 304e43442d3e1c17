/-
  Part of the proof: lemmas about the functions that the row calls, and about the steps of a run. Conditions: those ahead of each lemma.
-/
import Derived.Test.YtnfoihdifohkeaaGreatB3
set_option linter.unusedVariables false
set_option linter.unusedSimpArgs false
set_option maxRecDepth 100000
namespace Go.Proofs.YtnfoihdifohkeaaGreat
open Go Go.Eng
theorem yu7{s:St}(h:s.ok=true):ja6 s s=true:=by
 unfold ja6 eqF
 rw[h,zs8 ((St.ok_iff s).1 h).1]
 simp
theorem zs5{l:List St}(h:∀ s ∈ l,s.ok=true):zs6 l l=true:=by
 unfold zs6 yu8
 rw[beq_self_eq_true,Bool.true_and,List.all_eq_true]
 intro i hi
 have hi:=List.mem_range.1 hi
 have:l.getD i default=l[i]:=by rw[List.getD_eq_getElem?_getD,List.getElem?_eq_getElem hi];rfl
 rw[this]
 exact yu7 (h _ (List.getElem_mem hi))
theorem yl7{v:Ver}(h:∀ s ∈ v.chain,s.ok=true)(ha:v.ans.data.length=0\/v.ans.ok=true):qs3 v v=true:=by
 unfold qs3
 rw[beq_self_eq_true,zs5 h,Bool.true_and,Bool.true_and]
 split
 ·rfl
 ·rename_i hc
  exact yu7 (ha.resolve_left (fun e=>hc ⟨e,e⟩))
theorem kf0{f:Fo}(hok:f.ok=true){at_:Nat}{z:Zo}(hz:f.zones[at_]? = some z){n:List UInt8}(hin:inZ z n=true)(ty:Int)(k:Nat)(c:List St) :
 ofF f.zones ty (k+1) n c=if (qb2 n ty z.rrs).2=0 then ⟨c,(qb2 n ty z.rrs).1,0,0⟩
  else if ty=5\/(qb2 n 5 z.rrs).2≠0\/(qb2 n 5 z.rrs).1.data.length=0 then ⟨c,St.no,if qi8 z n then 0 else 3,0⟩
  else if c.length >= 8 then ⟨[],St.no,0,9⟩
  else ofF f.zones ty k ((qb2 n 5 z.rrs).1.data.headD []) (c++[(qb2 n 5 z.rrs).1]):=by
 have hzo:=(Fo.parts hok).2.1 z (List.mem_of_getElem? hz)
 obtain⟨hw,hc⟩:=(jj1 hzo).1 hin
 have hzd:f.zones.getD at_ default=z:=by rw[List.getD_eq_getElem?_getD,hz];rfl
 have hd:=(zy5 hok hz hw hc).2
 have e1:ofF f.zones ty (k+1) n c=if qa2 n then (match qo4 f.zones n 300 0 with
  |none=>⟨[],St.no,0,12⟩
  |some at_=>if (qb2 n ty (f.zones.getD at_ default).rrs).2=0 then ⟨c,(qb2 n ty (f.zones.getD at_ default).rrs).1,0,0⟩
   else if ty=5\/(qb2 n 5 (f.zones.getD at_ default).rrs).2≠0\/(qb2 n 5 (f.zones.getD at_ default).rrs).1.data.length=0 then ⟨c,St.no,if qi8 (f.zones.getD at_ default) n then 0 else 3,0⟩
   else if c.length >= 8 then ⟨[],St.no,0,9⟩
   else ofF f.zones ty k ((qb2 n 5 (f.zones.getD at_ default).rrs).1.data.headD []) (c++[(qb2 n 5 (f.zones.getD at_ default).rrs).1])) else ⟨[],St.no,0,2⟩:=rfl
 rw[e1,if_pos (qb9 hw).1,hd]
 simp only
 rw[hzd]
theorem of_steps{f:Fo}(hok:f.ok=true){at_:Nat}{z:Zo}(hz:f.zones[at_]? = some z)(ty:Int):∀ (m:Nat) (n:List UInt8) (c:List St) (k:Nat),inZ z n=true->m<k->c.length<=8 ->
 ((qb4 z ty m n).2.2 = .ans->c.length+(qb4 z ty m n).1.length<=8->ofF f.zones ty k n c=⟨c++(qb4 z ty m n).1,(qb2 (qb4 z ty m n).2.1 ty z.rrs).1,0,0⟩) /\
 ((qb4 z ty m n).2.2≠.ans->c.length+(qb4 z ty m n).1.length<=8->ofF f.zones ty k n c=ofF f.zones ty (k - (qb4 z ty m n).1.length) (qb4 z ty m n).2.1 (c++(qb4 z ty m n).1)) /\
 (8<c.length+(qb4 z ty m n).1.length->(ofF f.zones ty k n c).why=9)
 |0,n,c,k,_,_,hc=>by
  unfold qb4
  refine⟨fun h=>(by cases h),fun _ _=>?_,fun h=>?_⟩
  ·show _=ofF f.zones ty (k - 0) n (c++[])
   rw[List.append_nil]
   rfl
  ·have h:8<c.length+0:=h
   omega
 |m+1,n,c,k,hin,hk,hc=>by
  obtain⟨k,rfl⟩:∃ k',k=k'+1:=⟨k - 1,by omega⟩
  have e1:=kf0 hok hz hin ty k c
  unfold qb4
  by_cases h1:(qb2 n ty z.rrs).2=0
  ·rw [if_pos h1] at e1 ⊢
   refine⟨fun _ _=>?_,fun h=>absurd rfl h,fun h=>?_⟩
   ·rw[e1,List.append_nil]
   ·have h:8<c.length+0:=h
    omega
  ·rw [if_neg h1] at e1 ⊢
   by_cases h2:(qb2 n 5 z.rrs).2≠0
   ·rw[if_pos h2]
    refine⟨fun h=>(by cases h),fun _ _=>?_,fun h=>?_⟩
    ·show _=ofF f.zones ty (k+1 - 0) n (c++[])
     rw[List.append_nil]
     rfl
    ·have h:8<c.length+0:=h
     omega
   ·have h2':(qb2 n 5 z.rrs).2=0:=Classical.not_not.1 h2
    rw[if_neg h2]
    rw [if_neg (fun h=>h.elim (fun e=>h1 (e ▸ h2')) (fun h=>h.elim h2 (yb9 h2' (by decide))))] at e1
    by_cases h8:c.length >= 8
    ·rw [if_pos h8] at e1
     have hw:(ofF f.zones ty (k+1) n c).why=9:=by rw[e1]
     split
     ·refine⟨fun _ h=>?_,fun _ h=>?_,fun _=>hw⟩
      ·have h:c.length+(_+1)<=8:=h
       omega
      ·have h:c.length+(_+1)<=8:=h
       omega
     ·refine⟨fun _ h=>?_,fun _ h=>?_,fun _=>hw⟩
      ·have h:c.length+(0+1)<=8:=h
       omega
      ·have h:c.length+(0+1)<=8:=h
       omega
    ·rw [if_neg h8] at e1
     cases h3:inZ z ((qb2 n 5 z.rrs).1.data.headD []) with
     |true =>
      rw[if_pos rfl]
      obtain⟨g1,g2,g3⟩:=of_steps hok hz ty m _ (c++[(qb2 n 5 z.rrs).1]) k h3 (by omega) (by rw[List.length_append,List.length_singleton];omega)
      rw [<-e1] at g1 g2 g3
      rw [List.length_append,List.length_singleton] at g1 g2 g3
      generalize qb4 z ty m ((qb2 n 5 z.rrs).1.data.headD [])=x at g1 g2 g3 ⊢
      refine⟨fun h hl=>?_,fun h hl=>?_,fun hl=>g3 ?_⟩
      ·have hl:c.length+(x.1.length+1)<=8:=hl
       rw[g1 h (by omega),List.append_assoc]
       rfl
      ·have hl:c.length+(x.1.length+1)<=8:=hl
       rw[g2 h (by omega),List.append_assoc]
       show _=ofF f.zones ty (k+1 - (x.1.length+1)) _ _
       rw[Nat.add_sub_add_right]
       rfl
      ·have hl:8<c.length+(x.1.length+1):=hl
       omega
     |false =>
      rw[if_neg (by decide)]
      refine⟨fun h=>(by cases h),fun _ _=>?_,fun hl=>?_⟩
      ·rw[e1]
       rfl
      ·have hl:8<c.length+(0+1):=hl
       omega
theorem zs2{z:Zo}{ty:Int}{k:Nat}{n:List UInt8}(h:(qb4 z ty (k+1) n).1=[])(ha:(qb4 z ty (k+1) n).2.2≠.ans):(qb2 n ty z.rrs).2≠0/\(qb2 n 5 z.rrs).2≠0:=by
 unfold qb4 at h ha
 by_cases h1:(qb2 n ty z.rrs).2=0
 ·rw [if_pos h1] at ha
  exact absurd rfl ha
 ·rw [if_neg h1] at h
  by_cases h2:(qb2 n 5 z.rrs).2≠0
  ·exact⟨h1,h2⟩
  ·rw [if_neg h2] at h
   split at h <;> cases h
theorem xz7{f:Fo}(hok:f.ok=true){at_:Nat}{z:Zo}(hz:f.zones[at_]? = some z){n:List UInt8}(hin:inZ z n=true){ty:Int}{k j:Nat}{c:List St}(h:(qb4 z ty (j+1) n).1=[])(ha:(qb4 z ty (j+1) n).2.2≠.ans):ofF f.zones ty (k+1) n c=⟨c,St.no,if qi8 z n then 0 else 3,0⟩:=by
 obtain⟨h1,h2⟩:=zs2 h ha
 rw[kf0 hok hz hin,if_neg h1,if_pos (.inr (.inl h2))]
theorem xz8{f:Fo}{n:List UInt8}(hn:qa2 n)(hd:qo4 f.zones n 300 0=none)(ty:Int)(k:Nat)(c:List St):ofF f.zones ty (k+1) n c=⟨[],St.no,0,12⟩:=by
 unfold ofF
 rw[if_pos hn,hd]
theorem zv0{f:Fo}(hok:f.ok=true){at_:Nat}{z:Zo}(hz:f.zones[at_]? = some z){n:List UInt8}(hw:qa1 n z.apex=true)(ty:Int){k:Nat}(hk:8<k){c:List St}(hc:c.length<=8) :
 ((ql7 z ⟨n,ty,1⟩).chain.length<=8/\∀ s ∈ (ql7 z ⟨n,ty,1⟩).chain,s.ok=true) /\
 (8<c.length+(ql7 z ⟨n,ty,1⟩).chain.length->(ofF f.zones ty k n c).why=9) /\
 (
  ((ql7 z ⟨n,ty,1⟩).kind=1/\(ql7 z ⟨n,ty,1⟩).ans.ok=true/\(c.length+(ql7 z ⟨n,ty,1⟩).chain.length<=8->ofF f.zones ty k n c=⟨c++(ql7 z ⟨n,ty,1⟩).chain,(ql7 z ⟨n,ty,1⟩).ans,0,0⟩)) \/
  ((ql7 z ⟨n,ty,1⟩).kind=2/\qa2 (ql7 z ⟨n,ty,1⟩).target/\0<(ql7 z ⟨n,ty,1⟩).chain.length/\(c.length+(ql7 z ⟨n,ty,1⟩).chain.length<=8->ofF f.zones ty k n c=ofF f.zones ty (k - (ql7 z ⟨n,ty,1⟩).chain.length) (ql7 z ⟨n,ty,1⟩).target (c++(ql7 z ⟨n,ty,1⟩).chain))) \/
  (((ql7 z ⟨n,ty,1⟩).kind=3/\ofF f.zones ty k n c=⟨c,St.no,3,0⟩\/(ql7 z ⟨n,ty,1⟩).kind=4/\ofF f.zones ty k n c=⟨c,St.no,0,0⟩)/\(ql7 z ⟨n,ty,1⟩).chain=[]/\(ql7 z ⟨n,ty,1⟩).ans=St.no) \/
  ((ql7 z ⟨n,ty,1⟩).kind=5/\(ql7 z ⟨n,ty,1⟩).chain=[]/\z.cut n=some (fold (ql7 z ⟨n,ty,1⟩).target)/\qa2 (ql7 z ⟨n,ty,1⟩).target/\(ql7 z ⟨n,ty,1⟩).ans.ok=true)):=by
 have hn:=(qb9 hw).1
 have hzo:=(Fo.parts hok).2.1 z (List.mem_of_getElem? hz)
 cases hb:z.cut n with
 |some b =>
  obtain⟨c1,c2,c3,c4,c5⟩:=@yc9 z ⟨n,ty,1⟩ hn rfl hzo hw b hb
  rw [show qp8 (ansF z (msg1 ⟨n,ty,1⟩)) ⟨n,ty,1⟩ z.apex=ql7 z ⟨n,ty,1⟩ from rfl] at c1 c2 c3 c4 c5
  refine⟨by rw[c2];exact⟨Nat.zero_le _,fun s hs=>by cases hs⟩,fun h=>?_,.inr (.inr (.inr ⟨c1,c2,by rw[c3],c4,c5⟩))⟩
  rw [c2] at h
  have h:8<c.length+0:=h
  omega
 |none =>
  have hin:=(jj1 hzo).2 ⟨hw,hb⟩
  obtain⟨k1,k2,k3⟩:=@zc0 z ⟨n,ty,1⟩ hn rfl hzo hin
  rw [show qp8 (ansF z (msg1 ⟨n,ty,1⟩)) ⟨n,ty,1⟩ z.apex=ql7 z ⟨n,ty,1⟩ from rfl] at k1 k2 k3
  obtain⟨g1,g2,g3⟩:=ym4 hzo (ty:=ty) 8 n
  obtain⟨o1,o2,o3⟩:=of_steps hok hz ty 8 n c k hin hk hc
  have hans:=yt6 hzo (ty:=ty) (n:=n)
  have hno:=@xz7 f hok at_ z hz n hin ty (k - 1) 7 c
  rw [show k - 1+1=k by omega] at hno
  have k1:(qb4 z ty 8 n).2.2 = .ans->ql7 z ⟨n,ty,1⟩=⟨1,(qb4 z ty 8 n).1,(qb2 (qb4 z ty 8 n).2.1 ty z.rrs).1,(qb4 z ty 8 n).2.1,0⟩:=k1
  have k2:(qb4 z ty 8 n).2.2≠.ans->(qb4 z ty 8 n).1≠[]->ql7 z ⟨n,ty,1⟩=⟨2,(qb4 z ty 8 n).1,St.no,(qb4 z ty 8 n).2.1,0⟩:=k2
  have k3:(qb4 z ty 8 n).2.2≠.ans->(qb4 z ty 8 n).1=[]->∃ ttl,ql7 z ⟨n,ty,1⟩=⟨if qi8 z n then 4 else 3,[],St.no,n,ttl⟩:=k3
  have hno:(qb4 z ty 8 n).1=[]->(qb4 z ty 8 n).2.2≠.ans->ofF f.zones ty k n c=⟨c,St.no,if qi8 z n then 0 else 3,0⟩:=hno
  by_cases h1:(qb4 z ty 8 n).2.2 = .ans
  ·rw[k1 h1]
   exact⟨⟨g1,g2⟩,o3,.inl ⟨rfl,(qh6 (hans h1).1 (ym0 hzo (hans h1).1)).1,o1 h1⟩⟩
  ·by_cases h2:(qb4 z ty 8 n).1=[]
   ·obtain⟨ttl,h3⟩:=k3 h1 h2
    have h4:=hno h2 h1
    rw[h3]
    refine⟨⟨Nat.zero_le _,fun s hs=>by cases hs⟩,fun h=>?_,.inr (.inr (.inl ⟨?_,rfl,rfl⟩))⟩
    ·have h:8<c.length+0:=h
     omega
    ·rw[h4]
     cases qi8 z n with
     |true=>exact .inr ⟨rfl,rfl⟩
     |false=>exact .inl ⟨rfl,rfl⟩
   ·rw[k2 h1 h2]
    exact⟨⟨g1,g2⟩,o3,.inr (.inl ⟨rfl,g3 hn,List.length_pos_iff.2 h2,o2 h1⟩)⟩
def zt4(zs:List Zo)(m:Nat):Nat:=(zs.filter fun y=>decide (qa5 y.apex<m)).length
theorem xc2{zs:List Zo}{z:Zo}(h:z ∈ zs):zt4 zs (qa5 z.apex)<zs.length:=by
 unfold zt4
 exact List.length_filter_lt_length_iff_exists.2 ⟨z,h,by simp⟩
theorem xz1{zs:List Zo}{z:Zo}(h:z ∈ zs){m:Nat}(hm:qa5 z.apex<m):zt4 zs (qa5 z.apex)<zt4 zs m:=by
 unfold zt4
 have e:(zs.filter fun y=>decide (qa5 y.apex<qa5 z.apex))=(zs.filter fun y=>decide (qa5 y.apex<m)).filter fun y=>decide (qa5 y.apex<qa5 z.apex):=by
  rw[List.filter_filter]
  apply List.filter_congr
  intro y _
  by_cases h1:qa5 y.apex<qa5 z.apex
  ·have:qa5 y.apex<m:=by omega
   simp[h1,this]
  ·simp[h1]
 rw[e]
 exact List.length_filter_lt_length_iff_exists.2 ⟨z,List.mem_filter.2 ⟨h,by simpa using hm⟩,by simp⟩
theorem xy2(l m:List St):catF l.length (fun j=>(l.getD j default).enc) (fun j=>(m.getD j default).enc)=fun j=>((l++m).getD j default).enc:=by
 funext j
 unfold catF
 split
 ·rename_i h
  show(l.getD j default).enc=_
  rw[List.getD_eq_getElem?_getD,List.getD_eq_getElem?_getD,List.getElem?_append_left h]
 ·rename_i h
  show(m.getD (j - l.length) default).enc=_
  rw[List.getD_eq_getElem?_getD,List.getD_eq_getElem?_getD,List.getElem?_append_right (Nat.le_of_not_lt h)]
theorem xx8(l:List St)(a:St)(cd:Int):(⟨l,a,cd,0⟩:Ver).V = .agg [.d (.int .i64 cd),.d (stsD (Nat.beq l.length 0) l),.d (.str a.nm),.d (.int .u16 a.ty),.d (.int .u32 a.ttl),.d (.sl a.z a.data.length 1 (strs a.data))]:=by
 unfold Ver.V
 rw[qd4]
structure ReS where
 i:Nat
 at_:Nat
 k:Nat
 n:List UInt8
 c:List St
def ReI(f:Fo)(ty:Int)(V:Ver)(s:ReS):Prop:=∃ z,f.zones[s.at_]? = some z/\qa1 s.n z.apex=true/\ofF f.zones ty s.k s.n s.c=V/\s.k+s.c.length=20/\s.c.length<=8/\(∀ x ∈ s.c,x.ok=true)/\s.i<=8 * s.c.length+zt4 f.zones (qa5 z.apex)
set_option maxHeartbeats 64000000 in
theorem zz4(f:Fo)(hl:f.Len)(q:Q):FnOk Tryz.prog 6 [f.V,q.V] (.d (.bool true)):=by
 refine qa3 (TT:=TT) (IN:=qd0 []) qd2 qa7 mixed 1000 Tryz.func6 rfl (qb7 Tryz.func6 (by kernel_rfl) rfl) rfl 129 (by kernel_rfl) ?_
 conv=>whnf
 refine .one (.data _ zc4 rfl rfl ?_)
 conv=>whnf
 refine brF rfl ?_
 conv=>whnf
 refine .one (.data _ (yh2 f) rfl rfl ?_)
 cases hs:f.small with
 |false =>
  rw[if_neg (by decide)]
  conv=>whnf
  repeat(first|(refine brT rfl ?_;conv=>whnf)|(refine brF rfl ?_;conv=>whnf)|(refine .once ?_;conv=>whnf)|(refine⟨by decide,?_⟩;conv=>whnf)|(refine And.intro (Nat.le_of_ble_eq_true rfl) ?_;conv=>whnf))
  all_goals exact rfl
 |true =>
 have hf:=Fo.fit_small hs
 have hlen8:f.zones.length<=8:=by
  unfold Fo.small at hs
  simp only [Bool.and_eq_true,decide_eq_true_eq] at hs
  exact hs.1
 rw[if_pos rfl]
 conv=>whnf
 refine brF rfl ?_
 conv=>whnf
 refine .one (.data _ (yz2 f hf hl) rfl rfl ?_)
 cases hok:f.ok with
 |false =>
  rw[if_neg (by decide)]
  conv=>whnf
  repeat(first|(refine brT rfl ?_;conv=>whnf)|(refine brF rfl ?_;conv=>whnf)|(refine .once ?_;conv=>whnf)|(refine⟨by decide,?_⟩;conv=>whnf)|(refine And.intro (Nat.le_of_ble_eq_true rfl) ?_;conv=>whnf))
  all_goals exact rfl
 |true =>
 obtain⟨⟨h1,h2,h3⟩,hz,ho,hr,_,_⟩:=Fo.parts hok
 rw[if_pos rfl]
 conv=>whnf
 refine brF rfl ?_
 conv=>whnf
 refine .one (.data _ (qd8 q.nm) rfl rfl ?_)
 by_cases hn:qa2 q.nm
 case neg =>
  rw[if_neg hn]
  conv=>whnf
  repeat(first|(refine brT rfl ?_;conv=>whnf)|(refine brF rfl ?_;conv=>whnf)|(refine .once ?_;conv=>whnf)|(refine⟨by decide,?_⟩;conv=>whnf)|(refine And.intro (Nat.le_of_ble_eq_true rfl) ?_;conv=>whnf))
  all_goals exact rfl
 rw[if_pos hn]
 conv=>whnf
 refine brF rfl ?_
 conv=>whnf
 refine⟨fun h4=>?_,fun h4=>?_⟩
 ·conv=>whnf
  all_goals exact rfl
 conv=>whnf
 refine .one (.data _ (kf6 f hf hl ⟨q.nm,q.ty,1⟩) rfl rfl ?_)
 rw[show ofR f ⟨q.nm,q.ty,1⟩=ofF f.zones q.ty 20 q.nm [] by unfold ofR;rw[if_pos hok]]
 have hz0:f.zones[0]? = some (f.zones.getD 0 default):=by rw[List.getD_eq_getElem?_getD,List.getElem?_eq_getElem h1];rfl
 have hroot:∀ n,qa2 n->qa1 n (f.zones.getD 0 default).apex=true:=fun n hn=>qu3 (Zo.ok_name (hz _ (List.mem_of_getElem? hz0))) hr hn
 have hi0:ReI f q.ty (ofF f.zones q.ty 20 q.nm []) ⟨0,0,20,q.nm,[]⟩:=⟨_,hz0,hroot _ hn,rfl,rfl,Nat.zero_le _,fun x hx=>(by cases hx),Nat.zero_le _⟩
 generalize ofF f.zones q.ty 20 q.nm []=V at hi0 ⊢
 conv=>whnf
 refine .nilC 3 1 47 4 (fun _=>[]) _ _ _ _ rfl rfl ?_
 refine .inv ReS (ReI f q.ty V) (fun s=>[(9,iV s.at_),(44,iV s.i)])
  (fun s=>[(3,.cells 60 [.d (.int .i64 0),.all 5,.d (.str []),.d (.int .u16 0),.d (.int .u32 0),nilS]),(4,.cells 37 [.d (.str s.n),.d (.int .u16 q.ty),.d (.int .u16 1)]),(5,.row 47 4 s.c.length .iff (fun j=>(s.c.getD j default).enc))]) (fun s=>200 - s.i) ⟨⟨0,0,20,q.nm,[]⟩,[0,1,2,3,4,5],hi0,?_⟩ ?_
 ·conv=>whnf
  repeat'(first|exact ⟨⟩|exact rfl|exact qa0 _|exact .inr rfl|exact fun _ _=>rfl|exact noI|apply And.intro)
 intro s hs
 obtain⟨z,hza,hwz,hV,hkc,hcl,hco,hir⟩:=hs
 conv=>whnf
 generalize s.i=i at hir ⊢
 generalize s.at_=at_ at hza ⊢
 generalize s.k=k at hV hkc ⊢
 generalize s.n=n at hV hwz ⊢
 generalize s.c=c at hV hkc hcl hco hir ⊢
 have hzm:=List.mem_of_getElem? hza
 have hrk:=xc2 hzm
 refine⟨fun g1=>?_,fun g1=>?_⟩
 case refine_2 =>
  have g1:¬ (i:Int)<200:=of_decide_eq_false g1
  omega
 have hw1:IntKind.i64.wrap ((i:Int)+1)=((i+1:Nat):Int):=by rw[qa4 _ (by omega)];omega
 have hlt:at_<f.zones.length:=(List.getElem?_eq_some_iff.1 hza).1
 have hzd:f.zones.getD at_ default=z:=by rw[List.getD_eq_getElem?_getD,hza];rfl
 have hzf:=hf z hzm
 have hzo:=hz z hzm
 have hnn:=(qb9 hwz).1
 have hkc2:=@zv0 f hok at_ z hza n hwz q.ty k (by omega) c hcl
 have hko:=xg0 (z:=z) (q:=⟨n,q.ty,1⟩) hnn rfl hzo hwz
 have hsa:=xb2 z hzf.2 ⟨n,q.ty,1⟩
 generalize ql7 z ⟨n,q.ty,1⟩=K at hkc2 hko
 obtain⟨⟨hKl,hKo⟩,hlong,hcase⟩:=hkc2
 conv=>whnf
 refine⟨by omega,?_⟩
 conv=>whnf
 rw[Int.toNat_natCast,hzd]
 refine .data _ hsa rfl rfl ?_
 conv=>whnf
 refine .data _ hko rfl rfl ?_
 conv=>whnf
 have hcl2:(c++K.chain).length=c.length+K.chain.length:=List.length_append
 refine⟨by omega,?_⟩
 rw[xy2,<-hcl2]
 conv=>whnf
 refine⟨fun g2=>?_,fun g2=>?_⟩
 ·have g2:8<(c++K.chain).length:=by
   have h:((c++K.chain).length:Int) > 8:=of_decide_eq_true g2
   omega
  have h9:=hlong (by omega)
  rw [hV] at h9
  conv=>whnf
  refine brT (by rw[h9];rfl) ?_
  conv=>whnf
  all_goals exact rfl
 have g2:(c++K.chain).length<=8:=by
  have h:¬ ((c++K.chain).length:Int) > 8:=of_decide_eq_false g2
  omega
 conv=>whnf
 rcases hcase with⟨c1,c2,c3⟩|⟨c1,c2,c3,c4⟩|⟨c1,c2,c3⟩|⟨c1,c2,c3,c4,c5⟩
 ·have hV0:=c3 (by omega)
  rw [hV] at hV0
  have kb:∀ m:Int,(K.kind == m)=((1:Int) == m):=fun m=>by rw[c1]
  obtain⟨cd,hcd⟩:∃ cd:Int,cd=0:=⟨0,rfl⟩
  obtain⟨W,hW⟩:∃ W:Ver,⟨c++K.chain,K.ans,cd,0⟩=W:=⟨_,rfl⟩
  have hV1:V=W:=by rw[hV0,<-hW,hcd]
  have hW0:V.why=0:=by rw[hV0]
  have hKa:K.ans.data.length=0\/K.ans.ok=true:=.inr c2
  repeat(first|(refine brT (kb _) ?_;conv=>whnf)|(refine brF (kb _) ?_;conv=>whnf))
  subst hcd
  refine brT (by rw[hW0];rfl) ?_
  conv=>whnf
  have hsm:=yp9 W V (by rw[<-hW];show(c++K.chain).length<=100000;omega)
  rw [show qs3 W V=true by rw [hV1];exact yl7 (by rw [<-hW];intro x hx;rcases List.mem_append.1 hx with hx|hx;exact hco x hx;exact hKo x hx) (by rw [<-hW];exact hKa),<-hW] at hsm
  rw [xx8] at hsm
  refine .one (.view _ _ [8] hsm ?_ rfl rfl ?_)
  ·conv=>whnf
   exact⟨rfl,rfl⟩
  conv=>whnf
  all_goals exact rfl
 ·have kb:∀ m:Int,(K.kind == m)=((2:Int) == m):=fun m=>by rw[c1]
  repeat(first|(refine brT (kb _) ?_;conv=>whnf)|(refine brF (kb _) ?_;conv=>whnf))
  rw[hw1]
  have hrp:=@xc2 f.zones (f.zones.getD 0 default) (List.mem_of_getElem? hz0)
  refine⟨⟨i+1,0,k - K.chain.length,K.target,c++K.chain⟩,[0,1,2,3,4,8],⟨_,hz0,hroot _ c2,by rw[<-hV];exact(c4 (by omega)).symm,by show k - K.chain.length+(c++K.chain).length=20;omega,g2,fun x hx=>(List.mem_append.1 hx).elim (hco x) (hKo x),by show i+1<=8 * (c++K.chain).length+_;omega⟩,by show 200 - (i+1)<200 - i;omega,?_⟩
  conv=>whnf
  repeat'(first|exact ⟨⟩|exact rfl|exact qa0 _|exact .inr rfl|exact fun _ _=>rfl|exact noI|apply And.intro)
 ·rcases c1 with⟨c1,hV0⟩|⟨c1,hV0⟩
  ·rw [hV] at hV0
   have kb:∀ m:Int,(K.kind == m)=((3:Int) == m):=fun m=>by rw[c1]
   obtain⟨cd,hcd⟩:∃ cd:Int,cd=3:=⟨3,rfl⟩
   obtain⟨W,hW⟩:∃ W:Ver,⟨c++K.chain,K.ans,cd,0⟩=W:=⟨_,rfl⟩
   have hV1:V=W:=by rw[hV0,<-hW,hcd,c2,c3,List.append_nil]
   have hW0:V.why=0:=by rw[hV0]
   have hKa:K.ans.data.length=0\/K.ans.ok=true:=.inl (by rw[c3];rfl)
   repeat(first|(refine brT (kb _) ?_;conv=>whnf)|(refine brF (kb _) ?_;conv=>whnf))
   subst hcd
   refine brT (by rw[hW0];rfl) ?_
   conv=>whnf
   have hsm:=yp9 W V (by rw[<-hW];show(c++K.chain).length<=100000;omega)
   rw [show qs3 W V=true by rw [hV1];exact yl7 (by rw [<-hW];intro x hx;rcases List.mem_append.1 hx with hx|hx;exact hco x hx;exact hKo x hx) (by rw [<-hW];exact hKa),<-hW] at hsm
   rw [xx8] at hsm
   refine .one (.view _ _ [8] hsm ?_ rfl rfl ?_)
   ·conv=>whnf
    exact⟨rfl,rfl⟩
   conv=>whnf
   all_goals exact rfl
  ·rw [hV] at hV0
   have kb:∀ m:Int,(K.kind == m)=((4:Int) == m):=fun m=>by rw[c1]
   obtain⟨cd,hcd⟩:∃ cd:Int,cd=0:=⟨0,rfl⟩
   obtain⟨W,hW⟩:∃ W:Ver,⟨c++K.chain,K.ans,cd,0⟩=W:=⟨_,rfl⟩
   have hV1:V=W:=by rw[hV0,<-hW,hcd,c2,c3,List.append_nil]
   have hW0:V.why=0:=by rw[hV0]
   have hKa:K.ans.data.length=0\/K.ans.ok=true:=.inl (by rw[c3];rfl)
   repeat(first|(refine brT (kb _) ?_;conv=>whnf)|(refine brF (kb _) ?_;conv=>whnf))
   subst hcd
   refine brT (by rw[hW0];rfl) ?_
   conv=>whnf
   have hsm:=yp9 W V (by rw[<-hW];show(c++K.chain).length<=100000;omega)
   rw [show qs3 W V=true by rw [hV1];exact yl7 (by rw [<-hW];intro x hx;rcases List.mem_append.1 hx with hx|hx;exact hco x hx;exact hKo x hx) (by rw [<-hW];exact hKa),<-hW] at hsm
   rw [xx8] at hsm
   refine .one (.view _ _ [8] hsm ?_ rfl rfl ?_)
   ·conv=>whnf
    exact⟨rfl,rfl⟩
   conv=>whnf
   all_goals exact rfl
 ·have kb:∀ m:Int,(K.kind == m)=((5:Int) == m):=fun m=>by rw[c1]
  obtain⟨r1,r2⟩:=xo6 hok hza hwz c3
  have hne:=zn5 hok c4
  repeat(first|(refine brT (kb _) ?_;conv=>whnf)|(refine brF (kb _) ?_;conv=>whnf))
  refine .inv Nat (fun j=>j<=f.zones.length) (fun j=>[(12,.d (.int .i64 (jp3 f.zones K.target j))),(106,iV j)]) (fun j=>[]) (fun j=>f.zones.length - j) ⟨0,[0,1,2,3,4,5,6,7,8],Nat.zero_le _,?_⟩ ?_
  ·conv=>whnf
   repeat'(first|exact ⟨⟩|exact rfl|exact qa0 _|exact .inr rfl|exact fun _ _=>rfl|exact noI|apply And.intro)
  intro j hj
  conv=>whnf
  refine⟨fun g3=>?_,fun g3=>?_⟩
  ·have g3:j<f.zones.length:=by
    have h:(j:Int)<f.zones.length:=of_decide_eq_true g3
    omega
   have hw2:IntKind.i64.wrap ((j:Int)+1)=((j+1:Nat):Int):=by rw[qa4 _ (by omega)];omega
   obtain⟨y,hyd⟩:∃ y,f.zones.getD j default=y:=⟨_,rfl⟩
   have hnx:jp3 f.zones K.target (j+1)=if ql1 y.apex K.target=true then (j:Int) else jp3 f.zones K.target j:=by rw[<-hyd];rfl
   conv=>whnf
   refine⟨by omega,?_⟩
   conv=>whnf
   rw[Int.toNat_natCast,hyd]
   refine .one (.data _ (jg0 y.apex K.target) rfl rfl ?_)
   cases hsm:ql1 y.apex K.target with
   |false =>
    rw [hsm,if_neg (by decide)] at hnx
    conv=>whnf
    refine brF rfl ?_
    conv=>whnf
    rw[hw2]
    refine⟨j+1,[0,1,2,3,4,5,6,7,8],g3,by omega,?_⟩
    rw[hnx]
    conv=>whnf
    repeat'(first|exact ⟨⟩|exact rfl|exact qa0 _|exact .inr rfl|exact fun _ _=>rfl|exact noI|apply And.intro)
   |true =>
    rw [hsm,if_pos rfl] at hnx
    conv=>whnf
    refine brT rfl ?_
    conv=>whnf
    rw[hw2]
    refine⟨j+1,[0,1,2,3,4,5,6,7,8],g3,by omega,?_⟩
    rw[hnx]
    conv=>whnf
    repeat'(first|exact ⟨⟩|exact rfl|exact qa0 _|exact .inr rfl|exact fun _ _=>rfl|exact noI|apply And.intro)
  ·have g3:j=f.zones.length:=by
    have h:¬ (j:Int)<f.zones.length:=of_decide_eq_false g3
    omega
   subst g3
   rcases hne with⟨e1,e2⟩|⟨m,y,e1,e2,e3⟩
   ·have hd:=r1 e2
    have hV2:V=⟨[],St.no,0,12⟩:=by
     rw[<-hV,show k=(k - 1)+1 by omega]
     exact xz8 hnn hd q.ty (k - 1) c
    have hV3:V.why=12:=by rw[hV2]
    have hrec:=jf6 K.ans
    obtain⟨_,p2,p3⟩:=qm8 c5
    have hlen:0<(qi1 K.ans).length:=by rw[p2,List.length_map];exact List.length_pos_iff.2 p3
    generalize qi1 K.ans=R at hrec hlen
    rw[e1]
    conv=>whnf
    refine brT rfl ?_
    conv=>whnf
    refine brT (by rw[hV3];rfl) ?_
    conv=>whnf
    refine .one (.data _ hrec rfl rfl ?_)
    conv=>whnf
    rw[show decide ((R.length:Int) > 0)=true from decide_eq_true (by omega)]
    all_goals exact rfl
   ·obtain⟨r3,r4⟩:=r2 m y e2 e3
    have hml:m<f.zones.length:=(List.getElem?_eq_some_iff.1 e2).1
    have hyd:f.zones.getD m default=y:=by rw[List.getD_eq_getElem?_getD,e2];rfl
    have hru:=xz1 hzm r4
    rw[e1]
    conv=>whnf
    refine brF (decide_eq_false (by omega)) ?_
    conv=>whnf
    rw[hw1]
    have hca:c++K.chain=c:=by rw[c2,List.append_nil]
    refine⟨⟨i+1,m,k,n,c++K.chain⟩,[0,1,2,3,4,8],⟨y,e2,r3,by rw[<-hV,hca],by show k+(c++K.chain).length=20;rw[hca];exact hkc,g2,fun x hx=>(List.mem_append.1 hx).elim (hco x) (hKo x),by show i+1<=8 * (c++K.chain).length+_;rw[hca];omega⟩,by show 200 - (i+1)<200 - i;omega,?_⟩
    conv=>whnf
    repeat'(first|exact ⟨⟩|exact rfl|exact qa0 _|exact .inr rfl|exact fun _ _=>rfl|exact noI|apply And.intro)
end Go.Proofs.YtnfoihdifohkeaaGreat
