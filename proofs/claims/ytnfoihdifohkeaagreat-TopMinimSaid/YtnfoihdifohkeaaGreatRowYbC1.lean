/-
  Part of the proof: lemmas about the functions that the row calls, and about the steps of a run. Conditions: those ahead of each lemma.
-/
import Derived.Test.YtnfoihdifohkeaaGreatB3
import Derived.Test.YtnfoihdifohkeaaGreatB2
set_option linter.unusedVariables false
set_option linter.unusedSimpArgs false
set_option maxRecDepth 100000
namespace Go.Proofs.YtnfoihdifohkeaaGreat
open Go Go.Eng
def upK:Nat->List UInt8->List UInt8
 |0,n=>n
 |k+1,n=>upK k (upN n)
def yo9(zone n:List UInt8):List UInt8 × Int:=if qa2 zone/\qa2 n then (if qp7 n zone<1 then ([],3) else (upK ((qp7 n zone).toNat - 1) n,0)) else ([],2)
theorem xv8:∀ (k:Nat) (n:List UInt8),upK k (upN n)=upN (upK k n)
 |0,_=>rfl
 |k+1,n=>xv8 k (upN n)
theorem zl2(k:Nat)(n:List UInt8):upK (k+1) n=upN (upK k n):=xv8 k n
theorem yl8{n:List UInt8}(hn:qa2 n):∀ k,k<=qa5 n->qa2 (upK k n)/\qa5 (upK k n)=qa5 n - k
 |0,_=>⟨hn,rfl⟩
 |k+1,hk=>by
  obtain⟨h1,h2⟩:=yl8 hn k (by omega)
  have h0:upK k n≠[0]:=fun e=>by rw [e,qz7] at h2;omega
  rw[zl2]
  refine⟨qk9 h1 h0,?_⟩
  have:=zl1 h1 h0
  omega
set_option maxHeartbeats 16000000 in
theorem xm6(zone n:List UInt8):FnOk Tryz.prog 78 [.d (.str zone),.d (.str n)] (.tup [.d (.str (yo9 zone n).1),.d (.int .i64 (yo9 zone n).2)]):=by
 refine qa3 (TT:=TT) (IN:=qd0 [(111,Tryz.f111,1),(134,Tryz.f134,2)]) qd2 (qb8 (qb8 qa7 Tryz.func134 (by kernel_rfl) (by kernel_rfl)) Tryz.func111 (by kernel_rfl) (by kernel_rfl)) mixed 1000 Tryz.func78 rfl (qb7 Tryz.func78 (by kernel_rfl) rfl) rfl 27 (by kernel_rfl) ?_
 unfold yo9
 conv=>whnf
 refine .one (.data _ (qd8 zone) rfl rfl ?_)
 by_cases hz:qa2 zone
 case neg =>
  rw[if_neg hz,if_neg (fun h=>hz h.1)]
  conv=>whnf
  refine brT rfl ?_
  conv=>whnf
  repeat'(first|exact ⟨⟩|exact rfl|exact⟨rfl,rfl,.inr rfl,fun _ _=>rfl⟩|exact⟨rfl,rfl,.inl rfl,noI⟩|apply And.intro)
 rw[if_pos hz]
 conv=>whnf
 refine brF rfl ?_
 conv=>whnf
 refine .one (.data _ (qd8 n) rfl rfl ?_)
 by_cases hn:qa2 n
 case neg =>
  rw[if_neg hn,if_neg (fun h=>hn h.2)]
  conv=>whnf
  refine brT rfl ?_
  conv=>whnf
  repeat'(first|exact ⟨⟩|exact rfl|exact⟨rfl,rfl,.inr rfl,fun _ _=>rfl⟩|exact⟨rfl,rfl,.inl rfl,noI⟩|apply And.intro)
 rw[if_pos hn,if_pos ⟨hz,hn⟩]
 conv=>whnf
 refine brF rfl ?_
 conv=>whnf
 refine .one (.data _ (yr0 n zone) rfl rfl ?_)
 have hd:qp7 n zone<=qa5 n:=by
  unfold qp7
  split
  ·omega
  ·omega
 have hc:=jn7 n
 generalize qp7 n zone=D at hd ⊢
 conv=>whnf
 refine⟨fun h1=>?_,fun h1=>?_⟩
 ·have h1:D<1:=of_decide_eq_true h1
  rw[if_pos h1]
  conv=>whnf
  repeat'(first|exact ⟨⟩|exact rfl|exact⟨rfl,rfl,.inr rfl,fun _ _=>rfl⟩|exact⟨rfl,rfl,.inl rfl,noI⟩|apply And.intro)
 have h1:¬ D<1:=of_decide_eq_false h1
 rw[if_neg h1]
 conv=>whnf
 obtain⟨k0,rfl⟩:∃ k:Nat,D=((k+1:Nat):Int):=⟨D.toNat - 1,by omega⟩
 rw[show(((k0+1:Nat):Int).toNat - 1)=k0 by omega]
 refine .one (.data _ (qd8 n) rfl rfl ?_)
 rw[if_pos hn]
 conv=>whnf
 refine brF rfl ?_
 conv=>whnf
 refine .inv (List UInt8 × Nat) (fun s=>qa2 s.1/\s.2<qa5 s.1/\upK s.2 s.1=upK k0 n) (fun s=>[(3,.d (.str s.1))]) (fun s=>[(2,.cells 3 [.d (.int .i64 ((s.2+1:Nat):Int))])]) (fun s=>s.2) ⟨(n,k0),[0,1,2,3,4],⟨hn,by show k0<qa5 n;omega,rfl⟩,?_⟩ ?_
 ·conv=>whnf
  repeat'(first|exact ⟨⟩|exact rfl|exact qa0 _|exact .inr rfl|exact fun _ _=>rfl|exact noI|apply And.intro)
 intro s hs
 obtain⟨g1,g2,g3⟩:=hs
 conv=>whnf
 generalize s.1=m at g1 g2 g3 ⊢
 generalize s.2=k at g2 g3 ⊢
 refine⟨fun g4=>?_,fun g4=>?_⟩
 ·have g4:k=0:=by
   have h:((k+1:Nat):Int)=1:=by simpa using g4
   omega
  subst g4
  have g3:m=upK k0 n:=g3
  rw[<-g3]
  conv=>whnf
  repeat'(first|exact ⟨⟩|exact rfl|exact⟨rfl,rfl,.inr rfl,fun _ _=>rfl⟩|exact⟨rfl,rfl,.inl rfl,noI⟩|apply And.intro)
 ·have g4:k≠0:=by
   have h:¬ ((k+1:Nat):Int)=1:=by simpa using g4
   omega
  obtain⟨k,rfl⟩:∃ k',k=k'+1:=⟨k - 1,by omega⟩
  have h0:m≠[0]:=fun e=>by rw [e,qz7] at g2;omega
  have hb:=jn7 m
  have hw1:IntKind.i64.wrap (((k+1+1:Nat):Int) - 1)=((k+1:Nat):Int):=by rw[qa4 _ (by omega)];omega
  have hp:qc2 m=(upN m,0):=by unfold qc2;rw[if_pos g1,if_neg h0]
  conv=>whnf
  rw[hw1]
  refine .one (.data _ (qj4 m) rfl rfl ?_)
  rw[hp]
  conv=>whnf
  refine brF rfl ?_
  conv=>whnf
  have hu:=zl1 g1 h0
  refine⟨(upN m,k),[0,1,2,3,4],⟨qk9 g1 h0,by show k<qa5 (upN m);omega,g3⟩,Nat.lt_succ_self k,?_⟩
  conv=>whnf
  repeat'(first|exact ⟨⟩|exact rfl|exact qa0 _|exact .inr rfl|exact fun _ _=>rfl|exact noI|apply And.intro)
def noQ:Q:=⟨[],0,0⟩
def yy1(q:Q)(n:List UInt8):Q × Int:=if qa2 q.nm/\qa2 n then (if qp7 q.nm n = -1 then (noQ,3) else if qp7 q.nm n=0\/qp7 q.nm n=1 then (q,0) else if (yo9 n q.nm).2=0 then (⟨(yo9 n q.nm).1,2,q.cl⟩,0) else (noQ,(yo9 n q.nm).2)) else (noQ,2)
set_option maxHeartbeats 16000000 in
theorem xq3(q:Q)(n:List UInt8):FnOk Tryz.prog 43 [q.V,.d (.str n)] (.tup [(yy1 q n).1.V,.d (.int .i64 (yy1 q n).2)]):=by
 refine qa3 (TT:=TT) (IN:=qd0 []) qd2 qa7 mixed 1000 Tryz.func43 rfl (qb7 Tryz.func43 (by kernel_rfl) rfl) rfl 42 (by kernel_rfl) ?_
 unfold yy1
 conv=>whnf
 refine .one (.data _ (qd8 q.nm) rfl rfl ?_)
 by_cases hz:qa2 q.nm
 case neg =>
  rw[if_neg hz,if_neg (fun h=>hz h.1)]
  conv=>whnf
  refine brT rfl ?_
  conv=>whnf
  repeat'(first|exact ⟨⟩|exact rfl|exact⟨rfl,rfl,.inr rfl,fun _ _=>rfl⟩|exact⟨rfl,rfl,.inl rfl,noI⟩|apply And.intro)
 rw[if_pos hz]
 conv=>whnf
 refine brF rfl ?_
 conv=>whnf
 refine .one (.data _ (qd8 n) rfl rfl ?_)
 by_cases hn:qa2 n
 case neg =>
  rw[if_neg hn,if_neg (fun h=>hn h.2)]
  conv=>whnf
  refine brT rfl ?_
  conv=>whnf
  repeat'(first|exact ⟨⟩|exact rfl|exact⟨rfl,rfl,.inr rfl,fun _ _=>rfl⟩|exact⟨rfl,rfl,.inl rfl,noI⟩|apply And.intro)
 rw[if_pos hn,if_pos ⟨hz,hn⟩]
 conv=>whnf
 refine brF rfl ?_
 conv=>whnf
 refine .one (.data _ (yr0 q.nm n) rfl rfl ?_)
 generalize qp7 q.nm n=D
 conv=>whnf
 refine⟨fun h1=>?_,fun h1=>?_⟩
 ·have h1:D = -1:=by simpa using h1
  rw[if_pos h1]
  conv=>whnf
  repeat'(first|exact ⟨⟩|exact rfl|exact⟨rfl,rfl,.inr rfl,fun _ _=>rfl⟩|exact⟨rfl,rfl,.inl rfl,noI⟩|apply And.intro)
 have h1:¬ D = -1:=by simpa using h1
 rw[if_neg h1]
 conv=>whnf
 refine⟨fun h2r=>?_,fun h2r=>?_⟩
 ·have h2:D=0:=by simpa using h2r
  rw[if_pos (.inl h2)]
  conv=>whnf
  refine brT h2r ?_
  conv=>whnf
  repeat'(first|exact ⟨⟩|exact rfl|exact⟨rfl,rfl,.inr rfl,fun _ _=>rfl⟩|exact⟨rfl,rfl,.inl rfl,noI⟩|apply And.intro)
 have h2:¬ D=0:=by simpa using h2r
 conv=>whnf
 refine⟨fun h3=>?_,fun h3=>?_⟩
 ·have h3:D=1:=by simpa using h3
  rw[if_pos (.inr h3)]
  conv=>whnf
  repeat'(first|exact ⟨⟩|exact rfl|exact⟨rfl,rfl,.inr rfl,fun _ _=>rfl⟩|exact⟨rfl,rfl,.inl rfl,noI⟩|apply And.intro)
 have h3:¬ D=1:=by simpa using h3
 rw[if_neg (fun h=>h.elim h2 h3)]
 conv=>whnf
 refine .one (.data _ (xm6 n q.nm) rfl rfl ?_)
 generalize yo9 n q.nm=N
 conv=>whnf
 refine⟨fun h4=>?_,fun h4=>?_⟩
 ·have h4:¬ N.2=0:=by simpa using h4
  rw[if_neg h4]
  conv=>whnf
  repeat'(first|exact ⟨⟩|exact rfl|exact⟨rfl,rfl,.inr rfl,fun _ _=>rfl⟩|exact⟨rfl,rfl,.inl rfl,noI⟩|apply And.intro)
 have h4:N.2=0:=by simpa using h4
 rw[if_pos h4]
 conv=>whnf
 repeat'(first|exact ⟨⟩|exact rfl|exact⟨rfl,rfl,.inr rfl,fun _ _=>rfl⟩|exact⟨rfl,rfl,.inl rfl,noI⟩|apply And.intro)
def jc6(q:Q)(zone asked:List UInt8):Q × Int:=if qa2 q.nm/\qa2 zone/\qa2 asked then (if qa1 asked zone then yy1 q asked else (noQ,3)) else (noQ,2)
set_option maxHeartbeats 16000000 in
theorem xq6(q:Q)(zone asked:List UInt8):FnOk Tryz.prog 16 [q.V,.d (.str zone),.d (.str asked)] (.tup [(jc6 q zone asked).1.V,.d (.int .i64 (jc6 q zone asked).2)]):=by
 refine qa3 (TT:=TT) (IN:=qd0 []) qd2 qa7 mixed 1000 Tryz.func16 rfl (qb7 Tryz.func16 (by kernel_rfl) rfl) rfl 30 (by kernel_rfl) ?_
 unfold jc6
 conv=>whnf
 refine .one (.data _ (qd8 q.nm) rfl rfl ?_)
 by_cases hz:qa2 q.nm
 case neg =>
  rw[if_neg hz,if_neg (fun h=>hz h.1)]
  conv=>whnf
  refine brT rfl ?_
  conv=>whnf
  repeat(first|(refine brT rfl ?_;conv=>whnf)|(refine brF rfl ?_;conv=>whnf)|(refine .once ?_;conv=>whnf)|(refine⟨by decide,?_⟩;conv=>whnf)|(refine And.intro (Nat.le_of_ble_eq_true rfl) ?_;conv=>whnf))
  repeat'(first|exact ⟨⟩|exact rfl|exact⟨rfl,rfl,.inr rfl,fun _ _=>rfl⟩|exact⟨rfl,rfl,.inl rfl,noI⟩|apply And.intro)
 rw[if_pos hz]
 conv=>whnf
 refine brF rfl ?_
 conv=>whnf
 refine .one (.data _ (qd8 zone) rfl rfl ?_)
 by_cases hn:qa2 zone
 case neg =>
  rw[if_neg hn,if_neg (fun h=>hn h.2.1)]
  conv=>whnf
  refine brT rfl ?_
  conv=>whnf
  repeat(first|(refine brT rfl ?_;conv=>whnf)|(refine brF rfl ?_;conv=>whnf)|(refine .once ?_;conv=>whnf)|(refine⟨by decide,?_⟩;conv=>whnf)|(refine And.intro (Nat.le_of_ble_eq_true rfl) ?_;conv=>whnf))
  repeat'(first|exact ⟨⟩|exact rfl|exact⟨rfl,rfl,.inr rfl,fun _ _=>rfl⟩|exact⟨rfl,rfl,.inl rfl,noI⟩|apply And.intro)
 rw[if_pos hn]
 conv=>whnf
 refine brF rfl ?_
 conv=>whnf
 refine .one (.data _ (qd8 asked) rfl rfl ?_)
 by_cases ha:qa2 asked
 case neg =>
  rw[if_neg ha,if_neg (fun h=>ha h.2.2)]
  conv=>whnf
  refine brT rfl ?_
  conv=>whnf
  repeat'(first|exact ⟨⟩|exact rfl|exact⟨rfl,rfl,.inr rfl,fun _ _=>rfl⟩|exact⟨rfl,rfl,.inl rfl,noI⟩|apply And.intro)
 rw[if_pos ha,if_pos ⟨hz,hn,ha⟩]
 conv=>whnf
 refine brF rfl ?_
 conv=>whnf
 refine .one (.data _ (ql3 asked zone) rfl rfl ?_)
 cases qa1 asked zone with
 |false =>
  rw[if_neg (by decide)]
  conv=>whnf
  refine brT rfl ?_
  conv=>whnf
  repeat'(first|exact ⟨⟩|exact rfl|exact⟨rfl,rfl,.inr rfl,fun _ _=>rfl⟩|exact⟨rfl,rfl,.inl rfl,noI⟩|apply And.intro)
 |true =>
  rw[if_pos rfl]
  conv=>whnf
  refine brF rfl ?_
  conv=>whnf
  refine .one (.data _ (xq3 q asked) rfl rfl ?_)
  conv=>whnf
  repeat'(first|exact ⟨⟩|exact rfl|exact⟨rfl,rfl,.inr rfl,fun _ _=>rfl⟩|exact⟨rfl,rfl,.inl rfl,noI⟩|apply And.intro)
theorem zr9{n:List UInt8}(h:qa2 n)(h0:n≠[0]):qa1 n (upN n)=true:=by
 obtain⟨l,hl⟩:=zz3 h h0
 refine within_suf.2 ⟨h,qk9 h h0,?_⟩
 have hf:fl n=fold l :: fl (upN n):=by unfold fl;rw[hl];rfl
 rw[hf]
 exact List.suffix_cons _ _
theorem yg8{n:List UInt8}(hn:qa2 n):∀ k,k<=qa5 n->qa1 n (upK k n)=true
 |0,_=>qt7 hn
 |k+1,hk=>by
  obtain⟨h1,h2⟩:=yl8 hn k (by omega)
  have h0:upK k n≠[0]:=fun e=>by rw [e,qz7] at h2;omega
  rw[zl2]
  exact ql2 (yg8 hn k (by omega)) (zr9 h1 h0)
theorem xi5{q:Q}{zone asked:List UInt8}(hw:qa1 q.nm asked=true)(hz:qa1 asked zone=true) :
 (jc6 q zone asked).2=0/\(jc6 q zone asked).1.cl=q.cl/\qa1 q.nm (jc6 q zone asked).1.nm=true/\qa1 (jc6 q zone asked).1.nm asked=true /\
  ((jc6 q zone asked).1=q\/(qa5 (jc6 q zone asked).1.nm=qa5 asked+1/\(jc6 q zone asked).1.nm≠q.nm)):=by
 obtain⟨hq,ha⟩:=qb9 hw
 obtain⟨_,hzn⟩:=qb9 hz
 unfold jc6 yy1
 rw[if_pos ⟨hq,hzn,ha⟩,if_pos hz,if_pos ⟨hq,ha⟩]
 have hc:=qj9 hw
 have hd:qp7 q.nm asked=(qa5 q.nm:Int) - (qa5 asked:Int):=by unfold qp7;rw[if_pos hw]
 rw[hd,if_neg (by omega)]
 split
 ·exact⟨rfl,rfl,qt7 hq,hw,.inl rfl⟩
 ·rename_i h1
  have hn:yo9 asked q.nm=(upK (((qa5 q.nm:Int) - (qa5 asked:Int)).toNat - 1) q.nm,0):=by
   unfold yo9
   rw[if_pos ⟨ha,hq⟩,hd,if_neg (by omega)]
  rw[hn,if_pos rfl]
  have hk:((qa5 q.nm:Int) - (qa5 asked:Int)).toNat - 1<=qa5 q.nm:=by omega
  obtain⟨u1,u2⟩:=yl8 hq _ hk
  have u3:=yg8 hq _ hk
  generalize hU:upK (((qa5 q.nm:Int) - (qa5 asked:Int)).toNat - 1) q.nm=u at u1 u2 u3
  have hcu:qa5 u=qa5 asked+1:=by omega
  refine⟨rfl,rfl,u3,qy3 (b:=u) hw u3 (by omega),.inr ⟨hcu,fun e=>?_⟩⟩
  have e:u=q.nm:=e
  rw [e] at hcu
  omega
def kd4(f:Fo)(n:List UInt8)(at_:Nat)(asked:List UInt8):Prop:=∃ z,f.zones[at_]? = some z/\qa1 n asked=true/\qa1 asked z.apex=true/\z.cut asked=none
theorem xu4{f:Fo}(hok:f.ok=true){n:List UInt8}(hn:qa2 n):kd4 f n 0 (f.zones.getD 0 default).apex:=by
 obtain⟨⟨h1,h2,_⟩,hz,ho,hr,hh,_⟩:=Fo.parts hok
 have hz0:f.zones[0]? = some (f.zones.getD 0 default):=by rw[List.getD_eq_getElem?_getD,List.getElem?_eq_getElem h1];rfl
 have hzo:=hz _ (List.mem_of_getElem? hz0)
 exact⟨_,hz0,qu3 (Zo.ok_name hzo) hr hn,qt7 (Zo.ok_name hzo),zp6 hzo⟩
theorem xk2{f:Fo}(hok:f.ok=true){n x asked:List UInt8}{at_:Nat}{z:Zo}(hz:f.zones[at_]? = some z)(hx:qa1 n x=true)(hxa:qa1 x asked=true)(ha:qa1 asked z.apex=true)(hc:z.cut asked=none){b:List UInt8}(hb:z.cut x=some b) :
 (qg6 f.zones b=none->jv9 f n=(0,12))/\∀ (j:Nat) (y:Zo),f.zones[j]? = some y->fold y.apex=b->kd4 f n j y.apex/\qa5 asked<qa5 y.apex:=by
 obtain⟨⟨h1,h2,_⟩,hzs,ho,hr,hh,_⟩:=Fo.parts hok
 have hzo:=hzs z (List.mem_of_getElem? hz)
 refine⟨fun hp=>(ys8 hok hz (ql2 hx (ql2 hxa ha)) (zx0 hzo hx hb) hp).1,fun j y hy e=>?_⟩
 obtain⟨⟨c0,k1,k2,k3⟩,_⟩:=qk1 hb
 have hyo:=hzs y (List.mem_of_getElem? hy)
 have hyn:=Zo.ok_name hyo
 have hcn:=(qb9 k3).2
 have hyc:fold y.apex=fold c0:=by rw[e,k2]
 refine⟨⟨y,hy,qe7 hyn hyc (ql2 hx k3),qt7 hyn,zp6 hyo⟩,?_⟩
 rw[jg5 hyn hcn hyc]
 apply Classical.byContradiction
 intro hle
 have hw:=qy3 k3 hxa (by omega)
 have:=topCut_none.1 hc c0 k1
 rw [this] at hw
 cases hw
structure MnS where
 i:Nat
 at_:Nat
 asked:List UInt8
set_option maxHeartbeats 64000000 in
theorem zd8(f:Fo)(hl:f.Len)(q:Q):FnOk Tryz.prog 4 [f.V,q.V] (.d (.bool true)):=by
 refine qa3 (TT:=TT) (IN:=qd0 []) qd2 qa7 mixed 1000 Tryz.func4 rfl (qb7 Tryz.func4 (by kernel_rfl) rfl) rfl 122 (by kernel_rfl) ?_
 conv=>whnf
 refine .one (.data _ zc4 rfl rfl ?_)
 conv=>whnf
 refine brF rfl ?_
 conv=>whnf
 refine .one (.data _ (yh2 f) rfl rfl ?_)
 cases hs:f.small with
 |false =>
  rw[if_neg (by decide)]
  conv=>whnf
  repeat(first|(refine brT rfl ?_;conv=>whnf)|(refine brF rfl ?_;conv=>whnf)|(refine .once ?_;conv=>whnf)|(refine⟨by decide,?_⟩;conv=>whnf)|(refine And.intro (Nat.le_of_ble_eq_true rfl) ?_;conv=>whnf))
  all_goals exact rfl
 |true =>
 have hf:=Fo.fit_small hs
 rw[if_pos rfl]
 conv=>whnf
 refine brF rfl ?_
 conv=>whnf
 refine .one (.data _ (yz2 f hf hl) rfl rfl ?_)
 cases hok:f.ok with
 |false =>
  rw[if_neg (by decide)]
  conv=>whnf
  repeat(first|(refine brT rfl ?_;conv=>whnf)|(refine brF rfl ?_;conv=>whnf)|(refine .once ?_;conv=>whnf)|(refine⟨by decide,?_⟩;conv=>whnf)|(refine And.intro (Nat.le_of_ble_eq_true rfl) ?_;conv=>whnf))
  all_goals exact rfl
 |true =>
 obtain⟨⟨h1,h2,h3⟩,hz,ho,hr,_,_⟩:=Fo.parts hok
 rw[if_pos rfl]
 conv=>whnf
 refine brF rfl ?_
 conv=>whnf
 refine .one (.data _ (qd8 q.nm) rfl rfl ?_)
 by_cases hn:qa2 q.nm
 case neg =>
  rw[if_neg hn]
  conv=>whnf
  repeat(first|(refine brT rfl ?_;conv=>whnf)|(refine brF rfl ?_;conv=>whnf)|(refine .once ?_;conv=>whnf)|(refine⟨by decide,?_⟩;conv=>whnf)|(refine And.intro (Nat.le_of_ble_eq_true rfl) ?_;conv=>whnf))
  all_goals exact rfl
 rw[if_pos hn]
 conv=>whnf
 refine brF rfl ?_
 conv=>whnf
 refine⟨fun h4=>?_,fun h4=>?_⟩
 ·conv=>whnf
  all_goals exact rfl
 conv=>whnf
 refine .one (.data _ (xr4 f hf hl q.nm) rfl rfl ?_)
 conv=>whnf
 have hrt:=xu4 hok hn
 have hz0:f.zones[0]? = some (f.zones.getD 0 default):=by rw[List.getD_eq_getElem?_getD,List.getElem?_eq_getElem h1];rfl
 refine⟨⟨Int.le_refl 0,by show(0:Int)<(f.zones.length:Int);omega⟩,?_⟩
 conv=>whnf
 obtain⟨Z,hZ⟩:∃ Z,jv9 f q.nm=Z:=⟨_,rfl⟩
 rw[hZ]
 generalize hA0:f.zones.getD 0 default=z0 at hrt hz0
 refine .inv MnS (fun s=>kd4 f q.nm s.at_ s.asked/\s.i<=qa5 s.asked) (fun s=>[(7,iV s.at_),(8,.d (.str s.asked)),(49,iV s.i)]) (fun s=>[]) (fun s=>300 - s.i) ⟨⟨0,0,z0.apex⟩,[0,1],⟨hrt,Nat.zero_le _⟩,?_⟩ ?_
 ·conv=>whnf
  repeat'(first|exact ⟨⟩|exact rfl|exact qa0 _|exact .inr rfl|exact fun _ _=>rfl|exact noI|apply And.intro)
  all_goals first|(rw[<-hA0];exact rfl)
 intro s hs
 obtain⟨hask,hic⟩:=hs
 conv=>whnf
 generalize s.i=i at hic ⊢
 generalize s.at_=at_ at hask ⊢
 generalize s.asked=asked at hask hic ⊢
 have hca:=@qv1 asked
 refine⟨fun g1=>?_,fun g1=>?_⟩
 case refine_2 =>
  have g1:¬ (i:Int)<300:=of_decide_eq_false g1
  omega
 have hw1:IntKind.i64.wrap ((i:Int)+1)=((i+1:Nat):Int):=by rw[qa4 _ (by omega)];omega
 obtain⟨z,hza,hw,hwz,hcut⟩:=hask
 have hlt:at_<f.zones.length:=(List.getElem?_eq_some_iff.1 hza).1
 have hzd:f.zones.getD at_ default=z:=by rw[List.getD_eq_getElem?_getD,hza];rfl
 have hzm:=List.mem_of_getElem? hza
 have hzf:=hf z hzm
 have hzo:=hz z hzm
 have hbnd:(0:Int)<=(at_:Int)/\(at_:Int)<(f.zones.length:Int):=⟨by omega,by omega⟩
 have hmd:=xq6 ⟨q.nm,q.ty,1⟩ z.apex asked
 obtain⟨d1,d2,d3,d4,d5⟩:=xi5 (q:=⟨q.nm,q.ty,1⟩) hw hwz
 generalize jc6 ⟨q.nm,q.ty,1⟩ z.apex asked=X at hmd d1 d2 d3 d4 d5
 obtain⟨x,e⟩:=X
 rw [<-hzd] at hmd
 conv=>whnf
 apply Exists.intro
 apply Exists.intro
 refine⟨?_,?_⟩
 ·conv=>whnf
  repeat'(first|exact ⟨⟩|exact⟨rfl,rfl⟩|exact hbnd|refine .data _ hmd rfl rfl ?_|apply And.intro|(conv=>whnf))
 have d1:e=0:=d1
 subst d1
 have d2:x.cl=1:=d2
 have d3:qa1 q.nm x.nm=true:=d3
 have d4:qa1 x.nm asked=true:=d4
 have d5:x=⟨q.nm,q.ty,1⟩\/(qa5 x.nm=qa5 asked+1/\x.nm≠q.nm):=d5
 have hxn:=(qb9 d3).2
 have hxw:=ql2 d4 hwz
 have hkr:=zh1 (z:=z) (q:=x) hxn d2 hzo hxw
 have hcc:=@yc9 z x hxn d2 hzo hxw
 rw [show qp8 (ansF z (msg1 x)) x z.apex=ql7 z x from rfl] at hcc
 have hko:=xg0 (z:=z) (q:=x) hxn d2 hzo hxw
 have hsa:=xb2 z hzf.2 x
 generalize ql7 z x=K at hkr hko hcc
 conv=>whnf
 refine brF rfl ?_
 conv=>whnf
 refine⟨hbnd,?_⟩
 conv=>whnf
 rw[Int.toNat_natCast,hzd]
 refine .data _ hsa rfl rfl ?_
 conv=>whnf
 refine⟨hbnd,?_⟩
 conv=>whnf
 rw[Int.toNat_natCast,hzd]
 refine .data _ hko rfl rfl ?_
 conv=>whnf
 refine⟨fun g2=>?_,fun g2=>?_⟩
 ·have g2:K.kind=5:=by simpa using g2
  obtain⟨b,hb⟩:∃ b,z.cut x.nm=some b:=Option.ne_none_iff_exists'.1 (hkr.1 g2)
  obtain⟨_,_,c3,c4,_⟩:=hcc hb
  obtain⟨r1,r2⟩:=xk2 hok hza d3 d4 hwz hcut hb
  have hne:=zn5 hok c4
  rw [c3] at hne
  conv=>whnf
  refine .inv Nat (fun j=>j<=f.zones.length) (fun j=>[(12,.d (.int .i64 (jp3 f.zones K.target j))),(88,iV j)]) (fun j=>[]) (fun j=>f.zones.length - j) ⟨0,[0,1,2,3],Nat.zero_le _,?_⟩ ?_
  ·conv=>whnf
   repeat'(first|exact ⟨⟩|exact rfl|exact qa0 _|exact .inr rfl|exact fun _ _=>rfl|exact noI|apply And.intro)
  intro j hj
  conv=>whnf
  refine⟨fun g3=>?_,fun g3=>?_⟩
  ·have g3:j<f.zones.length:=by
    have h:(j:Int)<f.zones.length:=of_decide_eq_true g3
    omega
   have hw2:IntKind.i64.wrap ((j:Int)+1)=((j+1:Nat):Int):=by rw[qa4 _ (by omega)];omega
   obtain⟨y,hyd⟩:∃ y,f.zones.getD j default=y:=⟨_,rfl⟩
   have hnx:jp3 f.zones K.target (j+1)=if ql1 y.apex K.target=true then (j:Int) else jp3 f.zones K.target j:=by rw[<-hyd];rfl
   conv=>whnf
   refine⟨by omega,?_⟩
   conv=>whnf
   rw[Int.toNat_natCast,hyd]
   refine .one (.data _ (jg0 y.apex K.target) rfl rfl ?_)
   cases hsm:ql1 y.apex K.target with
   |false =>
    rw [hsm,if_neg (by decide)] at hnx
    conv=>whnf
    refine brF rfl ?_
    conv=>whnf
    rw[hw2]
    refine⟨j+1,[0,1,2,3],g3,by omega,?_⟩
    rw[hnx]
    conv=>whnf
    repeat'(first|exact ⟨⟩|exact rfl|exact qa0 _|exact .inr rfl|exact fun _ _=>rfl|exact noI|apply And.intro)
   |true =>
    rw [hsm,if_pos rfl] at hnx
    conv=>whnf
    refine brT rfl ?_
    conv=>whnf
    rw[hw2]
    refine⟨j+1,[0,1,2,3],g3,by omega,?_⟩
    rw[hnx]
    conv=>whnf
    repeat'(first|exact ⟨⟩|exact rfl|exact qa0 _|exact .inr rfl|exact fun _ _=>rfl|exact noI|apply And.intro)
  ·have g3:j=f.zones.length:=by
    have h:¬ (j:Int)<f.zones.length:=of_decide_eq_false g3
    omega
   subst g3
   rcases hne with⟨e1,e2⟩|⟨m,y,e1,e2,e3⟩
   ·have hZ2:=r1 e2
    rw [hZ] at hZ2
    subst hZ2
    rw[e1]
    conv=>whnf
    refine brT rfl ?_
    conv=>whnf
    all_goals exact rfl
   ·obtain⟨r3,r4⟩:=r2 m y e2 e3
    have hml:m<f.zones.length:=(List.getElem?_eq_some_iff.1 e2).1
    have hyd:f.zones.getD m default=y:=by rw[List.getD_eq_getElem?_getD,e2];rfl
    rw[e1]
    conv=>whnf
    refine brF (decide_eq_false (by omega)) ?_
    conv=>whnf
    refine⟨⟨by omega,by omega⟩,?_⟩
    conv=>whnf
    rw[hw1,Int.toNat_natCast,hyd]
    refine⟨⟨i+1,m,y.apex⟩,[0,1],⟨r3,by show i+1<=qa5 y.apex;omega⟩,by show 300 - (i+1)<300 - i;omega,?_⟩
    conv=>whnf
    repeat'(first|exact ⟨⟩|exact rfl|exact qa0 _|exact .inr rfl|exact fun _ _=>rfl|exact noI|apply And.intro)
 ·have g2:¬ K.kind=5:=by simpa using g2
  have hnc:z.cut x.nm=none:=Classical.not_not.1 fun h=>g2 (hkr.2 h)
  conv=>whnf
  have hq:(x.nm == q.nm && (x.ty == q.ty && (x.cl == 1 && true)))=true↔x=⟨q.nm,q.ty,1⟩:=by
   obtain⟨xn,xt,xc⟩:=x
   simp only[Bool.and_eq_true,beq_iff_eq,Bool.and_true,Q.mk.injEq]
  refine⟨fun g3=>?_,fun g3=>?_⟩
  ·have g3:x=⟨q.nm,q.ty,1⟩:=hq.1 g3
   have e3:x.nm=q.nm:=by rw[g3]
   obtain⟨hz1,_⟩:=zy5 hok hza (show qa1 q.nm z.apex=true by rw[<-e3];exact hxw) (by rw[<-e3];exact hnc)
   rw [hZ] at hz1
   subst hz1
   conv=>whnf
   refine brT rfl ?_
   conv=>whnf
   rw[show((at_:Int) == (at_:Int))=true from beq_self_eq_true _]
   all_goals exact rfl
  ·have g3:¬ x=⟨q.nm,q.ty,1⟩:=fun h=>by rw [hq.2 h] at g3;cases g3
   obtain⟨e3,_⟩:=d5.resolve_left g3
   conv=>whnf
   rw[hw1]
   refine⟨⟨i+1,at_,x.nm⟩,[0,1],⟨⟨z,hza,d3,hxw,hnc⟩,by show i+1<=qa5 x.nm;omega⟩,by show 300 - (i+1)<300 - i;omega,?_⟩
   conv=>whnf
   repeat'(first|exact ⟨⟩|exact rfl|exact qa0 _|exact .inr rfl|exact fun _ _=>rfl|exact noI|apply And.intro)
end Go.Proofs.YtnfoihdifohkeaaGreat
