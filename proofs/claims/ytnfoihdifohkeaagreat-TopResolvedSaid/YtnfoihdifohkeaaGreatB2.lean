/-
  Part of the proof: lemmas about the functions that the row calls, and about the steps of a run. Conditions: those ahead of each lemma.
-/
import Derived.Test.YtnfoihdifohkeaaGreatB1
import Derived.Test.YtnfoihdifohkeaaGreatM4
import Derived.Test.YtnfoihdifohkeaaGreatM1
set_option linter.unusedVariables false
set_option linter.unusedSimpArgs false
set_option maxRecDepth 100000
namespace Go.Proofs.YtnfoihdifohkeaaGreat
open Go Go.Eng
def zcel(L:List (List UInt8))(x:Nat):List DV:=plW (L.getD x default)
def qs2(L:List (List UInt8))(n:Nat)(z:Z)(p:Nat->Nat):KB:=.row 201 2 n z (fun i=>zcel L (p i))
def zltC(c:Nat->Nat->Int)(x y:Nat):Bool:=decide (c x y<0)
theorem jj9 L (q:Nat->Nat) (j y:Nat):oneF j 0 (zcel L y) (fun i=>zcel L (q i))=fun i=>zcel L (upd q j y i):=by
 funext i
 unfold oneF upd
 split
 ·rfl
 ·rfl
theorem zk7{α:Type}(q:Nat->α)(j k:Nat)(h:j<k):upd (upd q j (q k)) k (q j)=swp q j k 1:=by
 funext x;unfold upd swp;(try dsimp only);repeat' split
 all_goals first|rfl|(exfalso;omega)|(congr 1;omega)
theorem ys7(L:List (List UInt8))(q:Nat->Nat)(j k:Nat)(h:j<k):oneF k 0 (zcel L (q j)) (oneF j 0 (zcel L (q k)) (fun x=>zcel L (q x)))=fun x=>zcel L (swp q j k 1 x):=by
 rw[jj9,jj9,zk7 q j k h]
theorem yg2(L:List (List UInt8))(q:Nat->Nat)(j k:Nat)(h:j<k):oneF j 0 (zcel L (q k)) (oneF k 0 (zcel L (q j)) (fun x=>zcel L (q x)))=fun x=>zcel L (swp q j k 1 x):=by
 rw[jj9,jj9,<-zk7 q j k h]
 funext x;unfold upd;repeat' split
 all_goals first|rfl|omega|(congr 1;omega)
set_option maxHeartbeats 4000000 in
theorem yl1(L:List (List UInt8))(n:Nat)(hn:n<1152921504606846976)(z:Z)(p:Nat->Nat)(a b m:Nat)(ha:a+m<=n)(hb:b+m<=n)(hab:a+m<=b):COk Tryz.prog 164 [.all 0,iV a,iV b,iV m,.any] [qs2 L n z p] (fun s k=>s = .tup []/\k=[qs2 L n z (swp p a b m)]):=by
 refine qc7 (TT:=TT) (IN:=qd0 []) qd2 qa7 mixed 1000 Tryz.func164 rfl (qb7 Tryz.func164 (by kernel_rfl) rfl) 33 (by kernel_rfl) ?_
 conv=>whnf
 refine .inv Nat (fun i=>i<=m) (fun i=>[(10,iV i)]) (fun i=>[(0,qs2 L n z (swp p a b i))]) (fun i=>m - i) ⟨0,[0],by omega,?_⟩ ?_
 ·conv=>whnf
  rw[zl5]
  repeat'(first|exact ⟨⟩|exact rfl|exact qa0 _|exact .inr rfl|exact fun _ _=>rfl|exact noI|apply And.intro)
 intro i hi
 conv=>whnf
 refine⟨fun h1=>?_,fun h1=>?_⟩
 ·have h1:i<m:=by
   have h:(i:Int)<m:=of_decide_eq_true h1
   omega
  have e1:IntKind.i64.wrap ((a:Int)+(i:Int))=((a+i:Nat):Int):=by rw[qa4 _ (by omega)];omega
  have e2:IntKind.i64.wrap ((b:Int)+(i:Int))=((b+i:Nat):Int):=by rw[qa4 _ (by omega)];omega
  conv=>whnf
  refine⟨?_,?_,?_,?_⟩
  rotate_left 2
  ·conv=>whnf
   rw[e1,e2]
   repeat'(first|exact⟨rfl,rfl⟩|(refine⟨⟨by omega,by omega⟩,?_⟩;conv=>whnf)|exact ⟨⟩|apply And.intro|(conv=>whnf))
  ·conv=>whnf
   refine⟨i+1,[0],by omega,by show m - (i+1)<m - i;omega,?_⟩
   have e3:IntKind.i64.wrap ((i:Int)+1)=((i+1:Nat):Int):=by rw[qa4 _ (by omega)];omega
   rw[e3]
   conv=>whnf
   repeat'(first|exact ⟨⟩|exact rfl|exact qa0 _|exact .inr rfl|exact fun _ _=>rfl|exact noI|apply And.intro)
   intro x hx
   rw[e1]
   exact(congrFun (ys7 L (swp p a b i) (a+i) (b+i) (by omega)) x).trans (congrArg (fun f=>zcel L (f x)) (zz8 p a b i (by omega)))
 ·have h1:i=m:=by
   have h:¬ ((i:Int)<m):=of_decide_eq_false h1
   omega
  subst h1
  conv=>whnf
  refine⟨[0],_,_,rfl,rfl,?_,?_,rfl,rfl⟩
  ·exact rfl
  ·conv=>whnf
   repeat'(first|exact ⟨⟩|exact rfl|exact qa0 _|exact .inr rfl|exact fun _ _=>rfl|exact noI|apply And.intro)
set_option maxHeartbeats 4000000 in
theorem zr1(L:List (List UInt8))(n:Nat)(hn:n<1152921504606846976)(z:Z)(p:Nat->Nat)(a m b:Nat)(ha:a<m)(hb:m<b)(hbn:b<=n):COk Tryz.prog 163 [.all 0,iV a,iV m,iV b,.any] [qs2 L n z p] (fun s k=>s = .tup []/\k=[qs2 L n z (rot p a m b)]):=by
 refine qc7 (TT:=TT) (IN:=qd0 []) qd2 qa7 mixed 1000 Tryz.func163 rfl (qb7 Tryz.func163 (by kernel_rfl) rfl) 53 (by kernel_rfl) ?_
 have e1:IntKind.i64.wrap ((m:Int) - (a:Int))=((m - a:Nat):Int):=by rw[qa4 _ (by omega)];omega
 have e2:IntKind.i64.wrap ((b:Int) - (m:Int))=((b - m:Nat):Int):=by rw[qa4 _ (by omega)];omega
 conv=>whnf
 rw[e1,e2]
 refine .inv (Nat × Nat × (Nat->Nat)) (fun s=>0<s.1/\0<s.2.1/\s.1<=m - a/\s.2.1<=b - m/\rot s.2.2 (m - s.1) m (m+s.2.1)=rot p a m b) (fun s=>[(10,iV s.1),(11,iV s.2.1)]) (fun s=>[(0,qs2 L n z s.2.2)]) (fun s=>s.1+s.2.1) ⟨(m - a,b - m,p),[0],show 0<m - a/\0<b - m/\m - a<=m - a/\b - m<=b - m/\rot p (m - (m - a)) m (m+(b - m))=rot p a m b from⟨by omega,by omega,by omega,by omega,?_⟩,?_⟩ ?_
 ·rw[show m - (m - a)=a by omega,show m+(b - m)=b by omega]
 ·conv=>whnf
  repeat'(first|exact ⟨⟩|exact rfl|exact qa0 _|exact .inr rfl|exact fun _ _=>rfl|exact noI|apply And.intro)
 intro s hs
 obtain⟨i,j,q⟩:=s
 obtain⟨h0,h00,him,hjb,hq⟩:=hs
 dsimp only at h0 h00 him hjb hq
 conv=>whnf
 refine⟨fun h1=>?_,fun h1=>?_⟩
 ·have h1:¬ i=j:=fun e=>by subst e;simp at h1
  conv=>whnf
  refine⟨fun h2=>?_,fun h2=>?_⟩
  ·have h2:j<i:=by
    have h:(i:Int) > j:=of_decide_eq_true h2
    omega
   have e3:IntKind.i64.wrap ((m:Int) - (i:Int))=((m - i:Nat):Int):=by rw[qa4 _ (by omega)];omega
   conv=>whnf
   rw[e3]
   refine .rel _ (yl1 L n hn z q (m - i) m j (by omega) (by omega) (by omega)) (fun r ks' hR=>?_)
   obtain⟨rfl,rfl⟩:=hR
   have e4:IntKind.i64.wrap ((i:Int) - (j:Int))=((i - j:Nat):Int):=by rw[qa4 _ (by omega)];omega
   conv=>whnf
   rw[e4]
   refine⟨(i - j,j,swp q (m - i) m j),[0],(show 0<i - j/\0<j/\i - j<=m - a/\j<=b - m/\rot (swp q (m - i) m j) (m - (i - j)) m (m+j)=rot p a m b from⟨by omega,by omega,by omega,by omega,(zm3 q m i j h2 (by omega)).trans hq⟩),by show i - j+j<i+j;omega,?_⟩
   conv=>whnf
   repeat'(first|exact ⟨⟩|exact rfl|exact qa0 _|exact .inr rfl|exact fun _ _=>rfl|exact noI|apply And.intro)
  ·have h2:i<j:=by
    have h:¬ ((i:Int) > j):=of_decide_eq_false h2
    omega
   have e3:IntKind.i64.wrap ((m:Int) - (i:Int))=((m - i:Nat):Int):=by rw[qa4 _ (by omega)];omega
   have e5:IntKind.i64.wrap (IntKind.i64.wrap ((m:Int)+(j:Int)) - (i:Int))=((m+j - i:Nat):Int):=by rw[qa4 ((m:Int)+j) (by omega),qa4 _ (by omega)];omega
   conv=>whnf
   rw[e3,e5]
   refine .rel _ (yl1 L n hn z q (m - i) (m+j - i) i (by omega) (by omega) (by omega)) (fun r ks' hR=>?_)
   obtain⟨rfl,rfl⟩:=hR
   have e4:IntKind.i64.wrap ((j:Int) - (i:Int))=((j - i:Nat):Int):=by rw[qa4 _ (by omega)];omega
   conv=>whnf
   rw[e4]
   refine⟨(i,j - i,swp q (m - i) (m+j - i) i),[0],(show 0<i/\0<j - i/\i<=m - a/\j - i<=b - m/\rot (swp q (m - i) (m+j - i) i) (m - i) m (m+(j - i))=rot p a m b from⟨by omega,by omega,by omega,by omega,(yv2 q m i j h2 (by omega)).trans hq⟩),by show i+(j - i)<i+j;omega,?_⟩
   conv=>whnf
   repeat'(first|exact ⟨⟩|exact rfl|exact qa0 _|exact .inr rfl|exact fun _ _=>rfl|exact noI|apply And.intro)
 ·have h1:i=j:=by simp at h1;omega
  subst h1
  have e3:IntKind.i64.wrap ((m:Int) - (i:Int))=((m - i:Nat):Int):=by rw[qa4 _ (by omega)];omega
  conv=>whnf
  rw[e3]
  refine .rel _ (yl1 L n hn z q (m - i) m i (by omega) (by omega) (by omega)) (fun r ks' hR=>?_)
  obtain⟨rfl,rfl⟩:=hR
  rw[zm2 q m i (by omega),hq]
  conv=>whnf
  refine⟨[0],_,_,rfl,rfl,?_,?_,rfl,rfl⟩
  ·exact rfl
  ·conv=>whnf
   repeat'(first|exact ⟨⟩|exact rfl|exact qa0 _|exact .inr rfl|exact fun _ _=>rfl|exact noI|apply And.intro)
set_option maxHeartbeats 4000000 in
theorem zy6(L:List (List UInt8))(n:Nat)(hn:n<1152921504606846976)(z:Z)(p:Nat->Nat)(hw:Weak n (zltC (cmpZ L)))(hp:Inj n p)(a b:Nat)(hab:a<=b)(hb:b<=n)(hasc:∀ i j,a<=i->i<j->j<b->p i<p j):COk Tryz.prog 159 [.all 0,iV a,iV b,.fn 131 []] [qs2 L n z p] (fun s k=>s = .tup []/\∃ r,Merged (L:=LL (zltC (cmpZ L))) p r n a b/\k=[qs2 L n z r]):=by
 refine qc7 (TT:=TT) (IN:=qd0 []) qd2 qa7 mixed 1000 Tryz.func159 rfl (qb7 Tryz.func159 (by kernel_rfl) rfl) 49 (by kernel_rfl) ?_
 have e1:IntKind.i64.wrap ((a:Int)+1)=((a+1:Nat):Int):=by rw[qa4 _ (by omega)];omega
 conv=>whnf
 rw[e1]
 refine .inv (Nat × (Nat->Nat)) (fun s=>a+1<=s.1/\(s.1<=b\/(s.1=a+1/\s.2=p))/\Merged (L:=LL (zltC (cmpZ L))) p s.2 n a s.1) (fun s=>[(8,iV s.1)]) (fun s=>[(0,qs2 L n z s.2)]) (fun s=>n+1 - s.1) ⟨(a+1,p),[0],show a+1<=a+1/\(a+1<=b\/(a+1=a+1/\p=p))/\Merged (L:=LL (zltC (cmpZ L))) p p n a (a+1) from⟨by omega,.inr ⟨rfl,rfl⟩,.stay hp (fun i j _ _ _=>by omega)⟩,?_⟩ ?_
 ·conv=>whnf
  repeat'(first|exact ⟨⟩|exact rfl|exact qa0 _|exact .inr rfl|exact fun _ _=>rfl|exact noI|apply And.intro)
 intro s hs
 obtain⟨i,q⟩:=s
 obtain⟨hai,hib,hm⟩:=hs
 have hai:a+1<=i:=hai
 have hib:i<=b\/(i=a+1/\q=p):=hib
 have hm:Merged (L:=LL (zltC (cmpZ L))) p q n a i:=hm
 conv=>whnf
 refine⟨fun h1=>?_,fun h1=>?_⟩
 ·have h1:i<b:=by
   have h:(i:Int)<b:=of_decide_eq_true h1
   omega
  have asc:∀ t,a<=t->t<i->q t<q i:=fun t h3 h4=>by
   obtain⟨t',b1,b2,b3⟩:=hm.same.fwd t h3 h4
   rw[b3,hm.same.out i (by omega)]
   exact hasc t' i b1 b2 h1
  have next:∀ j,a<=j->j<=i->(j=a\/LL (zltC (cmpZ L)) (q (j - 1)) (q i))->(j=i\/LL (zltC (cmpZ L)) (q i) (q j))->Merged (L:=LL (zltC (cmpZ L))) p (rot q j i (i+1)) n a (i+1):=fun j h3 h4 h5 h6=>by
   have:=yq9 hw.ord hm.inj (show i<n by omega) h3 h4 hm.rise h5 h6
   exact⟨this.inj,(hm.same.wide (Nat.le_refl _) (by omega)).trans this.same,this.rise⟩
  have e6:IntKind.i64.wrap ((i:Int)+1)=((i+1:Nat):Int):=by rw[qa4 _ (by omega)];omega
  conv=>whnf
  refine .inv Nat (fun j=>a<=j/\j<=i/\(j=i\/LL (zltC (cmpZ L)) (q i) (q j))) (fun j=>[(9,iV j)]) (fun j=>[(0,qs2 L n z (rot q j i (i+1)))]) (fun j=>j) ⟨i,[0],⟨by omega,by omega,.inl rfl⟩,?_⟩ ?_
  ·conv=>whnf
   rw[jo9 q i (i+1) (by omega)]
   repeat'(first|exact ⟨⟩|exact rfl|exact qa0 _|exact .inr rfl|exact fun _ _=>rfl|exact noI|apply And.intro)
  intro j hj
  obtain⟨haj,hji,hjL⟩:=hj
  conv=>whnf
  refine⟨fun h2=>?_,fun h2=>?_⟩
  ·have h2:a<j:=by
    have h:(j:Int) > a:=of_decide_eq_true h2
    omega
   have e2:IntKind.i64.wrap ((j:Int) - 1)=((j - 1:Nat):Int):=by rw[qa4 _ (by omega)];omega
   have e3:rot q j i (i+1) j=q i:=by rw[xb6 q (by omega) (by omega)];congr 1;omega
   have e4:rot q j i (i+1) (j - 1)=q (j - 1):=yv3 q (by omega) (by omega) (by omega)
   conv=>whnf
   refine⟨by omega,?_⟩
   conv=>whnf
   rw[e2]
   refine⟨by omega,?_⟩
   conv=>whnf
   rw[Int.toNat_natCast,Int.toNat_natCast,e3,e4]
   refine .data _ (yl2 _ _) rfl rfl ?_
   conv=>whnf
   refine⟨fun h3=>?_,fun h3=>?_⟩
   ·have h3:zltC (cmpZ L) (q i) (q (j - 1))=true:=h3
    conv=>whnf
    refine⟨?_,?_,?_,?_⟩
    rotate_left 2
    ·conv=>whnf
     rw[e2]
     repeat'(first|exact⟨rfl,rfl⟩|(refine⟨⟨by omega,by omega⟩,?_⟩;conv=>whnf)|exact ⟨⟩|apply And.intro|(conv=>whnf))
    ·conv=>whnf
     rw[e2]
     refine⟨j - 1,[0],⟨by omega,by omega,.inr (.inl h3)⟩,by omega,?_⟩
     conv=>whnf
     repeat'(first|exact ⟨⟩|exact rfl|exact qa0 _|exact .inr rfl|exact fun _ _=>rfl|exact noI|apply And.intro)
     intro x hx
     rw[Int.toNat_natCast,Int.toNat_natCast]
     have:=yg2 L (rot q j i (i+1)) (j - 1) j (by omega)
     have e5:=ju2 q i (j - 1) (by omega)
     rw [show j - 1+1=j by omega] at e5
     exact(congrFun this x).trans (congrArg (fun f=>zcel L (f x)) e5)
   ·have h3:zltC (cmpZ L) (q i) (q (j - 1))=false:=h3
    have hL:LL (zltC (cmpZ L)) (q (j - 1)) (q i):=.inr ⟨h3,asc (j - 1) (by omega) (by omega)⟩
    conv=>whnf
    refine⟨(i+1,rot q j i (i+1)),[0],(show a+1<=i+1/\(i+1<=b\/(i+1=a+1/\rot q j i (i+1)=p))/\Merged (L:=LL (zltC (cmpZ L))) p (rot q j i (i+1)) n a (i+1) from⟨by omega,.inl (by omega),next j haj hji (.inr hL) hjL⟩),by show n+1 - (i+1)<n+1 - i;omega,?_⟩
    conv=>whnf
    rw[e6]
    repeat'(first|exact ⟨⟩|exact rfl|exact qa0 _|exact .inr rfl|exact fun _ _=>rfl|exact noI|apply And.intro)
  ·have h2:j=a:=by
    have h:¬ ((j:Int) > a):=of_decide_eq_false h2
    omega
   conv=>whnf
   refine⟨(i+1,rot q j i (i+1)),[0],(show a+1<=i+1/\(i+1<=b\/(i+1=a+1/\rot q j i (i+1)=p))/\Merged (L:=LL (zltC (cmpZ L))) p (rot q j i (i+1)) n a (i+1) from⟨by omega,.inl (by omega),next j haj hji (.inl h2) hjL⟩),by show n+1 - (i+1)<n+1 - i;omega,?_⟩
   conv=>whnf
   rw[e6]
   repeat'(first|exact ⟨⟩|exact rfl|exact qa0 _|exact .inr rfl|exact fun _ _=>rfl|exact noI|apply And.intro)
 ·have h1:b<=i:=by
   have h:¬ ((i:Int)<b):=of_decide_eq_false h1
   omega
  conv=>whnf
  refine⟨[0],_,_,rfl,rfl,?_,?_,rfl,q,?_,rfl⟩
  ·exact rfl
  ·conv=>whnf
   repeat'(first|exact ⟨⟩|exact rfl|exact qa0 _|exact .inr rfl|exact fun _ _=>rfl|exact noI|apply And.intro)
  ·rcases hib with h|h
   ·have:i=b:=by omega
    rw[<-this];exact hm
   ·rw[h.2]
    exact .stay hp (fun i j _ _ _=>by omega)
theorem xx7(L:List (List UInt8))(n:Nat)(hn:n<1152921504606846976)(z:Z)(p:Nat->Nat)(a m b:Nat)(ha:a<m)(hb:m<b)(hbn:b<=n):COk Tryz.prog 163 [.all 0,iV a,iV m,iV b,.fn 131 []] [qs2 L n z p] (fun s k=>s = .tup []/\k=[qs2 L n z (rot p a m b)]):=by
 refine COk.anyA (COk.frame (zr1 L n hn z p a m b ha hb hbn) [0] («as»:=[.all 0,iV a,iV m,iV b,.any]) rfl rfl rfl (fun s0 k0 h=>?_)) ⟨.inr rfl,.inr rfl,.inr rfl,.inr rfl,.inl rfl,True.intro⟩
 obtain⟨rfl,rfl⟩:=h
 exact⟨rfl,rfl⟩
theorem xm2(i j:Nat)(h:i+j<9223372036854775808):IntKind.i64.wrap ((IntKind.u64.wrap (IntKind.i64.wrap ((i:Int)+(j:Int)))).fdiv (2 ^ (min (Int.toNat 1) IntKind.u64.bits)))=(((i+j) / 2:Nat):Int):=by
 rw[qa4 ((i:Int)+(j:Int)) (by omega),IntKind.wrap_u64]
 rw[show(2:Int) ^ (min (Int.toNat 1) IntKind.u64.bits)=2 from rfl,Int.fdiv_eq_ediv_of_nonneg _ (by omega)]
 rw[qa4 _ (by omega)]
 omega
set_option maxHeartbeats 8000000 in
theorem zy2(L:List (List UInt8))(n:Nat)(hn:n<1152921504606846976)(z:Z)(hw:Weak n (zltC (cmpZ L))):∀ (k:Nat) (p:Nat->Nat) (a m b:Nat),b - a<k->Inj n p->a<m->m<b->b<=n->Rise (LL (zltC (cmpZ L))) p a m->Rise (LL (zltC (cmpZ L))) p m b->Sep p a m b ->
 COk Tryz.prog 160 [.all 0,iV a,iV m,iV b,.fn 131 []] [qs2 L n z p] (fun s k=>s = .tup []/\∃ r,Merged (L:=LL (zltC (cmpZ L))) p r n a b/\k=[qs2 L n z r]):=by
 intro k
 induction k with
 |zero=>intro p a m b h;omega
 |succ k ih =>
 intro p a m b hk hp ham hmb hbn h1 h2 hs
 refine qc7 (TT:=TT) (IN:=qd0 []) qd2 qa7 mixed 1000 Tryz.func160 rfl (qb7 Tryz.func160 (by kernel_rfl) rfl) 215 (by kernel_rfl) ?_
 have e1:IntKind.i64.wrap ((m:Int) - (a:Int))=((m - a:Nat):Int):=by rw[qa4 _ (by omega)];omega
 have e2:IntKind.i64.wrap ((b:Int) - (m:Int))=((b - m:Nat):Int):=by rw[qa4 _ (by omega)];omega
 conv=>whnf
 rw[e1]
 refine⟨fun c1=>?_,fun c1=>?_⟩
 ·have c1:m=a+1:=by simp at c1;omega
  subst c1
  conv=>whnf
  refine .inv (Nat × Nat) (fun s=>a+1<=s.1/\s.1<=s.2/\s.2<=b/\(s.1=a+1\/LL (zltC (cmpZ L)) (p (s.1 - 1)) (p a))/\(s.2=b\/LL (zltC (cmpZ L)) (p a) (p s.2))) (fun s=>[(10,iV s.1),(11,iV s.2)]) (fun s=>[]) (fun s=>s.2 - s.1) ⟨(a+1,b),[0],⟨show a+1<=a+1 by omega,show a+1<=b by omega,show b<=b by omega,.inl rfl,.inl rfl⟩,?_⟩ ?_
  ·conv=>whnf
   repeat'(first|exact ⟨⟩|exact rfl|exact qa0 _|exact .inr rfl|exact fun _ _=>rfl|exact noI|apply And.intro)
  intro s hs2
  obtain⟨q1,q2,q3,q4,q5⟩:=hs2
  conv=>whnf
  generalize s.1=i at q1 q2 q4 ⊢
  generalize s.2=j at q2 q3 q5 ⊢
  refine⟨fun h3=>?_,fun h3=>?_⟩
  ·have h3:i<j:=by
    have h:(i:Int)<j:=of_decide_eq_true h3
    omega
   conv=>whnf
   refine⟨by omega,?_⟩
   conv=>whnf
   rw[xm2 i j (by omega)]
   have g1:i<=(i+j) / 2:=by omega
   have g2:(i+j) / 2<j:=by omega
   generalize (i+j) / 2=h at g1 g2 ⊢
   refine⟨by omega,?_⟩
   conv=>whnf
   refine⟨by omega,?_⟩
   conv=>whnf
   rw[Int.toNat_natCast,Int.toNat_natCast]
   refine .data _ (yl2 _ _) rfl rfl ?_
   conv=>whnf
   refine⟨fun h4=>?_,fun h4=>?_⟩
   ·have h4:zltC (cmpZ L) (p h) (p a)=true:=h4
    conv=>whnf
    rw[show IntKind.i64.wrap ((h:Int)+1)=((h+1:Nat):Int) by rw[qa4 _ (by omega)];omega]
    refine⟨(h+1,j),[0],⟨show a+1<=h+1 by omega,show h+1<=j by omega,q3,.inr (.inl h4),q5⟩,by show j - (h+1)<j - i;omega,?_⟩
    conv=>whnf
    repeat'(first|exact ⟨⟩|exact rfl|exact qa0 _|exact .inr rfl|exact fun _ _=>rfl|exact noI|apply And.intro)
   ·have h4:zltC (cmpZ L) (p h) (p a)=false:=h4
    conv=>whnf
    refine⟨(i,h),[0],⟨q1,g1,show h<=b by omega,q4,.inr (.inr ⟨h4,hs a h (by omega) (by omega) (by omega) (by omega)⟩)⟩,by show h - i<j - i;omega,?_⟩
    conv=>whnf
    repeat'(first|exact ⟨⟩|exact rfl|exact qa0 _|exact .inr rfl|exact fun _ _=>rfl|exact noI|apply And.intro)
  ·have h3:i=j:=by
    have h:¬ (i:Int)<j:=of_decide_eq_false h3
    omega
   subst h3
   have hfin:=kd7 hw.ord hp hbn q1 q3 h2 q4 q5
   have ei:IntKind.i64.wrap ((i:Int) - 1)=((i - 1:Nat):Int):=by rw[qa4 _ (by omega)];omega
   conv=>whnf
   refine .inv Nat (fun k=>a<=k/\k+1<=i) (fun k=>[(13,iV k)]) (fun k=>[(0,qs2 L n z (rot p a (a+1) (k+1)))]) (fun k=>i - k) ⟨a,[0],⟨by omega,by omega⟩,?_⟩ ?_
   ·conv=>whnf
    rw[yn2 p a (a+1) (by omega)]
    repeat'(first|exact ⟨⟩|exact rfl|exact qa0 _|exact .inr rfl|exact fun _ _=>rfl|exact noI|apply And.intro)
   intro k hk2
   obtain⟨r1,r2⟩:=hk2
   conv=>whnf
   rw[ei]
   refine⟨fun h3=>?_,fun h3=>?_⟩
   ·have h3:k<i - 1:=by
     have h:(k:Int)<((i - 1:Nat):Int):=of_decide_eq_true h3
     omega
    have ek:IntKind.i64.wrap ((k:Int)+1)=((k+1:Nat):Int):=by rw[qa4 _ (by omega)];omega
    conv=>whnf
    refine⟨?_,?_,?_,?_⟩
    rotate_left 2
    ·conv=>whnf
     rw[ek]
     repeat'(first|exact⟨rfl,rfl⟩|(refine⟨⟨by omega,by omega⟩,?_⟩;conv=>whnf)|exact ⟨⟩|apply And.intro|(conv=>whnf))
    ·conv=>whnf
     rw[ek]
     refine⟨k+1,[0],⟨by omega,by omega⟩,by omega,?_⟩
     conv=>whnf
     repeat'(first|exact ⟨⟩|exact rfl|exact qa0 _|exact .inr rfl|exact fun _ _=>rfl|exact noI|apply And.intro)
     intro x hx
     rw[Int.toNat_natCast,Int.toNat_natCast]
     have:=ys7 L (rot p a (a+1) (k+1)) k (k+1) (by omega)
     exact(congrFun this x).trans (congrArg (fun f=>zcel L (f x)) (xw2 p a k (by omega)))
   ·have h3:k+1=i:=by
     have h:¬ (k:Int)<((i - 1:Nat):Int):=of_decide_eq_false h3
     omega
    rw[h3]
    conv=>whnf
    refine⟨[0],_,_,rfl,rfl,?_,?_,rfl,_,hfin,rfl⟩
    ·exact rfl
    ·conv=>whnf
     repeat'(first|exact ⟨⟩|exact rfl|exact qa0 _|exact .inr rfl|exact fun _ _=>rfl|exact noI|apply And.intro)
 have c1:¬ m=a+1:=by simp at c1;omega
 conv=>whnf
 rw[e2]
 refine⟨fun c2=>?_,fun c2=>?_⟩
 ·have c2:b=m+1:=by simp at c2;omega
  subst c2
  conv=>whnf
  refine .inv (Nat × Nat) (fun s=>a<=s.1/\s.1<=s.2/\s.2<=m/\(s.1=a\/LL (zltC (cmpZ L)) (p (s.1 - 1)) (p m))/\(s.2=m\/LL (zltC (cmpZ L)) (p m) (p s.2))) (fun s=>[(14,iV s.1),(15,iV s.2)]) (fun s=>[]) (fun s=>s.2 - s.1) ⟨(a,m),[0],⟨show a<=a by omega,show a<=m by omega,show m<=m by omega,.inl rfl,.inl rfl⟩,?_⟩ ?_
  ·conv=>whnf
   repeat'(first|exact ⟨⟩|exact rfl|exact qa0 _|exact .inr rfl|exact fun _ _=>rfl|exact noI|apply And.intro)
  intro s hs2
  obtain⟨q1,q2,q3,q4,q5⟩:=hs2
  conv=>whnf
  generalize s.1=i at q1 q2 q4 ⊢
  generalize s.2=j at q2 q3 q5 ⊢
  refine⟨fun h3=>?_,fun h3=>?_⟩
  ·have h3:i<j:=by
    have h:(i:Int)<j:=of_decide_eq_true h3
    omega
   conv=>whnf
   refine⟨by omega,?_⟩
   conv=>whnf
   rw[xm2 i j (by omega)]
   have g1:i<=(i+j) / 2:=by omega
   have g2:(i+j) / 2<j:=by omega
   generalize (i+j) / 2=h at g1 g2 ⊢
   refine⟨by omega,?_⟩
   conv=>whnf
   refine⟨by omega,?_⟩
   conv=>whnf
   rw[Int.toNat_natCast,Int.toNat_natCast]
   refine .data _ (yl2 _ _) rfl rfl ?_
   conv=>whnf
   refine⟨fun h4=>?_,fun h4=>?_⟩
   ·have h4:zltC (cmpZ L) (p m) (p h)=false:=(by have h5:(!(zltC (cmpZ L) (p m) (p h)))=true:=h4;simpa using h5)
    conv=>whnf
    rw[show IntKind.i64.wrap ((h:Int)+1)=((h+1:Nat):Int) by rw[qa4 _ (by omega)];omega]
    refine⟨(h+1,j),[0],⟨show a<=h+1 by omega,show h+1<=j by omega,q3,.inr (.inr ⟨h4,hs h m (by omega) (by omega) (by omega) (by omega)⟩),q5⟩,by show j - (h+1)<j - i;omega,?_⟩
    conv=>whnf
    repeat'(first|exact ⟨⟩|exact rfl|exact qa0 _|exact .inr rfl|exact fun _ _=>rfl|exact noI|apply And.intro)
   ·have h4:zltC (cmpZ L) (p m) (p h)=true:=(by have h5:(!(zltC (cmpZ L) (p m) (p h)))=false:=h4;simpa using h5)
    conv=>whnf
    refine⟨(i,h),[0],⟨q1,g1,show h<=m by omega,q4,.inr (.inl h4)⟩,by show h - i<j - i;omega,?_⟩
    conv=>whnf
    repeat'(first|exact ⟨⟩|exact rfl|exact qa0 _|exact .inr rfl|exact fun _ _=>rfl|exact noI|apply And.intro)
  ·have h3:i=j:=by
    have h:¬ (i:Int)<j:=of_decide_eq_false h3
    omega
   subst h3
   have hfin:=yq9 hw.ord hp (show m<n by omega) q1 q3 h1 q4 q5
   conv=>whnf
   refine .inv Nat (fun k=>i<=k/\k<=m) (fun k=>[(17,iV k)]) (fun k=>[(0,qs2 L n z (rot p k m (m+1)))]) (fun k=>k) ⟨m,[0],⟨by omega,by omega⟩,?_⟩ ?_
   ·conv=>whnf
    rw[jo9 p m (m+1) (by omega)]
    repeat'(first|exact ⟨⟩|exact rfl|exact qa0 _|exact .inr rfl|exact fun _ _=>rfl|exact noI|apply And.intro)
   intro k hk2
   obtain⟨r1,r2⟩:=hk2
   conv=>whnf
   refine⟨fun h3=>?_,fun h3=>?_⟩
   ·have h3:i<k:=by
     have h:(k:Int) > (i:Int):=of_decide_eq_true h3
     omega
    have ek:IntKind.i64.wrap ((k:Int) - 1)=((k - 1:Nat):Int):=by rw[qa4 _ (by omega)];omega
    conv=>whnf
    refine⟨?_,?_,?_,?_⟩
    rotate_left 2
    ·conv=>whnf
     rw[ek]
     repeat'(first|exact⟨rfl,rfl⟩|(refine⟨⟨by omega,by omega⟩,?_⟩;conv=>whnf)|exact ⟨⟩|apply And.intro|(conv=>whnf))
    ·conv=>whnf
     rw[ek]
     refine⟨k - 1,[0],⟨by omega,by omega⟩,by omega,?_⟩
     conv=>whnf
     repeat'(first|exact ⟨⟩|exact rfl|exact qa0 _|exact .inr rfl|exact fun _ _=>rfl|exact noI|apply And.intro)
     intro x hx
     rw[Int.toNat_natCast,Int.toNat_natCast]
     have:=yg2 L (rot p k m (m+1)) (k - 1) k (by omega)
     have e5:=ju2 p m (k - 1) (by omega)
     rw [show k - 1+1=k by omega] at e5
     exact(congrFun this x).trans (congrArg (fun f=>zcel L (f x)) e5)
   ·have h3:k=i:=by
     have h:¬ (k:Int) > (i:Int):=of_decide_eq_false h3
     omega
    rw[h3]
    conv=>whnf
    refine⟨[0],_,_,rfl,rfl,?_,?_,rfl,_,hfin,rfl⟩
    ·exact rfl
    ·conv=>whnf
     repeat'(first|exact ⟨⟩|exact rfl|exact qa0 _|exact .inr rfl|exact fun _ _=>rfl|exact noI|apply And.intro)
 have c2:¬ b=m+1:=by simp at c2;omega
 conv=>whnf
 refine⟨by omega,?_⟩
 conv=>whnf
 rw[xm2 a b (by omega)]
 rw[show IntKind.i64.wrap ((((a+b) / 2:Nat):Int)+(m:Int))=(((a+b) / 2+m:Nat):Int) by rw[qa4 _ (by omega)];omega]
 refine⟨fun c3=>?_,fun c3=>?_⟩
 have c3:(a+b) / 2<m:=by
  have h:(m:Int) > (((a+b) / 2:Nat):Int):=of_decide_eq_true c3
  omega
 conv=>whnf
 obtain⟨N,hN⟩:∃ N,N=(a+b) / 2+m:=⟨_,rfl⟩
 rw[<-hN]
 obtain⟨s0,hs0⟩:∃ s0,s0=N - b:=⟨_,rfl⟩
 obtain⟨r0,hr0⟩:∃ r0,r0=(a+b) / 2:=⟨_,rfl⟩
 have f1:s0=a\/N - s0=b:=by omega
 have f2:r0=m\/N - r0=m:=by omega
 have f3:a<=s0/\s0<=r0/\r0<=m/\m<=N - r0/\N - s0<=b:=by omega
 have x1:IntKind.i64.wrap ((N:Int) - (b:Int))=(s0:Int):=by rw[qa4 _ (by omega)];omega
 have x2:IntKind.i64.wrap ((N:Int) - 1)=((N - 1:Nat):Int):=by rw[qa4 _ (by omega)];omega
 rw[x1,x2]
 rotate_left
 have c3:m<=(a+b) / 2:=by
  have h:¬ (m:Int) > (((a+b) / 2:Nat):Int):=of_decide_eq_false c3
  omega
 conv=>whnf
 obtain⟨N,hN⟩:∃ N,N=(a+b) / 2+m:=⟨_,rfl⟩
 rw[<-hN]
 obtain⟨s0,hs0⟩:∃ s0,s0=a:=⟨_,rfl⟩
 obtain⟨r0,hr0⟩:∃ r0,r0=m:=⟨_,rfl⟩
 have f1:s0=a\/N - s0=b:=by omega
 have f2:r0=m\/N - r0=m:=by omega
 have f3:a<=s0/\s0<=r0/\r0<=m/\m<=N - r0/\N - s0<=b:=by omega
 have x2:IntKind.i64.wrap ((N:Int) - 1)=((N - 1:Nat):Int):=by rw[qa4 _ (by omega)];omega
 rw[x2]
 all_goals
  refine .inv (Nat × Nat) (fun s=>s0<=s.1/\s.1<=s.2/\s.2<=r0/\(s.1=s0\/LL (zltC (cmpZ L)) (p (s.1 - 1)) (p (N - s.1)))/\(s.2=r0\/LL (zltC (cmpZ L)) (p (N - 1 - s.2)) (p s.2))) (fun s=>[(20,iV s.1),(21,iV s.2)]) (fun s=>[]) (fun s=>s.2 - s.1) ⟨(s0,r0),[0],⟨show s0<=s0 by omega,show s0<=r0 by omega,show r0<=r0 by omega,.inl rfl,.inl rfl⟩,?_⟩ ?_
  ·subst hr0
   subst hs0
   conv=>whnf
   repeat'(first|exact ⟨⟩|exact rfl|exact qa0 _|exact .inr rfl|exact fun _ _=>rfl|exact noI|apply And.intro)
  intro st hst
  obtain⟨q1,q2,q3,q4,q5⟩:=hst
  conv=>whnf
  generalize st.1=s at q1 q2 q4 ⊢
  generalize st.2=j at q2 q3 q5 ⊢
  refine⟨fun h3=>?_,fun h3=>?_⟩
  ·have h3:s<j:=by
    have h:(s:Int)<j:=of_decide_eq_true h3
    omega
   conv=>whnf
   refine⟨by omega,?_⟩
   conv=>whnf
   rw[xm2 s j (by omega)]
   have g1:s<=(s+j) / 2:=by omega
   have g2:(s+j) / 2<j:=by omega
   generalize (s+j) / 2=h at g1 g2 ⊢
   rw[show IntKind.i64.wrap (((N - 1:Nat):Int) - (h:Int))=((N - 1 - h:Nat):Int) by rw[qa4 _ (by omega)];omega]
   refine⟨by omega,?_⟩
   conv=>whnf
   refine⟨by omega,?_⟩
   conv=>whnf
   rw[Int.toNat_natCast,Int.toNat_natCast]
   refine .data _ (yl2 _ _) rfl rfl ?_
   conv=>whnf
   refine⟨fun h4=>?_,fun h4=>?_⟩
   ·have h4:zltC (cmpZ L) (p (N - 1 - h)) (p h)=false:=(by have h5:(!(zltC (cmpZ L) (p (N - 1 - h)) (p h)))=true:=h4;simpa using h5)
    conv=>whnf
    rw[show IntKind.i64.wrap ((h:Int)+1)=((h+1:Nat):Int) by rw[qa4 _ (by omega)];omega]
    refine⟨(h+1,j),[0],⟨show s0<=h+1 by omega,show h+1<=j by omega,q3,.inr (?_:LL (zltC (cmpZ L)) (p (h+1 - 1)) (p (N - (h+1)))),q5⟩,by show j - (h+1)<j - s;omega,?_⟩
    ·rw[show h+1 - 1=h by omega,show N - (h+1)=N - 1 - h by omega]
     exact .inr ⟨h4,hs h (N - 1 - h) (by omega) (by omega) (by omega) (by omega)⟩
    conv=>whnf
    repeat'(first|exact ⟨⟩|exact rfl|exact qa0 _|exact .inr rfl|exact fun _ _=>rfl|exact noI|apply And.intro)
   ·have h4:zltC (cmpZ L) (p (N - 1 - h)) (p h)=true:=(by have h5:(!(zltC (cmpZ L) (p (N - 1 - h)) (p h)))=false:=h4;simpa using h5)
    conv=>whnf
    refine⟨(s,h),[0],⟨q1,g1,show h<=r0 by omega,q4,.inr (.inl h4)⟩,by show h - s<j - s;omega,?_⟩
    conv=>whnf
    repeat'(first|exact ⟨⟩|exact rfl|exact qa0 _|exact .inr rfl|exact fun _ _=>rfl|exact noI|apply And.intro)
  have h3:s=j:=by
   have h:¬ (s:Int)<j:=of_decide_eq_false h3
   omega
  subst h3
  have hc:Cut (L:=LL (zltC (cmpZ L))) p a m b s (N - s):=xx5 hw.ord hp hbn h1 h2 (by omega) (by omega) (by omega) (by omega)
   (by
    rcases q4 with x|x
    ·rcases f1 with y|y
     ·exact .inl (by omega)
     ·exact .inr (.inl (by omega))
    ·exact .inr (.inr x))
   (by
    rcases q5 with x|x
    ·rcases f2 with y|y
     ·exact .inl (by omega)
     ·exact .inr (.inl (by omega))
    ·exact .inr (.inr (by rw[show N - s - 1=N - 1 - s by omega];exact x)))
  have hmid:(a+b) / 2=s+(N - s - m):=by omega
  have cl:=zp7 h1 h2 hs hc hmid
  have cr:=zb6 h1 h2 hs hc hmid
  have hrot:Inj n (rot p s m (N - s)):=hp.rot (by omega) (by omega) (by omega)
  have ee:IntKind.i64.wrap ((N:Int) - (s:Int))=((N - s:Nat):Int):=by rw[qa4 _ (by omega)];omega
  conv=>whnf
  rw[ee]
  by_cases k1:s<m/\m<N - s
  refine brT (decide_eq_true (by omega)) ?_
  conv=>whnf
  refine brT (decide_eq_true (by omega)) ?_
  conv=>whnf
  refine .rel _ (xx7 L n hn z p s m (N - s) k1.1 k1.2 (by omega)) (fun r ks' hR=>?_)
  obtain⟨rfl,rfl⟩:=hR
  conv=>whnf
  rotate_left
  have eq:rot p s m (N - s)=p:=by
   rcases Nat.lt_or_ge s m with x|x
   ·rw[show N - s=m by omega];exact yn2 p s m (by omega)
   ·rw[show s=m by omega];exact jo9 p m _ (by omega)
  rw[show qs2 L n z p=qs2 L n z (rot p s m (N - s)) by rw[eq]]
  by_cases k0:s<m
  refine brT (decide_eq_true (by omega)) ?_
  conv=>whnf
  refine brF (decide_eq_false (by omega)) ?_
  conv=>whnf
  rotate_left
  refine brF (decide_eq_false (by omega)) ?_
  conv=>whnf
  all_goals
   by_cases k2:a<s/\s<(a+b) / 2
   refine brT (decide_eq_true (by omega)) ?_
   conv=>whnf
   refine brT (decide_eq_true (by omega)) ?_
   conv=>whnf
   refine .rel _ (ih (rot p s m (N - s)) a s ((a+b) / 2) (by omega) hrot k2.1 k2.2 (by omega) cl.1 cl.2.1 cl.2.2) (fun r ks' hR=>?_)
   obtain⟨rfl,r1,hr1,rfl⟩:=hR
   have hfin:∀ r2,Merged (L:=LL (zltC (cmpZ L))) r1 r2 n ((a+b) / 2) b->Merged (L:=LL (zltC (cmpZ L))) p r2 n a b:=fun r2 h=>jl8 h1 h2 hc hmid hr1 h
   conv=>whnf
   rotate_left
   obtain⟨r1,hr1,er⟩:∃ r1,Merged (L:=LL (zltC (cmpZ L))) (rot p s m (N - s)) r1 n a ((a+b) / 2)/\r1=rot p s m (N - s):=⟨_,.stay hrot (by
    rcases Nat.lt_or_ge a s with x|x
    ·exact cl.1.sub (Nat.le_refl _) (by omega)
    ·exact cl.2.1.sub (by omega) (Nat.le_refl _)),rfl⟩
   have hfin:∀ r2,Merged (L:=LL (zltC (cmpZ L))) r1 r2 n ((a+b) / 2) b->Merged (L:=LL (zltC (cmpZ L))) p r2 n a b:=fun r2 h=>jl8 h1 h2 hc hmid hr1 h
   rw[<-er]
   clear er
   by_cases k0:a<s
   refine brT (decide_eq_true (by omega)) ?_
   conv=>whnf
   refine brF (decide_eq_false (by omega)) ?_
   conv=>whnf
   rotate_left
   refine brF (decide_eq_false (by omega)) ?_
   conv=>whnf
   all_goals
    by_cases k3:(a+b) / 2<N - s/\N - s<b
    refine brT (decide_eq_true (by omega)) ?_
    conv=>whnf
    refine brT (decide_eq_true (by omega)) ?_
    conv=>whnf
    refine .rel _ (ih r1 ((a+b) / 2) (N - s) b (by omega) hr1.inj k3.1 k3.2 hbn (cr.1.congr fun i x1 x2=>hr1.same.out i (by omega)) (cr.2.1.congr fun i x1 x2=>hr1.same.out i (by omega)) (cr.2.2.congr fun i x1 x2=>hr1.same.out i (by omega))) (fun r ks' hR=>?_)
    obtain⟨rfl,r2,hr2,rfl⟩:=hR
    conv=>whnf
    rotate_left
    have hr2:Merged (L:=LL (zltC (cmpZ L))) r1 r1 n ((a+b) / 2) b:=.stay hr1.inj (by
     rcases Nat.lt_or_ge ((a+b) / 2) (N - s) with x|x
     ·exact(cr.1.congr fun i x1 x2=>hr1.same.out i (by omega)).sub (Nat.le_refl _) (by omega)
     ·exact(cr.2.1.congr fun i x1 x2=>hr1.same.out i (by omega)).sub (by omega) (Nat.le_refl _))
    by_cases k0:(a+b) / 2<N - s
    refine brT (decide_eq_true (by omega)) ?_
    conv=>whnf
    refine brF (decide_eq_false (by omega)) ?_
    conv=>whnf
    rotate_left
    refine brF (decide_eq_false (by omega)) ?_
    conv=>whnf
    all_goals
     refine⟨[0],_,_,rfl,rfl,?_,?_,rfl,_,hfin _ hr2,rfl⟩
     ·exact rfl
     ·conv=>whnf
      repeat'(first|exact ⟨⟩|exact rfl|exact qa0 _|exact .inr rfl|exact fun _ _=>rfl|exact noI|apply And.intro)
set_option maxHeartbeats 8000000 in
theorem zr0(L:List (List UInt8))(n:Nat)(hn:n<1152921504606846976)(z:Z)(hw:Weak n (zltC (cmpZ L))) :
 COk Tryz.prog 152 [.all 0,iV n,.fn 131 []] [qs2 L n z id] (fun s k=>s = .tup []/\∃ r,Inj n r/\Rise (LL (zltC (cmpZ L))) r 0 n/\k=[qs2 L n z r]):=by
 refine qc7 (TT:=TT) (IN:=qd0 []) qd2 qa7 mixed 1000 Tryz.func152 rfl (qb7 Tryz.func152 (by kernel_rfl) rfl) 60 (by kernel_rfl) ?_
 conv=>whnf
 refine .inv (Nat × (Nat->Nat)) (fun s=>s.1 * 20<=n/\Fst (LL (zltC (cmpZ L))) 20 n s.1 s.2) (fun s=>[(6,iV 20),(7,iV (s.1 * 20)),(8,iV (s.1 * 20+20))]) (fun s=>[(0,qs2 L n z s.2)]) (fun s=>n - s.1 * 20) ⟨(0,id),[0],⟨by show 0 * 20<=n;omega,Fst.zero 20 n⟩,?_⟩ ?_
 ·conv=>whnf
  repeat'(first|exact ⟨⟩|exact rfl|exact qa0 _|exact .inr rfl|exact fun _ _=>rfl|exact noI|apply And.intro)
 intro s hs
 obtain⟨h1,h2⟩:=hs
 conv=>whnf
 generalize s.1=q at h1 h2 ⊢
 generalize s.2=p at h2 ⊢
 refine⟨fun h3=>?_,fun h3=>?_⟩
 ·have h3:q * 20+20<=n:=by
   have h:((q * 20+20:Nat):Int)<=n:=of_decide_eq_true h3
   omega
  conv=>whnf
  refine .rel _ (zy6 L n hn z p hw h2.inj (q * 20) (q * 20+20) (by omega) h3 (fun i j x1 x2 x3=>by rw[h2.rest i x1,h2.rest j (by omega)];exact x2)) (fun r ks' hR=>?_)
  obtain⟨rfl,r,hr,rfl⟩:=hR
  have e1:IntKind.i64.wrap (((q * 20+20:Nat):Int)+((20:Nat):Int))=(((q+1) * 20+20:Nat):Int):=by rw[qa4 _ (by omega)];omega
  have e2:q * 20+20=(q+1) * 20:=by omega
  conv=>whnf
  rw[e1,e2]
  refine⟨(q+1,r),[0],⟨by show(q+1) * 20<=n;omega,h2.next h3 (by omega) (.inr rfl) hr⟩,by show n - (q+1) * 20<n - q * 20;omega,?_⟩
  conv=>whnf
  repeat'(first|exact ⟨⟩|exact rfl|exact qa0 _|exact .inr rfl|exact fun _ _=>rfl|exact noI|apply And.intro)
 ·have h3:n<q * 20+20:=by
   have h:¬ ((q * 20+20:Nat):Int)<=n:=of_decide_eq_false h3
   omega
  conv=>whnf
  refine .rel _ (zy6 L n hn z p hw h2.inj (q * 20) n h1 (Nat.le_refl _) (fun i j x1 x2 x3=>by rw[h2.rest i x1,h2.rest j (by omega)];exact x2)) (fun r ks' hR=>?_)
  obtain⟨rfl,r,hr,rfl⟩:=hR
  have h4:=h2.next (Nat.le_refl _) (by omega) (.inl rfl) hr
  conv=>whnf
  refine .inv (Nat × (Nat->Nat)) (fun s=>0<s.1/\s.1<=20+2 * n/\Inj n s.2/\Lc s.1 0 n s.2/\Rs (LL (zltC (cmpZ L))) s.1 0 n s.2) (fun s=>[(6,iV s.1)]) (fun s=>[(0,qs2 L n z s.2)]) (fun s=>n - s.1) ⟨(20,r),[0],⟨show 0<20 by omega,show 20<=20+2 * n by omega,h4.inj,h4.loc,?_⟩,?_⟩ ?_
  ·have:=h4.done
   rw [show min ((q+1) * 20) n=n by omega] at this
   exact this
  ·conv=>whnf
   repeat'(first|exact ⟨⟩|exact rfl|exact qa0 _|exact .inr rfl|exact fun _ _=>rfl|exact noI|apply And.intro)
  clear h1 h2 h3 h4 hr
  intro s hs
  obtain⟨h1,h2,h3,h4,h5⟩:=hs
  conv=>whnf
  generalize s.1=k at h1 h2 h4 h5 ⊢
  generalize s.2=p at h3 h4 h5 ⊢
  refine⟨fun h6=>?_,fun h6=>?_⟩
  ·have h6:k<n:=by
    have h:(k:Int)<n:=of_decide_eq_true h6
    omega
   have e1:IntKind.i64.wrap (2 * (k:Int))=((2 * k:Nat):Int):=by rw[qa4 _ (by omega)];omega
   conv=>whnf
   rw[e1]
   refine .inv (Nat × (Nat->Nat)) (fun s=>s.1<=n/\∃ q,s.1=q * (2 * k)/\Mg (LL (zltC (cmpZ L))) k n q s.2) (fun s=>[(7,iV s.1),(8,iV (s.1+2 * k))]) (fun s=>[(0,qs2 L n z s.2)]) (fun s=>n - s.1) ⟨(0,p),[0],⟨Nat.zero_le _,0,(Nat.zero_mul _).symm,Mg.begin h3 h4 h5⟩,?_⟩ ?_
   ·conv=>whnf
    rw[Nat.zero_add]
    repeat'(first|exact ⟨⟩|exact rfl|exact qa0 _|exact .inr rfl|exact fun _ _=>rfl|exact noI|apply And.intro)
   intro s hs
   obtain⟨g1,q,g2,g3⟩:=hs
   conv=>whnf
   generalize s.1=a at g1 g2 ⊢
   generalize s.2=p at g3 ⊢
   refine⟨fun h7=>?_,fun h7=>?_⟩
   ·have h7:a+2 * k<=n:=by
     have h:((a+2 * k:Nat):Int)<=n:=of_decide_eq_true h7
     omega
    have e2:IntKind.i64.wrap ((a:Int)+(k:Int))=((a+k:Nat):Int):=by rw[qa4 _ (by omega)];omega
    have e3:IntKind.i64.wrap (((a+2 * k:Nat):Int)+((2 * k:Nat):Int))=((a+2 * k+2 * k:Nat):Int):=by rw[qa4 _ (by omega)];omega
    conv=>whnf
    rw[e2]
    refine .rel _ (zy2 L n hn z hw (2 * k+1) p a (a+k) (a+2 * k) (by omega) g3.inj (by omega) (by omega) h7 (by rw[g2];exact g3.left (by omega)) (by rw[g2];exact g3.right (by omega) (by omega)) (by rw[g2];exact g3.sep (by omega) (by omega))) (fun r ks' hR=>?_)
    obtain⟨rfl,r,hr,rfl⟩:=hR
    have hn2:Mg (LL (zltC (cmpZ L))) k n (q+1) r:=g3.next h1 h7 (by omega) (by omega) (by omega) (by rw[<-g2];exact hr)
    conv=>whnf
    rw[e1,e3]
    refine⟨(a+2 * k,r),[0],⟨h7,q+1,by show a+2 * k=(q+1) * (2 * k);rw[Nat.succ_mul q (2 * k),<-g2],hn2⟩,by show n - (a+2 * k)<n - a;omega,?_⟩
    conv=>whnf
    repeat'(first|exact ⟨⟩|exact rfl|exact qa0 _|exact .inr rfl|exact fun _ _=>rfl|exact noI|apply And.intro)
   ·have h7:n<a+2 * k:=by
     have h:¬ ((a+2 * k:Nat):Int)<=n:=of_decide_eq_false h7
     omega
    have e2:IntKind.i64.wrap ((a:Int)+(k:Int))=((a+k:Nat):Int):=by rw[qa4 _ (by omega)];omega
    have e4:IntKind.i64.wrap ((k:Int) * 2)=((2 * k:Nat):Int):=by rw[qa4 _ (by omega)];omega
    conv=>whnf
    rw[e2]
    refine⟨fun h8=>?_,fun h8=>?_⟩
    ·have h8:a+k<n:=by
      have h:((a+k:Nat):Int)<n:=of_decide_eq_true h8
      omega
     conv=>whnf
     refine .rel _ (zy2 L n hn z hw (2 * k+1) p a (a+k) n (by omega) g3.inj (by omega) h8 (Nat.le_refl _) (by rw[g2];exact g3.left (by omega)) (by rw[g2];exact g3.right (Nat.le_refl _) (by omega)) (by rw[g2];exact g3.sep (Nat.le_refl _) (by omega))) (fun r ks' hR=>?_)
     obtain⟨rfl,r,hr,rfl⟩:=hR
     have hn2:Mg (LL (zltC (cmpZ L))) k n (q+1) r:=g3.next h1 (Nat.le_refl _) (by omega) (by omega) (by omega) (by rw[<-g2];exact hr)
     have ho:=hn2.over h1 (by rw[Nat.succ_mul,<-g2];omega)
     conv=>whnf
     rw[e4]
     refine⟨(2 * k,r),[0],⟨show 0<2 * k by omega,show 2 * k<=20+2 * n by omega,hn2.inj,ho.1,ho.2⟩,by show n - 2 * k<n - k;omega,?_⟩
     conv=>whnf
     repeat'(first|exact ⟨⟩|exact rfl|exact qa0 _|exact .inr rfl|exact fun _ _=>rfl|exact noI|apply And.intro)
    ·have h8:n<=a+k:=by
      have h:¬ ((a+k:Nat):Int)<n:=of_decide_eq_false h8
      omega
     have ho:=g3.over h1 (by rw[<-g2];exact h8)
     conv=>whnf
     rw[e4]
     refine⟨(2 * k,p),[0],⟨show 0<2 * k by omega,show 2 * k<=20+2 * n by omega,g3.inj,ho.1,ho.2⟩,by show n - 2 * k<n - k;omega,?_⟩
     conv=>whnf
     repeat'(first|exact ⟨⟩|exact rfl|exact qa0 _|exact .inr rfl|exact fun _ _=>rfl|exact noI|apply And.intro)
  ·have h6:n<=k:=by
    have h:¬ (k:Int)<n:=of_decide_eq_false h6
    omega
   conv=>whnf
   refine⟨[0],_,_,rfl,rfl,?_,?_,rfl,p,h3,h5.all h6,rfl⟩
   ·exact rfl
   ·conv=>whnf
    repeat'(first|exact ⟨⟩|exact rfl|exact qa0 _|exact .inr rfl|exact fun _ _=>rfl|exact noI|apply And.intro)
set_option maxHeartbeats 8000000 in
theorem xm0(L:List (List UInt8))(n:Nat)(hn:n<1152921504606846976)(z:Z)(hw:Weak n (zltC (cmpZ L))) :
 COk Tryz.prog 130 [.all 0,.fn 131 []] [qs2 L n z id] (fun s k=>s = .tup []/\∃ r,Inj n r/\Rise (LL (zltC (cmpZ L))) r 0 n/\k=[qs2 L n z r]):=by
 refine qc7 (TT:=TT) (IN:=qd0 []) qd2 qa7 mixed 1000 Tryz.func130 rfl (qb7 Tryz.func130 (by kernel_rfl) rfl) 7 (by kernel_rfl) ?_
 conv=>whnf
 refine .rel _ (zr0 L n hn z hw) (fun r ks' hR=>?_)
 obtain⟨rfl,r,hr,h2,rfl⟩:=hR
 conv=>whnf
 refine⟨[0],_,_,rfl,rfl,?_,?_,rfl,r,hr,h2,rfl⟩
 ·exact rfl
 ·conv=>whnf
  repeat'(first|exact ⟨⟩|exact rfl|exact qa0 _|exact .inr rfl|exact fun _ _=>rfl|exact noI|apply And.intro)
def cCap:List SV:=[.ptr 1 0]
def ju0(nf:Nat)(zf:Z)(fo:Nat->List DV):List KB:=[.cells 45 [.all 2],.row 9 1 nf zf fo]
def ltC(c:Nat->Nat->Int)(x y:Nat):Bool:=decide (c x y<0)
def xl9(g:FuncId)(c:Nat->Nat->Int)(n:Nat)(z:Z)(nf:Nat)(zf:Z)(fo:Nat->List DV):Prop :=
 ∀ (q:Nat->Nat) (x y:Nat),x<n->y<n->COk Tryz.prog g (iV x :: iV y :: cCap) (rowP n z q :: ju0 nf zf fo) (fun s k=>s = .d (.int .i64 (c x y))/\k=rowP n z q :: ju0 nf zf fo)
set_option maxHeartbeats 4000000 in
theorem xx0(n:Nat)(hn:n<1152921504606846976)(z:Z)(p:Nat->Nat)(c:Nat->Nat->Int)(g:FuncId)(nf:Nat)(zf:Z)(fo:Nat->List DV)(hg:xl9 g c n z nf zf fo)(hw:Weak n (ltC c))(hp:Inj n p)(a b:Nat)(hab:a<=b)(hb:b<=n)(hasc:∀ i j,a<=i->i<j->j<b->p i<p j):COk Tryz.prog 144 [.all 0,iV a,iV b,.fn g cCap] (rowP n z p :: ju0 nf zf fo) (fun s k=>s = .tup []/\∃ r,Merged (L:=LL (ltC c)) p r n a b/\k=rowP n z r :: ju0 nf zf fo):=by
 refine qc7 (TT:=TT) (IN:=qd0 []) qd2 qa7 mixed 1000 Tryz.func144 rfl (qb7 Tryz.func144 (by kernel_rfl) rfl) 49 (by kernel_rfl) ?_
 have e1:IntKind.i64.wrap ((a:Int)+1)=((a+1:Nat):Int):=by rw[qa4 _ (by omega)];omega
 conv=>whnf
 rw[e1]
 refine .inv (Nat × (Nat->Nat)) (fun s=>a+1<=s.1/\(s.1<=b\/(s.1=a+1/\s.2=p))/\Merged (L:=LL (ltC c)) p s.2 n a s.1) (fun s=>[(8,iV s.1)]) (fun s=>[(0,rowP n z s.2)]) (fun s=>n+1 - s.1) ⟨(a+1,p),[0,1,2],show a+1<=a+1/\(a+1<=b\/(a+1=a+1/\p=p))/\Merged (L:=LL (ltC c)) p p n a (a+1) from⟨by omega,.inr ⟨rfl,rfl⟩,.stay hp (fun i j _ _ _=>by omega)⟩,?_⟩ ?_
 ·conv=>whnf
  repeat'(first|exact ⟨⟩|exact rfl|exact qa0 _|exact .inr rfl|exact fun _ _=>rfl|exact noI|apply And.intro)
 intro s hs
 obtain⟨i,q⟩:=s
 obtain⟨hai,hib,hm⟩:=hs
 have hai:a+1<=i:=hai
 have hib:i<=b\/(i=a+1/\q=p):=hib
 have hm:Merged (L:=LL (ltC c)) p q n a i:=hm
 conv=>whnf
 refine⟨fun h1=>?_,fun h1=>?_⟩
 ·have h1:i<b:=by
   have h:(i:Int)<b:=of_decide_eq_true h1
   omega
  have asc:∀ t,a<=t->t<i->q t<q i:=fun t h3 h4=>by
   obtain⟨t',b1,b2,b3⟩:=hm.same.fwd t h3 h4
   rw[b3,hm.same.out i (by omega)]
   exact hasc t' i b1 b2 h1
  have next:∀ j,a<=j->j<=i->(j=a\/LL (ltC c) (q (j - 1)) (q i))->(j=i\/LL (ltC c) (q i) (q j))->Merged (L:=LL (ltC c)) p (rot q j i (i+1)) n a (i+1):=fun j h3 h4 h5 h6=>by
   have:=yq9 hw.ord hm.inj (show i<n by omega) h3 h4 hm.rise h5 h6
   exact⟨this.inj,(hm.same.wide (Nat.le_refl _) (by omega)).trans this.same,this.rise⟩
  have e6:IntKind.i64.wrap ((i:Int)+1)=((i+1:Nat):Int):=by rw[qa4 _ (by omega)];omega
  conv=>whnf
  refine .inv Nat (fun j=>a<=j/\j<=i/\(j=i\/LL (ltC c) (q i) (q j))) (fun j=>[(9,iV j)]) (fun j=>[(0,rowP n z (rot q j i (i+1)))]) (fun j=>j) ⟨i,[0,1,2],⟨by omega,by omega,.inl rfl⟩,?_⟩ ?_
  ·conv=>whnf
   rw[jo9 q i (i+1) (by omega)]
   repeat'(first|exact ⟨⟩|exact rfl|exact qa0 _|exact .inr rfl|exact fun _ _=>rfl|exact noI|apply And.intro)
  intro j hj
  obtain⟨haj,hji,hjL⟩:=hj
  conv=>whnf
  refine⟨fun h2=>?_,fun h2=>?_⟩
  ·have h2:a<j:=by
    have h:(j:Int) > a:=of_decide_eq_true h2
    omega
   have e2:IntKind.i64.wrap ((j:Int) - 1)=((j - 1:Nat):Int):=by rw[qa4 _ (by omega)];omega
   have e3:rot q j i (i+1) j=q i:=by rw[xb6 q (by omega) (by omega)];congr 1;omega
   have e4:rot q j i (i+1) (j - 1)=q (j - 1):=yv3 q (by omega) (by omega) (by omega)
   conv=>whnf
   refine⟨by omega,?_⟩
   conv=>whnf
   rw[e2]
   refine⟨by omega,?_⟩
   conv=>whnf
   rw[Int.toNat_natCast,Int.toNat_natCast,e3,e4]
   refine .mem _ _ (hg _ _ _ (hm.inj.lt i (by omega)) (hm.inj.lt (j - 1) (by omega))) ?_
   conv=>whnf
   refine⟨fun h3=>?_,fun h3=>?_⟩
   ·have h3:ltC c (q i) (q (j - 1))=true:=h3
    conv=>whnf
    refine⟨?_,?_,?_,?_⟩
    rotate_left 2
    ·conv=>whnf
     rw[e2]
     repeat'(first|exact⟨rfl,rfl⟩|(refine⟨⟨by omega,by omega⟩,?_⟩;conv=>whnf)|exact ⟨⟩|apply And.intro|(conv=>whnf))
    ·conv=>whnf
     rw[e2]
     refine⟨j - 1,[0,1,2],⟨by omega,by omega,.inr (.inl h3)⟩,by omega,?_⟩
     conv=>whnf
     repeat'(first|exact ⟨⟩|exact rfl|exact qa0 _|exact .inr rfl|exact fun _ _=>rfl|exact noI|apply And.intro)
     intro x hx
     rw[Int.toNat_natCast,Int.toNat_natCast]
     have:=yw2 (rot q j i (i+1)) (j - 1) j (by omega)
     have e5:=ju2 q i (j - 1) (by omega)
     rw [show j - 1+1=j by omega] at e5
     exact(congrFun this x).trans (congrArg (fun f=>cel (f x)) e5)
   ·have h3:ltC c (q i) (q (j - 1))=false:=h3
    have hL:LL (ltC c) (q (j - 1)) (q i):=.inr ⟨h3,asc (j - 1) (by omega) (by omega)⟩
    conv=>whnf
    refine⟨(i+1,rot q j i (i+1)),[0,1,2],(show a+1<=i+1/\(i+1<=b\/(i+1=a+1/\rot q j i (i+1)=p))/\Merged (L:=LL (ltC c)) p (rot q j i (i+1)) n a (i+1) from⟨by omega,.inl (by omega),next j haj hji (.inr hL) hjL⟩),by show n+1 - (i+1)<n+1 - i;omega,?_⟩
    conv=>whnf
    rw[e6]
    repeat'(first|exact ⟨⟩|exact rfl|exact qa0 _|exact .inr rfl|exact fun _ _=>rfl|exact noI|apply And.intro)
  ·have h2:j=a:=by
    have h:¬ ((j:Int) > a):=of_decide_eq_false h2
    omega
   conv=>whnf
   refine⟨(i+1,rot q j i (i+1)),[0,1,2],(show a+1<=i+1/\(i+1<=b\/(i+1=a+1/\rot q j i (i+1)=p))/\Merged (L:=LL (ltC c)) p (rot q j i (i+1)) n a (i+1) from⟨by omega,.inl (by omega),next j haj hji (.inl h2) hjL⟩),by show n+1 - (i+1)<n+1 - i;omega,?_⟩
   conv=>whnf
   rw[e6]
   repeat'(first|exact ⟨⟩|exact rfl|exact qa0 _|exact .inr rfl|exact fun _ _=>rfl|exact noI|apply And.intro)
 ·have h1:b<=i:=by
   have h:¬ ((i:Int)<b):=of_decide_eq_false h1
   omega
  conv=>whnf
  refine⟨[0,1,2],_,_,rfl,rfl,?_,?_,rfl,q,?_,rfl⟩
  ·exact rfl
  ·conv=>whnf
   repeat'(first|exact ⟨⟩|exact rfl|exact qa0 _|exact .inr rfl|exact fun _ _=>rfl|exact noI|apply And.intro)
  ·rcases hib with h|h
   ·have:i=b:=by omega
    rw[<-this];exact hm
   ·rw[h.2]
    exact .stay hp (fun i j _ _ _=>by omega)
theorem ke7(n:Nat)(hn:n<1152921504606846976)(z:Z)(p:Nat->Nat)(a m b:Nat)(ha:a<m)(hb:m<b)(hbn:b<=n)(g:FuncId)(nf:Nat)(zf:Z)(fo:Nat->List DV):COk Tryz.prog 157 [.all 0,iV a,iV m,iV b,.fn g cCap] (rowP n z p :: ju0 nf zf fo) (fun s k=>s = .tup []/\k=rowP n z (rot p a m b) :: ju0 nf zf fo):=by
 refine COk.anyA (COk.frame (xb5 n hn z p a m b ha hb hbn) [0] («as»:=[.all 0,iV a,iV m,iV b,.any]) rfl rfl rfl (fun s0 k0 h=>?_)) ⟨.inr rfl,.inr rfl,.inr rfl,.inr rfl,.inl rfl,True.intro⟩
 obtain⟨rfl,rfl⟩:=h
 exact⟨rfl,rfl⟩
theorem half(i j:Nat)(h:i+j<9223372036854775808):IntKind.i64.wrap ((IntKind.u64.wrap (IntKind.i64.wrap ((i:Int)+(j:Int)))).fdiv (2 ^ (min (Int.toNat 1) IntKind.u64.bits)))=(((i+j) / 2:Nat):Int):=by
 rw[qa4 ((i:Int)+(j:Int)) (by omega),IntKind.wrap_u64]
 rw[show(2:Int) ^ (min (Int.toNat 1) IntKind.u64.bits)=2 from rfl,Int.fdiv_eq_ediv_of_nonneg _ (by omega)]
 rw[qa4 _ (by omega)]
 omega
set_option maxHeartbeats 8000000 in
theorem xw0(n:Nat)(hn:n<1152921504606846976)(z:Z)(c:Nat->Nat->Int)(g:FuncId)(nf:Nat)(zf:Z)(fo:Nat->List DV)(hg:xl9 g c n z nf zf fo)(hw:Weak n (ltC c)):∀ (k:Nat) (p:Nat->Nat) (a m b:Nat),b - a<k->Inj n p->a<m->m<b->b<=n->Rise (LL (ltC c)) p a m->Rise (LL (ltC c)) p m b->Sep p a m b ->
 COk Tryz.prog 145 [.all 0,iV a,iV m,iV b,.fn g cCap] (rowP n z p :: ju0 nf zf fo) (fun s k=>s = .tup []/\∃ r,Merged (L:=LL (ltC c)) p r n a b/\k=rowP n z r :: ju0 nf zf fo):=by
 intro k
 induction k with
 |zero=>intro p a m b h;omega
 |succ k ih =>
 intro p a m b hk hp ham hmb hbn h1 h2 hs
 refine qc7 (TT:=TT) (IN:=qd0 []) qd2 qa7 mixed 1000 Tryz.func145 rfl (qb7 Tryz.func145 (by kernel_rfl) rfl) 215 (by kernel_rfl) ?_
 have e1:IntKind.i64.wrap ((m:Int) - (a:Int))=((m - a:Nat):Int):=by rw[qa4 _ (by omega)];omega
 have e2:IntKind.i64.wrap ((b:Int) - (m:Int))=((b - m:Nat):Int):=by rw[qa4 _ (by omega)];omega
 conv=>whnf
 rw[e1]
 refine⟨fun c1=>?_,fun c1=>?_⟩
 ·have c1:m=a+1:=by simp at c1;omega
  subst c1
  conv=>whnf
  refine .inv (Nat × Nat) (fun s=>a+1<=s.1/\s.1<=s.2/\s.2<=b/\(s.1=a+1\/LL (ltC c) (p (s.1 - 1)) (p a))/\(s.2=b\/LL (ltC c) (p a) (p s.2))) (fun s=>[(10,iV s.1),(11,iV s.2)]) (fun s=>[]) (fun s=>s.2 - s.1) ⟨(a+1,b),[0,1,2],⟨show a+1<=a+1 by omega,show a+1<=b by omega,show b<=b by omega,.inl rfl,.inl rfl⟩,?_⟩ ?_
  ·conv=>whnf
   repeat'(first|exact ⟨⟩|exact rfl|exact qa0 _|exact .inr rfl|exact fun _ _=>rfl|exact noI|apply And.intro)
  intro s hs2
  obtain⟨q1,q2,q3,q4,q5⟩:=hs2
  conv=>whnf
  generalize s.1=i at q1 q2 q4 ⊢
  generalize s.2=j at q2 q3 q5 ⊢
  refine⟨fun h3=>?_,fun h3=>?_⟩
  ·have h3:i<j:=by
    have h:(i:Int)<j:=of_decide_eq_true h3
    omega
   conv=>whnf
   refine⟨by omega,?_⟩
   conv=>whnf
   rw[half i j (by omega)]
   have g1:i<=(i+j) / 2:=by omega
   have g2:(i+j) / 2<j:=by omega
   generalize (i+j) / 2=h at g1 g2 ⊢
   refine⟨by omega,?_⟩
   conv=>whnf
   refine⟨by omega,?_⟩
   conv=>whnf
   rw[Int.toNat_natCast,Int.toNat_natCast]
   refine .mem _ _ (hg _ _ _ (hp.lt h (by omega)) (hp.lt a (by omega))) ?_
   conv=>whnf
   refine⟨fun h4=>?_,fun h4=>?_⟩
   ·have h4:ltC c (p h) (p a)=true:=h4
    conv=>whnf
    rw[show IntKind.i64.wrap ((h:Int)+1)=((h+1:Nat):Int) by rw[qa4 _ (by omega)];omega]
    refine⟨(h+1,j),[0,1,2],⟨show a+1<=h+1 by omega,show h+1<=j by omega,q3,.inr (.inl h4),q5⟩,by show j - (h+1)<j - i;omega,?_⟩
    conv=>whnf
    repeat'(first|exact ⟨⟩|exact rfl|exact qa0 _|exact .inr rfl|exact fun _ _=>rfl|exact noI|apply And.intro)
   ·have h4:ltC c (p h) (p a)=false:=h4
    conv=>whnf
    refine⟨(i,h),[0,1,2],⟨q1,g1,show h<=b by omega,q4,.inr (.inr ⟨h4,hs a h (by omega) (by omega) (by omega) (by omega)⟩)⟩,by show h - i<j - i;omega,?_⟩
    conv=>whnf
    repeat'(first|exact ⟨⟩|exact rfl|exact qa0 _|exact .inr rfl|exact fun _ _=>rfl|exact noI|apply And.intro)
  ·have h3:i=j:=by
    have h:¬ (i:Int)<j:=of_decide_eq_false h3
    omega
   subst h3
   have hfin:=kd7 hw.ord hp hbn q1 q3 h2 q4 q5
   have ei:IntKind.i64.wrap ((i:Int) - 1)=((i - 1:Nat):Int):=by rw[qa4 _ (by omega)];omega
   conv=>whnf
   refine .inv Nat (fun k=>a<=k/\k+1<=i) (fun k=>[(13,iV k)]) (fun k=>[(0,rowP n z (rot p a (a+1) (k+1)))]) (fun k=>i - k) ⟨a,[0,1,2],⟨by omega,by omega⟩,?_⟩ ?_
   ·conv=>whnf
    rw[yn2 p a (a+1) (by omega)]
    repeat'(first|exact ⟨⟩|exact rfl|exact qa0 _|exact .inr rfl|exact fun _ _=>rfl|exact noI|apply And.intro)
   intro k hk2
   obtain⟨r1,r2⟩:=hk2
   conv=>whnf
   rw[ei]
   refine⟨fun h3=>?_,fun h3=>?_⟩
   ·have h3:k<i - 1:=by
     have h:(k:Int)<((i - 1:Nat):Int):=of_decide_eq_true h3
     omega
    have ek:IntKind.i64.wrap ((k:Int)+1)=((k+1:Nat):Int):=by rw[qa4 _ (by omega)];omega
    conv=>whnf
    refine⟨?_,?_,?_,?_⟩
    rotate_left 2
    ·conv=>whnf
     rw[ek]
     repeat'(first|exact⟨rfl,rfl⟩|(refine⟨⟨by omega,by omega⟩,?_⟩;conv=>whnf)|exact ⟨⟩|apply And.intro|(conv=>whnf))
    ·conv=>whnf
     rw[ek]
     refine⟨k+1,[0,1,2],⟨by omega,by omega⟩,by omega,?_⟩
     conv=>whnf
     repeat'(first|exact ⟨⟩|exact rfl|exact qa0 _|exact .inr rfl|exact fun _ _=>rfl|exact noI|apply And.intro)
     intro x hx
     rw[Int.toNat_natCast,Int.toNat_natCast]
     have:=zm8 (rot p a (a+1) (k+1)) k (k+1) (by omega)
     exact(congrFun this x).trans (congrArg (fun f=>cel (f x)) (xw2 p a k (by omega)))
   ·have h3:k+1=i:=by
     have h:¬ (k:Int)<((i - 1:Nat):Int):=of_decide_eq_false h3
     omega
    rw[h3]
    conv=>whnf
    refine⟨[0,1,2],_,_,rfl,rfl,?_,?_,rfl,_,hfin,rfl⟩
    ·exact rfl
    ·conv=>whnf
     repeat'(first|exact ⟨⟩|exact rfl|exact qa0 _|exact .inr rfl|exact fun _ _=>rfl|exact noI|apply And.intro)
 have c1:¬ m=a+1:=by simp at c1;omega
 conv=>whnf
 rw[e2]
 refine⟨fun c2=>?_,fun c2=>?_⟩
 ·have c2:b=m+1:=by simp at c2;omega
  subst c2
  conv=>whnf
  refine .inv (Nat × Nat) (fun s=>a<=s.1/\s.1<=s.2/\s.2<=m/\(s.1=a\/LL (ltC c) (p (s.1 - 1)) (p m))/\(s.2=m\/LL (ltC c) (p m) (p s.2))) (fun s=>[(14,iV s.1),(15,iV s.2)]) (fun s=>[]) (fun s=>s.2 - s.1) ⟨(a,m),[0,1,2],⟨show a<=a by omega,show a<=m by omega,show m<=m by omega,.inl rfl,.inl rfl⟩,?_⟩ ?_
  ·conv=>whnf
   repeat'(first|exact ⟨⟩|exact rfl|exact qa0 _|exact .inr rfl|exact fun _ _=>rfl|exact noI|apply And.intro)
  intro s hs2
  obtain⟨q1,q2,q3,q4,q5⟩:=hs2
  conv=>whnf
  generalize s.1=i at q1 q2 q4 ⊢
  generalize s.2=j at q2 q3 q5 ⊢
  refine⟨fun h3=>?_,fun h3=>?_⟩
  ·have h3:i<j:=by
    have h:(i:Int)<j:=of_decide_eq_true h3
    omega
   conv=>whnf
   refine⟨by omega,?_⟩
   conv=>whnf
   rw[half i j (by omega)]
   have g1:i<=(i+j) / 2:=by omega
   have g2:(i+j) / 2<j:=by omega
   generalize (i+j) / 2=h at g1 g2 ⊢
   refine⟨by omega,?_⟩
   conv=>whnf
   refine⟨by omega,?_⟩
   conv=>whnf
   rw[Int.toNat_natCast,Int.toNat_natCast]
   refine .mem _ _ (hg _ _ _ (hp.lt m (by omega)) (hp.lt h (by omega))) ?_
   conv=>whnf
   refine⟨fun h4=>?_,fun h4=>?_⟩
   ·have h4:ltC c (p m) (p h)=false:=by
     have h5:(!(ltC c (p m) (p h)))=true:=h4
     simpa using h5
    conv=>whnf
    rw[show IntKind.i64.wrap ((h:Int)+1)=((h+1:Nat):Int) by rw[qa4 _ (by omega)];omega]
    refine⟨(h+1,j),[0,1,2],⟨show a<=h+1 by omega,show h+1<=j by omega,q3,.inr (.inr ⟨h4,hs h m (by omega) (by omega) (by omega) (by omega)⟩),q5⟩,by show j - (h+1)<j - i;omega,?_⟩
    conv=>whnf
    repeat'(first|exact ⟨⟩|exact rfl|exact qa0 _|exact .inr rfl|exact fun _ _=>rfl|exact noI|apply And.intro)
   ·have h4:ltC c (p m) (p h)=true:=by
     have h5:(!(ltC c (p m) (p h)))=false:=h4
     simpa using h5
    conv=>whnf
    refine⟨(i,h),[0,1,2],⟨q1,g1,show h<=m by omega,q4,.inr (.inl h4)⟩,by show h - i<j - i;omega,?_⟩
    conv=>whnf
    repeat'(first|exact ⟨⟩|exact rfl|exact qa0 _|exact .inr rfl|exact fun _ _=>rfl|exact noI|apply And.intro)
  ·have h3:i=j:=by
    have h:¬ (i:Int)<j:=of_decide_eq_false h3
    omega
   subst h3
   have hfin:=yq9 hw.ord hp (show m<n by omega) q1 q3 h1 q4 q5
   conv=>whnf
   refine .inv Nat (fun k=>i<=k/\k<=m) (fun k=>[(17,iV k)]) (fun k=>[(0,rowP n z (rot p k m (m+1)))]) (fun k=>k) ⟨m,[0,1,2],⟨by omega,by omega⟩,?_⟩ ?_
   ·conv=>whnf
    rw[jo9 p m (m+1) (by omega)]
    repeat'(first|exact ⟨⟩|exact rfl|exact qa0 _|exact .inr rfl|exact fun _ _=>rfl|exact noI|apply And.intro)
   intro k hk2
   obtain⟨r1,r2⟩:=hk2
   conv=>whnf
   refine⟨fun h3=>?_,fun h3=>?_⟩
   ·have h3:i<k:=by
     have h:(k:Int) > (i:Int):=of_decide_eq_true h3
     omega
    have ek:IntKind.i64.wrap ((k:Int) - 1)=((k - 1:Nat):Int):=by rw[qa4 _ (by omega)];omega
    conv=>whnf
    refine⟨?_,?_,?_,?_⟩
    rotate_left 2
    ·conv=>whnf
     rw[ek]
     repeat'(first|exact⟨rfl,rfl⟩|(refine⟨⟨by omega,by omega⟩,?_⟩;conv=>whnf)|exact ⟨⟩|apply And.intro|(conv=>whnf))
    ·conv=>whnf
     rw[ek]
     refine⟨k - 1,[0,1,2],⟨by omega,by omega⟩,by omega,?_⟩
     conv=>whnf
     repeat'(first|exact ⟨⟩|exact rfl|exact qa0 _|exact .inr rfl|exact fun _ _=>rfl|exact noI|apply And.intro)
     intro x hx
     rw[Int.toNat_natCast,Int.toNat_natCast]
     have:=yw2 (rot p k m (m+1)) (k - 1) k (by omega)
     have e5:=ju2 p m (k - 1) (by omega)
     rw [show k - 1+1=k by omega] at e5
     exact(congrFun this x).trans (congrArg (fun f=>cel (f x)) e5)
   ·have h3:k=i:=by
     have h:¬ (k:Int) > (i:Int):=of_decide_eq_false h3
     omega
    rw[h3]
    conv=>whnf
    refine⟨[0,1,2],_,_,rfl,rfl,?_,?_,rfl,_,hfin,rfl⟩
    ·exact rfl
    ·conv=>whnf
     repeat'(first|exact ⟨⟩|exact rfl|exact qa0 _|exact .inr rfl|exact fun _ _=>rfl|exact noI|apply And.intro)
 have c2:¬ b=m+1:=by simp at c2;omega
 conv=>whnf
 refine⟨by omega,?_⟩
 conv=>whnf
 rw[half a b (by omega)]
 rw[show IntKind.i64.wrap ((((a+b) / 2:Nat):Int)+(m:Int))=(((a+b) / 2+m:Nat):Int) by rw[qa4 _ (by omega)];omega]
 refine⟨fun c3=>?_,fun c3=>?_⟩
 have c3:(a+b) / 2<m:=by
  have h:(m:Int) > (((a+b) / 2:Nat):Int):=of_decide_eq_true c3
  omega
 conv=>whnf
 obtain⟨N,hN⟩:∃ N,N=(a+b) / 2+m:=⟨_,rfl⟩
 rw[<-hN]
 obtain⟨s0,hs0⟩:∃ s0,s0=N - b:=⟨_,rfl⟩
 obtain⟨r0,hr0⟩:∃ r0,r0=(a+b) / 2:=⟨_,rfl⟩
 have f1:s0=a\/N - s0=b:=by omega
 have f2:r0=m\/N - r0=m:=by omega
 have f3:a<=s0/\s0<=r0/\r0<=m/\m<=N - r0/\N - s0<=b:=by omega
 have x1:IntKind.i64.wrap ((N:Int) - (b:Int))=(s0:Int):=by rw[qa4 _ (by omega)];omega
 have x2:IntKind.i64.wrap ((N:Int) - 1)=((N - 1:Nat):Int):=by rw[qa4 _ (by omega)];omega
 rw[x1,x2]
 rotate_left
 have c3:m<=(a+b) / 2:=by
  have h:¬ (m:Int) > (((a+b) / 2:Nat):Int):=of_decide_eq_false c3
  omega
 conv=>whnf
 obtain⟨N,hN⟩:∃ N,N=(a+b) / 2+m:=⟨_,rfl⟩
 rw[<-hN]
 obtain⟨s0,hs0⟩:∃ s0,s0=a:=⟨_,rfl⟩
 obtain⟨r0,hr0⟩:∃ r0,r0=m:=⟨_,rfl⟩
 have f1:s0=a\/N - s0=b:=by omega
 have f2:r0=m\/N - r0=m:=by omega
 have f3:a<=s0/\s0<=r0/\r0<=m/\m<=N - r0/\N - s0<=b:=by omega
 have x2:IntKind.i64.wrap ((N:Int) - 1)=((N - 1:Nat):Int):=by rw[qa4 _ (by omega)];omega
 rw[x2]
 all_goals
  refine .inv (Nat × Nat) (fun s=>s0<=s.1/\s.1<=s.2/\s.2<=r0/\(s.1=s0\/LL (ltC c) (p (s.1 - 1)) (p (N - s.1)))/\(s.2=r0\/LL (ltC c) (p (N - 1 - s.2)) (p s.2))) (fun s=>[(20,iV s.1),(21,iV s.2)]) (fun s=>[]) (fun s=>s.2 - s.1) ⟨(s0,r0),[0,1,2],⟨show s0<=s0 by omega,show s0<=r0 by omega,show r0<=r0 by omega,.inl rfl,.inl rfl⟩,?_⟩ ?_
  ·subst hr0
   subst hs0
   conv=>whnf
   repeat'(first|exact ⟨⟩|exact rfl|exact qa0 _|exact .inr rfl|exact fun _ _=>rfl|exact noI|apply And.intro)
  intro st hst
  obtain⟨q1,q2,q3,q4,q5⟩:=hst
  conv=>whnf
  generalize st.1=s at q1 q2 q4 ⊢
  generalize st.2=j at q2 q3 q5 ⊢
  refine⟨fun h3=>?_,fun h3=>?_⟩
  ·have h3:s<j:=by
    have h:(s:Int)<j:=of_decide_eq_true h3
    omega
   conv=>whnf
   refine⟨by omega,?_⟩
   conv=>whnf
   rw[half s j (by omega)]
   have g1:s<=(s+j) / 2:=by omega
   have g2:(s+j) / 2<j:=by omega
   generalize (s+j) / 2=h at g1 g2 ⊢
   rw[show IntKind.i64.wrap (((N - 1:Nat):Int) - (h:Int))=((N - 1 - h:Nat):Int) by rw[qa4 _ (by omega)];omega]
   refine⟨by omega,?_⟩
   conv=>whnf
   refine⟨by omega,?_⟩
   conv=>whnf
   rw[Int.toNat_natCast,Int.toNat_natCast]
   refine .mem _ _ (hg _ _ _ (hp.lt (N - 1 - h) (by omega)) (hp.lt h (by omega))) ?_
   conv=>whnf
   refine⟨fun h4=>?_,fun h4=>?_⟩
   ·have h4:ltC c (p (N - 1 - h)) (p h)=false:=by
     have h5:(!(ltC c (p (N - 1 - h)) (p h)))=true:=h4
     simpa using h5
    conv=>whnf
    rw[show IntKind.i64.wrap ((h:Int)+1)=((h+1:Nat):Int) by rw[qa4 _ (by omega)];omega]
    refine⟨(h+1,j),[0,1,2],⟨show s0<=h+1 by omega,show h+1<=j by omega,q3,.inr (?_:LL (ltC c) (p (h+1 - 1)) (p (N - (h+1)))),q5⟩,by show j - (h+1)<j - s;omega,?_⟩
    ·rw[show h+1 - 1=h by omega,show N - (h+1)=N - 1 - h by omega]
     exact .inr ⟨h4,hs h (N - 1 - h) (by omega) (by omega) (by omega) (by omega)⟩
    conv=>whnf
    repeat'(first|exact ⟨⟩|exact rfl|exact qa0 _|exact .inr rfl|exact fun _ _=>rfl|exact noI|apply And.intro)
   ·have h4:ltC c (p (N - 1 - h)) (p h)=true:=by
     have h5:(!(ltC c (p (N - 1 - h)) (p h)))=false:=h4
     simpa using h5
    conv=>whnf
    refine⟨(s,h),[0,1,2],⟨q1,g1,show h<=r0 by omega,q4,.inr (.inl h4)⟩,by show h - s<j - s;omega,?_⟩
    conv=>whnf
    repeat'(first|exact ⟨⟩|exact rfl|exact qa0 _|exact .inr rfl|exact fun _ _=>rfl|exact noI|apply And.intro)
  have h3:s=j:=by
   have h:¬ (s:Int)<j:=of_decide_eq_false h3
   omega
  subst h3
  have hc:Cut (L:=LL (ltC c)) p a m b s (N - s):=xx5 hw.ord hp hbn h1 h2 (by omega) (by omega) (by omega) (by omega)
   (by
    rcases q4 with x|x
    ·rcases f1 with y|y
     ·exact .inl (by omega)
     ·exact .inr (.inl (by omega))
    ·exact .inr (.inr x))
   (by
    rcases q5 with x|x
    ·rcases f2 with y|y
     ·exact .inl (by omega)
     ·exact .inr (.inl (by omega))
    ·exact .inr (.inr (by rw[show N - s - 1=N - 1 - s by omega];exact x)))
  have hmid:(a+b) / 2=s+(N - s - m):=by omega
  have cl:=zp7 h1 h2 hs hc hmid
  have cr:=zb6 h1 h2 hs hc hmid
  have hrot:Inj n (rot p s m (N - s)):=hp.rot (by omega) (by omega) (by omega)
  have ee:IntKind.i64.wrap ((N:Int) - (s:Int))=((N - s:Nat):Int):=by rw[qa4 _ (by omega)];omega
  conv=>whnf
  rw[ee]
  by_cases k1:s<m/\m<N - s
  refine brT (decide_eq_true (by omega)) ?_
  conv=>whnf
  refine brT (decide_eq_true (by omega)) ?_
  conv=>whnf
  refine .rel _ (ke7 n hn z p s m (N - s) k1.1 k1.2 (by omega) g nf zf fo) (fun r ks' hR=>?_)
  obtain⟨rfl,rfl⟩:=hR
  conv=>whnf
  rotate_left
  have eq:rot p s m (N - s)=p:=by
   rcases Nat.lt_or_ge s m with x|x
   ·rw[show N - s=m by omega];exact yn2 p s m (by omega)
   ·rw[show s=m by omega];exact jo9 p m _ (by omega)
  rw[show rowP n z p=rowP n z (rot p s m (N - s)) by rw[eq]]
  by_cases k0:s<m
  refine brT (decide_eq_true (by omega)) ?_
  conv=>whnf
  refine brF (decide_eq_false (by omega)) ?_
  conv=>whnf
  rotate_left
  refine brF (decide_eq_false (by omega)) ?_
  conv=>whnf
  all_goals
   by_cases k2:a<s/\s<(a+b) / 2
   refine brT (decide_eq_true (by omega)) ?_
   conv=>whnf
   refine brT (decide_eq_true (by omega)) ?_
   conv=>whnf
   refine .rel _ (ih (rot p s m (N - s)) a s ((a+b) / 2) (by omega) hrot k2.1 k2.2 (by omega) cl.1 cl.2.1 cl.2.2) (fun r ks' hR=>?_)
   obtain⟨rfl,r1,hr1,rfl⟩:=hR
   have hfin:∀ r2,Merged (L:=LL (ltC c)) r1 r2 n ((a+b) / 2) b->Merged (L:=LL (ltC c)) p r2 n a b:=fun r2 h=>jl8 h1 h2 hc hmid hr1 h
   conv=>whnf
   rotate_left
   obtain⟨r1,hr1,er⟩:∃ r1,Merged (L:=LL (ltC c)) (rot p s m (N - s)) r1 n a ((a+b) / 2)/\r1=rot p s m (N - s):=⟨_,.stay hrot (by
    rcases Nat.lt_or_ge a s with x|x
    ·exact cl.1.sub (Nat.le_refl _) (by omega)
    ·exact cl.2.1.sub (by omega) (Nat.le_refl _)),rfl⟩
   have hfin:∀ r2,Merged (L:=LL (ltC c)) r1 r2 n ((a+b) / 2) b->Merged (L:=LL (ltC c)) p r2 n a b:=fun r2 h=>jl8 h1 h2 hc hmid hr1 h
   rw[<-er]
   clear er
   by_cases k0:a<s
   refine brT (decide_eq_true (by omega)) ?_
   conv=>whnf
   refine brF (decide_eq_false (by omega)) ?_
   conv=>whnf
   rotate_left
   refine brF (decide_eq_false (by omega)) ?_
   conv=>whnf
   all_goals
    by_cases k3:(a+b) / 2<N - s/\N - s<b
    refine brT (decide_eq_true (by omega)) ?_
    conv=>whnf
    refine brT (decide_eq_true (by omega)) ?_
    conv=>whnf
    refine .rel _ (ih r1 ((a+b) / 2) (N - s) b (by omega) hr1.inj k3.1 k3.2 hbn (cr.1.congr fun i x1 x2=>hr1.same.out i (by omega)) (cr.2.1.congr fun i x1 x2=>hr1.same.out i (by omega)) (cr.2.2.congr fun i x1 x2=>hr1.same.out i (by omega))) (fun r ks' hR=>?_)
    obtain⟨rfl,r2,hr2,rfl⟩:=hR
    conv=>whnf
    rotate_left
    have hr2:Merged (L:=LL (ltC c)) r1 r1 n ((a+b) / 2) b:=.stay hr1.inj (by
     rcases Nat.lt_or_ge ((a+b) / 2) (N - s) with x|x
     ·exact(cr.1.congr fun i x1 x2=>hr1.same.out i (by omega)).sub (Nat.le_refl _) (by omega)
     ·exact(cr.2.1.congr fun i x1 x2=>hr1.same.out i (by omega)).sub (by omega) (Nat.le_refl _))
    by_cases k0:(a+b) / 2<N - s
    refine brT (decide_eq_true (by omega)) ?_
    conv=>whnf
    refine brF (decide_eq_false (by omega)) ?_
    conv=>whnf
    rotate_left
    refine brF (decide_eq_false (by omega)) ?_
    conv=>whnf
    all_goals
     refine⟨[0,1,2],_,_,rfl,rfl,?_,?_,rfl,_,hfin _ hr2,rfl⟩
     ·exact rfl
     ·conv=>whnf
      repeat'(first|exact ⟨⟩|exact rfl|exact qa0 _|exact .inr rfl|exact fun _ _=>rfl|exact noI|apply And.intro)
set_option maxHeartbeats 8000000 in
theorem xa0(n:Nat)(hn:n<1152921504606846976)(z:Z)(c:Nat->Nat->Int)(g:FuncId)(nf:Nat)(zf:Z)(fo:Nat->List DV)(hg:xl9 g c n z nf zf fo)(hw:Weak n (ltC c)) :
 COk Tryz.prog 125 [.all 0,iV n,.fn g cCap] (rowP n z id :: ju0 nf zf fo) (fun s k=>s = .tup []/\∃ r,Inj n r/\Rise (LL (ltC c)) r 0 n/\k=rowP n z r :: ju0 nf zf fo):=by
 refine qc7 (TT:=TT) (IN:=qd0 []) qd2 qa7 mixed 1000 Tryz.func125 rfl (qb7 Tryz.func125 (by kernel_rfl) rfl) 60 (by kernel_rfl) ?_
 conv=>whnf
 refine .inv (Nat × (Nat->Nat)) (fun s=>s.1 * 20<=n/\Fst (LL (ltC c)) 20 n s.1 s.2) (fun s=>[(6,iV 20),(7,iV (s.1 * 20)),(8,iV (s.1 * 20+20))]) (fun s=>[(0,rowP n z s.2)]) (fun s=>n - s.1 * 20) ⟨(0,id),[0,1,2],⟨by show 0 * 20<=n;omega,Fst.zero 20 n⟩,?_⟩ ?_
 ·conv=>whnf
  repeat'(first|exact ⟨⟩|exact rfl|exact qa0 _|exact .inr rfl|exact fun _ _=>rfl|exact noI|apply And.intro)
 intro s hs
 obtain⟨h1,h2⟩:=hs
 conv=>whnf
 generalize s.1=q at h1 h2 ⊢
 generalize s.2=p at h2 ⊢
 refine⟨fun h3=>?_,fun h3=>?_⟩
 ·have h3:q * 20+20<=n:=by
   have h:((q * 20+20:Nat):Int)<=n:=of_decide_eq_true h3
   omega
  conv=>whnf
  refine .rel _ (xx0 n hn z p c g nf zf fo hg hw h2.inj (q * 20) (q * 20+20) (by omega) h3 (fun i j x1 x2 x3=>by rw[h2.rest i x1,h2.rest j (by omega)];exact x2)) (fun r ks' hR=>?_)
  obtain⟨rfl,r,hr,rfl⟩:=hR
  have e1:IntKind.i64.wrap (((q * 20+20:Nat):Int)+((20:Nat):Int))=(((q+1) * 20+20:Nat):Int):=by rw[qa4 _ (by omega)];omega
  have e2:q * 20+20=(q+1) * 20:=by omega
  conv=>whnf
  rw[e1,e2]
  refine⟨(q+1,r),[0,1,2],⟨by show(q+1) * 20<=n;omega,h2.next h3 (by omega) (.inr rfl) hr⟩,by show n - (q+1) * 20<n - q * 20;omega,?_⟩
  conv=>whnf
  repeat'(first|exact ⟨⟩|exact rfl|exact qa0 _|exact .inr rfl|exact fun _ _=>rfl|exact noI|apply And.intro)
 ·have h3:n<q * 20+20:=by
   have h:¬ ((q * 20+20:Nat):Int)<=n:=of_decide_eq_false h3
   omega
  conv=>whnf
  refine .rel _ (xx0 n hn z p c g nf zf fo hg hw h2.inj (q * 20) n h1 (Nat.le_refl _) (fun i j x1 x2 x3=>by rw[h2.rest i x1,h2.rest j (by omega)];exact x2)) (fun r ks' hR=>?_)
  obtain⟨rfl,r,hr,rfl⟩:=hR
  have h4:=h2.next (Nat.le_refl _) (by omega) (.inl rfl) hr
  conv=>whnf
  refine .inv (Nat × (Nat->Nat)) (fun s=>0<s.1/\s.1<=20+2 * n/\Inj n s.2/\Lc s.1 0 n s.2/\Rs (LL (ltC c)) s.1 0 n s.2) (fun s=>[(6,iV s.1)]) (fun s=>[(0,rowP n z s.2)]) (fun s=>n - s.1) ⟨(20,r),[0,1,2],⟨show 0<20 by omega,show 20<=20+2 * n by omega,h4.inj,h4.loc,?_⟩,?_⟩ ?_
  ·have:=h4.done
   rw [show min ((q+1) * 20) n=n by omega] at this
   exact this
  ·conv=>whnf
   repeat'(first|exact ⟨⟩|exact rfl|exact qa0 _|exact .inr rfl|exact fun _ _=>rfl|exact noI|apply And.intro)
  clear h1 h2 h3 h4 hr
  intro s hs
  obtain⟨h1,h2,h3,h4,h5⟩:=hs
  conv=>whnf
  generalize s.1=k at h1 h2 h4 h5 ⊢
  generalize s.2=p at h3 h4 h5 ⊢
  refine⟨fun h6=>?_,fun h6=>?_⟩
  ·have h6:k<n:=by
    have h:(k:Int)<n:=of_decide_eq_true h6
    omega
   have e1:IntKind.i64.wrap (2 * (k:Int))=((2 * k:Nat):Int):=by rw[qa4 _ (by omega)];omega
   conv=>whnf
   rw[e1]
   refine .inv (Nat × (Nat->Nat)) (fun s=>s.1<=n/\∃ q,s.1=q * (2 * k)/\Mg (LL (ltC c)) k n q s.2) (fun s=>[(7,iV s.1),(8,iV (s.1+2 * k))]) (fun s=>[(0,rowP n z s.2)]) (fun s=>n - s.1) ⟨(0,p),[0,1,2],⟨Nat.zero_le _,0,(Nat.zero_mul _).symm,Mg.begin h3 h4 h5⟩,?_⟩ ?_
   ·conv=>whnf
    rw[Nat.zero_add]
    repeat'(first|exact ⟨⟩|exact rfl|exact qa0 _|exact .inr rfl|exact fun _ _=>rfl|exact noI|apply And.intro)
   intro s hs
   obtain⟨g1,q,g2,g3⟩:=hs
   conv=>whnf
   generalize s.1=a at g1 g2 ⊢
   generalize s.2=p at g3 ⊢
   refine⟨fun h7=>?_,fun h7=>?_⟩
   ·have h7:a+2 * k<=n:=by
     have h:((a+2 * k:Nat):Int)<=n:=of_decide_eq_true h7
     omega
    have e2:IntKind.i64.wrap ((a:Int)+(k:Int))=((a+k:Nat):Int):=by rw[qa4 _ (by omega)];omega
    have e3:IntKind.i64.wrap (((a+2 * k:Nat):Int)+((2 * k:Nat):Int))=((a+2 * k+2 * k:Nat):Int):=by rw[qa4 _ (by omega)];omega
    conv=>whnf
    rw[e2]
    refine .rel _ (xw0 n hn z c g nf zf fo hg hw (2 * k+1) p a (a+k) (a+2 * k) (by omega) g3.inj (by omega) (by omega) h7 (by rw[g2];exact g3.left (by omega)) (by rw[g2];exact g3.right (by omega) (by omega)) (by rw[g2];exact g3.sep (by omega) (by omega))) (fun r ks' hR=>?_)
    obtain⟨rfl,r,hr,rfl⟩:=hR
    have hn2:Mg (LL (ltC c)) k n (q+1) r:=g3.next h1 h7 (by omega) (by omega) (by omega) (by rw[<-g2];exact hr)
    conv=>whnf
    rw[e1,e3]
    refine⟨(a+2 * k,r),[0,1,2],⟨h7,q+1,by show a+2 * k=(q+1) * (2 * k);rw[Nat.succ_mul q (2 * k),<-g2],hn2⟩,by show n - (a+2 * k)<n - a;omega,?_⟩
    conv=>whnf
    repeat'(first|exact ⟨⟩|exact rfl|exact qa0 _|exact .inr rfl|exact fun _ _=>rfl|exact noI|apply And.intro)
   ·have h7:n<a+2 * k:=by
     have h:¬ ((a+2 * k:Nat):Int)<=n:=of_decide_eq_false h7
     omega
    have e2:IntKind.i64.wrap ((a:Int)+(k:Int))=((a+k:Nat):Int):=by rw[qa4 _ (by omega)];omega
    have e4:IntKind.i64.wrap ((k:Int) * 2)=((2 * k:Nat):Int):=by rw[qa4 _ (by omega)];omega
    conv=>whnf
    rw[e2]
    refine⟨fun h8=>?_,fun h8=>?_⟩
    ·have h8:a+k<n:=by
      have h:((a+k:Nat):Int)<n:=of_decide_eq_true h8
      omega
     conv=>whnf
     refine .rel _ (xw0 n hn z c g nf zf fo hg hw (2 * k+1) p a (a+k) n (by omega) g3.inj (by omega) h8 (Nat.le_refl _) (by rw[g2];exact g3.left (by omega)) (by rw[g2];exact g3.right (Nat.le_refl _) (by omega)) (by rw[g2];exact g3.sep (Nat.le_refl _) (by omega))) (fun r ks' hR=>?_)
     obtain⟨rfl,r,hr,rfl⟩:=hR
     have hn2:Mg (LL (ltC c)) k n (q+1) r:=g3.next h1 (Nat.le_refl _) (by omega) (by omega) (by omega) (by rw[<-g2];exact hr)
     have ho:=hn2.over h1 (by rw[Nat.succ_mul,<-g2];omega)
     conv=>whnf
     rw[e4]
     refine⟨(2 * k,r),[0,1,2],⟨show 0<2 * k by omega,show 2 * k<=20+2 * n by omega,hn2.inj,ho.1,ho.2⟩,by show n - 2 * k<n - k;omega,?_⟩
     conv=>whnf
     repeat'(first|exact ⟨⟩|exact rfl|exact qa0 _|exact .inr rfl|exact fun _ _=>rfl|exact noI|apply And.intro)
    ·have h8:n<=a+k:=by
      have h:¬ ((a+k:Nat):Int)<n:=of_decide_eq_false h8
      omega
     have ho:=g3.over h1 (by rw[<-g2];exact h8)
     conv=>whnf
     rw[e4]
     refine⟨(2 * k,p),[0,1,2],⟨show 0<2 * k by omega,show 2 * k<=20+2 * n by omega,g3.inj,ho.1,ho.2⟩,by show n - 2 * k<n - k;omega,?_⟩
     conv=>whnf
     repeat'(first|exact ⟨⟩|exact rfl|exact qa0 _|exact .inr rfl|exact fun _ _=>rfl|exact noI|apply And.intro)
  ·have h6:n<=k:=by
    have h:¬ (k:Int)<n:=of_decide_eq_false h6
    omega
   conv=>whnf
   refine⟨[0,1,2],_,_,rfl,rfl,?_,?_,rfl,p,h3,h5.all h6,rfl⟩
   ·exact rfl
   ·conv=>whnf
    repeat'(first|exact ⟨⟩|exact rfl|exact qa0 _|exact .inr rfl|exact fun _ _=>rfl|exact noI|apply And.intro)
set_option maxHeartbeats 8000000 in
theorem xy3(n:Nat)(hn:n<1152921504606846976)(z:Z)(c:Nat->Nat->Int)(g:FuncId)(nf:Nat)(zf:Z)(fo:Nat->List DV)(hg:xl9 g c n z nf zf fo)(hw:Weak n (ltC c)) :
 COk Tryz.prog 101 [.all 0,.fn g cCap] (rowP n z id :: ju0 nf zf fo) (fun s k=>s = .tup []/\∃ r,Inj n r/\Rise (LL (ltC c)) r 0 n/\k=rowP n z r :: ju0 nf zf fo):=by
 refine qc7 (TT:=TT) (IN:=qd0 []) qd2 qa7 mixed 1000 Tryz.func101 rfl (qb7 Tryz.func101 (by kernel_rfl) rfl) 7 (by kernel_rfl) ?_
 conv=>whnf
 refine .rel _ (xa0 n hn z c g nf zf fo hg hw) (fun r ks' hR=>?_)
 obtain⟨rfl,r,hr,h2,rfl⟩:=hR
 conv=>whnf
 refine⟨[0,1,2],_,_,rfl,rfl,?_,?_,rfl,r,hr,h2,rfl⟩
 ·exact rfl
 ·conv=>whnf
  repeat'(first|exact ⟨⟩|exact rfl|exact qa0 _|exact .inr rfl|exact fun _ _=>rfl|exact noI|apply And.intro)
def eCap:List SV:=[.ptr 1 0]
def xt1(nf:Nat)(zf:Z)(fo:Nat->List DV):List KB:=[.cells 165 [.fn 99 [.ptr 2 0]],.cells 45 [.all 3],.row 9 1 nf zf fo]
def EqOk(g:FuncId)(F:Nat->List UInt8)(n:Nat)(z:Z)(nf:Nat)(zf:Z)(fo:Nat->List DV):Prop :=
 ∀ (q:Nat->Nat) (x y:Nat),x<n->y<n->COk Tryz.prog g (iV x :: iV y :: eCap) (rowP n z q :: xt1 nf zf fo) (fun s k=>s = .d (.bool (decide (F x=F y)))/\k=rowP n z q :: xt1 nf zf fo)
def over(K:List Nat)(p:Nat->Nat):Nat->Nat:=fun i=>if i<K.length then K.getD i 0 else p i
theorem ju6{F:Nat->List UInt8}{p:Nat->Nat}:∀ k,(∀ i,0<i->i<k->F (p i)≠F (p (i - 1)))->kept F p k=(List.range k).map p
 |0=>fun _=>rfl
 |k+1=>fun h=>by
  unfold kept
  rw[ju6 k (fun i h1 h2=>h i h1 (by omega)),List.range_succ,List.map_append]
  rw[if_pos]
  ·rfl
  ·rcases Nat.eq_zero_or_pos k with e|e
   ·exact .inl e
   ·exact .inr (h k e (by omega))
theorem xp8{p:Nat->Nat}(k:Nat):over ((List.range k).map p) p=p:=by
 funext i;unfold over
 rw[List.length_map,List.length_range]
 split
 ·rename_i h;simp[List.getD,List.getElem?_range h]
 ·rfl
theorem xp7{F:Nat->List UInt8}{p:Nat->Nat}{m:Nat}(hne:F (p m)≠F (p (m - 1))):upd (over (kept F p m) p) (kept F p m).length (p m)=over (kept F p (m+1)) p:=by
 have e:kept F p (m+1)=kept F p m++[p m]:=by
  conv=>lhs;unfold kept
  rw[if_pos (.inr hne)]
 rw[e]
 funext i;unfold upd over
 simp only[List.length_append,List.length_cons,List.length_nil]
 by_cases h1:i=(kept F p m).length
 ·rw[if_pos h1,if_pos (by omega),h1];simp[List.getD]
 ·rw[if_neg h1]
  by_cases h2:i<(kept F p m).length
  ·rw[if_pos h2,if_pos (by omega)];simp[List.getD,List.getElem?_append_left h2]
  ·rw[if_neg h2,if_neg (by omega)]
theorem yy9{F:Nat->List UInt8}{p:Nat->Nat}{m:Nat}(h0:0<m)(he:F (p m)=F (p (m - 1))):kept F p (m+1)=kept F p m:=by
 conv=>lhs;unfold kept
 rw[if_neg]
 rintro (h|h)
 ·omega
 ·exact h he
set_option maxHeartbeats 8000000 in
theorem zx2(n:Nat)(hn:n<1152921504606846976)(z:Z)(F:Nat->List UInt8)(g:FuncId)(nf:Nat)(zf:Z)(fo:Nat->List DV)(hg:EqOk g F n z nf zf fo)(p:Nat->Nat)(hp:Inj n p) :
 COk Tryz.prog 102 [.all 0,.fn g eCap] (rowP n z p :: xt1 nf zf fo) (fun s k=>((s = .all 0/\(kept F p n).length=n)\/s = .row 0 0 (kept F p n).length)/\∃ q,(∀ i,i<(kept F p n).length->q i=(kept F p n).getD i 0)/\k=rowP n z q :: xt1 nf zf fo):=by
 refine qc7 (TT:=TT) (IN:=qd0 []) qd2 qa7 mixed 1000 Tryz.func102 rfl (qb7 Tryz.func102 (by kernel_rfl) rfl) 64 (by kernel_rfl) ?_
 conv=>whnf
 refine⟨fun h2=>?_,fun h2=>?_⟩
 ·have h2:n<2:=by
   have h:(n:Int)<2:=of_decide_eq_true h2
   omega
  have hk:kept F p n=(List.range n).map p:=ju6 n (fun i x1 x2=>by omega)
  conv=>whnf
  refine⟨[0,1,2,3],_,_,rfl,rfl,?_,?_,.inl ⟨rfl,by rw[hk];simp⟩,p,fun i hi=>?_,rfl⟩
  ·exact rfl
  ·conv=>whnf
   repeat'(first|exact ⟨⟩|exact rfl|exact qa0 _|exact .inr rfl|exact fun _ _=>rfl|exact noI|apply And.intro)
  ·rw [hk] at hi ⊢
   simp at hi
   simp[List.getD,List.getElem?_range hi]
 have h2:2<=n:=by
  have h:¬ (n:Int)<2:=of_decide_eq_false h2
  omega
 conv=>whnf
 refine .inv Nat (fun k=>1<=k/\k<=n/\∀ i,0<i->i<k->F (p i)≠F (p (i - 1))) (fun k=>[(5,iV k)]) (fun k=>[]) (fun k=>n - k) ⟨1,[0,1,2,3],⟨by omega,by omega,fun i h1 h2=>by omega⟩,?_⟩ ?_
 ·conv=>whnf
  repeat'(first|exact ⟨⟩|exact rfl|exact qa0 _|exact .inr rfl|exact fun _ _=>rfl|exact noI|apply And.intro)
 intro k hk
 obtain⟨k1,k2,k3⟩:=hk
 conv=>whnf
 refine⟨fun h3=>?_,fun h3=>?_⟩
 ·have h3:k<n:=by
   have h:(k:Int)<n:=of_decide_eq_true h3
   omega
  have e1:IntKind.i64.wrap ((k:Int) - 1)=((k - 1:Nat):Int):=by rw[qa4 _ (by omega)];omega
  have e2:IntKind.i64.wrap ((k:Int)+1)=((k+1:Nat):Int):=by rw[qa4 _ (by omega)];omega
  conv=>whnf
  refine⟨by omega,?_⟩
  conv=>whnf
  rw[e1]
  refine⟨by omega,?_⟩
  conv=>whnf
  rw[Int.toNat_natCast,Int.toNat_natCast]
  refine .mem _ _ (hg _ _ _ (hp.lt k h3) (hp.lt (k - 1) (by omega))) ?_
  conv=>whnf
  refine⟨fun h4=>?_,fun h4=>?_⟩
  ·have h4:F (p k)=F (p (k - 1)):=of_decide_eq_true h4
   have hk0:kept F p (k+1)=(List.range k).map p:=by rw[yy9 k1 h4,ju6 k k3]
   conv=>whnf
   refine⟨by omega,?_⟩
   conv=>whnf
   refine .inv Nat (fun j=>1<=j/\k+j<=n/\(kept F p (k+j)).length<k+j) (fun j=>[(5,iV (kept F p (k+j)).length),(7,iV j)]) (fun j=>[(0,rowP n z (over (kept F p (k+j)) p))]) (fun j=>n - j) ⟨1,[0,1,2,3],⟨by omega,by omega,by rw[hk0];simp⟩,?_⟩ ?_
   ·rw[hk0,xp8]
    conv=>whnf
    rw[List.length_map,List.length_range]
    repeat'(first|exact ⟨⟩|exact rfl|exact qa0 _|exact .inr rfl|exact fun _ _=>rfl|exact noI|apply And.intro)
   intro j hj
   obtain⟨j1,j2,j3⟩:=hj
   conv=>whnf
   refine⟨fun h5=>?_,fun h5=>?_⟩
   ·have e3:IntKind.i64.wrap ((j:Int) - 1)=((j - 1:Nat):Int):=by rw[qa4 _ (by omega)];omega
    have e4:IntKind.i64.wrap ((j:Int)+1)=((j+1:Nat):Int):=by rw[qa4 _ (by omega)];omega
    have h5:k+j<n:=by
     have h:(j:Int)<(((n:Int) - k).toNat:Nat):=of_decide_eq_true h5
     omega
    have r1:over (kept F p (k+j)) p (k+j)=p (k+j):=by unfold over;rw[if_neg (by omega)]
    have r2:over (kept F p (k+j)) p (k+(j - 1))=p (k+j - 1):=by unfold over;rw[if_neg (by omega),show k+(j - 1)=k+j - 1 by omega]
    conv=>whnf
    refine⟨by omega,?_⟩
    conv=>whnf
    rw[e3]
    refine⟨by omega,?_⟩
    conv=>whnf
    rw[Int.toNat_natCast,Int.toNat_natCast,Int.toNat_natCast,r1,r2]
    refine .mem _ _ (hg _ _ _ (hp.lt (k+j) (by omega)) (hp.lt (k+j - 1) (by omega))) ?_
    conv=>whnf
    refine⟨fun h6=>?_,fun h6=>?_⟩
    ·have h6:F (p (k+j))≠F (p (k+j - 1)):=by
      have h7:(!(decide (F (p (k+j))=F (p (k+j - 1)))))=true:=h6
      simpa using h7
     have r3:over (kept F p (k+j)) p (k+j)=p (k+j):=r1
     have h8:(kept F p (k+(j+1))).length=(kept F p (k+j)).length+1:=by
      show(kept F p (k+j+1)).length=_
      conv=>lhs;unfold kept
      rw[if_pos (.inr h6)];simp
     have e5:IntKind.i64.wrap (((kept F p (k+j)).length:Int)+1)=(((kept F p (k+j)).length+1:Nat):Int):=by rw[qa4 _ (by omega)];omega
     conv=>whnf
     refine⟨by omega,?_⟩
     conv=>whnf
     rw[Int.toNat_natCast,r1]
     refine⟨by omega,?_⟩
     conv=>whnf
     rw[e4,e5]
     refine⟨j+1,[0,1,2,3],⟨by omega,by omega,?_⟩,by omega,?_⟩
     ·rw[h8];omega
     rw[h8]
     conv=>whnf
     repeat'(first|exact ⟨⟩|exact rfl|exact qa0 _|exact .inr rfl|exact fun _ _=>rfl|exact noI|apply And.intro)
     intro x hx
     rw[Int.toNat_natCast]
     have h9:=jl5 (over (kept F p (k+j)) p) (kept F p (k+j)).length (p (k+j))
     rw [xp7 h6] at h9
     exact congrFun h9 x
    ·have h6:F (p (k+j))=F (p (k+j - 1)):=by
      have h7:(!(decide (F (p (k+j))=F (p (k+j - 1)))))=false:=h6
      simpa using h7
     have h7:=yy9 (by omega) h6
     conv=>whnf
     rw[e4]
     refine⟨j+1,[0,1,2,3],⟨by omega,by omega,?_⟩,by omega,?_⟩
     ·show(kept F p (k+j+1)).length<k+j+1
      rw[h7];omega
     rw[show kept F p (k+(j+1))=kept F p (k+j) from h7]
     conv=>whnf
     repeat'(first|exact ⟨⟩|exact rfl|exact qa0 _|exact .inr rfl|exact fun _ _=>rfl|exact noI|apply And.intro)
   ·have h5:k+j=n:=by
     have h:¬ (j:Int)<(((n:Int) - k).toNat:Nat):=of_decide_eq_false h5
     omega
    rw [h5] at j3 ⊢
    conv=>whnf
    refine⟨by omega,?_⟩
    conv=>whnf
    refine⟨by omega,?_⟩
    conv=>whnf
    refine⟨by omega,?_⟩
    conv=>whnf
    rw[Int.toNat_natCast]
    refine⟨[0,1,2,3],_,_,rfl,rfl,?_,?_,.inr rfl,fun i=>if i<(kept F p n).length then (kept F p n).getD i 0 else 0,fun i hi=>if_pos hi,rfl⟩
    ·exact rfl
    ·conv=>whnf
     repeat'(first|exact ⟨⟩|exact rfl|exact qa0 _|exact .inr rfl|exact fun _ _=>rfl|exact noI|apply And.intro)
     intro x hx
     unfold midF over
     dsimp only
     by_cases hxk:x<(kept F p n).length
     ·rw[if_neg (by omega),if_pos hxk,if_pos hxk]
     ·rw[if_pos (by omega),if_neg hxk];rfl
  ·have h4:F (p k)≠F (p (k - 1)):=of_decide_eq_false h4
   conv=>whnf
   rw[e2]
   refine⟨k+1,[0,1,2,3],⟨by omega,by omega,fun i x1 x2=>?_⟩,by omega,?_⟩
   ·rcases Nat.lt_or_ge i k with x|x
    ·exact k3 i x1 x
    ·rw[show i=k by omega];exact h4
   conv=>whnf
   repeat'(first|exact ⟨⟩|exact rfl|exact qa0 _|exact .inr rfl|exact fun _ _=>rfl|exact noI|apply And.intro)
 ·have h3:k=n:=by
   have h:¬ (k:Int)<n:=of_decide_eq_false h3
   omega
  subst h3
  have hk:=ju6 k k3
  conv=>whnf
  refine⟨[0,1,2,3],_,_,rfl,rfl,?_,?_,.inl ⟨rfl,by rw[hk];simp⟩,p,fun i hi=>?_,rfl⟩
  ·exact rfl
  ·conv=>whnf
   repeat'(first|exact ⟨⟩|exact rfl|exact qa0 _|exact .inr rfl|exact fun _ _=>rfl|exact noI|apply And.intro)
  ·rw [hk] at hi ⊢
   simp at hi
   simp[List.getD,List.getElem?_range hi]
theorem yt3(a b:List UInt8):FnOk Tryz.prog 100 [.d (.str a),.d (.str b)] (.d (.int .i64 (Lib.compareBytes a b))):=by
 refine⟨qb7 Tryz.func100 (by kernel_rfl) rfl,fun M w vs _ hM hl hd=>?_⟩
 match vs,hl with
 |[v0,v1],_ =>
  have h0:=qn8 (hd 0 _ v0 rfl rfl)
  have h1:=qn8 (hd 1 _ v1 rfl rfl)
  subst h0 h1
  refine(Try.strings_Compare ⟨a.toArray⟩ ⟨b.toArray⟩ w).mono ?_
  rintro e w' ⟨rfl,rfl⟩
  exact⟨_,rfl,Step.refl _ _,.d (by simpa using Rd.int _ _)⟩
def fT(fl:List (List UInt8))(i:Nat):List UInt8:=fl[i]?.getD []
set_option maxHeartbeats 4000000 in
theorem kc4(fl:List (List UInt8))(z zf:Z):xl9 99 (fun x y=>Lib.compareBytes (fT fl x) (fT fl y)) fl.length z fl.length zf (strs fl):=by
 intro q x y hx hy
 refine qc7 (TT:=TT) (IN:=qd0 []) qd2 qa7 mixed 1000 Tryz.func99 rfl (qb7 Tryz.func99 (by kernel_rfl) rfl) 12 (by kernel_rfl) ?_
 conv=>whnf
 refine⟨by omega,?_⟩
 conv=>whnf
 refine⟨by omega,?_⟩
 conv=>whnf
 rw[Int.toNat_natCast,Int.toNat_natCast]
 refine .data _ (yt3 _ _) rfl rfl ?_
 conv=>whnf
 refine⟨[0,1,2],_,_,rfl,rfl,?_,?_,rfl,rfl⟩
 ·exact rfl
 ·conv=>whnf
  repeat'(first|exact ⟨⟩|exact rfl|exact qa0 _|exact .inr rfl|exact fun _ _=>rfl|exact noI|apply And.intro)
set_option maxHeartbeats 4000000 in
theorem kc3(fl:List (List UInt8))(z zf:Z):EqOk 103 (fT fl) fl.length z fl.length zf (strs fl):=by
 intro q x y hx hy
 refine qc7 (TT:=TT) (IN:=qd0 [(99,Tryz.f99,3)]) qd2 (qb8 qa7 Tryz.func99 (by kernel_rfl) (by kernel_rfl)) mixed 1000 Tryz.func103 rfl (qb7 Tryz.func103 (by kernel_rfl) rfl) 8 (by kernel_rfl) ?_
 conv=>whnf
 refine⟨by omega,?_⟩
 conv=>whnf
 refine⟨by omega,?_⟩
 conv=>whnf
 rw[Int.toNat_natCast,Int.toNat_natCast]
 refine .data _ (yt3 _ _) rfl rfl ?_
 conv=>whnf
 rw[show(Lib.compareBytes (fl[x]?.getD []) (fl[y]?.getD []) == 0)=decide (fT fl x=fT fl y) by
  unfold fT
  rw[Bool.eq_iff_iff,beq_iff_eq,decide_eq_true_iff]
  exact yc8 _ _]
 refine⟨[0,1,2,3],_,_,rfl,rfl,?_,?_,rfl,rfl⟩
 ·exact rfl
 ·conv=>whnf
  repeat'(first|exact ⟨⟩|exact rfl|exact qa0 _|exact .inr rfl|exact fun _ _=>rfl|exact noI|apply And.intro)
def jb2(a:Int)(l:List RR):Int:=l.foldl (fun a r=>if r.ttl<a then r.ttl else a) a
def qx1(t:Int)(l:List RR):List (List UInt8):=(qp4 (qf6 t) (l.map (·.d))).take 64
def je4(l:List RR)(K:List Nat):List (List UInt8):=K.map fun i=>(l.getD i default).d
def qg0(t:Int)(l:List RR):List (List UInt8):=l.map fun r=>qf6 t r.d
theorem yi9{F G:Nat->List UInt8}{p:Nat->Nat}:∀ n,(∀ i,i<n->F (p i)=G (p i))->kept F p n=kept G p n
 |0=>fun _=>rfl
 |n+1=>fun h=>by
  unfold kept
  rw[yi9 n (fun i hi=>h i (by omega)),h n (by omega),h (n - 1) (by omega)]
theorem xj6{t:Int}{l:List RR}{p:Nat->Nat}(hp:Inj l.length p)(hr:Rise (LL (ltF (fT (qg0 t l)))) p 0 l.length):je4 l (kept (fT (qg0 t l)) p l.length)=qp4 (qf6 t) (l.map (·.d)):=by
 have hF:∀ i,i<l.length->fT (qg0 t l) i=qf6 t ((l.map (·.d))[i]?.getD []):=fun i hi=>by
  simp[fT,qg0,List.getElem?_map,List.getElem?_eq_getElem hi]
 have hxl:(l.map (·.d)).length=l.length:=by simp
 have h1:=zh2 (F:=qf6 t) (xs:=l.map (·.d)) (p:=p) (hxl ▸ hp) (by
  rw[hxl]
  intro i j hi hij hj
  have:=hr i j hi hij hj
  unfold LL ltF at this ⊢
  rw [hF _ (hp.lt i (by omega)),hF _ (hp.lt j hj)] at this
  exact this)
 have h2:=jn0 (qf6 t) (l.map (·.d))
 rw[h1.uniq h2 |>.symm]
 rw[hxl,<-yi9 (F:=fT (qg0 t l)) (G:=fun i=>qf6 t ((l.map (·.d))[i]?.getD [])) l.length (fun i hi=>hF _ (hp.lt i hi))]
 unfold je4
 apply List.map_congr_left
 intro a ha
 obtain⟨i,hi,e,_⟩:=(jm2 hp hr l.length (Nat.le_refl _)).2.1 a ha
 have:=hp.lt i hi
 rw[e]
 simp[List.getD,List.getElem?_map,List.getElem?_eq_getElem this]
theorem yk1{l:List RR}{K:List Nat}{j:Nat}(h:j<K.length):je4 l (K.take (j+1))=je4 l (K.take j)++[(l.getD (K.getD j 0) default).d]:=by
 have e:K.take (j+1)=K.take j++[K.getD j 0]:=by
  rw[List.take_add_one,List.getD,List.getElem?_eq_getElem h];rfl
 rw[e]
 unfold je4
 rw[List.map_append];rfl
set_option maxHeartbeats 8000000 in
theorem xu1(nm:List UInt8)(t:Int)(z:Bool)(l:List RR)(h0:0<l.length)(hn:l.length<=100000):FnOk Tryz.prog 63 [.d (.str nm),.d (.int .u16 t),.d (rrsD z l)] (setV nm t (jb2 (l.getD 0 default).ttl l) false (qx1 t l)):=by
 refine qa3 (TT:=TT) (IN:=qd0 []) qd2 qa7 mixed 1000 Tryz.func63 rfl (qb7 Tryz.func63 (by kernel_rfl) rfl) rfl 79 (by kernel_rfl) ?_
 conv=>whnf
 refine⟨by omega,?_⟩
 conv=>whnf
 refine⟨⟨by omega,by omega,by show(l.length:Int) * 16<=_;omega,by omega⟩,?_⟩
 conv=>whnf
 refine⟨⟨by omega,by omega,by show(l.length:Int) * 8<=_;omega,by omega⟩,?_⟩
 conv=>whnf
 refine .inv Nat (fun i=>i<=l.length) (fun i=>[(30,iV i),(9,.all 4),(24,.any),(27,.any)]) (fun i=>[(1,.cells 47 [.d (.str nm),.d (.int .u16 t),.d (.int .u32 (jb2 (l.getD 0 default).ttl (l.take i))),nilS]),(2,.row 9 1 i .no (strs (qg0 t (l.take i)))),(4,rowP i .no id)]) (fun i=>l.length - i) ⟨0,[0,1,2,3,4],Nat.zero_le _,?_⟩ ?_
 ·conv=>whnf
  repeat'(first|exact ⟨⟩|exact rfl|exact qa0 _|exact .inr rfl|exact fun _ _=>rfl|exact noI|apply And.intro)
 intro i hi
 conv=>whnf
 refine⟨fun h1=>?_,fun h1=>?_⟩
 ·have h1:i<l.length:=by
   have h:(i:Int)<l.length:=of_decide_eq_true h1
   omega
  obtain⟨r,hr⟩:∃ r,l.getD i default=r:=⟨_,rfl⟩
  conv=>whnf
  refine⟨by omega,?_⟩
  conv=>whnf
  refine .data _ (jk8 t _) rfl rfl ?_
  conv=>whnf
  refine⟨by omega,?_⟩
  conv=>whnf
  refine⟨by omega,?_⟩
  conv=>whnf
  rw[show IntKind.i64.wrap ((i:Int)+1)=((i+1:Nat):Int) by rw[qa4 _ (by omega)];omega]
  rw[Int.toNat_natCast,hr]
  refine⟨i+1,[0,1,7,3,9],h1,by omega,?_⟩
  have htk:l.take (i+1)=l.take i++[r]:=by rw[List.take_add_one,<-hr,List.getD,List.getElem?_eq_getElem h1];rfl
  have hmin:jb2 (l.getD 0 default).ttl (l.take (i+1))=(if r.ttl<jb2 (l.getD 0 default).ttl (l.take i) then r.ttl else jb2 (l.getD 0 default).ttl (l.take i)):=by
   rw[htk];unfold jb2;rw[List.foldl_append];rfl
  have hfo:qg0 t (l.take (i+1))=qg0 t (l.take i)++[qf6 t r.d]:=by rw[htk];simp[qg0]
  have hfl:(qg0 t (l.take i)).length=i:=by simp[qg0];omega
  rw[hmin,hfo]
  conv=>whnf
  repeat'(first|exact ⟨⟩|exact rfl|exact qa0 _|exact .inr rfl|exact fun _ _=>rfl|exact noI|apply And.intro)
  ·intro x hx
   have:=qo8 (qg0 t (l.take i)) (qf6 t r.d) (ql0 [DV.str (qf6 t r.d)] 1) rfl x (by omega)
   rw [hfl] at this
   exact this
  ·intro x hx
   show catF i (fun i=>cel i) _ x=cel x
   unfold catF
   by_cases hxi:x<i
   ·rw[if_pos hxi]
   ·have:x=i:=by omega
    subst this
    rw[if_neg hxi,Nat.sub_self];rfl
 ·have h1:i=l.length:=by
   have h:¬ (i:Int)<l.length:=of_decide_eq_false h1
   omega
  subst h1
  rw[List.take_length]
  have hfl:(qg0 t l).length=l.length:=by simp[qg0]
  have hw:=xq7 l.length (fT (qg0 t l))
  have hlt:ltC (fun x y=>Lib.compareBytes (fT (qg0 t l) x) (fT (qg0 t l) y))=ltF (fT (qg0 t l)):=by
   funext x y
   unfold ltC ltF
   rw[Bool.eq_iff_iff,decide_eq_true_iff]
   exact yc7 _ _
  have hc1:=kc4 (qg0 t l) .no .no
  have hc2:=kc3 (qg0 t l) .no .no
  rw [hfl] at hc1 hc2
  have hsort:=xy3 l.length (by omega) .no _ _ _ _ _ hc1 (by rw[hlt];exact hw)
  rw [hlt] at hsort
  conv=>whnf
  refine .rel _ (COk.frameX hsort [4,3,2] rfl rfl rfl) (fun r ks' hR=>?_)
  obtain⟨_,_,⟨rfl,p,hp,hrise,rfl⟩,rfl,hk0⟩:=hR
  have hk:ks'=[.cells 47 [.d (.str []),.d (.int .u16 0),.d (.int .u32 0),nilS],.cells 47 [.d (.str nm),.d (.int .u16 t),.d (.int .u32 (jb2 (l.getD 0 default).ttl l)),nilS],.row 9 1 l.length .no (strs (qg0 t l)),.cells 45 [.all 2],rowP l.length .no p,.cells 165 [.fn 99 [.ptr 3 0]]]:=hk0
  clear hk0
  subst hk
  conv=>whnf
  refine .rel _ (COk.frameX (zx2 l.length (by omega) .no _ _ _ _ _ hc2 p hp) [4,5,3,2] rfl rfl rfl) (fun r ks' hR=>?_)
  obtain⟨_,_,⟨hres,q,hq,rfl⟩,hr,hk0⟩:=hR
  have hk:ks'=[.cells 47 [.d (.str []),.d (.int .u16 0),.d (.int .u32 0),nilS],.cells 47 [.d (.str nm),.d (.int .u16 t),.d (.int .u32 (jb2 (l.getD 0 default).ttl l)),nilS],.row 9 1 l.length .no (strs (qg0 t l)),.cells 45 [.all 2],rowP l.length .no q,.cells 165 [.fn 99 [.ptr 3 0]]]:=hk0
  clear hk0
  subst hk
  have hkl:=xg1 (fT (qg0 t l)) p l.length
  have hKlt:∀ j,j<(kept (fT (qg0 t l)) p l.length).length->(kept (fT (qg0 t l)) p l.length).getD j 0<l.length:=fun j hj=>by
   have hs:=(jm2 hp hrise l.length (Nat.le_refl _)).2.1 _ (List.getElem_mem hj)
   obtain⟨i,hi,e,_⟩:=hs
   rw[List.getD,List.getElem?_eq_getElem hj]
   show(kept (fT (qg0 t l)) p l.length)[j]<l.length
   rw[e]
   exact hp.lt i hi
  have hlaw:=xj6 hp hrise
  have hpos:=zo3 (fT (qg0 t l)) p l.length h0
  generalize hK:kept (fT (qg0 t l)) p l.length=K at hres hq hkl hKlt hlaw hpos
  have hlaw2:je4 l (K.take 64)=qx1 t l:=by unfold qx1;rw[<-hlaw];unfold je4;rw[List.map_take]
  have hr2:(r = .all 4/\K.length=l.length)\/r = .row 4 0 K.length:=by
   rcases hres with⟨e,h⟩|e
   ·subst e;exact .inl ⟨hr,h⟩
   ·subst e;exact .inr hr
  clear hr hres hc1 hc2 hsort
  rcases hr2 with⟨rfl,hres⟩|rfl
  ·conv=>whnf
   have em:(if (64:Int)<(l.length:Int) then (64:Int) else (l.length:Int))=((min K.length 64:Nat):Int):=by split <;> omega
   rw[em]
   refine⟨by omega,?_⟩
   conv=>whnf
   refine .nilC 1 3 9 1 (strs []) _ _ _ _ rfl rfl ?_
   conv=>whnf
   refine .inv Nat (fun j=>j<=min K.length 64) (fun j=>[(66,iV j)]) (fun j=>[(1,.cells 47 [.d (.str nm),.d (.int .u16 t),.d (.int .u32 (jb2 (l.getD 0 default).ttl l)),.all 6]),(6,.row 9 1 j .iff (strs (je4 l (K.take j))))]) (fun j=>min K.length 64 - j) ⟨0,[0,1,2,3,4,5,6],Nat.zero_le _,?_⟩ ?_
   ·conv=>whnf
    repeat'(first|exact ⟨⟩|exact rfl|exact qa0 _|exact .inr rfl|exact fun _ _=>rfl|exact noI|apply And.intro)
   intro j hj
   conv=>whnf
   refine⟨fun h1=>?_,fun h1=>?_⟩
   ·have h1:j<min K.length 64:=by
     have h:(j:Int)<((min K.length 64:Nat):Int):=of_decide_eq_true h1
     omega
    have hqj:=hq j (by omega)
    have hlt:=hKlt j (by omega)
    rw [<-hqj] at hlt
    conv=>whnf
    refine⟨by omega,?_⟩
    conv=>whnf
    first
     |rw[show 0+Int.toNat 0+(j:Int).toNat=j by simp]
     |rw[show Int.toNat 0+(j:Int).toNat=j by simp]
    generalize q j=v at hlt hqj ⊢
    refine⟨by omega,?_⟩
    conv=>whnf
    refine⟨by omega,?_⟩
    conv=>whnf
    rw[show IntKind.i64.wrap ((j:Int)+1)=((j+1:Nat):Int) by rw[qa4 _ (by omega)];omega]
    rw[Int.toNat_natCast,hqj]
    have hdt:=yk1 (l:=l) (K:=K) (j:=j) (by omega)
    have hdl:(je4 l (K.take j)).length=j:=by unfold je4;simp;omega
    refine⟨j+1,[0,1,2,3,4,5,8],h1,by omega,?_⟩
    rw[hdt]
    conv=>whnf
    repeat'(first|exact ⟨⟩|exact rfl|exact qa0 _|exact .inr rfl|exact fun _ _=>rfl|exact noI|apply And.intro)
    intro x hx
    have:=qo8 (je4 l (K.take j)) ((l.getD (K.getD j 0) default).d) (ql0 [DV.str (l.getD (K.getD j 0) default).d] 1) rfl x (by omega)
    rw [hdl] at this
    exact this
   ·have h1:j=min K.length 64:=by
     have h:¬ (j:Int)<((min K.length 64:Nat):Int):=of_decide_eq_false h1
     omega
    have htk:K.take j=K.take 64:=by
     rw[h1]
     rcases Nat.le_total K.length 64 with x|x
     ·rw[Nat.min_eq_left x,List.take_length,List.take_of_length_le x]
     ·rw[Nat.min_eq_right x]
    rw[htk,hlaw2]
    have hbl:(qx1 t l).length=j:=by rw[<-hlaw2];unfold je4;simp;omega
    have hj0:0<j:=by omega
    rw [<-hbl] at hj0 ⊢
    conv=>whnf
    repeat'(first|exact ⟨⟩|exact rfl|exact⟨rfl,rfl,.inr rfl,fun _ _=>rfl⟩|exact⟨rfl,rfl,.inl rfl,noI⟩|apply And.intro)
    ·generalize (qx1 t l).length=k at hj0
     cases k with
     |zero=>omega
     |succ k=>rfl
    ·exact .inr rfl
    ·exact fun _ _=>rfl
  ·conv=>whnf
   have em:(if (64:Int)<(K.length:Int) then (64:Int) else (K.length:Int))=((min K.length 64:Nat):Int):=by split <;> omega
   rw[em]
   refine⟨by omega,?_⟩
   conv=>whnf
   refine .nilC 1 3 9 1 (strs []) _ _ _ _ rfl rfl ?_
   conv=>whnf
   refine .inv Nat (fun j=>j<=min K.length 64) (fun j=>[(66,iV j)]) (fun j=>[(1,.cells 47 [.d (.str nm),.d (.int .u16 t),.d (.int .u32 (jb2 (l.getD 0 default).ttl l)),.all 6]),(6,.row 9 1 j .iff (strs (je4 l (K.take j))))]) (fun j=>min K.length 64 - j) ⟨0,[0,1,2,3,4,5,6],Nat.zero_le _,?_⟩ ?_
   ·conv=>whnf
    repeat'(first|exact ⟨⟩|exact rfl|exact qa0 _|exact .inr rfl|exact fun _ _=>rfl|exact noI|apply And.intro)
   intro j hj
   conv=>whnf
   refine⟨fun h1=>?_,fun h1=>?_⟩
   ·have h1:j<min K.length 64:=by
     have h:(j:Int)<((min K.length 64:Nat):Int):=of_decide_eq_true h1
     omega
    have hqj:=hq j (by omega)
    have hlt:=hKlt j (by omega)
    rw [<-hqj] at hlt
    conv=>whnf
    refine⟨by omega,?_⟩
    conv=>whnf
    first
     |rw[show 0+Int.toNat 0+(j:Int).toNat=j by simp]
     |rw[show Int.toNat 0+(j:Int).toNat=j by simp]
    generalize q j=v at hlt hqj ⊢
    refine⟨by omega,?_⟩
    conv=>whnf
    refine⟨by omega,?_⟩
    conv=>whnf
    rw[show IntKind.i64.wrap ((j:Int)+1)=((j+1:Nat):Int) by rw[qa4 _ (by omega)];omega]
    rw[Int.toNat_natCast,hqj]
    have hdt:=yk1 (l:=l) (K:=K) (j:=j) (by omega)
    have hdl:(je4 l (K.take j)).length=j:=by unfold je4;simp;omega
    refine⟨j+1,[0,1,2,3,4,5,8],h1,by omega,?_⟩
    rw[hdt]
    conv=>whnf
    repeat'(first|exact ⟨⟩|exact rfl|exact qa0 _|exact .inr rfl|exact fun _ _=>rfl|exact noI|apply And.intro)
    intro x hx
    have:=qo8 (je4 l (K.take j)) ((l.getD (K.getD j 0) default).d) (ql0 [DV.str (l.getD (K.getD j 0) default).d] 1) rfl x (by omega)
    rw [hdl] at this
    exact this
   ·have h1:j=min K.length 64:=by
     have h:¬ (j:Int)<((min K.length 64:Nat):Int):=of_decide_eq_false h1
     omega
    have htk:K.take j=K.take 64:=by
     rw[h1]
     rcases Nat.le_total K.length 64 with x|x
     ·rw[Nat.min_eq_left x,List.take_length,List.take_of_length_le x]
     ·rw[Nat.min_eq_right x]
    rw[htk,hlaw2]
    have hbl:(qx1 t l).length=j:=by rw[<-hlaw2];unfold je4;simp;omega
    have hj0:0<j:=by omega
    rw [<-hbl] at hj0 ⊢
    conv=>whnf
    repeat'(first|exact ⟨⟩|exact rfl|exact⟨rfl,rfl,.inr rfl,fun _ _=>rfl⟩|exact⟨rfl,rfl,.inl rfl,noI⟩|apply And.intro)
    ·generalize (qx1 t l).length=k at hj0
     cases k with
     |zero=>omega
     |succ k=>rfl
    ·exact .inr rfl
    ·exact fun _ _=>rfl
def qg4(r:RR):Bool:=r.cl == 1 && r.check
def xw3(z:Bool)(l:List RR):SV:=.fn 98 [.dptr [rrsD z l] 0]
theorem xa1(z:Bool)(l:List RR):FnOk Tryz.prog 62 [.d (rrsD z l)] (xw3 z l):=by
 refine COk.clos (t:=38) ?_
 refine qc7 (TT:=TT) (IN:=qd0 []) qd2 qa7 mixed 1000 Tryz.func62 rfl (qb7 Tryz.func62 (by kernel_rfl) rfl) 3 (by kernel_rfl) ?_
 conv=>whnf
 refine⟨[0],.fn 98 [.ptr 0 0],[.cells 38 [.d (rrsD z l)]],rfl,rfl,rfl,?_,rfl,rfl⟩
 repeat'(first|exact ⟨⟩|exact rfl|exact fun _=>Iff.rfl|exact fun _ _=>rfl|exact renM_ent rfl _|apply And.intro)
def rrs(l:List RR):Nat->List DV:=fun i=>(l.getD i default).enc
set_option maxHeartbeats 8000000 in
theorem zx3(z:Bool)(l:List RR)(hn:l.length<=100000):FnOk Tryz.prog 61 [xw3 z l] (.d (rrsD (l.filter qg4).isEmpty (l.filter qg4))):=by
 refine qa3 (TT:=TT) (IN:=qd0 [(97,Tryz.f97,2),(98,Tryz.f98,2)]) qd2 (qb8 (qb8 qa7 Tryz.func98 (by kernel_rfl) (by kernel_rfl)) Tryz.func97 (by kernel_rfl) (by kernel_rfl)) mixed 1000 Tryz.func61 rfl (qb7 Tryz.func61 (by kernel_rfl) rfl) rfl 4 (by kernel_rfl) ?_
 conv=>whnf
 refine .nilC 0 0 94 5 (rrs []) _ _ _ _ rfl rfl ?_
 conv=>whnf
 refine .inv Nat (fun i=>i<=l.length) (fun i=>[(7,iV i)]) (fun i=>[(2,.row 94 5 ((l.take i).filter qg4).length .iff (rrs ((l.take i).filter qg4)))]) (fun i=>l.length - i) ⟨0,[0,1,2],Nat.zero_le _,?_⟩ ?_
 ·conv=>whnf
  repeat'(first|exact ⟨⟩|exact rfl|exact qa0 _|exact .inr rfl|exact fun _ _=>rfl|exact noI|apply And.intro)
 intro i hi
 conv=>whnf
 refine⟨fun h1=>?_,fun h1=>?_⟩
 ·have h1:i<l.length:=by
   have h:(i:Int)<l.length:=of_decide_eq_true h1
   omega
  obtain⟨r,hr⟩:∃ r,l.getD i default=r:=⟨_,rfl⟩
  have htk:l.take (i+1)=l.take i++[r]:=by rw[List.take_add_one,<-hr,List.getD,List.getElem?_eq_getElem h1];rfl
  have hw1:IntKind.i64.wrap ((i:Int)+1)=((i+1:Nat):Int):=by rw[qa4 _ (by omega)];omega
  conv=>whnf
  refine⟨by omega,?_⟩
  conv=>whnf
  rw[Int.toNat_natCast,hr]
  refine⟨fun h2=>?_,fun h2=>?_⟩
  ·have hb:qg4 r=false:=by unfold qg4;rw[show(r.cl == 1)=false by simpa using h2];rfl
   have hf:(l.take (i+1)).filter qg4=(l.take i).filter qg4:=by rw[htk,List.filter_append];simp[hb]
   conv=>whnf
   rw[hw1]
   refine⟨i+1,[0,1,2],h1,by omega,?_⟩
   rw[hf]
   conv=>whnf
   repeat'(first|exact ⟨⟩|exact rfl|exact qa0 _|exact .inr rfl|exact fun _ _=>rfl|exact noI|apply And.intro)
  ·have hcl:(r.cl == 1)=true:=by simpa using h2
   conv=>whnf
   refine .one (.data _ (jb0 r) rfl rfl ?_)
   conv=>whnf
   cases hck:r.check with
   |false =>
    have hb:qg4 r=false:=by unfold qg4;rw[hck,Bool.and_false]
    have hf:(l.take (i+1)).filter qg4=(l.take i).filter qg4:=by rw[htk,List.filter_append];simp[hb]
    refine brT rfl ?_
    conv=>whnf
    rw[hw1]
    refine⟨i+1,[0,1,2],h1,by omega,?_⟩
    rw[hf]
    conv=>whnf
    repeat'(first|exact ⟨⟩|exact rfl|exact qa0 _|exact .inr rfl|exact fun _ _=>rfl|exact noI|apply And.intro)
   |true =>
    have hb:qg4 r=true:=by unfold qg4;rw[hck,hcl];rfl
    have hf:(l.take (i+1)).filter qg4=(l.take i).filter qg4++[r]:=by rw[htk,List.filter_append];simp[hb]
    have hll:((l.take i).filter qg4).length<=100000:=Nat.le_trans (List.length_filter_le _ _) (by simp;omega)
    refine brF rfl ?_
    conv=>whnf
    refine⟨by omega,?_⟩
    conv=>whnf
    rw[hw1]
    refine⟨i+1,[0,1,6],h1,by omega,?_⟩
    rw[hf]
    conv=>whnf
    repeat'(first|exact ⟨⟩|exact rfl|exact qa0 _|exact .inr rfl|exact fun _ _=>rfl|exact noI|apply And.intro)
    ·rw[List.length_append];rfl
    ·exact fun x hx=>zm1 _ r x hx
 ·have h1:i=l.length:=by
   have h:¬ (i:Int)<l.length:=of_decide_eq_false h1
   omega
  subst h1
  rw[List.take_length]
  conv=>whnf
  refine⟨?_,rfl,.inr rfl,fun _ _=>rfl⟩
  cases l.filter qg4 <;> rfl
structure St where
 nm:List UInt8
 ty:Int
 ttl:Int
 z:Bool
 data:List (List UInt8)
def St.no:St:=⟨[],0,0,true,[]⟩
instance:Inhabited St:=⟨St.no⟩
def St.V(s:St):SV:=setV s.nm s.ty s.ttl s.z s.data
def qm0(nm:List UInt8)(t:Int)(r:RR):Bool:=r.ty == t && (r.nm.length == nm.length && fold r.nm == fold nm)
def qe5(nm:List UInt8)(t:Int)(l:List RR):List RR:=(l.filter (qm0 nm t)).filter qg4
def js8(nm:List UInt8)(t:Int)(l:List RR):St:=⟨nm,t,jb2 (l.getD 0 default).ttl l,false,qx1 t l⟩
def qb2(nm:List UInt8)(t:Int)(l:List RR):St × Int:=if qa2 nm then (if (qe5 nm t l).isEmpty then (St.no,3) else (js8 nm t (qe5 nm t l),0)) else (St.no,3)
set_option maxHeartbeats 8000000 in
theorem jq3(nm:List UInt8)(t:Int)(z:Bool)(l:List RR)(hn:l.length<=100000)(hnm:nm.length<=100000)(hl:∀ r ∈ l,r.nm.length<=100000):FnOk Tryz.prog 32 [.d (.str nm),.d (.int .u16 t),.d (rrsD z l)] (.tup [(qb2 nm t l).1.V,.d (.int .i64 (qb2 nm t l).2)]):=by
 refine qa3 (TT:=TT) (IN:=qd0 [(60,Tryz.f60,4)]) qd2 (qb8 qa7 Tryz.func60 (by kernel_rfl) (by kernel_rfl)) mixed 1000 Tryz.func32 rfl (qb7 Tryz.func32 (by kernel_rfl) rfl) rfl 42 (by kernel_rfl) ?_
 conv=>whnf
 refine .one (.data _ (qd8 nm) rfl rfl ?_)
 by_cases hnn:qa2 nm
 ·rw[if_pos hnn]
  have hsp:qb2 nm t l=if (qe5 nm t l).isEmpty then (St.no,3) else (js8 nm t (qe5 nm t l),0):=if_pos hnn
  rw[hsp]
  conv=>whnf
  refine brF rfl ?_
  conv=>whnf
  refine .one (.data _ (qj6 nm (by omega)) rfl rfl ?_)
  conv=>whnf
  refine .nilT 10 94 5 (rrs []) _ _ rfl ?_
  conv=>whnf
  refine .inv Nat (fun i=>i<=l.length) (fun i=>[(22,iV i),(10,.all 4)]) (fun i=>[(4,.row 94 5 ((l.take i).filter (qm0 nm t)).length .iff (rrs ((l.take i).filter (qm0 nm t))))]) (fun i=>l.length - i) ⟨0,[0,1,2,3,4],Nat.zero_le _,?_⟩ ?_
  ·conv=>whnf
   repeat'(first|exact ⟨⟩|exact rfl|exact qa0 _|exact .inr rfl|exact fun _ _=>rfl|exact noI|apply And.intro)
  intro i hi
  conv=>whnf
  refine⟨fun h1=>?_,fun h1=>?_⟩
  ·have h1:i<l.length:=by
    have h:(i:Int)<l.length:=of_decide_eq_true h1
    omega
   obtain⟨r,hr⟩:∃ r,l.getD i default=r:=⟨_,rfl⟩
   have hrl:l[i]? = some r:=by rw[<-hr,List.getD,List.getElem?_eq_getElem h1];rfl
   have hrn:=hl r (List.mem_of_getElem? hrl)
   have htk:l.take (i+1)=l.take i++[r]:=by rw[List.take_add_one,hrl];rfl
   have hw1:IntKind.i64.wrap ((i:Int)+1)=((i+1:Nat):Int):=by rw[qa4 _ (by omega)];omega
   conv=>whnf
   refine⟨by omega,?_⟩
   conv=>whnf
   rw[Int.toNat_natCast,hr]
   refine⟨fun h2=>?_,fun h2=>?_⟩
   ·conv=>whnf
    refine⟨fun h3=>?_,fun h3=>?_⟩
    ·conv=>whnf
     refine .data _ (qj6 r.nm (by omega)) rfl rfl ?_
     conv=>whnf
     refine⟨fun h4=>?_,fun h4=>?_⟩
     ·have hb:qm0 nm t r=true:=by
       unfold qm0
       rw [xq9] at h3;rw [h2,h3,h4];rfl
      have hf:(l.take (i+1)).filter (qm0 nm t)=(l.take i).filter (qm0 nm t)++[r]:=by rw[htk,List.filter_append];simp[hb]
      have hll:((l.take i).filter (qm0 nm t)).length<=100000:=Nat.le_trans (List.length_filter_le _ _) (by simp;omega)
      conv=>whnf
      refine⟨by omega,?_⟩
      conv=>whnf
      rw[hw1]
      refine⟨i+1,[0,1,2,3,8],h1,by omega,?_⟩
      rw[hf]
      conv=>whnf
      repeat'(first|exact ⟨⟩|exact rfl|exact qa0 _|exact .inr rfl|exact fun _ _=>rfl|exact noI|apply And.intro)
      ·rw[List.length_append];rfl
      ·exact fun x hx=>zm1 _ r x hx
     ·have hb:qm0 nm t r=false:=by
       unfold qm0
       rw[h4,Bool.and_false,Bool.and_false]
      have hf:(l.take (i+1)).filter (qm0 nm t)=(l.take i).filter (qm0 nm t):=by rw[htk,List.filter_append];simp[hb]
      conv=>whnf
      repeat(first|(refine brF rfl ?_;conv=>whnf))
      rw[hw1]
      refine⟨i+1,[0,1,2,3,4],h1,by omega,?_⟩
      rw[hf]
      conv=>whnf
      repeat'(first|exact ⟨⟩|exact rfl|exact qa0 _|exact .inr rfl|exact fun _ _=>rfl|exact noI|apply And.intro)
    ·have hb:qm0 nm t r=false:=by
      unfold qm0
      rw [xq9] at h3;rw [h3,Bool.false_and,Bool.and_false]
     have hf:(l.take (i+1)).filter (qm0 nm t)=(l.take i).filter (qm0 nm t):=by rw[htk,List.filter_append];simp[hb]
     conv=>whnf
     repeat(first|(refine brF rfl ?_;conv=>whnf))
     rw[hw1]
     refine⟨i+1,[0,1,2,3,4],h1,by omega,?_⟩
     rw[hf]
     conv=>whnf
     repeat'(first|exact ⟨⟩|exact rfl|exact qa0 _|exact .inr rfl|exact fun _ _=>rfl|exact noI|apply And.intro)
   ·have hb:qm0 nm t r=false:=by
     unfold qm0
     rw[h2,Bool.false_and]
    have hf:(l.take (i+1)).filter (qm0 nm t)=(l.take i).filter (qm0 nm t):=by rw[htk,List.filter_append];simp[hb]
    conv=>whnf
    repeat(first|(refine brF rfl ?_;conv=>whnf))
    rw[hw1]
    refine⟨i+1,[0,1,2,3,4],h1,by omega,?_⟩
    rw[hf]
    conv=>whnf
    repeat'(first|exact ⟨⟩|exact rfl|exact qa0 _|exact .inr rfl|exact fun _ _=>rfl|exact noI|apply And.intro)
  ·have h1:i=l.length:=by
    have h:¬ (i:Int)<l.length:=of_decide_eq_false h1
    omega
   subst h1
   rw[List.take_length]
   have hfl:(l.filter (qm0 nm t)).length<=100000:=Nat.le_trans (List.length_filter_le _ _) hn
   have hpl:(qe5 nm t l).length<=100000:=Nat.le_trans (List.length_filter_le _ _) hfl
   conv=>whnf
   refine .one (.frz _ _ [4] (xa1 (Nat.beq (l.filter (qm0 nm t)).length 0) (l.filter (qm0 nm t))) ?_ rfl rfl ?_)
   ·conv=>whnf
    exact⟨rfl,rfl⟩
   conv=>whnf
   refine .one (.data _ (zx3 _ (l.filter (qm0 nm t)) hfl) rfl rfl ?_)
   rw[show(l.filter (qm0 nm t)).filter qg4=qe5 nm t l from rfl]
   generalize qe5 nm t l=m at hpl ⊢
   cases m with
   |nil =>
    conv=>whnf
    refine brT rfl ?_
    conv=>whnf
    repeat'(first|exact ⟨⟩|exact rfl|exact⟨rfl,rfl,.inr rfl,fun _ _=>rfl⟩|exact⟨rfl,rfl,.inl rfl,noI⟩|apply And.intro)
   |cons r m =>
    conv=>whnf
    refine brF rfl ?_
    conv=>whnf
    refine .one (.data _ (xu1 nm t false (r :: m) (by simp) hpl) rfl rfl ?_)
    conv=>whnf
    repeat'(first|exact ⟨⟩|exact rfl|exact⟨rfl,rfl,.inr rfl,fun _ _=>rfl⟩|exact⟨rfl,rfl,.inl rfl,noI⟩|apply And.intro)
 ·rw[if_neg hnn]
  have hsp:qb2 nm t l=(St.no,3):=if_neg hnn
  rw[hsp]
  conv=>whnf
  refine brT rfl ?_
  conv=>whnf
  repeat'(first|exact ⟨⟩|exact rfl|exact⟨rfl,rfl,.inr rfl,fun _ _=>rfl⟩|exact⟨rfl,rfl,.inl rfl,noI⟩|apply And.intro)
theorem zz6{a b:List (List UInt8)}(h:a.length≠b.length):(a == b)=false:=by
 cases e:a == b
 ·rfl
 ·exact absurd (congrArg List.length (eq_of_beq e)) h
def texD(z:Bool)(l:List (List UInt8)):DV:=.sl z l.length 1 (strs l)
set_option maxHeartbeats 4000000 in
theorem kd9(y z:Bool)(a b:List (List UInt8))(ha:a.length<4611686018427387904)(hb:b.length<4611686018427387904):FnOk Tryz.prog 133 [.d (texD y a),.d (texD z b)] (.d (.bool (a == b))):=by
 refine qa3 (TT:=TT) (IN:=qd0 []) qd2 qa7 mixed 1000 Tryz.func133 rfl (qb7 Tryz.func133 (by kernel_rfl) rfl) rfl 24 (by kernel_rfl) ?_
 conv=>whnf
 refine⟨fun h1=>?_,fun h1=>?_⟩
 ·have h:a.length≠b.length:=by intro e;rw [e] at h1;simp at h1
  rw[zz6 h]
  conv=>whnf
  first|done|exact rfl
 have hl:a.length=b.length:=by simp at h1;omega
 conv=>whnf
 refine .inv Nat (fun i=>i<=a.length/\(a.drop i == b.drop i)=(a == b)) (fun i=>[(13,.d (.int .i64 i))]) (fun _=>[]) (fun i=>a.length - i) ⟨0,[],⟨Nat.zero_le _,rfl⟩,?_⟩ ?_
 ·conv=>whnf
  repeat'(first|exact ⟨⟩|exact rfl|exact fun _=>Iff.rfl|exact fun _ _=>rfl|exact renM_ent rfl _|apply And.intro)
 rintro i ⟨hi,hrest⟩
 conv=>whnf
 refine⟨fun c5=>?_,fun c5=>?_⟩
 ·have c5':i<a.length:=(by have h:(i:Int)<a.length:=of_decide_eq_true c5;omega)
  conv=>whnf
  refine⟨by omega,?_⟩
  conv=>whnf
  refine⟨by omega,?_⟩
  conv=>whnf
  obtain⟨q,hq⟩:∃ q,a[i]?.getD []=q:=⟨_,rfl⟩
  obtain⟨r,hr⟩:∃ r,b[i]?.getD []=r:=⟨_,rfl⟩
  rw[Int.toNat_natCast,hq,hr]
  have hda:a.drop i=q :: a.drop (i+1):=by
   rw[List.drop_eq_getElem_cons c5',<-hq,List.getElem?_eq_getElem c5']
   rfl
  have hdb:b.drop i=r :: b.drop (i+1):=by
   rw[List.drop_eq_getElem_cons (by omega),<-hr,List.getElem?_eq_getElem (by omega)]
   rfl
  have hst:(q == r && a.drop (i+1) == b.drop (i+1))=(a == b):=by rw[<-hrest,hda,hdb];rfl
  cases he:q == r
  ·rw [he,Bool.false_and] at hst
   rw[<-hst]
   refine brT rfl ?_
   conv=>whnf
   first|done|exact rfl
  ·rw [he,Bool.true_and] at hst
   refine brF rfl ?_
   conv=>whnf
   have hw1:IntKind.i64.wrap ((i:Int)+1)=((i+1:Nat):Int):=by rw[qa4 _ (by omega)];omega
   refine⟨i+1,[],⟨c5',hst⟩,by omega,?_⟩
   conv=>whnf
   rw[hw1]
   repeat'(first|exact ⟨⟩|exact rfl|exact fun _=>Iff.rfl|exact fun _ _=>rfl|exact renM_ent rfl _|apply And.intro)
 have hia:i=a.length:=(by have h:¬ (i:Int)<a.length:=of_decide_eq_false c5;omega)
 rw [List.drop_of_length_le (by omega),List.drop_of_length_le (by omega)] at hrest
 rw[<-hrest]
 conv=>whnf
 exact rfl
def St.ok(s:St):Bool:=qs7 s.nm s.ty s.ttl s.data
def plsZ(l:List (List UInt8)):Nat->List DV:=fun j=>plW (l.getD j default)
def nmsZ(l:List (List UInt8)):List (List UInt8):=l.filter fun n=>decide (qa2 n)
theorem xp2(l:List (List UInt8))(r:List UInt8):∀ i,i<l.length+1->catF l.length (plsZ l) (ql0 (plW r) 2) i=plsZ (l++[r]) i:=fun i hi=>by
 unfold catF plsZ
 split
 ·rename_i h
  congr 1
  rw[List.getD_eq_getElem?_getD,List.getD_eq_getElem?_getD,List.getElem?_append_left h]
 ·have:i=l.length:=by omega
  subst this
  rw[Nat.sub_self,List.getD_eq_getElem?_getD,List.getElem?_append_right (Nat.le_refl _),Nat.sub_self]
  rfl
theorem xe4(l:List (List UInt8))(i:Nat)(n:List UInt8)(h:l[i]? = some n):nmsZ (l.take (i+1))=if qa2 n then nmsZ (l.take i)++[n] else nmsZ (l.take i):=by
 unfold nmsZ
 rw[List.take_add_one,h]
 by_cases hn:qa2 n <;> simp[hn]
set_option maxHeartbeats 8000000 in
theorem xm5(z:Bool)(l:List (List UInt8))(hn:l.length<=100000):FnOk Tryz.prog 109 [.d (.sl z l.length 1 (strs l))] (.d (.sl (qx9 l).isEmpty (qx9 l).length 1 (strs (qx9 l)))):=by
 refine qa3 (TT:=TT) (IN:=qd0 []) qd2 qa7 mixed 1000 Tryz.func109 rfl (qb7 Tryz.func109 (by kernel_rfl) rfl) rfl 55 (by kernel_rfl) ?_
 conv=>whnf
 refine .nilT 3 201 2 (plsZ []) _ _ rfl ?_
 conv=>whnf
 refine .inv Nat (fun i=>i<=l.length) (fun i=>[(11,iV i),(3,.all 0)]) (fun i=>[(0,.row 201 2 (nmsZ (l.take i)).length .iff (plsZ (nmsZ (l.take i))))]) (fun i=>l.length - i) ⟨0,[0],Nat.zero_le _,?_⟩ ?_
 ·conv=>whnf
  repeat'(first|exact ⟨⟩|exact rfl|exact qa0 _|exact .inr rfl|exact fun _ _=>rfl|exact noI|apply And.intro)
 intro i hi
 conv=>whnf
 have hfl:(nmsZ (l.take i)).length<=i:=Nat.le_trans (List.length_filter_le _ _) (by rw[List.length_take];omega)
 refine⟨fun h1=>?_,fun h1=>?_⟩
 ·have h1:i<l.length:=by
   have h:(i:Int)<l.length:=of_decide_eq_true h1
   omega
  have hw1:IntKind.i64.wrap ((i:Int)+1)=((i+1:Nat):Int):=by rw[qa4 _ (by omega)];omega
  have hli:l[i]? = some (l[i]?.getD []):=by rw[List.getElem?_eq_getElem h1];rfl
  have hnx:=xe4 l i _ hli
  conv=>whnf
  refine⟨by omega,?_⟩
  conv=>whnf
  rw[Int.toNat_natCast]
  generalize l[i]?.getD []=n at hli hnx ⊢
  refine .one (.data _ (qd8 n) rfl rfl ?_)
  by_cases hnn:qa2 n
  ·rw [if_pos hnn] at hnx ⊢
   conv=>whnf
   refine brT rfl ?_
   conv=>whnf
   refine .one (.data _ (xb7 n hnn) rfl rfl ?_)
   conv=>whnf
   refine⟨by omega,?_⟩
   conv=>whnf
   rw[hw1]
   refine⟨i+1,[2],h1,by omega,?_⟩
   rw[hnx]
   conv=>whnf
   repeat'(first|exact ⟨⟩|exact rfl|exact qa0 _|exact .inr rfl|exact fun _ _=>rfl|exact noI|apply And.intro)
   ·simp
   ·exact xp2 _ n
  ·rw [if_neg hnn] at hnx ⊢
   conv=>whnf
   refine brF rfl ?_
   conv=>whnf
   rw[hw1]
   refine⟨i+1,[0],h1,by omega,?_⟩
   rw[hnx]
   conv=>whnf
   repeat'(first|exact ⟨⟩|exact rfl|exact qa0 _|exact .inr rfl|exact fun _ _=>rfl|exact noI|apply And.intro)
 ·have h1:i=l.length:=by
   have h:¬ (i:Int)<l.length:=of_decide_eq_false h1
   omega
  subst h1
  rw[List.take_length]
  rw [List.take_length] at hfl
  conv=>whnf
  refine .rel _ (xm0 (nmsZ l) (nmsZ l).length (by omega) .iff (kg8 (nmsZ l))) (fun r ks' hR=>?_)
  obtain⟨rfl,q,hq,hrise,rfl⟩:=hR
  have hqs:=xn5 (nmsZ l) q hq hrise
  conv=>whnf
  refine .nilT 6 9 1 (strs []) _ _ rfl ?_
  conv=>whnf
  refine .inv Nat (fun i=>i<=(nmsZ l).length) (fun i=>[(30,iV i),(6,.all 1)]) (fun i=>[(1,.row 9 1 (yf3 (jd0 (nmsZ l)) i).length .iff (strs (yf3 (jd0 (nmsZ l)) i)))]) (fun i=>(nmsZ l).length - i) ⟨0,[0,1],Nat.zero_le _,?_⟩ ?_
  ·conv=>whnf
   repeat'(first|exact ⟨⟩|exact rfl|exact qa0 _|exact .inr rfl|exact fun _ _=>rfl|exact noI|apply And.intro)
  intro i hi
  conv=>whnf
  refine⟨fun h1=>?_,fun h1=>?_⟩
  ·have h1:i<(nmsZ l).length:=by
    have h:(i:Int)<(nmsZ l).length:=of_decide_eq_true h1
    omega
   have hw1:IntKind.i64.wrap ((i:Int)+1)=((i+1:Nat):Int):=by rw[qa4 _ (by omega)];omega
   have hul:=jz0 (jd0 (nmsZ l)) i
   conv=>whnf
   refine⟨by omega,?_⟩
   conv=>whnf
   rw[Int.toNat_natCast,hqs i h1]
   have hnx:=jf8 (jd0 (nmsZ l)) i
   refine⟨fun h2=>?_,fun h2=>?_⟩
   ·have h2:i=0:=by simpa using h2
    have hk:ya4 (jd0 (nmsZ l)) i=true:=by unfold ya4;rw[h2];rfl
    rw [hk,if_pos rfl] at hnx
    conv=>whnf
    refine⟨by omega,?_⟩
    conv=>whnf
    rw[hw1]
    refine⟨i+1,[0,4],h1,by omega,?_⟩
    rw[hnx]
    conv=>whnf
    repeat'(first|exact ⟨⟩|exact rfl|exact qa0 _|exact .inr rfl|exact fun _ _=>rfl|exact noI|apply And.intro)
    ·simp
    ·exact qo8 _ _ _ rfl
   ·have h2:i≠0:=by simpa using h2
    have hw2:IntKind.i64.wrap ((i:Int) - 1)=((i - 1:Nat):Int):=by rw[qa4 _ (by omega)];omega
    conv=>whnf
    rw[hw2]
    refine⟨by omega,?_⟩
    conv=>whnf
    rw[Int.toNat_natCast,hqs (i - 1) (by omega)]
    refine .data _ (kd9 _ _ _ _ (by have:=jf5 ((jd0 (nmsZ l)).getD i default);omega) (by have:=jf5 ((jd0 (nmsZ l)).getD (i - 1) default);omega)) rfl rfl ?_
    conv=>whnf
    refine⟨fun h3=>?_,fun h3=>?_⟩
    ·have hk:ya4 (jd0 (nmsZ l)) i=true:=by
      unfold ya4
      rw[Bool.or_eq_true]
      exact .inr (by simpa using h3)
     rw [hk,if_pos rfl] at hnx
     conv=>whnf
     refine⟨by omega,?_⟩
     conv=>whnf
     rw[hw1]
     refine⟨i+1,[0,4],h1,by omega,?_⟩
     rw[hnx]
     conv=>whnf
     repeat'(first|exact ⟨⟩|exact rfl|exact qa0 _|exact .inr rfl|exact fun _ _=>rfl|exact noI|apply And.intro)
     ·simp
     ·exact qo8 _ _ _ rfl
    ·have hk:ya4 (jd0 (nmsZ l)) i=false:=by
      unfold ya4
      rw[Bool.or_eq_false_iff]
      exact⟨by simpa using h2,by simpa using h3⟩
     rw [hk,if_neg (by decide)] at hnx
     conv=>whnf
     rw[hw1]
     refine⟨i+1,[0,1],h1,by omega,?_⟩
     rw[hnx]
     conv=>whnf
     repeat'(first|exact ⟨⟩|exact rfl|exact qa0 _|exact .inr rfl|exact fun _ _=>rfl|exact noI|apply And.intro)
  ·have h1:i=(nmsZ l).length:=by
    have h:¬ (i:Int)<(nmsZ l).length:=of_decide_eq_false h1
    omega
   subst h1
   conv=>whnf
   refine⟨?_,rfl,.inr rfl,fun _ _=>rfl⟩
   show(qx9 l).length.beq 0=_
   cases qx9 l <;> rfl
set_option maxHeartbeats 4000000 in
theorem jg0(a b:List UInt8):FnOk Tryz.prog 17 [.d (.str a),.d (.str b)] (.d (.bool (ql1 a b))):=by
 refine qa3 (TT:=TT) (IN:=qd0 []) qd2 qa7 mixed 1000 Tryz.func17 rfl (qb7 Tryz.func17 (by kernel_rfl) rfl) rfl 25 (by kernel_rfl) ?_
 conv=>whnf
 cases h0:((a.length:Int) == (b.length:Int))
 ·have:ql1 a b=false:=by
   cases hf:fold a == fold b
   ·unfold ql1;rw[hf,Bool.and_false,Bool.and_false]
   ·have:=congrArg List.length (eq_of_beq hf)
    rw [ju8,ju8] at this
    rw [this] at h0;simp at h0
  rw[this]
  refine brF rfl ?_
  conv=>whnf
  repeat(first|(refine brF rfl ?_;conv=>whnf))
  try exact rfl
 ·refine brT rfl ?_
  conv=>whnf
  refine .one (.data _ (qd8 a) rfl rfl ?_)
  by_cases ha:qa2 a
  ·rw[if_pos ha]
   conv=>whnf
   refine brT rfl ?_
   conv=>whnf
   refine .one (.data _ (qd8 b) rfl rfl ?_)
   by_cases hb:qa2 b
   ·rw[if_pos hb]
    conv=>whnf
    refine brT rfl ?_
    conv=>whnf
    refine .one (.data _ (qj6 a (js2 ha)) rfl rfl ?_)
    conv=>whnf
    refine .one (.data _ (qj6 b (js2 hb)) rfl rfl ?_)
    rw[show ql1 a b=(fold a == fold b) by unfold ql1;rw[decide_eq_true ha,decide_eq_true hb];rfl]
    conv=>whnf
    try exact rfl
   ·rw[if_neg hb,show ql1 a b=false by unfold ql1;rw[decide_eq_false hb,Bool.false_and,Bool.and_false]]
    conv=>whnf
    refine brF rfl ?_
    conv=>whnf
    repeat(first|(refine brF rfl ?_;conv=>whnf))
    try exact rfl
  ·rw[if_neg ha,show ql1 a b=false by unfold ql1;rw[decide_eq_false ha,Bool.false_and]]
   conv=>whnf
   refine brF rfl ?_
   conv=>whnf
   repeat(first|(refine brF rfl ?_;conv=>whnf))
   try exact rfl
def cutZ(apex:List UInt8)(r:RR):Bool:=isNs r && !ql1 r.nm apex
def jh5(z:Zo)(i:Nat):List (List UInt8):=((z.rrs.take i).filter (cutZ z.apex)).map (·.nm)
theorem zj2{z:Zo}{i:Nat}{r:RR}(h:z.rrs[i]? = some r):jh5 z (i+1)=if cutZ z.apex r then jh5 z i++[r.nm] else jh5 z i:=by
 unfold jh5
 rw[List.take_add_one,h]
 cases hc:cutZ z.apex r <;> simp[hc]
theorem yk3(z:Zo)(i:Nat):(jh5 z i).length<=i:=by
 unfold jh5
 rw[List.length_map]
 exact Nat.le_trans (List.length_filter_le _ _) (by rw[List.length_take];omega)
theorem yk4(z:Zo):jh5 z z.rrs.length=z.cutL:=by
 unfold jh5
 rw[List.take_length]
 rfl
set_option maxHeartbeats 8000000 in
theorem xi6(z:Zo)(S:List ((List UInt8 × Int × Int × List UInt8) × Nat))(N:List (List UInt8 × Hd))(hl:z.rrs.length<=100000) :
 COk Tryz.prog 75 [.ptr 0 0] (lookK z S N .free) (fun s k=>s = .d (.sl (qx9 z.cutL).isEmpty (qx9 z.cutL).length 1 (strs (qx9 z.cutL)))/\k=lookK z S N .free):=by
 refine qc7 (TT:=TT) (IN:=qd0 []) qd2 qa7 mixed 1000 Tryz.func75 rfl (qb7 Tryz.func75 (by kernel_rfl) rfl) 37 (by kernel_rfl) ?_
 conv=>whnf
 refine .nilT 3 9 1 (strs []) _ _ rfl ?_
 conv=>whnf
 refine .inv Nat (fun i=>i<=z.rrs.length) (fun i=>[(12,iV i),(3,.all 3)]) (fun i=>[(3,.row 9 1 (jh5 z i).length .iff (strs (jh5 z i)))]) (fun i=>z.rrs.length - i) ⟨0,[0,1,2,3],Nat.zero_le _,?_⟩ ?_
 ·conv=>whnf
  repeat'(first|exact ⟨⟩|exact rfl|exact qa0 _|exact .inr rfl|exact fun _ _=>rfl|exact noI|apply And.intro)
  all_goals first
   |exact qb0 _
   |exact qa9 _
   |exact qa8 _ _ _
 intro i hi
 conv=>whnf
 refine⟨fun h1=>?_,fun h1=>?_⟩
 ·have h1:i<z.rrs.length:=by
   have h:(i:Int)<z.rrs.length:=of_decide_eq_true h1
   omega
  have hw1:IntKind.i64.wrap ((i:Int)+1)=((i+1:Nat):Int):=by rw[qa4 _ (by omega)];omega
  obtain⟨r,hr⟩:∃ r,z.rrs.getD i default=r:=⟨_,rfl⟩
  have hrl:z.rrs[i]? = some r:=by rw[<-hr,List.getD,List.getElem?_eq_getElem h1];rfl
  have hnx:=zj2 hrl
  have hcl:=yk3 z i
  conv=>whnf
  refine⟨by omega,?_⟩
  conv=>whnf
  rw[Int.toNat_natCast,hr]
  refine⟨fun h2=>?_,fun h2=>?_⟩
  ·have h2:isNs r=true:=h2
   conv=>whnf
   refine .data _ (jg0 r.nm z.apex) rfl rfl ?_
   cases h3:ql1 r.nm z.apex with
   |true =>
    rw [show cutZ z.apex r=false by unfold cutZ;rw [h2,h3];rfl,if_neg (by decide)] at hnx
    conv=>whnf
    refine brF rfl ?_
    conv=>whnf
    rw[hw1]
    refine⟨i+1,[0,1,2,3],h1,by omega,?_⟩
    rw[hnx]
    conv=>whnf
    repeat'(first|exact ⟨⟩|exact rfl|exact qa0 _|exact .inr rfl|exact fun _ _=>rfl|exact noI|apply And.intro)
    all_goals first
     |exact qb0 _
     |exact qa9 _
     |exact qa8 _ _ _
   |false =>
    rw [show cutZ z.apex r=true by unfold cutZ;rw [h2,h3];rfl,if_pos rfl] at hnx
    conv=>whnf
    refine brT rfl ?_
    conv=>whnf
    refine⟨by omega,?_⟩
    conv=>whnf
    rw[hw1]
    refine⟨i+1,[0,1,2,6],h1,by omega,?_⟩
    rw[hnx]
    conv=>whnf
    repeat'(first|exact ⟨⟩|exact rfl|exact qa0 _|exact .inr rfl|exact fun _ _=>rfl|exact noI|apply And.intro)
    all_goals first
     |exact qb0 _
     |exact qa9 _
     |(show _+1=(_++[_]).length;simp;done)
     |exact qo8 _ _ _ rfl
  ·have h2:isNs r=false:=h2
   rw [show cutZ z.apex r=false by unfold cutZ;rw [h2];rfl,if_neg (by decide)] at hnx
   conv=>whnf
   rw[hw1]
   refine⟨i+1,[0,1,2,3],h1,by omega,?_⟩
   rw[hnx]
   conv=>whnf
   repeat'(first|exact ⟨⟩|exact rfl|exact qa0 _|exact .inr rfl|exact fun _ _=>rfl|exact noI|apply And.intro)
   all_goals first
    |exact qb0 _
    |exact qa9 _
    |exact qa8 _ _ _
 ·have h1:i=z.rrs.length:=by
   have h:¬ (i:Int)<z.rrs.length:=of_decide_eq_false h1
   omega
  subst h1
  rw[yk4]
  have hcl:z.cutL.length<=100000:=by rw[<-yk4];exact Nat.le_trans (yk3 _ _) hl
  conv=>whnf
  refine .one (.frz _ _ [3] (xm5 (Nat.beq z.cutL.length 0) z.cutL hcl) ?_ rfl rfl ?_)
  ·conv=>whnf
   exact⟨rfl,rfl⟩
  conv=>whnf
  refine⟨[0,1,2],_,lookK z S N .free,rfl,rfl,?_,?_,rfl,rfl⟩
  ·exact rfl
  ·conv=>whnf
   repeat'(first|exact ⟨⟩|exact rfl|exact qa0 _|exact .inr rfl|exact fun _ _=>rfl|exact noI|apply And.intro)
   all_goals first
    |exact qb0 _
    |exact qa9 _
    |exact qa8 _ _ _
def yd5(name c:List UInt8)(b:Option (List UInt8)):Option (List UInt8):=if qa1 name c then (match b with
 |none=>some c
 |some y=>if qa5 c<qa5 y then some c else some y) else b
def je9(name:List UInt8)(l:List (List UInt8)):Option (List UInt8):=l.foldl (fun b c=>yd5 name c b) none
theorem yk9(name:List UInt8)(l:List (List UInt8))(c:List UInt8):je9 name (l++[c])=yd5 name c (je9 name l):=by
 unfold je9
 rw[List.foldl_append]
 rfl
theorem xy5{α:Type}{P:List α->Prop}(h0:P [])(h1:∀ l a,P l->P (l++[a])):∀ l,P l:=fun l=>by
 rw[<-l.reverse_reverse]
 induction l.reverse with
 |nil=>exact h0
 |cons a m ih=>rw[List.reverse_cons];exact h1 _ _ ih
theorem jr0(name:List UInt8)(l:List (List UInt8)):match je9 name l with
 |none=>∀ c ∈ l,qa1 name c=false
 |some b=>b ∈ l/\qa1 name b=true/\∀ c ∈ l,qa1 name c=true->qa5 b<=qa5 c:=by
 refine xy5 (P:=fun l=>match je9 name l with
  |none=>∀ c ∈ l,qa1 name c=false
  |some b=>b ∈ l/\qa1 name b=true/\∀ c ∈ l,qa1 name c=true->qa5 b<=qa5 c) ?_ ?_ l
 ·exact fun c h=>by cases h
 ·intro l c ih
  rw[yk9]
  unfold yd5
  cases hw:qa1 name c with
  |false =>
   rw[if_neg (by decide)]
   cases hb:je9 name l with
   |none =>
    rw [hb] at ih
    intro x hx
    rcases List.mem_append.1 hx with hx|hx
    ·exact ih x hx
    ·rw[List.mem_singleton.1 hx];exact hw
   |some b =>
    rw [hb] at ih
    refine⟨List.mem_append_left _ ih.1,ih.2.1,fun x hx hxw=>?_⟩
    rcases List.mem_append.1 hx with hx|hx
    ·exact ih.2.2 x hx hxw
    ·rw [List.mem_singleton.1 hx,hw] at hxw;cases hxw
  |true =>
   rw[if_pos rfl]
   cases hb:je9 name l with
   |none =>
    rw [hb] at ih
    refine⟨by simp,hw,fun x hx hxw=>?_⟩
    rcases List.mem_append.1 hx with hx|hx
    ·rw [ih x hx] at hxw;cases hxw
    ·rw[List.mem_singleton.1 hx];exact Nat.le_refl _
   |some b =>
    rw [hb] at ih
    simp only
    by_cases hc:qa5 c<qa5 b
    ·rw[if_pos hc]
     refine⟨by simp,hw,fun x hx hxw=>?_⟩
     rcases List.mem_append.1 hx with hx|hx
     ·have:=ih.2.2 x hx hxw;omega
     ·rw[List.mem_singleton.1 hx];exact Nat.le_refl _
    ·rw[if_neg hc]
     refine⟨List.mem_append_left _ ih.1,ih.2.1,fun x hx hxw=>?_⟩
     rcases List.mem_append.1 hx with hx|hx
     ·exact ih.2.2 x hx hxw
     ·rw[List.mem_singleton.1 hx];omega
theorem zr5{n a b:List UInt8}(ha:qa1 n a=true)(hb:qa1 n b=true)(h:qa5 a=qa5 b):fold a=fold b:=by
 have na:=qb9 ha
 have nb:=qb9 hb
 unfold qa1 at ha hb
 simp only [Bool.and_eq_true,List.isSuffixOf_iff_suffix] at ha hb
 unfold qa5 at h
 rw [if_pos na.2,if_pos nb.2] at h
 have hl:(fl a).length=(fl b).length:=by unfold fl;rw[List.length_map,List.length_map];exact h
 have e:fl a=fl b:=by
  obtain⟨s,hs⟩:=ha.2.2
  obtain⟨t,ht⟩:=hb.2.2
  have:=hs.trans ht.symm
  exact(List.append_inj_right' this hl)
 rw[qs5 na.2,qs5 nb.2,e]
theorem topCut_none{name:List UInt8}:∀ {l:List (List UInt8)},jc5 name l=none↔∀ c ∈ l,qa1 name c=false
 |[]=>⟨fun _ c h=>(by cases h),fun _=>rfl⟩
 |c :: l=>by
  unfold jc5
  cases hw:qa1 name c with
  |true =>
   rw[if_pos rfl]
   refine⟨fun h=>?_,fun h=>?_⟩
   ·split at h
    ·cases h
    ·split at h <;> cases h
   ·have:=h c (List.mem_cons_self ..)
    rw [hw] at this;cases this
  |false =>
   rw[if_neg (by decide),topCut_none]
   exact⟨fun h x hx=>by
    rcases List.mem_cons.1 hx with rfl|hx
    ·exact hw
    ·exact h x hx,fun h x hx=>h x (List.mem_cons_of_mem _ hx)⟩
theorem zb8{a b:List UInt8}(ha:qa2 a)(hb:qa2 b)(h:fold a=fold b):qa5 a=qa5 b:=by
 rw[<-qf8 ha,<-qf8 hb,h]
theorem xu2{name:List UInt8}{l:List (List UInt8)}(hl:∀ c ∈ l,qa2 c):(je9 name (qx9 l)).map fold=jc5 name l:=by
 have hs:=jr0 name (qx9 l)
 cases hb:je9 name (qx9 l) with
 |none =>
  rw [hb] at hs
  refine(topCut_none.2 fun c hc=>?_).symm
  obtain⟨m,hm,e⟩:=jx1 hc (hl c hc)
  cases hw:qa1 name c
  ·rfl
  ·have:=qe7 (qm7 hm).2 e hw
   rw [hs m hm] at this;cases this
 |some b =>
  rw [hb] at hs
  obtain⟨h1,h2,h3⟩:=hs
  cases ht:jc5 name l with
  |none =>
   have:=topCut_none.1 ht b (qm7 h1).1
   rw [h2] at this;cases this
  |some t =>
   obtain⟨⟨c,hc,e,hw⟩,hmin⟩:=qk1 ht
   obtain⟨m,hm,em⟩:=jx1 hc (hl c hc)
   have hmw:=qe7 (qm7 hm).2 em hw
   have a1:=h3 m hm hmw
   have a2:=hmin b (qm7 h1).1 h2
   have a3:=zb8 (qm7 hm).2 (hl c hc) em
   have a4:qa5 t=qa5 c:=by rw[<-e];exact qf8 (hl c hc)
   rw[<-e]
   exact congrArg some (zr5 h2 hw (by omega))
abbrev Gp:=(List UInt8 × Int) × List RR
def addG:List Gp->(List UInt8 × Int)->RR->List Gp
 |[],k,r=>[(k,[r])]
 |(k',rs) :: G,k,r=>if k'=k then (k',rs++[r]) :: G else (k',rs) :: addG G k r
def plc(r:RR):List UInt8 × Int:=(fold r.nm,r.ty)
def xh0(r:RR):Bool:=qg4 r && r.ty != 41
def stepG(G:List Gp)(r:RR):List Gp:=if xh0 r then addG G (plc r) r else G
def St.enc(s:St):List DV:=[.str s.nm,.int .u16 s.ty,.int .u32 s.ttl,.sl s.z s.data.length 1 (strs s.data)]
def stsD(z:Bool)(l:List St):DV:=.sl z l.length 4 (fun i=>(l.getD i default).enc)
theorem xw1(l:List St)(q:St)(j:Nat)(hj:j<l.length+1):catF l.length (fun j=>(l.getD j default).enc) (ql0 q.enc 4) j=((l++[q]).getD j default).enc:=by
 show(if j<l.length then (l.getD j default).enc else ql0 q.enc 4 (j - l.length))=_
 by_cases h:j<l.length
 ·rw[if_pos h,List.getD,List.getD,List.getElem?_append_left h]
 ·have:j=l.length:=by omega
  subst this
  rw[if_neg h,Nat.sub_self,List.getD,List.getElem?_append_right (Nat.le_refl _),Nat.sub_self]
  rfl
theorem zl8{a b:List UInt8}(ha:qa2 a)(hb:qa2 b):ql1 a b=(fold a == fold b):=by
 unfold ql1;rw[decide_eq_true ha,decide_eq_true hb];rfl
theorem jz8{a b:List UInt8}(h:fold a=fold b):a.length=b.length:=by
 have:=congrArg List.length h
 rwa [ju8,ju8] at this
theorem zx5(t:Int)(l:List RR):(qx1 t l).length<=64:=by unfold qx1;simp;omega
theorem yv6{t:Int}:∀ (D:List (List UInt8)) (b:Bool) (last:List UInt8),(∀ d ∈ D,qm2 t d=true)->D.Pairwise (fun x y=>Op.bytesLess (qf6 t x) (qf6 t y)=true)->(b=true->∀ d ∈ D,Op.bytesLess last (qf6 t d)=true)->qw1 t b last D=true
 |[],_,_=>fun _ _ _=>rfl
 |d :: D,b,last=>fun h1 h2 h3=>by
  obtain⟨h4,h5⟩:=List.pairwise_cons.1 h2
  have ih:=yv6 D true (qf6 t d) (fun x hx=>h1 x (by simp[hx])) h5 (fun _ x hx=>h4 x hx)
  unfold qw1
  rw[h1 d (by simp),ih]
  cases b with
  |false=>rfl
  |true =>
   have h6:=h3 rfl d (by simp)
   rw [yd4 _ _ h6,show (qf6 t d == last)=false from Bool.eq_false_iff.2 (fun e=>by rw [eq_of_beq e,qv4] at h6;cases h6)]
   rfl
theorem yv5{t:Int}:∀ (D:List (List UInt8)) (b:Bool) (last:List UInt8),qw1 t b last D=true->(∀ d ∈ D,qm2 t d=true)/\D.Pairwise (fun x y=>Op.bytesLess (qf6 t x) (qf6 t y)=true)/\(b=true->∀ d ∈ D,Op.bytesLess last (qf6 t d)=true)
 |[],_,_=>fun _=>⟨fun _ h=>(by cases h),.nil,fun _ _ h=>(by cases h)⟩
 |d :: D,b,last=>fun h=>by
  unfold qw1 at h
  simp only [Bool.and_eq_true] at h
  obtain⟨⟨h1,h2⟩,h3⟩:=h
  obtain⟨a1,a2,a3⟩:=yv5 D true (qf6 t d) h3
  have hd:b=true->Op.bytesLess last (qf6 t d)=true:=fun hb=>by
   rw [hb] at h2
   simp only [Bool.true_and,Bool.not_eq_true',Bool.or_eq_false_iff] at h2
   cases e:Op.bytesLess last (qf6 t d)
   ·have:=js9 _ _ h2.1 e
    rw [this] at h2;simp at h2
   ·rfl
  refine⟨fun x hx=>?_,List.pairwise_cons.2 ⟨fun x hx=>a3 rfl x hx,a2⟩,fun hb x hx=>?_⟩
  ·rcases List.mem_cons.1 hx with rfl|hx
   ·exact h1
   ·exact a1 x hx
  ·rcases List.mem_cons.1 hx with rfl|hx
   ·exact hd hb
   ·exact jc2 _ _ _ (hd hb) (a3 rfl x hx)
theorem St.ok_iff(s:St):s.ok=true↔qa2 s.nm/\s.ttl<=2147483647/\(0<s.data.length/\s.data.length<=64)/\(∀ d ∈ s.data,qm2 s.ty d=true)/\s.data.Pairwise (fun x y=>Op.bytesLess (qf6 s.ty x) (qf6 s.ty y)=true):=by
 unfold St.ok qs7
 simp only[Bool.and_eq_true,decide_eq_true_eq]
 constructor
 ·rintro ⟨⟨⟨h1,h2⟩,h3⟩,h4⟩
  obtain⟨a1,a2,_⟩:=yv5 _ _ _ h4
  exact⟨h1,h2,h3,a1,a2⟩
 ·rintro ⟨h1,h2,h3,h4,h5⟩
  exact⟨⟨⟨h1,h2⟩,h3⟩,yv6 _ _ _ h4 h5 (fun h=>by cases h)⟩
theorem zn7:∀ (l:List RR) (a:Int),jb2 a l<=a/\∀ r ∈ l,jb2 a l<=r.ttl
 |[],a=>⟨Int.le_refl _,fun _ h=>(by cases h)⟩
 |r :: l,a=>by
  have ih:=zn7 l (if r.ttl<a then r.ttl else a)
  have e:jb2 a (r :: l)=jb2 (if r.ttl<a then r.ttl else a) l:=rfl
  rw[e]
  refine⟨?_,fun x hx=>?_⟩
  ·have:=ih.1
   split at this <;> omega
  ·rcases List.mem_cons.1 hx with rfl|hx
   ·have:=ih.1
    split at this <;> omega
   ·exact ih.2 x hx
theorem jp4{a:Int}:∀ (l:List RR),(∀ r ∈ l,r.ttl=a)->jb2 a l=a
 |[],_=>rfl
 |r :: l,h=>by
  have e:jb2 a (r :: l)=jb2 (if r.ttl<a then r.ttl else a) l:=rfl
  rw[e,if_neg (by rw[h r (by simp)];omega)]
  exact jp4 l (fun x hx=>h x (by simp[hx]))
theorem yj1{r:RR}(h:xh0 r=true):r.cl=1/\r.check=true/\r.ty≠41/\qa2 r.nm/\qm2 r.ty r.d=true/\r.ttl<=2147483647:=by
 unfold xh0 qg4 at h
 simp only [Bool.and_eq_true,bne_iff_ne,ne_eq,beq_iff_eq] at h
 obtain⟨⟨h1,h2⟩,h3⟩:=h
 have hc:=h2
 unfold RR.check at hc
 simp only [Bool.and_eq_true,decide_eq_true_eq,Bool.or_eq_true,beq_iff_eq] at hc
 exact⟨h1,h2,h3,hc.1.1,hc.1.2,hc.2.resolve_right h3⟩
theorem jc1(t:Int)(rs:List RR):Firsts (qf6 t) (rs.map (·.d)) (qp4 (qf6 t) (rs.map (·.d))):=jn0 _ _
theorem ym2{α:Type}{R:α->α->Prop}{l:List α}(n:Nat)(h:l.Pairwise R):(l.take n).Pairwise R:=h.sublist (List.take_sublist n l)
theorem qh6{nm:List UInt8}{t:Int}{l:List RR}(h:(qb2 nm t l).2=0)(ht:t≠41):(qb2 nm t l).1.ok=true/\(qb2 nm t l).1.nm=nm/\(qb2 nm t l).1.ty=t/\qa2 nm:=by
 by_cases hn:qa2 nm
 case neg =>
  rw [show qb2 nm t l=(St.no,3) from if_neg hn] at h
  exact absurd h (by decide)
 have e:qb2 nm t l=if (qe5 nm t l).isEmpty then (St.no,3) else (js8 nm t (qe5 nm t l),0):=if_pos hn
 rw [e] at h ⊢
 cases hp:(qe5 nm t l).isEmpty with
 |true=>rw [hp] at h;exact absurd (show (3:Int)=0 from h) (by decide)
 |false =>
  have hne:qe5 nm t l≠[]:=fun e=>by rw [e] at hp;cases hp
  have hall:∀ r ∈ qe5 nm t l,xh0 r=true/\r.ty=t:=fun r hr=>by
   unfold qe5 at hr
   obtain⟨h1,h2⟩:=List.mem_filter.1 hr
   obtain⟨_,h3⟩:=List.mem_filter.1 h1
   unfold qm0 at h3
   simp only [Bool.and_eq_true,beq_iff_eq] at h3
   refine⟨?_,h3.1⟩
   unfold xh0
   rw[h2,h3.1]
   simpa using ht
  generalize qe5 nm t l=P at hne hall ⊢
  have hF:=jc1 t P
  have hm:P.getD 0 default ∈ P:=by
   cases P with
   |nil=>exact absurd rfl hne
   |cons a P=>simp
  refine⟨(St.ok_iff _).2 ⟨hn,?_,⟨?_,zx5 _ _⟩,fun d hd=>?_,?_⟩,rfl,rfl,hn⟩
  ·have h1:=(zn7 P (P.getD 0 default).ttl).1
   have h2:=(yj1 (hall _ hm).1).2.2.2.2.2
   show jb2 (P.getD 0 default).ttl P<=2147483647
   omega
  ·show 0<(qx1 t P).length
   have:=hF.len (by simpa using hne)
   unfold qx1
   rw[List.length_take]
   omega
  ·have hd:d ∈ qp4 (qf6 t) (P.map (·.d)):=List.mem_of_mem_take hd
   obtain⟨i,hi⟩:=hF.from hd
   obtain⟨r,hr,rfl⟩:=List.mem_map.1 (List.mem_of_getElem? hi)
   have:=(yj1 (hall r hr).1).2.2.2.2.1
   show qm2 t r.d=true
   rw[<-(hall r hr).2];exact this
  ·exact ym2 64 hF.rise
def qh0(zs:List Zo)(i:Nat):List (List UInt8):=(zs.take i++zs.drop (i+1)).map (·.apex)
def qr3(n:List UInt8):List (List UInt8)->Option (List UInt8)->Option (List UInt8)
 |[],b=>b
 |c :: l,b=>qr3 n l (if qa1 n c then (match b with
  |none=>some c
  |some y=>if qa5 y<qa5 c then some c else some y) else b)
def zd1(zs:List Zo)(i:Nat)(apex:List UInt8):Option Nat:=match qr3 apex (qh0 zs i) none with
 |none=>none
 |some a=>qg6 zs (fold a)
def zv6(zs:List Zo):Bool:=(List.range zs.length).all fun i=>i == 0 || (match zd1 zs i (zs.getD i default).apex with
 |none=>false
 |some a=>(zs.getD a default).cutL.any fun c=>fold c == fold (zs.getD i default).apex)
def yx6:List Int->Bool
 |[]=>true
 |a :: l=>!l.contains a && yx6 l
def qv5:List (List UInt8)->Bool
 |[]=>true
 |a :: l=>!l.contains a && qv5 l
def qm6(n:Nat)(hs:List (Int × Bool × List Int)):Bool:=yx6 (hs.map (·.1)) && hs.all fun h=>h.2.2.all fun at_=>decide (0<=at_) && decide (at_<(n:Int))
def Fo.ok(f:Fo):Bool:=decide (1<=f.zones.length) && (decide (f.zones.length<=64) && (decide (f.hosts.length<=64) && (f.zones.all Zo.ok && (qv5 (f.zones.map fun z=>fold z.apex) && (fold (f.zones.getD 0 default).apex == [0] && (zv6 f.zones && qm6 f.zones.length f.hosts))))))
structure Ver where
 chain:List St
 ans:St
 code:Int
 why:Int
def qi8(z:Zo)(name:List UInt8):Bool:=qa1 name z.apex && z.rrs.any fun r=>qa1 r.nm name
def ofF(zs:List Zo)(ty:Int):Nat->List UInt8->List St->Ver
 |0,_,_=>⟨[],St.no,0,9⟩
 |k+1,name,chain=>if qa2 name then (match qo4 zs name 300 0 with
  |none=>⟨[],St.no,0,12⟩
  |some at_=>if (qb2 name ty (zs.getD at_ default).rrs).2=0 then ⟨chain,(qb2 name ty (zs.getD at_ default).rrs).1,0,0⟩
   else if ty=5\/(qb2 name 5 (zs.getD at_ default).rrs).2≠0\/(qb2 name 5 (zs.getD at_ default).rrs).1.data.length=0 then ⟨chain,St.no,if qi8 (zs.getD at_ default) name then 0 else 3,0⟩
   else if chain.length >= 8 then ⟨[],St.no,0,9⟩
   else ofF zs ty k ((qb2 name 5 (zs.getD at_ default).rrs).1.data.headD []) (chain++[(qb2 name 5 (zs.getD at_ default).rrs).1])) else ⟨[],St.no,0,2⟩
theorem zs8{n:List UInt8}(h:qa2 n):ql1 n n=true:=by
 unfold ql1
 rw[decide_eq_true h]
 simp
theorem kb6{nm:List UInt8}{t:Int}{l:List RR}(h:(qb2 nm t l).2=0):∃ r ∈ l,r.ty=t:=by
 by_cases hn:qa2 nm
 case neg =>
  rw [show qb2 nm t l=(St.no,3) from if_neg hn] at h
  exact absurd h (by decide)
 have e:qb2 nm t l=if (qe5 nm t l).isEmpty then (St.no,3) else (js8 nm t (qe5 nm t l),0):=if_pos hn
 rw [e] at h
 cases hp:qe5 nm t l with
 |nil=>rw [hp] at h;exact absurd (show (3:Int)=0 from h) (by decide)
 |cons r P =>
  have hr:r ∈ qe5 nm t l:=by rw[hp];exact List.mem_cons_self ..
  unfold qe5 at hr
  obtain⟨h1,_⟩:=List.mem_filter.1 hr
  obtain⟨h2,h3⟩:=List.mem_filter.1 h1
  unfold qm0 at h3
  simp only [Bool.and_eq_true,beq_iff_eq] at h3
  exact⟨r,h2,h3.1⟩
def Zo.Fit(z:Zo):Prop:=∀ r ∈ z.rrs,r.nm.length<=100000/\r.d.length<=100000
theorem Zo.ok_len{z:Zo}(h:z.ok=true):z.rrs.length<=256:=by
 unfold Zo.ok at h
 simp only [Bool.and_eq_true,decide_eq_true_eq] at h
 exact h.2.1
theorem jx4(z:Zo)(hz:z.Fit)(ks:List KB):COk Tryz.prog 74 [z.V] ks (fun s k=>∃ S N,s = .tup [.agg [.d (.str z.apex),.d (rrsD z.z z.rrs),.map (lenB ks),.map (lenB ks+1)],.d (.bool z.ok)]/\k=appB ks [jt3 S,jl7 N .free]) :=
 (COk.frameX (ke4 z hz) [] rfl rfl rfl).imp fun r k ⟨s0,k0,⟨S,N,h1,h2⟩,h3,h4⟩=>by
  refine⟨S,N,?_,?_⟩
  ·rw[h3,h1];rfl
  ·rw[h4,h2]
   show appB ks [KB.mapx _ _ _ (mapM _ (aenc jd1 intV S)) _,KB.mapx _ _ _ (mapM _ (aenc strK Hd.enc N)) _]=_
   rw[ym9,yp0]
   rfl
set_option maxHeartbeats 8000000 in
theorem ys9(z:Zo)(hz:z.Fit):FnOk Tryz.prog 39 [z.V] (.d (.int .i64 (if z.ok then 0 else 2))):=by
 refine qa3 (TT:=TT) (IN:=qd0 []) qd2 qa7 mixed 1000 Tryz.func39 rfl (qb7 Tryz.func39 (by kernel_rfl) rfl) rfl 11 (by kernel_rfl) ?_
 conv=>whnf
 refine .rel _ (jx4 z hz _) (fun r ks' hR=>?_)
 obtain⟨S,N,rfl,rfl⟩:=hR
 conv=>whnf
 cases h:z.ok with
 |false =>
  refine brT rfl ?_
  conv=>whnf
  exact rfl
 |true =>
  refine brF rfl ?_
  conv=>whnf
  exact rfl
def kh8(l:List (List UInt8)):DV:=.sl l.isEmpty l.length 1 (strs l)
def je5(z:Zo):List (List UInt8):=if z.ok then qx9 z.cutL else []
set_option maxHeartbeats 8000000 in
theorem xm4(z:Zo)(hz:z.Fit):FnOk Tryz.prog 93 [z.V] (.d (kh8 (je5 z))):=by
 refine qa3 (TT:=TT) (IN:=qd0 []) qd2 qa7 mixed 1000 Tryz.func93 rfl (qb7 Tryz.func93 (by kernel_rfl) rfl) rfl 12 (by kernel_rfl) ?_
 conv=>whnf
 refine .rel _ (jx4 z hz _) (fun r ks' hR=>?_)
 obtain⟨S,N,rfl,rfl⟩:=hR
 unfold je5
 cases h:z.ok with
 |false =>
  rw[if_neg (by decide)]
  conv=>whnf
  refine brT rfl ?_
  conv=>whnf
  repeat'(first|exact ⟨⟩|exact rfl|exact⟨rfl,rfl,.inr rfl,fun _ _=>rfl⟩|exact⟨rfl,rfl,.inl rfl,noI⟩|apply And.intro)
 |true =>
  rw[if_pos rfl]
  conv=>whnf
  refine brF rfl ?_
  conv=>whnf
  refine .rel _ (COk.frameX (xi6 z S N (by have:=z.ok_len h;omega)) [3,1,2] rfl rfl (by rw[qo2];rfl)) (fun x ks' hR=>?_)
  obtain⟨s0,k0,⟨rfl,rfl⟩,rfl,rfl⟩:=hR
  conv=>whnf
  repeat'(first|exact ⟨⟩|exact rfl|exact⟨rfl,rfl,.inr rfl,fun _ _=>rfl⟩|exact⟨rfl,rfl,.inl rfl,noI⟩|apply And.intro)
def getZ(z:Zo)(name:List UInt8)(t:Int):St × Int:=if z.ok then qb2 name t z.rrs else (St.no,2)
set_option maxHeartbeats 8000000 in
theorem yl3(z:Zo)(hz:z.Fit)(name:List UInt8)(t:Int)(hn:name.length<=100000):FnOk Tryz.prog 45 [z.V,.d (.str name),.d (.int .u16 t)] (.tup [(getZ z name t).1.V,.d (.int .i64 (getZ z name t).2)]):=by
 refine qa3 (TT:=TT) (IN:=qd0 []) qd2 qa7 mixed 1000 Tryz.func45 rfl (qb7 Tryz.func45 (by kernel_rfl) rfl) rfl 23 (by kernel_rfl) ?_
 conv=>whnf
 refine .rel _ (jx4 z hz _) (fun r ks' hR=>?_)
 obtain⟨S,N,rfl,rfl⟩:=hR
 unfold getZ
 cases h:z.ok with
 |false =>
  conv=>whnf
  refine brT rfl ?_
  conv=>whnf
  repeat'(first|exact ⟨⟩|exact rfl|exact⟨rfl,rfl,.inr rfl,fun _ _=>rfl⟩|exact⟨rfl,rfl,.inl rfl,noI⟩|apply And.intro)
 |true =>
  rw[if_pos rfl]
  have hl:=z.ok_len h
  conv=>whnf
  refine brF rfl ?_
  conv=>whnf
  refine .one (.data _ (jq3 name t z.z z.rrs (by omega) hn (fun r hr=>(hz r hr).1)) rfl rfl ?_)
  conv=>whnf
  repeat'(first|exact ⟨⟩|exact rfl|exact⟨rfl,rfl,.inr rfl,fun _ _=>rfl⟩|exact⟨rfl,rfl,.inl rfl,noI⟩|apply And.intro)
def qh2(z:Zo)(name:List UInt8):Bool:=z.ok && qi8 z name
theorem ys0{l:List RR}{p:RR->Bool}{i:Nat}{r:RR}(h:l[i]? = some r)(hp:p r=false)(ha:(l.take i).any p=false):(l.take (i+1)).any p=false:=by
 rw[List.take_add_one,h,List.any_append,ha]
 simp[hp]
set_option maxHeartbeats 8000000 in
theorem qp9(z:Zo)(hz:z.Fit)(name:List UInt8):FnOk Tryz.prog 46 [z.V,.d (.str name)] (.d (.bool (qh2 z name))):=by
 refine qa3 (TT:=TT) (IN:=qd0 []) qd2 qa7 mixed 1000 Tryz.func46 rfl (qb7 Tryz.func46 (by kernel_rfl) rfl) rfl 35 (by kernel_rfl) ?_
 conv=>whnf
 refine .rel _ (jx4 z hz _) (fun r ks' hR=>?_)
 obtain⟨S,N,rfl,rfl⟩:=hR
 unfold qh2
 cases h:z.ok with
 |false =>
  conv=>whnf
  refine brT rfl ?_
  conv=>whnf
  exact rfl
 |true =>
  have hl:=z.ok_len h
  conv=>whnf
  refine brF rfl ?_
  conv=>whnf
  refine .one (.data _ (ql3 _ _) rfl rfl ?_)
  unfold qi8
  cases hw:qa1 name z.apex with
  |false =>
   conv=>whnf
   refine brT rfl ?_
   conv=>whnf
   exact rfl
  |true =>
   conv=>whnf
   refine brF rfl ?_
   conv=>whnf
   refine .inv Nat (fun i=>i<=z.rrs.length/\(z.rrs.take i).any (fun r=>qa1 r.nm name)=false) (fun i=>[(28,iV i)]) (fun i=>[]) (fun i=>z.rrs.length - i) ⟨0,[0,1,2,3],⟨Nat.zero_le _,rfl⟩,?_⟩ ?_
   ·conv=>whnf
    repeat'(first|exact ⟨⟩|exact rfl|exact qa0 _|exact .inr rfl|exact fun _ _=>rfl|exact noI|apply And.intro)
    all_goals first
     |exact qb0 _
     |exact qa9 _
     |exact qa8 _ _ _
   intro i hi
   obtain⟨hi,hti⟩:=hi
   conv=>whnf
   refine⟨fun h2=>?_,fun h2=>?_⟩
   ·have h2:i<z.rrs.length:=by
     have h:(i:Int)<z.rrs.length:=of_decide_eq_true h2
     omega
    have hw1:IntKind.i64.wrap ((i:Int)+1)=((i+1:Nat):Int):=by rw[qa4 _ (by omega)];omega
    obtain⟨r,hr⟩:∃ r,z.rrs.getD i default=r:=⟨_,rfl⟩
    have hrl:z.rrs[i]? = some r:=by rw[<-hr,List.getD,List.getElem?_eq_getElem h2];rfl
    conv=>whnf
    refine⟨by omega,?_⟩
    conv=>whnf
    rw[Int.toNat_natCast,hr]
    refine .one (.data _ (ql3 _ _) rfl rfl ?_)
    cases hwr:qa1 r.nm name with
    |true =>
     have hb:(z.rrs.any fun r=>qa1 r.nm name)=true:=List.any_eq_true.2 ⟨r,List.mem_of_getElem? hrl,hwr⟩
     rw[hb]
     conv=>whnf
     refine brT rfl ?_
     conv=>whnf
     exact rfl
    |false =>
     conv=>whnf
     refine brF rfl ?_
     conv=>whnf
     rw[hw1]
     refine⟨i+1,[0,1,2,3],⟨h2,ys0 hrl hwr hti⟩,by omega,?_⟩
     conv=>whnf
     repeat'(first|exact ⟨⟩|exact rfl|exact qa0 _|exact .inr rfl|exact fun _ _=>rfl|exact noI|apply And.intro)
     all_goals first
      |exact qb0 _
      |exact qa9 _
      |exact qa8 _ _ _
   ·have h2:i=z.rrs.length:=by
     have h:¬ (i:Int)<z.rrs.length:=of_decide_eq_false h2
     omega
    subst h2
    rw [List.take_length] at hti
    rw[hti]
    conv=>whnf
    exact rfl
def cutQ(z:Zo)(name:List UInt8):St × Int:=if z.ok then (match je9 name (qx9 z.cutL) with
 |none=>(St.no,3)
 |some c=>qb2 c 2 z.rrs) else (St.no,2)
def fewC:Option (List UInt8)->Int
 |none=>-1
 |some c=>qa5 c
theorem zx6{name:List UInt8}{l:List (List UInt8)}{i:Nat}{c:List UInt8}(h:l[i]? = some c):je9 name (l.take (i+1))=yd5 name c (je9 name (l.take i)):=by
 rw[List.take_add_one,h]
 exact yk9 name _ c
set_option maxHeartbeats 8000000 in
theorem zd3(z:Zo)(hz:z.Fit)(name:List UInt8):FnOk Tryz.prog 40 [z.V,.d (.str name)] (.tup [(cutQ z name).1.V,.d (.int .i64 (cutQ z name).2)]):=by
 refine qa3 (TT:=TT) (IN:=qd0 []) qd2 qa7 mixed 1000 Tryz.func40 rfl (qb7 Tryz.func40 (by kernel_rfl) rfl) rfl 51 (by kernel_rfl) ?_
 conv=>whnf
 refine .rel _ (jx4 z hz _) (fun r ks' hR=>?_)
 obtain⟨S,N,rfl,rfl⟩:=hR
 unfold cutQ
 cases h:z.ok with
 |false =>
  conv=>whnf
  refine brT rfl ?_
  conv=>whnf
  repeat'(first|exact ⟨⟩|exact rfl|exact⟨rfl,rfl,.inr rfl,fun _ _=>rfl⟩|exact⟨rfl,rfl,.inl rfl,noI⟩|apply And.intro)
 |true =>
  rw[if_pos rfl]
  have hl:=z.ok_len h
  conv=>whnf
  refine brF rfl ?_
  conv=>whnf
  refine .rel _ (COk.frameX (xi6 z S N (by omega)) [4,2,3] rfl rfl (by rw[qo2];rfl)) (fun x ks' hR=>?_)
  obtain⟨s0,k0,⟨rfl,rfl⟩,rfl,rfl⟩:=hR
  rw[qo2]
  have hsl:(qx9 z.cutL).length<=100000:=by
   have h1:=yu1 z.cutL
   have h2:z.cutL.length<=z.rrs.length:=by unfold Zo.cutL;rw[List.length_map];exact List.length_filter_le _ _
   omega
  have hsn:∀ c ∈ qx9 z.cutL,qa2 c:=fun c hc=>(qm7 hc).2
  generalize qx9 z.cutL=L at hsl hsn ⊢
  conv=>whnf
  refine .inv Nat (fun i=>i<=L.length) (fun i=>[(23,iV i),(8,.d (.str ((je9 name (L.take i)).getD []))),(9,.d (.int .i64 (fewC (je9 name (L.take i)))))]) (fun i=>[]) (fun i=>L.length - i) ⟨0,[0,1,2,3,4],Nat.zero_le _,?_⟩ ?_
  ·conv=>whnf
   repeat'(first|exact ⟨⟩|exact rfl|exact qa0 _|exact .inr rfl|exact fun _ _=>rfl|exact noI|apply And.intro)
   all_goals first
    |exact qb0 _
    |exact qa9 _
    |exact qa8 _ _ _
  intro i hi
  conv=>whnf
  refine⟨fun h2=>?_,fun h2=>?_⟩
  ·have h2:i<L.length:=by
    have h:(i:Int)<L.length:=of_decide_eq_true h2
    omega
   have hw1:IntKind.i64.wrap ((i:Int)+1)=((i+1:Nat):Int):=by rw[qa4 _ (by omega)];omega
   have hli:L[i]? = some (L[i]?.getD []):=by rw[List.getElem?_eq_getElem h2];rfl
   have hnx:=zx6 (name:=name) hli
   conv=>whnf
   refine⟨by omega,?_⟩
   conv=>whnf
   rw[Int.toNat_natCast]
   generalize L[i]?.getD []=c at hli hnx ⊢
   unfold yd5 at hnx
   refine .one (.data _ (ql3 _ _) rfl rfl ?_)
   cases hw:qa1 name c with
   |false =>
    rw [hw,if_neg (by decide)] at hnx
    conv=>whnf
    refine brT rfl ?_
    conv=>whnf
    rw[hw1]
    refine⟨i+1,[0,1,2,3,4],h2,by omega,?_⟩
    rw[hnx]
    conv=>whnf
    repeat'(first|exact ⟨⟩|exact rfl|exact qa0 _|exact .inr rfl|exact fun _ _=>rfl|exact noI|apply And.intro)
    all_goals first
     |exact qb0 _
     |exact qa9 _
     |exact qa8 _ _ _
   |true =>
    rw [hw,if_pos rfl] at hnx
    conv=>whnf
    refine brF rfl ?_
    conv=>whnf
    refine .one (.data _ (jn6 _) rfl rfl ?_)
    conv=>whnf
    cases hb:je9 name (L.take i) with
    |none =>
     rw [hb] at hnx
     refine brT rfl ?_
     conv=>whnf
     rw[hw1]
     refine⟨i+1,[0,1,2,3,4],h2,by omega,?_⟩
     rw[hnx]
     conv=>whnf
     repeat'(first|exact ⟨⟩|exact rfl|exact qa0 _|exact .inr rfl|exact fun _ _=>rfl|exact noI|apply And.intro)
     all_goals first
      |exact qb0 _
      |exact qa9 _
      |exact qa8 _ _ _
    |some y =>
     rw [hb] at hnx
     simp only at hnx
     refine brF (decide_eq_false (by show ¬ ((qa5 y:Nat):Int)<0;omega)) ?_
     conv=>whnf
     by_cases hc:qa5 c<qa5 y
     ·rw [if_pos hc] at hnx
      refine brT (decide_eq_true (by show((qa5 c:Nat):Int)<((qa5 y:Nat):Int);omega)) ?_
      conv=>whnf
      rw[hw1]
      refine⟨i+1,[0,1,2,3,4],h2,by omega,?_⟩
      rw[hnx]
      conv=>whnf
      repeat'(first|exact ⟨⟩|exact rfl|exact qa0 _|exact .inr rfl|exact fun _ _=>rfl|exact noI|apply And.intro)
      all_goals first
       |exact qb0 _
       |exact qa9 _
       |exact qa8 _ _ _
     ·rw [if_neg hc] at hnx
      refine brF (decide_eq_false (by show ¬ ((qa5 c:Nat):Int)<((qa5 y:Nat):Int);omega)) ?_
      conv=>whnf
      rw[hw1]
      refine⟨i+1,[0,1,2,3,4],h2,by omega,?_⟩
      rw[hnx]
      conv=>whnf
      repeat'(first|exact ⟨⟩|exact rfl|exact qa0 _|exact .inr rfl|exact fun _ _=>rfl|exact noI|apply And.intro)
      all_goals first
       |exact qb0 _
       |exact qa9 _
       |exact qa8 _ _ _
  ·have h2:i=L.length:=by
    have h:¬ (i:Int)<L.length:=of_decide_eq_false h2
    omega
   subst h2
   have hsp:=jr0 name L
   rw[List.take_length]
   conv=>whnf
   cases hb:je9 name L with
   |none =>
    refine brT rfl ?_
    conv=>whnf
    repeat'(first|exact ⟨⟩|exact rfl|exact⟨rfl,rfl,.inr rfl,fun _ _=>rfl⟩|exact⟨rfl,rfl,.inl rfl,noI⟩|apply And.intro)
   |some c =>
    rw [hb] at hsp
    have hcn:=hsn c hsp.1
    refine brF (decide_eq_false (by show ¬ ((qa5 c:Nat):Int)<0;omega)) ?_
    conv=>whnf
    refine .one (.data _ (jq3 c 2 z.z z.rrs (by omega) (by have:=hcn.2.1;omega) (fun r hr=>(hz r hr).1)) rfl rfl ?_)
    conv=>whnf
    repeat'(first|exact ⟨⟩|exact rfl|exact⟨rfl,rfl,.inr rfl,fun _ _=>rfl⟩|exact⟨rfl,rfl,.inl rfl,noI⟩|apply And.intro)
def yk0(n c:List UInt8)(b:Option (List UInt8)):Option (List UInt8):=if qa1 n c then (match b with
 |none=>some c
 |some y=>if qa5 y<qa5 c then some c else some y) else b
theorem js7(n:List UInt8):∀ (l:List (List UInt8)) (c:List UInt8) (b:Option (List UInt8)),qr3 n (l++[c]) b=yk0 n c (qr3 n l b)
 |[],c,b=>rfl
 |x :: l,c,b=>by
  show qr3 n (l++[c]) _=yk0 n c (qr3 n l _)
  exact js7 n l c _
theorem zw8{n:List UInt8}{l:List (List UInt8)}{i:Nat}{c:List UInt8}(h:l[i]? = some c):qr3 n (l.take (i+1)) none=yk0 n c (qr3 n (l.take i) none):=by
 rw[List.take_add_one,h]
 exact js7 n _ c none
def fewD:Option (List UInt8)->Int
 |none=>-1
 |some c=>qa5 c
def jt9(n:List UInt8)(l:List (List UInt8)):List UInt8 × Int:=if qa2 n then (match qr3 n l none with
 |none=>([],3)
 |some c=>(c,0)) else ([],2)
set_option maxHeartbeats 8000000 in
theorem yj9(name:List UInt8)(z:Bool)(L:List (List UInt8))(hsl:L.length<=100000):FnOk Tryz.prog 72 [.d (.str name),.d (.sl z L.length 1 (strs L))] (.tup [.d (.str (jt9 name L).1),.d (.int .i64 (jt9 name L).2)]):=by
 refine qa3 (TT:=TT) (IN:=qd0 []) qd2 qa7 mixed 1000 Tryz.func72 rfl (qb7 Tryz.func72 (by kernel_rfl) rfl) rfl 33 (by kernel_rfl) ?_
 conv=>whnf
 refine .one (.data _ (qd8 name) rfl rfl ?_)
 unfold jt9
 by_cases hn:qa2 name
 case neg =>
  rw[if_neg hn,if_neg hn]
  conv=>whnf
  refine brT rfl ?_
  conv=>whnf
  repeat'(first|exact ⟨⟩|exact rfl|exact⟨rfl,rfl,.inr rfl,fun _ _=>rfl⟩|exact⟨rfl,rfl,.inl rfl,noI⟩|apply And.intro)
 rw[if_pos hn,if_pos hn]
 conv=>whnf
 refine brF rfl ?_
 conv=>whnf
 refine .inv Nat (fun i=>i<=L.length) (fun i=>[(16,iV i),(6,.d (.str ((qr3 name (L.take i) none).getD []))),(7,.d (.int .i64 (fewD (qr3 name (L.take i) none))))]) (fun i=>[]) (fun i=>L.length - i) ⟨0,[],Nat.zero_le _,?_⟩ ?_
 ·conv=>whnf
  repeat'(first|exact ⟨⟩|exact rfl|exact qa0 _|exact .inr rfl|exact fun _ _=>rfl|exact noI|apply And.intro)
 intro i hi
 conv=>whnf
 refine⟨fun h2=>?_,fun h2=>?_⟩
 ·have h2:i<L.length:=by
   have h:(i:Int)<L.length:=of_decide_eq_true h2
   omega
  have hw1:IntKind.i64.wrap ((i:Int)+1)=((i+1:Nat):Int):=by rw[qa4 _ (by omega)];omega
  have hli:L[i]? = some (L[i]?.getD []):=by rw[List.getElem?_eq_getElem h2];rfl
  have hnx:=zw8 (n:=name) hli
  conv=>whnf
  refine⟨by omega,?_⟩
  conv=>whnf
  rw[Int.toNat_natCast]
  generalize L[i]?.getD []=c at hli hnx ⊢
  unfold yk0 at hnx
  refine .one (.data _ (ql3 _ _) rfl rfl ?_)
  cases hw:qa1 name c with
  |false =>
   rw [hw,if_neg (by decide)] at hnx
   conv=>whnf
   refine brT rfl ?_
   conv=>whnf
   rw[hw1]
   refine⟨i+1,[],h2,by omega,?_⟩
   rw[hnx]
   conv=>whnf
   repeat'(first|exact ⟨⟩|exact rfl|exact qa0 _|exact .inr rfl|exact fun _ _=>rfl|exact noI|apply And.intro)
  |true =>
   rw [hw,if_pos rfl] at hnx
   conv=>whnf
   refine brF rfl ?_
   conv=>whnf
   refine .one (.data _ (jn6 _) rfl rfl ?_)
   conv=>whnf
   cases hb:qr3 name (L.take i) none with
   |none =>
    rw [hb] at hnx
    refine brT (decide_eq_true (by show((qa5 c:Nat):Int) > -1;omega)) ?_
    conv=>whnf
    rw[hw1]
    refine⟨i+1,[],h2,by omega,?_⟩
    rw[hnx]
    conv=>whnf
    repeat'(first|exact ⟨⟩|exact rfl|exact qa0 _|exact .inr rfl|exact fun _ _=>rfl|exact noI|apply And.intro)
   |some y =>
    rw [hb] at hnx
    simp only at hnx
    by_cases hc:qa5 y<qa5 c
    ·rw [if_pos hc] at hnx
     refine brT (decide_eq_true (by show((qa5 c:Nat):Int) > ((qa5 y:Nat):Int);omega)) ?_
     conv=>whnf
     rw[hw1]
     refine⟨i+1,[],h2,by omega,?_⟩
     rw[hnx]
     conv=>whnf
     repeat'(first|exact ⟨⟩|exact rfl|exact qa0 _|exact .inr rfl|exact fun _ _=>rfl|exact noI|apply And.intro)
    ·rw [if_neg hc] at hnx
     refine brF (decide_eq_false (by show ¬ ((qa5 c:Nat):Int) > ((qa5 y:Nat):Int);omega)) ?_
     conv=>whnf
     rw[hw1]
     refine⟨i+1,[],h2,by omega,?_⟩
     rw[hnx]
     conv=>whnf
     repeat'(first|exact ⟨⟩|exact rfl|exact qa0 _|exact .inr rfl|exact fun _ _=>rfl|exact noI|apply And.intro)
 ·have h2:i=L.length:=by
   have h:¬ (i:Int)<L.length:=of_decide_eq_false h2
   omega
  subst h2
  rw[List.take_length]
  conv=>whnf
  cases hb:qr3 name L none with
  |none =>
   refine brT rfl ?_
   conv=>whnf
   repeat'(first|exact ⟨⟩|exact rfl|exact⟨rfl,rfl,.inr rfl,fun _ _=>rfl⟩|exact⟨rfl,rfl,.inl rfl,noI⟩|apply And.intro)
  |some c =>
   refine brF (decide_eq_false (by show ¬ ((qa5 c:Nat):Int)<0;omega)) ?_
   conv=>whnf
   repeat'(first|exact ⟨⟩|exact rfl|exact⟨rfl,rfl,.inr rfl,fun _ _=>rfl⟩|exact⟨rfl,rfl,.inl rfl,noI⟩|apply And.intro)
def je0(k:Nat):List Zo->List (List UInt8 × Nat)
 |[]=>[]
 |z :: l=>(fold z.apex,k) :: je0 (k+1) l
def qe0(zs:List Zo):List (List UInt8 × Nat):=je0 0 zs
theorem jh2:∀ (l m:List Zo) (k:Nat),je0 k (l++m)=je0 k l++je0 (k+l.length) m
 |[],m,k=>rfl
 |z :: l,m,k=>by
  show(fold z.apex,k) :: je0 (k+1) (l++m)=_
  rw[jh2 l m (k+1),show k+1+l.length=k+(z :: l).length by simp;omega]
  rfl
theorem zf5(l:List Zo)(z:Zo):qe0 (l++[z])=qe0 l++[(fold z.apex,l.length)]:=by
 unfold qe0
 rw[jh2,Nat.zero_add]
 rfl
theorem jy8(n:List UInt8):∀ (l:List Zo) (k:Nat),aget (je0 k l) n=(qg6 l n).map (· + k)
 |[],k=>rfl
 |z :: l,k=>by
  show(if n=fold z.apex then some k else aget (je0 (k+1) l) n)=_
  unfold qg6
  rw[List.findIdx?_cons]
  by_cases h:n=fold z.apex
  ·rw[if_pos h,show(fold z.apex == n)=true by simpa using h.symm,if_pos rfl]
   simp
  ·rw[if_neg h,show(fold z.apex == n)=false by simpa using fun e=>h e.symm,if_neg (by decide),jy8 n l (k+1)]
   unfold qg6
   rw[Option.map_map]
   congr 1
   funext x
   simp only[Function.comp]
   omega
theorem qq5(l:List Zo)(n:List UInt8):aget (qe0 l) n=qg6 l n:=by
 unfold qe0
 rw[jy8]
 cases qg6 l n <;> rfl
theorem place_none{l:List Zo}{n:List UInt8}:qg6 l n=none↔∀ z ∈ l,fold z.apex≠n:=by
 unfold qg6
 rw[List.findIdx?_eq_none_iff]
 simp
theorem yi2(l:List (List UInt8))(a:List UInt8):qv5 (l++[a])=(qv5 l && !l.contains a):=by
 induction l with
 |nil=>simp[qv5]
 |cons x l ih =>
  show(!(l++[a]).contains x && qv5 (l++[a]))=((!l.contains x && qv5 l) && !(x :: l).contains a)
  rw[ih,Bool.eq_iff_iff]
  simp only[List.contains_append,List.contains_cons,List.contains_nil,Bool.or_false,Bool.not_or,Bool.and_eq_true,Bool.not_eq_true',beq_eq_false_iff_ne]
  constructor
  ·rintro ⟨⟨h1,h2⟩,h3,h4⟩;exact⟨⟨h1,h3⟩,fun e=>h2 e.symm,h4⟩
  ·rintro ⟨⟨h1,h3⟩,h2,h4⟩;exact⟨⟨h1,fun e=>h2 e.symm⟩,h3,h4⟩
theorem zu0{l:List (List UInt8)}{i:Nat}(h:qv5 (l.take i)=false):qv5 l=false:=by
 have hl:l=l.take i++l.drop i:=(List.take_append_drop i l).symm
 cases e:qv5 l with
 |false=>rfl
 |true =>
  exfalso
  have:∀ (m n:List (List UInt8)),qv5 (m++n)=true->qv5 m=true:=by
   intro m n
   refine ja4 (P:=fun n=>qv5 (m++n)=true->qv5 m=true) (fun h=>by rwa [List.append_nil] at h) (fun n r ih h=>?_) n
   rw [<-List.append_assoc,yi2,Bool.and_eq_true] at h
   exact ih h.1
  rw [hl] at e
  rw [this _ _ e] at h
  cases h
def Zo.enc(z:Zo):List DV:=[.str z.apex,rrsD z.z z.rrs]
def zy3(b:Bool)(l:List Zo):DV:=.sl b l.length 2 (fun i=>(l.getD i default).enc)
def ka9(h:Int × Bool × List Int):List DV:=[.int .u32 h.1,.sl h.2.1 h.2.2.length 1 (fun j=>[.int .i64 (h.2.2.getD j 0)])]
def xg6(b:Bool)(l:List (Int × Bool × List Int)):DV:=.sl b l.length 2 (fun i=>ka9 (l.getD i default))
def Fo.V(f:Fo):SV:=.agg [.d (zy3 f.zz f.zones),.d (xg6 f.hz f.hosts)]
def Fo.Fit(f:Fo):Prop:=∀ z ∈ f.zones,z.apex.length<=100000/\z.Fit
def qd6(P:List (List UInt8 × Nat)):KB:=.map [.str] false false (aenc strK intV P)
theorem qo0{σ:Nat->Nat}(P:List (List UInt8 × Nat)):mapK σ (qd6 P)=qd6 P:=by
 show KB.mapx _ _ _ (mapM _ (aenc strK intV P)) _=_
 rw[jv7 (fun _=>rfl)]
 rfl
theorem qc9{ρ:List Nat}(P:List (List UInt8 × Nat)):renM ρ (aenc strK intV P)=aenc strK intV P:=jc4 (fun _=>rfl) P
def qr5(zs:List Zo)(i j:Nat):List (List UInt8):=(((zs.take j).zipIdx).filter (fun p=>p.2 != i)).map (·.1.apex)
theorem yo3{zs:List Zo}{i j:Nat}{z:Zo}(h:zs[j]? = some z):qr5 zs i (j+1)=if j≠i then qr5 zs i j++[z.apex] else qr5 zs i j:=by
 unfold qr5
 have hj:j<zs.length:=(List.getElem?_eq_some_iff.1 h).1
 rw[List.take_add_one,h]
 simp only[Option.toList_some,List.zipIdx_append,List.filter_append,List.map_append]
 by_cases hc:j=i
 ·subst hc
  simp[List.length_take,Nat.min_eq_left (Nat.le_of_lt hj)]
 ·simp[List.length_take,Nat.min_eq_left (Nat.le_of_lt hj),hc]
theorem yx2(zs:List Zo)(i j:Nat):(qr5 zs i j).length<=j:=by
 unfold qr5
 rw[List.length_map]
 exact Nat.le_trans (List.length_filter_le _ _) (by rw[List.length_zipIdx,List.length_take];omega)
theorem yx3(zs:List Zo){i:Nat}(hi:i<zs.length):qr5 zs i zs.length=qh0 zs i:=by
 unfold qr5 qh0
 rw[List.take_length]
 have h:zs=zs.take i++zs[i] :: zs.drop (i+1):=by rw[List.getElem_cons_drop,List.take_append_drop]
 have hl:(zs.take i).length=i:=by rw[List.length_take];omega
 generalize zs.take i=A at h hl ⊢
 generalize zs.drop (i+1)=B at h ⊢
 generalize zs[i]=x at h
 subst h
 rw[List.zipIdx_append,List.filter_append,List.zipIdx_cons,List.filter_cons,List.map_append,List.map_append]
 have e1:(A.zipIdx.filter fun p=>p.2 != i).map (·.1.apex)=A.map (·.apex):=by
  rw[List.filter_eq_self.2 (fun p hp=>by
   have:=List.snd_lt_of_mem_zipIdx hp
   simp;omega)]
  rw[show(fun p:Zo × Nat=>p.1.apex)=(fun z:Zo=>z.apex) ∘ Prod.fst from rfl,<-List.map_map,List.zipIdx_map_fst]
 have e2:((B.zipIdx (0+A.length+1)).filter fun p=>p.2 != i).map (·.1.apex)=B.map (·.apex):=by
  rw[List.filter_eq_self.2 (fun p hp=>by
   have:=List.le_snd_of_mem_zipIdx hp
   simp;omega)]
  rw[show(fun p:Zo × Nat=>p.1.apex)=(fun z:Zo=>z.apex) ∘ Prod.fst from rfl,<-List.map_map,List.zipIdx_map_fst]
 rw[e1,if_neg (by simp[hl]),e2]
theorem xe0{K V:Type}[DecidableEq K]{ek:K->List DV}{ev:V->List SV}(hk:∀ a b,qk4 (ek a) (ek b)=decide (a=b))(k:K)(z:List SV):∀ l:List (K × V),∃ (l1:List (List DV × List SV)) (q:Nat),opnM (aenc ek ev l) (ek k) z=(l1,((aget l k).map ev).getD z,q)/\qv7 l1 (ek k)=some (((aget l k).map ev).getD z)/\∀ v,putQ l1 q (ev v)=aenc ek ev (aput l k v)
 |[]=>⟨[(ek k,z)],0,rfl,by show(if qk4 (ek k) (ek k) then some z else _)=_;rw[hk,if_pos (by simp)];rfl,fun v=>rfl⟩
 |e :: l=>by
  obtain⟨l1,q,h1,h2,h3⟩:=xe0 hk k z l
  by_cases h:k=e.1
  ·refine⟨aenc ek ev (e :: l),0,?_,?_,fun v=>?_⟩
   ·show(if qk4 (ek k) (ek e.1) then _ else _)=_
    rw[hk,if_pos (by simpa using h)]
    simp only[aget,if_pos h]
    rfl
   ·show(if qk4 (ek k) (ek e.1) then some (ev e.2) else _)=_
    rw[hk,if_pos (by simpa using h)]
    simp only[aget,if_pos h]
    rfl
   ·show(ek e.1,ev v) :: aenc ek ev l=aenc ek ev (aput (e :: l) k v)
    simp only[aput,if_pos h]
    rw[<-h]
    rfl
  ·refine⟨(ek e.1,ev e.2) :: l1,q+1,?_,?_,fun v=>?_⟩
   ·show(if qk4 (ek k) (ek e.1) then _ else ((ek e.1,ev e.2) :: (opnM (aenc ek ev l) (ek k) z).1,(opnM (aenc ek ev l) (ek k) z).2.1,(opnM (aenc ek ev l) (ek k) z).2.2+1))=_
    rw[hk,if_neg (by simpa using h),h1]
    simp only[aget,if_neg h]
   ·show(if qk4 (ek k) (ek e.1) then some (ev e.2) else qv7 l1 (ek k))=_
    rw[hk,if_neg (by simpa using h),h2]
    simp only[aget,if_neg h]
   ·show(ek e.1,ev e.2) :: putQ l1 q (ev v)=aenc ek ev (aput (e :: l) k v)
    rw[h3]
    simp only[aput,if_neg h]
    rfl
def yx1(p:Nat × Nat):List DV:=[.int .i64 (p.1:Nat),.int .i64 (p.2:Nat)]
theorem yo1(a b:Nat × Nat):qk4 (yx1 a) (yx1 b)=decide (a=b):=by
 rw[Bool.eq_iff_iff]
 obtain⟨a1,a2⟩:=a
 obtain⟨b1,b2⟩:=b
 simp[yx1,qk4,dEq,kEq]
 omega
def xw7(C:List ((Nat × Nat) × Nat)):KB:=.map [.int .i64,.int .i64] true false (aenc yx1 intV C)
theorem qr9{ρ:List Nat}(C:List ((Nat × Nat) × Nat)):renM ρ (aenc yx1 intV C)=aenc yx1 intV C:=jc4 (fun _=>rfl) C
theorem jn4{n:List UInt8}:∀ {l:List (List UInt8)} {b:Option (List UInt8)} {a:List UInt8},qr3 n l b=some a->a ∈ l\/b=some a
 |[],b,a,h=>.inr h
 |c :: l,b,a,h=>by
  unfold qr3 at h
  rcases jn4 h with h|h
  ·exact .inl (List.mem_cons_of_mem _ h)
  ·split at h
   ·cases b with
    |none=>simp only [Option.some.injEq] at h;subst h;exact .inl (List.mem_cons_self ..)
    |some y =>
     simp only at h
     split at h
     ·simp only [Option.some.injEq] at h;subst h;exact .inl (List.mem_cons_self ..)
     ·exact .inr h
   ·exact .inr h
def qm3(P:List (List UInt8 × Nat))(apex:List UInt8)(L:List (List UInt8)):Nat × Bool:=match qr3 apex L none with
 |none=>(0,false)
 |some a=>match aget P (fold a) with
  |none=>(0,false)
  |some k=>(k,true)
set_option maxHeartbeats 8000000 in
theorem zj4(f:Fo)(hl:f.zones.length<=64)(i:Nat)(hi:i<f.zones.length)(apex:List UInt8)(ha:qa2 apex)(P:List (List UInt8 × Nat))(hn:∀ z ∈ f.zones,qa2 z.apex) :
 COk Tryz.prog 94 [f.V,iV i,.d (.str apex),.map 0] [qd6 P] (fun s k=>∃ b,s = .tup [iV (qm3 P apex (qh0 f.zones i)).1,.d b]/\DenTo (.d b) (.d (.bool (qm3 P apex (qh0 f.zones i)).2))/\k=[qd6 P]):=by
 refine qc7 (TT:=TT) (IN:=qd0 []) qd2 qa7 mixed 1000 Tryz.func94 rfl (qb7 Tryz.func94 (by kernel_rfl) rfl) 47 (by kernel_rfl) ?_
 conv=>whnf
 refine .nilT 10 9 1 (strs []) _ _ rfl ?_
 conv=>whnf
 refine .inv Nat (fun j=>j<=f.zones.length) (fun j=>[(20,iV j),(10,.all 2)]) (fun j=>[(2,.row 9 1 (qr5 f.zones i j).length .iff (strs (qr5 f.zones i j)))]) (fun j=>f.zones.length - j) ⟨0,[0,1,2],Nat.zero_le _,?_⟩ ?_
 ·conv=>whnf
  repeat'(first|exact ⟨⟩|exact rfl|exact qa0 _|exact .inr rfl|exact fun _ _=>rfl|exact noI|apply And.intro)
  all_goals first
   |exact qc9 _
 intro j hj
 conv=>whnf
 have hol:=yx2 f.zones i j
 refine⟨fun h2=>?_,fun h2=>?_⟩
 ·have h2:j<f.zones.length:=by
   have h:(j:Int)<f.zones.length:=of_decide_eq_true h2
   omega
  have hw1:IntKind.i64.wrap ((j:Int)+1)=((j+1:Nat):Int):=by rw[qa4 _ (by omega)];omega
  obtain⟨z,hz⟩:∃ z,f.zones.getD j default=z:=⟨_,rfl⟩
  have hzl:f.zones[j]? = some z:=by rw[<-hz,List.getD,List.getElem?_eq_getElem h2];rfl
  have hnx:=yo3 (i:=i) hzl
  conv=>whnf
  refine⟨by omega,?_⟩
  conv=>whnf
  rw[Int.toNat_natCast,hz]
  refine⟨fun h3=>?_,fun h3=>?_⟩
  ·have h3:j≠i:=by
    have h:(j:Int)≠(i:Int):=by simpa using h3
    omega
   rw [if_pos h3] at hnx
   conv=>whnf
   refine⟨by omega,?_⟩
   conv=>whnf
   rw[hw1]
   refine⟨j+1,[0,1,5],h2,by omega,?_⟩
   rw[hnx]
   conv=>whnf
   repeat'(first|exact ⟨⟩|exact rfl|exact qa0 _|exact .inr rfl|exact fun _ _=>rfl|exact noI|apply And.intro)
   all_goals first
    |exact qc9 _
    |(show _+1=(_++[_]).length;simp;done)
    |exact qo8 _ _ _ rfl
  ·have h3:¬ j≠i:=by
    have h:¬ (j:Int)≠(i:Int):=by simpa using h3
    omega
   rw [if_neg h3] at hnx
   conv=>whnf
   rw[hw1]
   refine⟨j+1,[0,1,2],h2,by omega,?_⟩
   rw[hnx]
   conv=>whnf
   repeat'(first|exact ⟨⟩|exact rfl|exact qa0 _|exact .inr rfl|exact fun _ _=>rfl|exact noI|apply And.intro)
   all_goals first
    |exact qc9 _
 ·have h2:j=f.zones.length:=by
   have h:¬ (j:Int)<f.zones.length:=of_decide_eq_false h2
   omega
  subst h2
  rw [yx3 f.zones hi] at hol ⊢
  generalize hL:qh0 f.zones i=L at hol ⊢
  have hLn:∀ c ∈ L,qa2 c:=fun c hc=>by
   rw [<-hL] at hc
   unfold qh0 at hc
   obtain⟨z,hz,rfl⟩:=List.mem_map.1 hc
   refine hn z ?_
   rcases List.mem_append.1 hz with h|h
   ·exact List.mem_of_mem_take h
   ·exact List.mem_of_mem_drop h
  conv=>whnf
  refine .one (.view _ _ [2] (yj9 apex (Nat.beq L.length 0) L (by omega)) ?_ rfl rfl ?_)
  ·conv=>whnf
   exact⟨rfl,rfl⟩
  unfold jt9
  rw[if_pos ha]
  cases hd:qr3 apex L none with
  |none =>
   rw[show qm3 P apex L=(0,false) by unfold qm3;rw[hd]]
   conv=>whnf
   refine brT rfl ?_
   conv=>whnf
   refine⟨[0],_,[qd6 P],rfl,rfl,?_,?_,.ff,rfl,DenTo.ff,rfl⟩
   ·exact rfl
   ·conv=>whnf
    repeat'(first|exact ⟨⟩|exact rfl|exact qa0 _|exact .inr rfl|exact fun _ _=>rfl|exact noI|apply And.intro)
    all_goals first
     |exact qc9 _
  |some a =>
   conv=>whnf
   refine brF rfl ?_
   conv=>whnf
   refine .one (.data _ (qj6 a ?_) rfl rfl ?_)
   ·rcases jn4 hd with h|h
    ·have:=(hLn a h).2.1;omega
    ·cases h
   conv=>whnf
   have hf:=qg8 (ev:=intV) qg9 P (fold a)
   refine⟨_,hf,?_⟩
   cases hg:aget P (fold a) with
   |none =>
    rw[show qm3 P apex L=(0,false) by unfold qm3;rw[hd];show(match aget P (fold a) with|none=>(0,false)|some k=>(k,true))=_;rw[hg]]
    conv=>whnf
    refine⟨[0],_,[qd6 P],rfl,rfl,?_,?_,.ff,rfl,DenTo.ff,rfl⟩
    ·exact rfl
    ·conv=>whnf
     repeat'(first|exact ⟨⟩|exact rfl|exact qa0 _|exact .inr rfl|exact fun _ _=>rfl|exact noI|apply And.intro)
     all_goals first
      |exact qc9 _
   |some k =>
    rw[show qm3 P apex L=(k,true) by unfold qm3;rw[hd];show(match aget P (fold a) with|none=>(0,false)|some k=>(k,true))=_;rw[hg]]
    conv=>whnf
    refine⟨[0],_,[qd6 P],rfl,rfl,?_,?_,.tt,rfl,DenTo.tt,rfl⟩
    ·exact rfl
    ·conv=>whnf
     repeat'(first|exact ⟨⟩|exact rfl|exact qa0 _|exact .inr rfl|exact fun _ _=>rfl|exact noI|apply And.intro)
     all_goals first
      |exact qc9 _
section
def CutI(zs:List Zo)(P:List (List UInt8 × Nat))(a b:Nat):Prop:=∃ c ∈ je5 (zs.getD a default),aget P (fold c)=some b
structure HInv(zs:List Zo)(P:List (List UInt8 × Nat))(i:Nat)(L:List (List UInt8))(m:Nat)(C:List ((Nat × Nat) × Nat)):Prop where
 has:∀ a b,(aget C (a,b)).isSome=true↔(a<i/\CutI zs P a b)\/(a=i/\∃ c ∈ L,aget P (fold c)=some b)
 le:∀ k v,aget C k=some v->1<=v/\v<=m
variable{zs:List Zo}{P:List (List UInt8 × Nat)}
theorem HInv.zero:HInv zs P 0 [] 0 []:=⟨fun a b=>⟨fun h=>(by cases h),fun h=>(by rcases h with h|⟨_,c,hc,_⟩;exact absurd h.1 (Nat.not_lt_zero _);cases hc)⟩,fun k v h=>by cases h⟩
theorem HInv.next{i m:Nat}{L:List (List UInt8)}{C:List ((Nat × Nat) × Nat)}(h:HInv zs P i L m C){m':Nat}(hm:m<=m')(hL:L=je5 (zs.getD i default)):HInv zs P (i+1) [] m' C:=by
 refine⟨fun a b=>?_,fun k v hv=>?_⟩
 ·rw[h.has]
  constructor
  ·rintro (⟨h1,h2⟩|⟨rfl,c,hc,e⟩)
   ·exact .inl ⟨by omega,h2⟩
   ·exact .inl ⟨Nat.lt_succ_self _,c,hL ▸ hc,e⟩
  ·rintro (⟨h1,h2⟩|⟨_,c,hc,_⟩)
   ·rcases Nat.lt_or_ge a i with h3|h3
    ·exact .inl ⟨h3,h2⟩
    ·have:a=i:=by omega
     subst this
     obtain⟨c,hc,e⟩:=h2
     exact .inr ⟨rfl,c,hL ▸ hc,e⟩
   ·cases hc
 ·have:=h.le k v hv
  omega
theorem HInv.skip{i m:Nat}{L:List (List UInt8)}{C:List ((Nat × Nat) × Nat)}(h:HInv zs P i L m C){c:List UInt8}(hc:aget P (fold c)=none):HInv zs P i (L++[c]) (m+1) C:=by
 refine⟨fun a b=>?_,fun k v hv=>?_⟩
 ·rw[h.has]
  constructor
  ·rintro (h1|⟨rfl,c',hc',e⟩)
   ·exact .inl h1
   ·exact .inr ⟨rfl,c',List.mem_append_left _ hc',e⟩
  ·rintro (h1|⟨rfl,c',hc',e⟩)
   ·exact .inl h1
   ·rcases List.mem_append.1 hc' with h2|h2
    ·exact .inr ⟨rfl,c',h2,e⟩
    ·rw [List.mem_singleton.1 h2,hc] at e
     cases e
 ·have:=h.le k v hv
  omega
theorem HInv.put{i m:Nat}{L:List (List UInt8)}{C:List ((Nat × Nat) × Nat)}(h:HInv zs P i L m C){c:List UInt8}{b:Nat}(hc:aget P (fold c)=some b){v:Nat}(hv:(aget C (i,b)).getD 0=v):HInv zs P i (L++[c]) (m+1) (aput C (i,b) (v+1)):=by
 refine⟨fun a b'=>?_,fun k w hw=>?_⟩
 ·rw[jg8]
  by_cases hk:(a,b')=(i,b)
  ·rw[if_pos hk]
   obtain⟨rfl,rfl⟩:=Prod.mk.inj hk
   exact⟨fun _=>.inr ⟨rfl,c,by simp,hc⟩,fun _=>rfl⟩
  ·rw[if_neg hk,h.has]
   constructor
   ·rintro (h1|⟨rfl,c',hc',e⟩)
    ·exact .inl h1
    ·exact .inr ⟨rfl,c',List.mem_append_left _ hc',e⟩
   ·rintro (h1|⟨rfl,c',hc',e⟩)
    ·exact .inl h1
    ·rcases List.mem_append.1 hc' with h2|h2
     ·exact .inr ⟨rfl,c',h2,e⟩
     ·rw [List.mem_singleton.1 h2,hc] at e
      simp only [Option.some.injEq] at e
      exact absurd (by rw[e]) hk
 ·rw [jg8] at hw
  split at hw
  ·simp only [Option.some.injEq] at hw
   subst hw
   cases hg:aget C (i,b) with
   |none=>rw [hg] at hv;simp at hv;omega
   |some x =>
    rw [hg] at hv
    simp at hv
    have:=h.le _ _ hg
    omega
  ·have:=h.le k w hw
   omega
theorem zq0{n:Nat}(hP:∀ k v,aget P k=some v->v<n)(apex:List UInt8)(L:List (List UInt8)):(qm3 P apex L).2=true->(qm3 P apex L).1<n:=by
 unfold qm3
 cases qr3 apex L none with
 |none=>exact fun h=>by cases h
 |some a =>
  show(match aget P (fold a) with|none=>(0,false)|some k=>(k,true)).2=true->(match aget P (fold a) with|none=>(0,false)|some k=>(k,true)).1<n
  cases hg:aget P (fold a) with
  |none=>exact fun h=>by cases h
  |some k=>exact fun _=>hP _ _ hg
theorem zx4(f:Fo)(hl:f.zones.length<=64)(i:Nat)(hi:i<f.zones.length)(apex:List UInt8)(ha:qa2 apex)(P:List (List UInt8 × Nat))(hn:∀ z ∈ f.zones,qa2 z.apex) :
 COk Tryz.prog 94 [f.V,iV i,.d (.str apex),.map 0] [qd6 P] (fun s k=>s = .tup [iV (qm3 P apex (qh0 f.zones i)).1,.d (.bool (qm3 P apex (qh0 f.zones i)).2)]/\k=[qd6 P]) :=
 COk.resD (zj4 f hl i hi apex ha P hn) fun _ _ ⟨_,h1,h2,h3⟩=>⟨_,h1 ▸ DenTo.tup ⟨DenTo.refl _,h2,trivial⟩,rfl,h3⟩
def ya8(zs:List Zo)(P:List (List UInt8 × Nat))(i:Nat):Bool:=i == 0 || ((qm3 P (zs.getD i default).apex (qh0 zs i)).2 && (je5 (zs.getD (qm3 P (zs.getD i default).apex (qh0 zs i)).1 default)).any fun c=>decide (aget P (fold c)=some i))
def yz4(zs:List Zo)(P:List (List UInt8 × Nat)):Bool:=(List.range zs.length).all (ya8 zs P)
theorem zo8{i:Nat}(hi:i<zs.length)(h:ya8 zs P i=false):yz4 zs P=false:=by
 unfold yz4
 rw[List.all_eq_false]
 exact⟨i,List.mem_range.2 hi,by rw[h];decide⟩
set_option maxHeartbeats 16000000 in
theorem kb0(f:Fo)(hf:f.Fit)(hl:f.zones.length<=64)(P:List (List UInt8 × Nat))(hz:∀ z ∈ f.zones,z.ok=true)(hP:∀ k v,aget P k=some v->v<f.zones.length) :
 COk Tryz.prog 57 [f.V,.map 0] [qd6 P] (fun s k=>s = .d (.bool (yz4 f.zones P))/\k=[qd6 P]):=by
 refine qc7 (TT:=TT) (IN:=qd0 []) qd2 qa7 mixed 1000 Tryz.func57 rfl (qb7 Tryz.func57 (by kernel_rfl) rfl) 78 (by kernel_rfl) ?_
 conv=>whnf
 refine .inv (Nat × List ((Nat × Nat) × Nat)) (fun s=>s.1<=f.zones.length/\HInv f.zones P s.1 [] (s.1 * 256) s.2) (fun s=>[(20,iV s.1)]) (fun s=>[(2,xw7 s.2)]) (fun s=>f.zones.length - s.1) ⟨(0,[]),[0,1,2],⟨Nat.zero_le _,HInv.zero⟩,?_⟩ ?_
 ·conv=>whnf
  repeat'(first|exact ⟨⟩|exact rfl|exact qa0 _|exact .inr rfl|exact fun _ _=>rfl|exact noI|apply And.intro)
  all_goals first
   |exact qc9 _
 intro s hs
 obtain⟨hi,hI⟩:=hs
 conv=>whnf
 generalize s.1=i at hi hI ⊢
 generalize s.2=C at hI ⊢
 refine⟨fun h2=>?_,fun h2=>?_⟩
 ·have h2:i<f.zones.length:=by
   have h:(i:Int)<f.zones.length:=of_decide_eq_true h2
   omega
  have hw1:IntKind.i64.wrap ((i:Int)+1)=((i+1:Nat):Int):=by rw[qa4 _ (by omega)];omega
  obtain⟨z,hzd⟩:∃ z,f.zones.getD i default=z:=⟨_,rfl⟩
  have hzl:f.zones[i]? = some z:=by rw[<-hzd,List.getD,List.getElem?_eq_getElem h2];rfl
  have hzm:=List.mem_of_getElem? hzl
  conv=>whnf
  refine⟨by omega,?_⟩
  conv=>whnf
  rw[Int.toNat_natCast,hzd]
  refine .one (.data _ (xm4 z (hf z hzm).2) rfl rfl ?_)
  have hLl:(je5 z).length<=256:=by
   unfold je5
   split
   ·rename_i hok
    have h1:=yu1 z.cutL
    have h2:z.cutL.length<=z.rrs.length:=by unfold Zo.cutL;rw[List.length_map];exact List.length_filter_le _ _
    have h3:=z.ok_len hok
    omega
   ·exact Nat.zero_le _
  have hLn:∀ c ∈ je5 z,qa2 c:=fun c hc=>by
   unfold je5 at hc
   split at hc
   ·exact(qm7 hc).2
   ·cases hc
  have hLz:je5 z=je5 (f.zones.getD i default):=by rw[hzd]
  generalize je5 z=L at hLl hLn hLz ⊢
  conv=>whnf
  refine .inv (Nat × List ((Nat × Nat) × Nat)) (fun s=>s.1<=L.length/\HInv f.zones P i (L.take s.1) (i * 256+s.1) s.2) (fun s=>[(28,iV s.1)]) (fun s=>[(2,xw7 s.2)]) (fun s=>L.length - s.1) ⟨(0,C),[0,1,2,3],⟨Nat.zero_le _,hI⟩,?_⟩ ?_
  ·conv=>whnf
   repeat'(first|exact ⟨⟩|exact rfl|exact qa0 _|exact .inr rfl|exact fun _ _=>rfl|exact noI|apply And.intro)
   all_goals first
    |exact qc9 _
    |exact qr9 _
  clear hI
  intro s hs
  obtain⟨hj,hI⟩:=hs
  conv=>whnf
  generalize s.1=j at hj hI ⊢
  generalize s.2=D at hI ⊢
  refine⟨fun h3=>?_,fun h3=>?_⟩
  ·have h3:j<L.length:=by
    have h:(j:Int)<L.length:=of_decide_eq_true h3
    omega
   have hwj:IntKind.i64.wrap ((j:Int)+1)=((j+1:Nat):Int):=by rw[qa4 _ (by omega)];omega
   have hli:L[j]? = some (L[j]?.getD []):=by rw[List.getElem?_eq_getElem h3];rfl
   conv=>whnf
   refine⟨by omega,?_⟩
   conv=>whnf
   rw[Int.toNat_natCast]
   generalize L[j]?.getD []=c at hli ⊢
   have hcn:=hLn c (List.mem_of_getElem? hli)
   have htk:L.take (j+1)=L.take j++[c]:=by rw[List.take_add_one,hli];rfl
   refine .one (.data _ (qj6 c (by have:=hcn.2.1;omega)) rfl rfl ?_)
   conv=>whnf
   have hfc:=qg8 (ev:=intV) qg9 P (fold c)
   refine⟨_,hfc,?_⟩
   cases hg:aget P (fold c) with
   |none =>
    conv=>whnf
    rw[hwj]
    refine⟨(j+1,D),[0,1,2,3],⟨h3,by rw[htk];exact hI.skip hg⟩,by show _ - (j+1)<_;omega,?_⟩
    conv=>whnf
    repeat'(first|exact ⟨⟩|exact rfl|exact qa0 _|exact .inr rfl|exact fun _ _=>rfl|exact noI|apply And.intro)
    all_goals first
     |exact qc9 _
     |exact qr9 _
   |some b =>
    conv=>whnf
    obtain⟨l1,q,ho1,ho2,ho3⟩:=xe0 (ev:=intV) yo1 (i,b) [SV.d (.int .i64 0)] D
    have hfs:=qg8 (ev:=intV) yo1 D (i,b)
    cases hgc:aget D (i,b) with
    |none =>
     rw [hgc] at hfs ho1 ho2
     have hput:putQ l1 q [SV.d (.int .i64 1)]=aenc yx1 intV (aput D (i,b) 1):=ho3 1
     have hnext:=hI.put hg (v:=0) (by rw[hgc];rfl)
     apply Exists.intro
     refine⟨?_,?_⟩
     ·conv=>whnf
      repeat'(first|exact ⟨⟩|exact⟨rfl,rfl⟩|refine⟨_,hfs,?_⟩|refine⟨_,ho2,?_⟩|refine⟨_,_,_,ho1,?_⟩|intro s|refine⟨rfl,_,hput,?_⟩|apply And.intro|(conv=>whnf))
     conv=>whnf
     rw[hwj]
     refine⟨(j+1,aput D (i,b) 1),[0,1,2,3],⟨h3,by rw[htk];exact hnext⟩,by show _ - (j+1)<_;omega,?_⟩
     conv=>whnf
     repeat'(first|exact ⟨⟩|exact rfl|exact qa0 _|exact .inr rfl|exact fun _ _=>rfl|exact noI|apply And.intro)
     all_goals first
      |exact qc9 _
      |exact qr9 _
    |some v =>
     rw [hgc] at hfs ho1 ho2
     have hvb:=hI.le _ _ hgc
     have hwv:IntKind.i64.wrap ((v:Int)+1)=((v+1:Nat):Int):=by rw[qa4 _ (by omega)];omega
     have hput:putQ l1 q [SV.d (.int .i64 (IntKind.i64.wrap ((v:Int)+1)))]=aenc yx1 intV (aput D (i,b) (v+1)):=by rw[hwv];exact ho3 (v+1)
     have hnext:=hI.put hg (v:=v) (by rw[hgc];rfl)
     apply Exists.intro
     refine⟨?_,?_⟩
     ·conv=>whnf
      repeat'(first|exact ⟨⟩|exact⟨rfl,rfl⟩|refine⟨_,hfs,?_⟩|refine⟨_,ho2,?_⟩|refine⟨_,_,_,ho1,?_⟩|intro s|refine⟨rfl,_,hput,?_⟩|apply And.intro|(conv=>whnf))
     conv=>whnf
     rw[hwj]
     refine⟨(j+1,aput D (i,b) (v+1)),[0,1,2,3],⟨h3,by rw[htk];exact hnext⟩,by show _ - (j+1)<_;omega,?_⟩
     conv=>whnf
     repeat'(first|exact ⟨⟩|exact rfl|exact qa0 _|exact .inr rfl|exact fun _ _=>rfl|exact noI|apply And.intro)
     all_goals first
      |exact qc9 _
      |exact qr9 _
  ·have h3:j=L.length:=by
    have h:¬ (j:Int)<L.length:=of_decide_eq_false h3
    omega
   subst h3
   rw [List.take_length] at hI
   conv=>whnf
   rw[hw1]
   refine⟨(i+1,D),[0,1,2],⟨h2,hI.next (by omega) hLz⟩,by show _ - (i+1)<_;omega,?_⟩
   conv=>whnf
   repeat'(first|exact ⟨⟩|exact rfl|exact qa0 _|exact .inr rfl|exact fun _ _=>rfl|exact noI|apply And.intro)
   all_goals first
    |exact qc9 _
    |exact qr9 _
 ·have h2:i=f.zones.length:=by
   have h:¬ (i:Int)<f.zones.length:=of_decide_eq_false h2
   omega
  subst h2
  conv=>whnf
  refine .inv Nat (fun i=>i<=f.zones.length/\∀ k,k<i->ya8 f.zones P k=true) (fun i=>[(53,iV i)]) (fun i=>[]) (fun i=>f.zones.length - i) ⟨0,[0,1,2],⟨Nat.zero_le _,fun k hk=>absurd hk (Nat.not_lt_zero _)⟩,?_⟩ ?_
  ·conv=>whnf
   repeat'(first|exact ⟨⟩|exact rfl|exact qa0 _|exact .inr rfl|exact fun _ _=>rfl|exact noI|apply And.intro)
   all_goals first
    |exact qc9 _
    |exact qr9 _
  intro i hs
  obtain⟨hi,hs⟩:=hs
  conv=>whnf
  refine⟨fun h2=>?_,fun h2=>?_⟩
  ·have h2:i<f.zones.length:=by
    have h:(i:Int)<f.zones.length:=of_decide_eq_true h2
    omega
   have hw1:IntKind.i64.wrap ((i:Int)+1)=((i+1:Nat):Int):=by rw[qa4 _ (by omega)];omega
   obtain⟨z,hzd⟩:∃ z,f.zones.getD i default=z:=⟨_,rfl⟩
   have hzl:f.zones[i]? = some z:=by rw[<-hzd,List.getD,List.getElem?_eq_getElem h2];rfl
   have hzm:=List.mem_of_getElem? hzl
   have hnext:ya8 f.zones P i=true->∀ k,k<i+1->ya8 f.zones P k=true:=fun h k hk=>by
    by_cases e:k=i
    ·subst e;exact h
    ·exact hs k (by omega)
   conv=>whnf
   refine⟨by omega,?_⟩
   conv=>whnf
   rw[Int.toNat_natCast,hzd]
   refine⟨fun h3=>?_,fun h3=>?_⟩
   ·have h3:i=0:=by
     have h:(i:Int)=0:=by simpa using h3
     omega
    conv=>whnf
    rw[hw1]
    refine⟨i+1,[0,1,2],⟨h2,hnext (by subst h3;rfl)⟩,by omega,?_⟩
    conv=>whnf
    repeat'(first|exact ⟨⟩|exact rfl|exact qa0 _|exact .inr rfl|exact fun _ _=>rfl|exact noI|apply And.intro)
    all_goals first
     |exact qc9 _
     |exact qr9 _
   ·have h3:i≠0:=by
     have h:¬ (i:Int)=0:=by simpa using h3
     omega
    have hh:ya8 f.zones P i=((qm3 P z.apex (qh0 f.zones i)).2 && (je5 (f.zones.getD (qm3 P z.apex (qh0 f.zones i)).1 default)).any fun c=>decide (aget P (fold c)=some i)):=by
     unfold ya8
     rw[hzd,show(i == 0)=false by simpa using h3,Bool.false_or]
    conv=>whnf
    refine .rel _ (COk.frameX (zx4 f hl i h2 z.apex (Zo.ok_name (hz z hzm)) P (fun z hz'=>Zo.ok_name (hz z hz'))) [0] rfl rfl (by show[qd6 P]=[mapK _ (qd6 P)];rw[qo0])) (fun x ks' hR=>?_)
    obtain⟨s0,k0,⟨rfl,rfl⟩,rfl,rfl⟩:=hR
    have hcl:=zq0 hP z.apex (qh0 f.zones i)
    generalize qm3 P z.apex (qh0 f.zones i)=r at hh hcl ⊢
    obtain⟨a,b⟩:=r
    rw[show mapB (sig [0] _) [qd6 P]=[qd6 P] from congrArg (fun x=>[x]) (qo0 P)]
    have hhas:=hI.has a i
    cases b with
    |false =>
     conv=>whnf
     refine brT rfl ?_
     conv=>whnf
     rw[zo8 h2 (hh.trans rfl)]
     refine⟨[0],_,[qd6 P],rfl,rfl,?_,?_,rfl,rfl⟩
     ·exact rfl
     ·conv=>whnf
      repeat'(first|exact ⟨⟩|exact rfl|exact qa0 _|exact .inr rfl|exact fun _ _=>rfl|exact noI|apply And.intro)
      all_goals first
       |exact qc9 _
    |true =>
     have hcl:a<f.zones.length:=hcl rfl
     conv=>whnf
     refine brF rfl ?_
     conv=>whnf
     have hfs:=qg8 (ev:=intV) yo1 C (a,i)
     refine⟨_,hfs,?_⟩
     cases hgc:aget C (a,i) with
     |none =>
      have hb:ya8 f.zones P i=false:=by
       rw[hh]
       show((je5 (f.zones.getD a default)).any fun c=>decide (aget P (fold c)=some i))=false
       rw[List.any_eq_false]
       intro c hc hd
       have:=hhas.2 (.inl ⟨hcl,c,hc,by simpa using hd⟩)
       rw [hgc] at this
       cases this
      conv=>whnf
      refine brT rfl ?_
      conv=>whnf
      rw[zo8 h2 hb]
      refine⟨[0],_,[qd6 P],rfl,rfl,?_,?_,rfl,rfl⟩
      ·exact rfl
      ·conv=>whnf
       repeat'(first|exact ⟨⟩|exact rfl|exact qa0 _|exact .inr rfl|exact fun _ _=>rfl|exact noI|apply And.intro)
       all_goals first
        |exact qc9 _
     |some v =>
      have hb:ya8 f.zones P i=true:=by
       rw[hh]
       show((je5 (f.zones.getD a default)).any fun c=>decide (aget P (fold c)=some i))=true
       rcases hhas.1 (by rw[hgc];rfl) with⟨_,c,hc,e⟩|⟨_,c,hc,_⟩
       ·exact List.any_eq_true.2 ⟨c,hc,by simpa using e⟩
       ·cases hc
      have hv1:=(hI.le _ _ hgc).1
      conv=>whnf
      refine brF (by rw[beq_eq_false_iff_ne];omega) ?_
      conv=>whnf
      rw[hw1]
      refine⟨i+1,[0,1,2],⟨h2,hnext hb⟩,by omega,?_⟩
      conv=>whnf
      repeat'(first|exact ⟨⟩|exact rfl|exact qa0 _|exact .inr rfl|exact fun _ _=>rfl|exact noI|apply And.intro)
      all_goals first
       |exact qc9 _
       |exact qr9 _
  ·have h2:i=f.zones.length:=by
    have h:¬ (i:Int)<f.zones.length:=of_decide_eq_false h2
    omega
   have hb:yz4 f.zones P=true:=by
    unfold yz4
    rw[List.all_eq_true]
    intro k hk
    exact hs k (by rw[h2];exact List.mem_range.1 hk)
   conv=>whnf
   rw[hb]
   refine⟨[0],_,[qd6 P],rfl,rfl,?_,?_,rfl,rfl⟩
   ·exact rfl
   ·conv=>whnf
    repeat'(first|exact ⟨⟩|exact rfl|exact qa0 _|exact .inr rfl|exact fun _ _=>rfl|exact noI|apply And.intro)
    all_goals first
     |exact qc9 _
end
def zd0(a:Int):List DV:=[.int .u32 a]
theorem zq5(a b:Int):qk4 (zd0 a) (zd0 b)=decide (a=b):=by
 rw[Bool.eq_iff_iff]
 simp[zd0,qk4,dEq,kEq]
def zc9(l:List (Int × Bool × List Int)):List (Int × Nat):=l.map fun h=>(h.1,1)
def kg5(S:List (Int × Nat)):KB:=.map [.int .u32] false false (aenc zd0 intV S)
theorem ye2{ρ:List Nat}(C:List (Int × Nat)):renM ρ (aenc zd0 intV C)=aenc zd0 intV C:=jc4 (fun _=>rfl) C
theorem xv3(l:List (Int × Bool × List Int))(a:Int):aget (zc9 l) a=if l.any (fun h=>h.1 == a) then some 1 else none:=by
 induction l with
 |nil=>rfl
 |cons r l ih =>
  show(if a=r.1 then some 1 else aget (zc9 l) a)=_
  rw[ih,List.any_cons]
  by_cases h:a=r.1
  ·subst h;simp
  ·have h':(r.1 == a)=false:=by simpa using fun e=>h e.symm
   rw[if_neg h,h',Bool.false_or]
theorem zu1(l:List Int)(a:Int):yx6 (l++[a])=(yx6 l && !l.contains a):=by
 induction l with
 |nil=>simp[yx6]
 |cons x l ih =>
  show(!(l++[a]).contains x && yx6 (l++[a]))=((!l.contains x && yx6 l) && !(x :: l).contains a)
  rw[ih,Bool.eq_iff_iff]
  simp only[List.contains_append,List.contains_cons,List.contains_nil,Bool.or_false,Bool.not_or,Bool.and_eq_true,Bool.not_eq_true',beq_eq_false_iff_ne]
  constructor
  ·rintro ⟨⟨h1,h2⟩,h3,h4⟩;exact⟨⟨h1,h3⟩,fun e=>h2 e.symm,h4⟩
  ·rintro ⟨⟨h1,h3⟩,h2,h4⟩;exact⟨⟨h1,fun e=>h2 e.symm⟩,h3,h4⟩
def qu7(n:Nat)(a:Int):Bool:=decide (0<=a) && decide (a<(n:Int))
theorem ya5(n:Nat)(l:List (Int × Bool × List Int))(h:Int × Bool × List Int):qm6 n (l++[h])=(qm6 n l && (!l.any (fun x=>x.1 == h.1) && h.2.2.all (qu7 n))):=by
 unfold qm6
 rw[List.map_append,List.map_cons,List.map_nil,zu1,List.all_append,List.all_cons,List.all_nil,Bool.and_true]
 have e:(l.map (·.1)).contains h.1=l.any (fun x=>x.1 == h.1):=by
  rw[Bool.eq_iff_iff,List.contains_iff_mem,List.any_eq_true]
  constructor
  ·intro hm
   obtain⟨x,hx,e⟩:=List.mem_map.1 hm
   exact⟨x,hx,by simpa using e⟩
  ·rintro ⟨x,hx,e⟩
   exact List.mem_map.2 ⟨x,hx,by simpa using e⟩
 rw[e]
 show _=_
 unfold qu7
 cases yx6 (l.map (·.1)) <;> cases (l.any fun x=>x.1 == h.1) <;> cases (l.all fun h=>h.2.2.all fun at_=>decide (0<=at_) && decide (at_<(n:Int))) <;> rfl
theorem zh5(n:Nat)(l m:List (Int × Bool × List Int))(h:qm6 n l=false):qm6 n (l++m)=false:=by
 refine ja4 (P:=fun m=>qm6 n (l++m)=false) (by rwa [List.append_nil]) (fun m r ih=>?_) m
 rw[<-List.append_assoc,ya5,ih]
 rfl
theorem jp9{n:Nat}{l:List (Int × Bool × List Int)}{i:Nat}(h:qm6 n (l.take i)=false):qm6 n l=false:=by
 rw[<-List.take_append_drop i l]
 exact zh5 n _ _ h
theorem xl2{n:Nat}{l:List Int}{j:Nat}{a:Int}(h:l[j]? = some a):(l.take (j+1)).all (qu7 n)=((l.take j).all (qu7 n) && qu7 n a):=by
 rw[List.take_add_one,h,List.all_append]
 simp
theorem zq4{n:Nat}{l:List Int}{j:Nat}(h:(l.take j).all (qu7 n)=false):l.all (qu7 n)=false:=by
 rw [List.all_eq_false] at h ⊢
 obtain⟨x,hx,e⟩:=h
 exact⟨x,List.mem_of_mem_take hx,e⟩
set_option maxHeartbeats 16000000 in
theorem xg5(f:Fo)(hh:f.hosts.length<=64)(hl:∀ h ∈ f.hosts,h.2.2.length<=9223372036854775807):FnOk Tryz.prog 58 [f.V] (.d (.bool (qm6 f.zones.length f.hosts))):=by
 refine qa3 (TT:=TT) (IN:=qd0 [(96,Tryz.f96,2),(123,Tryz.f123,2),(95,Tryz.f95,2)]) qd2 (qb8 (qb8 (qb8 qa7 Tryz.func95 (by kernel_rfl) (by kernel_rfl)) Tryz.func123 (by kernel_rfl) (by kernel_rfl)) Tryz.func96 (by kernel_rfl) (by kernel_rfl)) mixed 1000 Tryz.func58 rfl (qb7 Tryz.func58 (by kernel_rfl) rfl) rfl 32 (by kernel_rfl) ?_
 conv=>whnf
 refine .inv Nat (fun i=>i<=f.hosts.length/\qm6 f.zones.length (f.hosts.take i)=true) (fun i=>[(12,iV i)]) (fun i=>[(1,kg5 (zc9 (f.hosts.take i)))]) (fun i=>f.hosts.length - i) ⟨0,[0,1],⟨Nat.zero_le _,rfl⟩,?_⟩ ?_
 ·conv=>whnf
  repeat'(first|exact ⟨⟩|exact rfl|exact qa0 _|exact .inr rfl|exact fun _ _=>rfl|exact noI|apply And.intro)
 intro i hi
 obtain⟨hi,hti⟩:=hi
 conv=>whnf
 refine⟨fun h2=>?_,fun h2=>?_⟩
 ·have h2:i<f.hosts.length:=by
   have h:(i:Int)<f.hosts.length:=of_decide_eq_true h2
   omega
  have hw1:IntKind.i64.wrap ((i:Int)+1)=((i+1:Nat):Int):=by rw[qa4 _ (by omega)];omega
  obtain⟨h,hhd⟩:∃ h,f.hosts.getD i default=h:=⟨_,rfl⟩
  have hhl:f.hosts[i]? = some h:=by rw[<-hhd,List.getD,List.getElem?_eq_getElem h2];rfl
  have hlz:=hl h (List.mem_of_getElem? hhl)
  have htk:f.hosts.take (i+1)=f.hosts.take i++[h]:=by rw[List.take_add_one,hhl];rfl
  have hsn:=ya5 f.zones.length (f.hosts.take i) h
  rw [hti,Bool.true_and] at hsn
  conv=>whnf
  refine⟨by omega,?_⟩
  conv=>whnf
  rw[Int.toNat_natCast,hhd]
  have hfs:=qg8 (ev:=intV) zq5 (zc9 (f.hosts.take i)) h.1
  have hga:=xv3 (f.hosts.take i) h.1
  refine⟨_,hfs,?_⟩
  cases hany:(f.hosts.take i).any (fun x=>x.1 == h.1) with
  |true =>
   rw [hany] at hga hsn
   rw[hga]
   conv=>whnf
   refine brT rfl ?_
   conv=>whnf
   rw[jp9 (i:=i+1) (by rw[htk,hsn];rfl)]
  |false =>
   rw [hany] at hga hsn
   rw[hga]
   conv=>whnf
   refine brF rfl ?_
   conv=>whnf
   have hsn:qm6 f.zones.length (f.hosts.take (i+1))=h.2.2.all (qu7 f.zones.length):=by rw[htk,hsn];rfl
   have hput:putM (aenc zd0 intV (zc9 (f.hosts.take i))) [.int .u32 h.1] [.d (.int .i64 1)]=aenc zd0 intV (zc9 (f.hosts.take (i+1))):=by
    have h1:=qy0 (ev:=intV) zq5 (zc9 (f.hosts.take i)) h.1 1
    rw [zq2 hga,] at h1
    rw[htk]
    unfold zc9 at h1 ⊢
    rw[List.map_append]
    exact h1
   generalize hm:h.2.2=m at hlz hsn ⊢
   refine .inv Nat (fun j=>j<=m.length/\(m.take j).all (qu7 f.zones.length)=true) (fun j=>[(8,iV j)]) (fun j=>[]) (fun j=>m.length - j) ⟨0,[0,1,2],⟨Nat.zero_le _,rfl⟩,?_⟩ ?_
   ·conv=>whnf
    repeat'(first|exact ⟨⟩|exact rfl|exact qa0 _|exact .inr rfl|exact fun _ _=>rfl|exact noI|apply And.intro)
    all_goals first
     |exact ye2 _
   intro j hj
   obtain⟨hj,htj⟩:=hj
   conv=>whnf
   refine⟨fun h3=>?_,fun h3=>?_⟩
   ·have h3:j<m.length:=by
     have h:(j:Int)<m.length:=of_decide_eq_true h3
     omega
    have hwj:IntKind.i64.wrap ((j:Int)+1)=((j+1:Nat):Int):=by rw[qa4 _ (by omega)];omega
    have hmj:m[j]? = some (m.getD j 0):=by rw[List.getD,List.getElem?_eq_getElem h3];rfl
    have hnx:=xl2 (n:=f.zones.length) hmj
    rw [htj,Bool.true_and] at hnx
    conv=>whnf
    refine⟨by omega,?_⟩
    conv=>whnf
    rw[Int.toNat_natCast]
    generalize m.getD j 0=a at hmj hnx ⊢
    refine⟨fun h4=>?_,fun h4=>?_⟩
    ·have h4:a<0:=of_decide_eq_true h4
     have hg:qu7 f.zones.length a=false:=by unfold qu7;rw[decide_eq_false (by omega:¬ 0<=a)];rfl
     have hb:qm6 f.zones.length f.hosts=false:=jp9 (i:=i+1) (by rw[hsn];exact zq4 (j:=j+1) (by rw[hnx,hg]))
     conv=>whnf
     refine brT (decide_eq_true (by omega)) ?_
     conv=>whnf
     rw[hb]
    ·have h4:¬ a<0:=of_decide_eq_false h4
     conv=>whnf
     refine⟨fun h5=>?_,fun h5=>?_⟩
     ·have h5:a >= (f.zones.length:Int):=of_decide_eq_true h5
      have hg:qu7 f.zones.length a=false:=by unfold qu7;rw[decide_eq_false (by omega:¬ a<(f.zones.length:Int)),Bool.and_false]
      have hb:qm6 f.zones.length f.hosts=false:=jp9 (i:=i+1) (by rw[hsn];exact zq4 (j:=j+1) (by rw[hnx,hg]))
      conv=>whnf
      refine brT (decide_eq_true (by omega)) ?_
      conv=>whnf
      rw[hb]
     ·have h5:¬ a >= (f.zones.length:Int):=of_decide_eq_false h5
      have hg:qu7 f.zones.length a=true:=by unfold qu7;rw[decide_eq_true (by omega:0<=a),decide_eq_true (by omega:a<(f.zones.length:Int))];rfl
      conv=>whnf
      rw[hwj]
      refine⟨j+1,[0,1,2],⟨h3,by rw[hnx,hg]⟩,by omega,?_⟩
      conv=>whnf
      repeat'(first|exact ⟨⟩|exact rfl|exact qa0 _|exact .inr rfl|exact fun _ _=>rfl|exact noI|apply And.intro)
      all_goals first
       |exact ye2 _
   ·have h3:j=m.length:=by
     have h:¬ (j:Int)<m.length:=of_decide_eq_false h3
     omega
    subst h3
    rw [List.take_length] at htj
    rw [htj] at hsn
    conv=>whnf
    refine brF rfl ?_
    conv=>whnf
    refine⟨_,hfs,?_⟩
    rw[hga]
    conv=>whnf
    refine⟨_,hput,?_⟩
    conv=>whnf
    rw[hw1]
    refine⟨i+1,[0,1],⟨h2,hsn⟩,by omega,?_⟩
    conv=>whnf
    repeat'(first|exact ⟨⟩|exact rfl|exact qa0 _|exact .inr rfl|exact fun _ _=>rfl|exact noI|apply And.intro)
    all_goals first
     |exact ye2 _
 ·have h2:i=f.hosts.length:=by
   have h:¬ (i:Int)<f.hosts.length:=of_decide_eq_false h2
   omega
  subst h2
  rw [List.take_length] at hti
  conv=>whnf
  rw[hti]
theorem within_suf{n z:List UInt8}:qa1 n z=true↔qa2 n/\qa2 z/\fl z <:+ fl n:=by
 unfold qa1
 simp only[Bool.and_eq_true,decide_eq_true_eq,List.isSuffixOf_iff_suffix]
theorem ql2{a b c:List UInt8}(h:qa1 a b=true)(k:qa1 b c=true):qa1 a c=true:=by
 obtain⟨h1,h2,h3⟩:=within_suf.1 h
 obtain⟨k1,k2,k3⟩:=within_suf.1 k
 exact within_suf.2 ⟨h1,k2,k3.trans h3⟩
theorem qt7{n:List UInt8}(h:qa2 n):qa1 n n=true:=within_suf.2 ⟨h,h,List.suffix_refl _⟩
theorem qs0{n:List UInt8}(h:qa2 n):qa5 n=(fl n).length:=by
 unfold qa5 fl
 rw[if_pos h,List.length_map]
theorem qy3{n a b:List UInt8}(ha:qa1 n a=true)(hb:qa1 n b=true)(hc:qa5 a<=qa5 b):qa1 b a=true:=by
 obtain⟨h1,h2,h3⟩:=within_suf.1 ha
 obtain⟨k1,k2,k3⟩:=within_suf.1 hb
 exact within_suf.2 ⟨k2,h2,List.suffix_of_suffix_length_le h3 k3 (by rw[<-qs0 h2,<-qs0 k2];exact hc)⟩
theorem yj3{a b:List UInt8}(h:qa1 b a=true)(hc:qa5 a=qa5 b):fold a=fold b:=by
 obtain⟨k2,h2,h3⟩:=within_suf.1 h
 rw[qs5 h2,qs5 k2,h3.eq_of_length (by rw[<-qs0 h2,<-qs0 k2];exact hc)]
theorem jg5{a b:List UInt8}(ha:qa2 a)(hb:qa2 b)(h:fold a=fold b):qa5 a=qa5 b:=by
 rw[<-qf8 ha,<-qf8 hb,h]
theorem jk2{n a b:List UInt8}(ha:qa2 a)(hb:qa2 b)(h:fold a=fold b):qa1 n a=qa1 n b:=by
 rw[Bool.eq_iff_iff]
 exact⟨qe7 hb h.symm,qe7 ha h⟩
theorem qo6{n a b:List UInt8}(ha:qa2 a)(hb:qa2 b)(h:fold a=fold b):qa1 a n=qa1 b n:=by
 unfold qa1
 rw[decide_eq_true ha,decide_eq_true hb,yj4 ha hb h]
theorem zr7{n c:List UInt8}(hc:qa2 c):qa1 n (fold c)=qa1 n c:=jk2 (qq8 hc) hc (jm7 c)
theorem zz3{n:List UInt8}(h:qa2 n)(hn:n≠[0]):∃ l,labN n=l :: labN (upN n):=by
 obtain⟨h1,h2,h3⟩:=qm5 h
 cases hl:labN n with
 |nil=>rw [hl] at h3;exact absurd h3 hn
 |cons l ls =>
  rw [hl] at h2 h3
  have hok:=h2 l (by simp)
  have hb:bt n 0=l.length:=by rw[h3];exact jh8 l (mk ls) hok
  have hu:upN n=mk ls:=by
   unfold upN
   rw[hb,h3]
   show(UInt8.ofNat l.length :: (l++mk ls)).drop (1+l.length)=_
   rw[Nat.add_comm,List.drop_succ_cons,List.drop_left]
  have hun:=qk9 h hn
  obtain⟨g1,g2,g3⟩:=qm5 hun
  have:labN (upN n)=ls:=zn6 g2 (fun x hx=>h2 x (by simp[hx])) (by rw[<-g3,hu])
  exact⟨l,by rw[this]⟩
theorem zl1{n:List UInt8}(h:qa2 n)(hn:n≠[0]):qa5 n=qa5 (upN n)+1:=by
 obtain⟨l,hl⟩:=zz3 h hn
 unfold qa5
 rw[if_pos h,if_pos (qk9 h hn),hl,List.length_cons]
theorem zz2{n c:List UInt8}(h:qa1 n c=true)(hn:n≠[0])(hc:qa5 c<qa5 n):qa1 (upN n) c=true:=by
 obtain⟨h1,h2,h3⟩:=within_suf.1 h
 obtain⟨l,hl⟩:=zz3 h1 hn
 have hu:=qk9 h1 hn
 refine within_suf.2 ⟨hu,h2,?_⟩
 have hf:fl n=fold l :: fl (upN n):=by unfold fl;rw[hl];rfl
 rw [hf] at h3
 rcases List.suffix_cons_iff.1 h3 with e|e
 ·exfalso
  rw [qs0 h1,qs0 h2,hf,e] at hc
  exact absurd hc (Nat.lt_irrefl _)
 ·exact e
theorem qz7:qa5 [0]=0:=by decide
theorem kb4{u:List UInt8}(hf:fold u=u):fold (upN u)=upN u:=by
 have:fold (u.drop (1+bt u 0))=(fold u).drop (1+bt u 0):=by unfold fold;rw[List.map_drop]
 show fold (u.drop (1+bt u 0))=u.drop (1+bt u 0)
 rw[this,hf]
theorem zb9{l:List RR}{name top c0:List UInt8}(hc:0<cntZ isNs l c0)(hn:name≠c0)(ht:qa5 top<qa5 c0)(h00:fold c0=c0):∀ (k:Nat) (u:List UInt8),u.length<=k->qa1 u c0=true->fold u=u->qm9 l name top (upsF k u)=true->cntZ anyR l name=cntZ qg7 l name
 |0,u,hk,hw,_,_=>by have:=(qb9 hw).1.1;omega
 |k+1,u,hk,hw,hf,h=>by
  have hun:=(qb9 hw).1
  have hcu:=qj9 hw
  have h0:u≠[0]:=fun e=>by rw [e,qz7] at hcu;omega
  have e1:qm9 l name top (upsF (k+1) u)=if u=top then true else if u≠name/\0<cntZ isNs l u then cntZ anyR l name == cntZ qg7 l name else qm9 l name top (if u=[0] then [] else upsF k (u.drop (1+bt u 0))):=rfl
  rw [e1,if_neg (fun e=>by rw [e] at hcu;omega),if_neg h0] at h
  split at h
  ·simpa using h
  ·rename_i hx
   by_cases hcc:qa5 u=qa5 c0
   ·have hu:u=c0:=by have:=yj3 hw hcc.symm;rw [hf,h00] at this;exact this.symm
    exact absurd ⟨fun e=>hn (by rw[<-e,hu]),by rw[hu];exact hc⟩ hx
   ·have hup:=zz2 hw h0 (by omega)
    have hbt:=qp2 hun h0
    exact zb9 hc hn ht h00 k (upN u) (by unfold upN;rw[List.length_drop];omega) hup (kb4 hf) h
theorem zj3{p:RR->Bool}{l:List RR}{r:RR}(hr:r ∈ l)(hp:p r=true){n:List UInt8}(hn:fold r.nm=n):0<cntZ p l n:=by
 unfold cntZ
 exact List.length_pos_of_mem (List.mem_filter.2 ⟨hr,by simp[hn,hp]⟩)
theorem kg2{p:RR->Bool}{l:List RR}{r:RR}(hr:r ∈ l)(hp:p r=false){n:List UInt8}(hn:fold r.nm=n):cntZ p l n<cntZ anyR l n:=by
 have e1:cntZ p l n=((l.filter fun r=>fold r.nm == n && anyR r).filter p).length:=by
  unfold cntZ
  rw[List.filter_filter]
  congr 1
  apply List.filter_congr
  intro x _
  simp[anyR,Bool.and_comm]
 rw[e1]
 unfold cntZ
 exact List.length_filter_lt_length_iff_exists.2 ⟨r,List.mem_filter.2 ⟨hr,by simp[hn,anyR]⟩,by simp[hp]⟩
theorem Zo.cutL_spec{z:Zo}(hz:z.ok=true){c:List UInt8}(h:c ∈ z.cutL):∃ r ∈ z.rrs,r.nm=c/\r.ty=2/\qa1 c z.apex=true/\ql1 c z.apex=false/\qa2 c/\qx7 z.apex r=true:=by
 unfold Zo.cutL at h
 obtain⟨r,hr,rfl⟩:=List.mem_map.1 h
 obtain⟨hr,hp⟩:=List.mem_filter.1 hr
 have ht:=z.ok_take hz hr
 have ht':=ht
 unfold qx7 at ht'
 simp only [Bool.and_eq_true] at ht' hp
 exact⟨r,hr,rfl,by simpa[isNs] using hp.1,ht'.2.2.2.2,by simpa using hp.2,(qb9 ht'.2.2.2.2).1,ht⟩
theorem Zo.ok_sound{z:Zo}(h:z.ok=true):qr8 z=true:=by
 rw [z.ok_eq] at h
 simp only [Bool.and_eq_true] at h
 exact h.2.2.2
theorem yk2{z:Zo}(hz:z.ok=true){c0 c1:List UInt8}(h0:c0 ∈ z.cutL)(h1:c1 ∈ z.cutL)(hw:qa1 c1 c0=true):fold c1=fold c0:=by
 obtain⟨r0,m0,e0,t0,w0,s0,n0,k0⟩:=z.cutL_spec hz h0
 obtain⟨r1,m1,e1,t1,w1,s1,n1,k1⟩:=z.cutL_spec hz h1
 have han:=Zo.ok_name hz
 apply Classical.byContradiction
 intro hne
 have hs:=Zo.ok_sound hz
 unfold qr8 at hs
 simp only [Bool.and_eq_true,List.all_eq_true] at hs
 have hf:=hs.2.2 r1 m1
 rw [e1] at hf
 have hlt:qa5 c0<qa5 c1:=by
  have:=qj9 hw
  rcases Nat.lt_or_ge (qa5 c0) (qa5 c1) with h|h
  ·exact h
  ·exact absurd (yj3 hw (by omega)).symm hne
 unfold qg2 at hf
 split at hf
 ·cases hf
 ·split at hf
  ·rename_i h
   have:=zl8 n1 han
   rw [h,beq_self_eq_true] at this
   rw [this] at s1
   cases s1
  ·split at hf
   ·cases hf
   ·have hl0:qa5 z.apex<qa5 c0:=qi4 w0 s0
    have hn1:=qq8 n1
    unfold upsN at hf
    rw [if_pos hn1] at hf
    have hwf:qa1 (fold c1) (fold c0)=true:=by
     rw[zr7 n0,qo6 hn1 n1 (jm7 c1)]
     exact hw
    have:=zb9 (l:=z.rrs) (name:=fold c1) (top:=fold z.apex) (c0:=fold c0) (zj3 m0 (by simp[isNs,t0]) (by rw[e0])) hne (by rw[qf8 han,qf8 n0];exact hl0) (jm7 c0) _ (fold c1) (Nat.le_refl _) hwf (jm7 c1) hf
    have hl:=kg2 (p:=qg7) m1 (by simp[qg7,t1]) (n:=fold c1) (by rw[e1])
    omega
structure Good(zs:List Zo):Prop where
 zok:∀ z ∈ zs,z.ok=true
 un:∀ (i j:Nat) (a b:Zo),zs[i]? = some a->zs[j]? = some b->fold a.apex=fold b.apex->i=j
 root:∀ z,zs[0]? = some z->fold z.apex=[0]
 hang:∀ (i:Nat) (z:Zo),zs[i]? = some z->i≠0->∃ (a:Nat) (za:Zo) (c:List UInt8),zs[a]? = some za/\a≠i/\c ∈ za.cutL/\fold c=fold z.apex/\qa1 z.apex za.apex=true /\
  ∀ (j:Nat) (zj:Zo),j≠i->zs[j]? = some zj->qa1 z.apex zj.apex=true->qa5 zj.apex<=qa5 za.apex
theorem za0{n:List UInt8}(h:fold n=[0]):qa5 n=0\/¬ qa2 n:=by
 by_cases hn:qa2 n
 ·left
  rw[<-qf8 hn,h]
  exact qz7
 ·exact .inr hn
theorem zx1{n:List UInt8}(hn:qa2 n)(h:qa5 n=0):fold n=[0]:=by
 rw [qs0 hn] at h
 rw[qs5 hn,List.eq_nil_of_length_eq_zero h]
 rfl
theorem Good.covers{zs:List Zo}(g:Good zs){name:List UInt8}{i:Nat}{zi:Zo}(hi:zs[i]? = some zi)(wi:qa1 name zi.apex=true):∀ (k j:Nat) (zj:Zo),zs[j]? = some zj->i≠j->qa1 name zj.apex=true->qa5 zi.apex<=qa5 zj.apex->qa5 zj.apex<k ->
 ∃ c ∈ zi.cutL,qa1 name c=true/\∃ (m:Nat) (zm:Zo),zs[m]? = some zm/\fold zm.apex=fold c
 |0,j,zj,_,_,_,_,hk=>by omega
 |k+1,j,zj,hj,hij,wj,hc,hk=>by
  have hni:=(qb9 wi).2
  have hnj:=(qb9 wj).2
  have hj0:j≠0:=fun e=>by
   subst e
   have h1:=g.root zj hj
   have h2:qa5 zj.apex=0:=(za0 h1).resolve_right (fun e=>e hnj)
   have h3:=zx1 hni (by omega)
   exact hij (g.un i 0 zi zj hi hj (by rw[h1,h3]))
  obtain⟨a,za,c,ha,haj,hca,hcf,wa,hmax⟩:=g.hang j zj hj hj0
  have hzam:=g.zok za (List.mem_of_getElem? ha)
  obtain⟨r,_,_,_,wc,sc,nc,_⟩:=za.cutL_spec hzam hca
  have wnc:qa1 name c=true:=qe7 nc hcf wj
  by_cases hai:i=a
  ·subst hai
   rw [hi] at ha
   cases ha
   exact⟨c,hca,wnc,j,zj,hj,hcf.symm⟩
  ·have w1:=qy3 wi wj hc
   have h1:=hmax i zi hij hi w1
   have hlt:qa5 za.apex<qa5 zj.apex:=by
    rw[<-jg5 nc hnj hcf]
    exact qi4 wc sc
   exact g.covers hi wi k a za ha hai (ql2 wj wa) h1 (by omega)
theorem Good.best{zs:List Zo}(g:Good zs){name:List UInt8}{i:Nat}{zi:Zo}(hi:zs[i]? = some zi)(wi:qa1 name zi.apex=true)(hc:zi.cut name=none){j:Nat}{zj:Zo}(hj:zs[j]? = some zj)(wj:qa1 name zj.apex=true)(hij:j≠i):qa5 zj.apex<qa5 zi.apex:=by
 apply Classical.byContradiction
 intro h
 obtain⟨c,h1,h2,_⟩:=g.covers hi wi (qa5 zj.apex+1) j zj hj (fun e=>hij e.symm) wj (by omega) (Nat.lt_succ_self _)
 have:=topCut_none.1 hc c h1
 rw [this] at h2
 cases h2
theorem Good.others{zs:List Zo}(g:Good zs){name:List UInt8}{i:Nat}{zi:Zo}(hi:zs[i]? = some zi)(wi:qa1 name zi.apex=true)(hc:zi.cut name=none){j:Nat}{zj:Zo}(hj:zs[j]? = some zj)(wj:qa1 name zj.apex=true)(hij:j≠i):zj.cut name≠none:=by
 intro h
 obtain⟨c,h1,h2,_⟩:=g.covers hj wj (qa5 zi.apex+1) i zi hi hij wi (Nat.le_of_lt (g.best hi wi hc hj wj hij)) (Nat.lt_succ_self _)
 have:=topCut_none.1 h c h1
 rw [this] at h2
 cases h2
theorem Good.lost{zs:List Zo}(g:Good zs){name:List UInt8}{j:Nat}{zj:Zo}(hj:zs[j]? = some zj)(wj:qa1 name zj.apex=true){b:List UInt8}(hb:zj.cut name=some b)(hp:qg6 zs b=none){i:Nat}{zi:Zo}(hi:zs[i]? = some zi)(wi:qa1 name zi.apex=true):zi.cut name≠none:=by
 intro h
 have hne:i≠j:=fun e=>by
  subst e
  rw [hi] at hj
  cases hj
  rw [h] at hb
  cases hb
 have hlt:=g.best hi wi h hj wj (fun e=>hne e.symm)
 obtain⟨c1,h1,h2,m,zm,hm,em⟩:=g.covers hj wj (qa5 zi.apex+1) i zi hi (fun e=>hne e.symm) wi (Nat.le_of_lt hlt) (Nat.lt_succ_self _)
 obtain⟨⟨c0,k1,k2,k3⟩,k4⟩:=qk1 hb
 have hz:=g.zok zj (List.mem_of_getElem? hj)
 have hle:=k4 c1 h1 h2
 obtain⟨_,_,_,_,_,_,n0,_⟩:=zj.cutL_spec hz k1
 rw [<-k2,qf8 n0] at hle
 have hw:=qy3 k3 h2 hle
 have he:=yk2 hz k1 h1 hw
 have:qg6 zs b≠none:=fun e=>by
  unfold qg6 at e
  rw [List.findIdx?_eq_none_iff] at e
  have:=e zm (List.mem_of_getElem? hm)
  simp [em,he,k2] at this
 exact this hp
theorem zb4{zs:List Zo}(hz:∀ z ∈ zs,z.ok=true){name:List UInt8}:∀ (k at_:Nat) (z:Zo),zs[at_]? = some z->qa1 name z.apex=true->qa5 name<k+qa5 z.apex ->
 qo4 zs name k at_=none->∃ (j:Nat) (zj:Zo) (b:List UInt8),zs[j]? = some zj/\qa1 name zj.apex=true/\zj.cut name=some b/\qg6 zs b=none
 |0,at_,z,h,hw,hc,_=>by have:=qj9 hw;omega
 |k+1,at_,z,h,hw,hc,hd=>by
  have hzm:=hz z (List.mem_of_getElem? h)
  have e1:qo4 zs name (k+1) at_=match z.cut name with
   |none=>some at_
   |some c=>match qg6 zs c with
    |none=>none
    |some next=>qo4 zs name k next:=by
   show(match zs[at_]? with|none=>none|some z=>_)=_
   rw[h]
   rfl
  rw [e1] at hd
  cases hcut:z.cut name with
  |none=>rw [hcut] at hd;cases hd
  |some c =>
   rw [hcut] at hd
   simp only at hd
   cases hp:qg6 zs c with
   |none=>exact⟨at_,z,c,h,hw,hcut,hp⟩
   |some next =>
    rw [hp] at hd
    simp only at hd
    obtain⟨y,hy,ey⟩:=qo1 hp
    obtain⟨c',ec,w1,w2,w3⟩:=z.cut_spec hzm hcut
    have hyn:=Zo.ok_name (hz y (List.mem_of_getElem? hy))
    have hyc:fold y.apex=fold c':=by rw[ey,ec]
    have wy:=qe7 hyn hyc w1
    have hlt:=qi4 w2 w3
    have hcc:qa5 y.apex=qa5 c':=jg5 hyn (qb9 w1).2 hyc
    exact zb4 hz k next y hy wy (by omega) hd
theorem yx5:∀ {l:List (List UInt8)},qv5 l=true->∀ {i j:Nat} {a:List UInt8},l[i]? = some a->l[j]? = some a->i=j
 |[],_,_,_,_,h,_=>by cases h
 |x :: l,h,i,j,a,hi,hj=>by
  have h':(!l.contains x && qv5 l)=true:=h
  simp only [Bool.and_eq_true,Bool.not_eq_true'] at h'
  have hx:∀ k,l[k]?≠some x:=fun k hk=>by
   have:=List.mem_of_getElem? hk
   rw [<-List.contains_iff_mem,h'.1] at this
   cases this
  cases i with
  |zero =>
   cases j with
   |zero=>rfl
   |succ j =>
    simp at hi hj
    subst hi
    exact absurd hj (hx j)
  |succ i =>
   cases j with
   |zero =>
    simp at hi hj
    subst hj
    exact absurd hi (hx i)
   |succ j =>
    simp at hi hj
    rw[yx5 h'.2 hi hj]
theorem zk0{zs:List Zo}(h:qv5 (zs.map fun z=>fold z.apex)=true){i j:Nat}{a b:Zo}(hi:zs[i]? = some a)(hj:zs[j]? = some b)(e:fold a.apex=fold b.apex):i=j :=
 yx5 h (a:=fold a.apex) (by rw[List.getElem?_map,hi];rfl) (by rw[List.getElem?_map,hj,e];rfl)
theorem xd1{zs:List Zo}(h:qv5 (zs.map fun z=>fold z.apex)=true){i:Nat}{z:Zo}(hi:zs[i]? = some z)(n:List UInt8):qg6 zs n=some i↔fold z.apex=n:=by
 constructor
 ·intro e
  obtain⟨y,hy,e1⟩:=qo1 e
  rw [hi] at hy
  cases hy
  exact e1
 ·intro e
  cases hp:qg6 zs n with
  |none=>exact absurd e (place_none.1 hp z (List.mem_of_getElem? hi))
  |some k =>
   obtain⟨y,hy,e1⟩:=qo1 hp
   rw[zk0 h hy hi (e1.trans e.symm)]
theorem zj5(zs:List Zo)(i:Nat)(apex:List UInt8):zd1 zs i apex=if (qm3 (qe0 zs) apex (qh0 zs i)).2 then some (qm3 (qe0 zs) apex (qh0 zs i)).1 else none:=by
 unfold zd1 qm3
 cases qr3 apex (qh0 zs i) none with
 |none=>rfl
 |some a =>
  show qg6 zs (fold a)=if (match aget (qe0 zs) (fold a) with|none=>(0,false)|some k=>(k,true)).2 then some (match aget (qe0 zs) (fold a) with|none=>(0,false)|some k=>(k,true)).1 else none
  rw[qq5]
  cases qg6 zs (fold a) <;> rfl
theorem kb1{zs:List Zo}(hz:∀ z ∈ zs,z.ok=true)(ho:qv5 (zs.map fun z=>fold z.apex)=true):yz4 zs (qe0 zs)=zv6 zs:=by
 have hi:∀ i,i<zs.length->ya8 zs (qe0 zs) i=(i == 0 || (match zd1 zs i (zs.getD i default).apex with
  |none=>false
  |some a=>(zs.getD a default).cutL.any fun c=>fold c == fold (zs.getD i default).apex)):=fun i hi=>by
  unfold ya8
  rw[zj5]
  have hzi:zs[i]? = some (zs.getD i default):=by rw[List.getD_eq_getElem?_getD,List.getElem?_eq_getElem hi];rfl
  congr 1
  have hcl:=zq0 (n:=zs.length) (P:=qe0 zs) (fun k v hv=>by
   rw [qq5] at hv
   obtain⟨y,hy,_⟩:=qo1 hv
   exact(List.getElem?_eq_some_iff.1 hy).1) (zs.getD i default).apex (qh0 zs i)
  generalize qm3 (qe0 zs) (zs.getD i default).apex (qh0 zs i)=r at hcl ⊢
  obtain⟨a,b⟩:=r
  cases b with
  |false=>rfl
  |true =>
   have ha:a<zs.length:=hcl rfl
   have hza:zs[a]? = some (zs.getD a default):=by rw[List.getD_eq_getElem?_getD,List.getElem?_eq_getElem ha];rfl
   have hok:=hz _ (List.mem_of_getElem? hza)
   show((je5 (zs.getD a default)).any fun c=>decide (aget (qe0 zs) (fold c)=some i))=(zs.getD a default).cutL.any fun c=>fold c == fold (zs.getD i default).apex
   unfold je5
   rw[if_pos hok,Bool.eq_iff_iff,List.any_eq_true,List.any_eq_true]
   have hp:∀ c,(aget (qe0 zs) (fold c)=some i)↔fold c=fold (zs.getD i default).apex:=fun c=>by
    rw[qq5,xd1 ho hzi]
    exact eq_comm
   constructor
   ·rintro ⟨c,hc,e⟩
    exact⟨c,(qm7 hc).1,by simpa using(hp c).1 (by simpa using e)⟩
   ·rintro ⟨c,hc,e⟩
    obtain⟨_,_,_,_,_,_,hcn,_⟩:=Zo.cutL_spec hok hc
    obtain⟨m,hm,em⟩:=jx1 hc hcn
    exact⟨m,hm,by simpa using(hp m).2 (by rw[em];simpa using e)⟩
 unfold yz4 zv6
 rw[Bool.eq_iff_iff,List.all_eq_true,List.all_eq_true]
 constructor
 ·intro h i hm
  exact(hi i (List.mem_range.1 hm)).symm.trans (h i hm)
 ·intro h i hm
  exact(hi i (List.mem_range.1 hm)).trans (h i hm)
def qr4(zs:List Zo)(i:Nat):Bool:=(zs.take i).all Zo.ok && (qv5 ((zs.take i).map fun z=>fold z.apex) && (i == 0 || fold (zs.getD 0 default).apex == [0]))
theorem xv0{p:Zo->Bool}{zs:List Zo}{i:Nat}(h:(zs.take i).all p=false):zs.all p=false:=by
 rw [List.all_eq_false] at h ⊢
 obtain⟨x,hx,e⟩:=h
 exact⟨x,List.mem_of_mem_take hx,e⟩
theorem zs0{f:Fo}{i:Nat}(h:qr4 f.zones i=false):f.ok=false:=by
 unfold qr4 at h
 unfold Fo.ok
 simp only [Bool.and_eq_false_iff] at h ⊢
 rcases h with h|h|h
 ·exact .inr (.inr (.inr (.inl (xv0 h))))
 ·rw [List.map_take] at h
  exact .inr (.inr (.inr (.inr (.inl (zu0 h)))))
 ·rw [Bool.or_eq_false_iff] at h
  exact .inr (.inr (.inr (.inr (.inr (.inl h.2)))))
theorem ze2{zs:List Zo}{i:Nat}{z:Zo}(h:zs[i]? = some z)(hs:qr4 zs i=true):qr4 zs (i+1)=(z.ok && ((qg6 (zs.take i) (fold z.apex)).isNone && (i != 0 || fold z.apex == [0]))):=by
 unfold qr4 at hs ⊢
 simp only [Bool.and_eq_true] at hs
 obtain⟨h1,h2,h3⟩:=hs
 rw[List.take_add_one,h]
 simp only[Option.toList_some,List.all_append,List.map_append,List.map_cons,List.map_nil,yi2,h1,h2,List.all_cons,List.all_nil,Bool.and_true,Bool.true_and]
 have e1:(!((zs.take i).map fun z=>fold z.apex).contains (fold z.apex))=(qg6 (zs.take i) (fold z.apex)).isNone:=by
  rw[Bool.eq_iff_iff,Bool.not_eq_true',Option.isNone_iff_eq_none,place_none,<-Bool.not_eq_true,List.contains_iff_mem]
  constructor
  ·intro hm y hy e
   exact hm (List.mem_map.2 ⟨y,hy,e⟩)
  ·intro hm hc
   obtain⟨y,hy,e⟩:=List.mem_map.1 hc
   exact hm y hy e
 rw[e1]
 congr 2
 cases i with
 |zero =>
  have:zs.getD 0 default=z:=by rw[List.getD_eq_getElem?_getD,h];rfl
  rw[this]
  rfl
 |succ i =>
  have h3':(fold (zs.getD 0 default).apex == [0])=true:=by
   rw [Bool.or_eq_true] at h3
   exact h3.resolve_left (by simp)
  rw[h3']
  rfl
def jo3(f:Fo):SV:=if f.ok then .tup [.map 0,.d (.int .i64 0)] else .tup [.v (.map none),.d (.int .i64 2)]
def jo4(f:Fo):List KB:=if f.ok then [qd6 (qe0 f.zones)] else []
set_option maxHeartbeats 16000000 in
theorem zz9(f:Fo)(hf:f.Fit)(hl:∀ h ∈ f.hosts,h.2.2.length<=9223372036854775807) :
 COk Tryz.prog 26 [f.V] [] (fun s k=>s=jo3 f/\k=jo4 f):=by
 refine qc7 (TT:=TT) (IN:=qd0 []) qd2 qa7 mixed 1000 Tryz.func26 rfl (qb7 Tryz.func26 (by kernel_rfl) rfl) 72 (by kernel_rfl) ?_
 have hno:f.ok=false->jo3 f = .tup [.v (.map none),.d (.int .i64 2)]/\jo4 f=[]:=fun h=>by
  unfold jo3 jo4
  rw[h]
  exact⟨rfl,rfl⟩
 conv=>whnf
 refine⟨fun h1=>?_,fun h1=>?_⟩
 ·have h1:¬ 1<=f.zones.length:=by
   have h:(f.zones.length:Int)<1:=of_decide_eq_true h1
   omega
  obtain⟨e1,e2⟩:=hno (by unfold Fo.ok;rw[decide_eq_false h1];rfl)
  rw[e1,e2]
  conv=>whnf
  refine⟨[],_,[],rfl,rfl,?_,?_,rfl,rfl⟩
  ·exact rfl
  ·exact True.intro
 have h1:1<=f.zones.length:=by
  have h:¬ (f.zones.length:Int)<1:=of_decide_eq_false h1
  omega
 conv=>whnf
 refine⟨fun h2=>?_,fun h2=>?_⟩
 ·have h2:¬ f.zones.length<=64:=by
   have h:(f.zones.length:Int) > 64:=of_decide_eq_true h2
   omega
  obtain⟨e1,e2⟩:=hno (by unfold Fo.ok;rw[decide_eq_false h2,Bool.false_and,Bool.and_false])
  rw[e1,e2]
  conv=>whnf
  refine⟨[],_,[],rfl,rfl,?_,?_,rfl,rfl⟩
  ·exact rfl
  ·exact True.intro
 have h2:f.zones.length<=64:=by
  have h:¬ (f.zones.length:Int) > 64:=of_decide_eq_false h2
  omega
 conv=>whnf
 refine⟨fun h3=>?_,fun h3=>?_⟩
 ·have h3:¬ f.hosts.length<=64:=by
   have h:(f.hosts.length:Int) > 64:=of_decide_eq_true h3
   omega
  obtain⟨e1,e2⟩:=hno (by unfold Fo.ok;rw[decide_eq_false h3,Bool.false_and,Bool.and_false,Bool.and_false])
  rw[e1,e2]
  conv=>whnf
  refine⟨[],_,[],rfl,rfl,?_,?_,rfl,rfl⟩
  ·exact rfl
  ·exact True.intro
 have h3:f.hosts.length<=64:=by
  have h:¬ (f.hosts.length:Int) > 64:=of_decide_eq_false h3
  omega
 have hok:f.ok=(f.zones.all Zo.ok && (qv5 (f.zones.map fun z=>fold z.apex) && (fold (f.zones.getD 0 default).apex == [0] && (zv6 f.zones && qm6 f.zones.length f.hosts)))):=by
  unfold Fo.ok
  rw[decide_eq_true h1,decide_eq_true h2,decide_eq_true h3]
  rfl
 conv=>whnf
 refine .inv Nat (fun i=>i<=f.zones.length/\qr4 f.zones i=true) (fun i=>[(33,iV i)]) (fun i=>[(1,qd6 (qe0 (f.zones.take i)))]) (fun i=>f.zones.length - i) ⟨0,[0,1],⟨Nat.zero_le _,rfl⟩,?_⟩ ?_
 ·conv=>whnf
  repeat'(first|exact ⟨⟩|exact rfl|exact qa0 _|exact .inr rfl|exact fun _ _=>rfl|exact noI|apply And.intro)
 intro i hi
 obtain⟨hi,hti⟩:=hi
 conv=>whnf
 refine⟨fun h4=>?_,fun h4=>?_⟩
 ·have h4:i<f.zones.length:=by
   have h:(i:Int)<f.zones.length:=of_decide_eq_true h4
   omega
  have hw1:IntKind.i64.wrap ((i:Int)+1)=((i+1:Nat):Int):=by rw[qa4 _ (by omega)];omega
  obtain⟨z,hzd⟩:∃ z,f.zones.getD i default=z:=⟨_,rfl⟩
  have hzl:f.zones[i]? = some z:=by rw[<-hzd,List.getD,List.getElem?_eq_getElem h4];rfl
  have hzf:=hf z (List.mem_of_getElem? hzl)
  have hnx:=ze2 hzl hti
  have htk:f.zones.take (i+1)=f.zones.take i++[z]:=by rw[List.take_add_one,hzl];rfl
  have hbad:qr4 f.zones (i+1)=false->f.ok=false:=zs0
  conv=>whnf
  refine⟨by omega,?_⟩
  conv=>whnf
  rw[Int.toNat_natCast,hzd]
  refine .one (.data _ (ys9 z hzf.2) rfl rfl ?_)
  cases hzo:z.ok with
  |false =>
   obtain⟨e1,e2⟩:=hno (hbad (by rw[hnx,hzo];rfl))
   rw[e1,e2,if_neg (by decide)]
   conv=>whnf
   refine brT rfl ?_
   conv=>whnf
   refine⟨[],_,[],rfl,rfl,?_,?_,rfl,rfl⟩
   ·exact rfl
   ·exact True.intro
  |true =>
   rw[if_pos rfl]
   rw [hzo,Bool.true_and] at hnx
   conv=>whnf
   refine brF rfl ?_
   conv=>whnf
   refine .one (.data _ (qj6 z.apex (by have:=hzf.1;omega)) rfl rfl ?_)
   conv=>whnf
   have hfs:=qg8 (ev:=intV) qg9 (qe0 (f.zones.take i)) (fold z.apex)
   rw [qq5] at hfs
   refine⟨_,hfs,?_⟩
   cases hp:qg6 (f.zones.take i) (fold z.apex) with
   |some k =>
    rw [hp] at hnx
    obtain⟨e1,e2⟩:=hno (hbad (by rw[hnx];rfl))
    rw[e1,e2]
    conv=>whnf
    refine⟨[],_,[],rfl,rfl,?_,?_,rfl,rfl⟩
    ·exact rfl
    ·exact True.intro
   |none =>
    rw [hp] at hnx
    have hput:putM (aenc strK intV (qe0 (f.zones.take i))) [.str (fold z.apex)] [.d (.int .i64 (i:Nat))]=aenc strK intV (qe0 (f.zones.take (i+1))):=by
     have h1:=qy0 (ev:=intV) qg9 (qe0 (f.zones.take i)) (fold z.apex) i
     rw [zq2 (by rw [qq5,hp])] at h1
     rw[htk,zf5,show(f.zones.take i).length=i by rw[List.length_take];omega]
     exact h1
    have hgo:qr4 f.zones (i+1)=true->qr4 f.zones (i+1)=true:=id
    conv=>whnf
    refine⟨fun h5=>?_,fun h5=>?_⟩
    ·have h5:i=0:=by
      have h:(i:Int)=0:=by simpa using h5
      omega
     conv=>whnf
     refine⟨fun h6=>?_,fun h6=>?_⟩
     ·have h6:(fold z.apex == [0])=false:=by simpa using h6
      obtain⟨e1,e2⟩:=hno (hbad (by rw[hnx,h6,h5];rfl))
      rw[e1,e2]
      conv=>whnf
      refine⟨[],_,[],rfl,rfl,?_,?_,rfl,rfl⟩
      ·exact rfl
      ·exact True.intro
     ·have h6:(fold z.apex == [0])=true:=by simpa using h6
      conv=>whnf
      refine⟨_,hput,?_⟩
      conv=>whnf
      rw[hw1]
      refine⟨i+1,[0,1],⟨h4,by rw[hnx,h6,Bool.or_true];rfl⟩,by omega,?_⟩
      conv=>whnf
      repeat'(first|exact ⟨⟩|exact rfl|exact qa0 _|exact .inr rfl|exact fun _ _=>rfl|exact noI|apply And.intro)
      all_goals first
       |exact qc9 _
    ·have h5:(i != 0)=true:=by
      have h:¬ (i:Int)=0:=by simpa using h5
      simp;omega
     conv=>whnf
     refine⟨_,hput,?_⟩
     conv=>whnf
     rw[hw1]
     refine⟨i+1,[0,1],⟨h4,by rw[hnx,h5];rfl⟩,by omega,?_⟩
     conv=>whnf
     repeat'(first|exact ⟨⟩|exact rfl|exact qa0 _|exact .inr rfl|exact fun _ _=>rfl|exact noI|apply And.intro)
     all_goals first
      |exact qc9 _
 ·have h4:i=f.zones.length:=by
   have h:¬ (i:Int)<f.zones.length:=of_decide_eq_false h4
   omega
  subst h4
  unfold qr4 at hti
  rw [List.take_length] at hti ⊢
  simp only [Bool.and_eq_true] at hti
  obtain⟨t1,t2,t3⟩:=hti
  have t3:(fold (f.zones.getD 0 default).apex == [0])=true:=by
   rw [Bool.or_eq_true] at t3
   exact t3.resolve_left (fun e=>by
    have:f.zones.length=0:=by simpa using e
    omega)
  have hz:∀ z ∈ f.zones,z.ok=true:=List.all_eq_true.1 t1
  rw [t1,t2,t3,Bool.true_and,Bool.true_and,Bool.true_and,<-kb1 hz t2] at hok
  have hP:∀ k v,aget (qe0 f.zones) k=some v->v<f.zones.length:=fun k v hv=>by
   rw [qq5] at hv
   obtain⟨y,hy,_⟩:=qo1 hv
   exact(List.getElem?_eq_some_iff.1 hy).1
  conv=>whnf
  refine .rel _ (COk.frameX (kb0 f hf h2 (qe0 f.zones) hz hP) [1] rfl rfl (by show[qd6 _]=[mapK _ (qd6 _)];rw[qo0])) (fun x ks' hR=>?_)
  obtain⟨s0,k0,⟨rfl,rfl⟩,rfl,rfl⟩:=hR
  rw[show mapB (sig [1] _) [qd6 (qe0 f.zones)]=[qd6 (qe0 f.zones)] from congrArg (fun x=>[x]) (qo0 _)]
  cases hh:yz4 f.zones (qe0 f.zones) with
  |false =>
   obtain⟨e1,e2⟩:=hno (by rw[hok,hh];rfl)
   rw[e1,e2]
   conv=>whnf
   refine brT rfl ?_
   conv=>whnf
   refine⟨[],_,[],rfl,rfl,?_,?_,rfl,rfl⟩
   ·exact rfl
   ·exact True.intro
  |true =>
   rw [hh,Bool.true_and] at hok
   conv=>whnf
   refine brF rfl ?_
   conv=>whnf
   refine .one (.data _ (xg5 f h3 hl) rfl rfl ?_)
   rw[<-hok]
   cases hk:f.ok with
   |false =>
    obtain⟨e1,e2⟩:=hno hk
    rw[e1,e2]
    conv=>whnf
    refine brT rfl ?_
    conv=>whnf
    refine⟨[],_,[],rfl,rfl,?_,?_,rfl,rfl⟩
    ·exact rfl
    ·exact True.intro
   |true =>
    have e1:jo3 f = .tup [.map 0,.d (.int .i64 0)]:=by unfold jo3;rw[hk];rfl
    have e2:jo4 f=[qd6 (qe0 f.zones)]:=by unfold jo4;rw[hk];rfl
    rw[e1,e2]
    conv=>whnf
    refine brF rfl ?_
    conv=>whnf
    refine⟨[1],_,[qd6 (qe0 f.zones)],rfl,rfl,?_,?_,rfl,rfl⟩
    ·exact rfl
    ·conv=>whnf
     repeat'(first|exact ⟨⟩|exact rfl|exact qa0 _|exact .inr rfl|exact fun _ _=>rfl|exact noI|apply And.intro)
     all_goals first
      |exact qc9 _
theorem Fo.parts{f:Fo}(h:f.ok=true):(1<=f.zones.length/\f.zones.length<=64/\f.hosts.length<=64)/\(∀ z ∈ f.zones,z.ok=true)/\qv5 (f.zones.map fun z=>fold z.apex)=true/\fold (f.zones.getD 0 default).apex=[0]/\zv6 f.zones=true/\qm6 f.zones.length f.hosts=true:=by
 unfold Fo.ok at h
 simp only [Bool.and_eq_true,decide_eq_true_eq,beq_iff_eq] at h
 obtain⟨a1,a2,a3,a4,a5,a6,a7,a8⟩:=h
 exact⟨⟨a1,a2,a3⟩,List.all_eq_true.1 a4,a5,a6,a7,a8⟩
theorem xs6{z:Zo}(hz:z.ok=true){c:List UInt8}(hc:c ∈ z.cutL):(qb2 c 2 z.rrs).2=0/\(qb2 c 2 z.rrs).1.nm=c:=by
 obtain⟨r,hr,hn,ht,_,_,hcn,hk⟩:=Zo.cutL_spec hz hc
 have hp:qe5 c 2 z.rrs≠[]:=by
  intro e
  have hm:r ∈ qe5 c 2 z.rrs:=by
   unfold qe5 qm0 qg4
   refine List.mem_filter.2 ⟨List.mem_filter.2 ⟨hr,?_⟩,?_⟩
   ·rw[ht,hn];simp
   ·unfold qx7 at hk
    simp only [Bool.and_eq_true] at hk
    rw[hk.1,hk.2.2.2.1]
    rfl
  rw [e] at hm
  cases hm
 have e:qb2 c 2 z.rrs=(js8 c 2 (qe5 c 2 z.rrs),0):=by
  unfold qb2
  rw[if_pos hcn,if_neg (by simpa using hp)]
 rw[e]
 exact⟨rfl,rfl⟩
theorem jn5{z:Zo}(hz:z.ok=true)(name:List UInt8):(z.cut name=none/\(cutQ z name).2=3/\cutQ z name=(St.no,3))\/∃ c,z.cut name=some (fold c)/\(cutQ z name).2=0/\(cutQ z name).1.nm=c/\qa2 c/\c ∈ z.cutL/\qa1 name c=true/\cutQ z name=qb2 c 2 z.rrs:=by
 have hb:=xu2 (name:=name) (l:=z.cutL) (fun c hc=>by
  obtain⟨_,_,_,_,_,_,h,_⟩:=Zo.cutL_spec hz hc;exact h)
 have hs:=jr0 name (qx9 z.cutL)
 unfold cutQ Zo.cut
 rw[if_pos hz]
 cases hc:je9 name (qx9 z.cutL) with
 |none =>
  rw [hc] at hb
  exact .inl ⟨hb.symm,rfl,rfl⟩
 |some c =>
  rw [hc] at hb hs
  obtain⟨h1,h2,_⟩:=hs
  obtain⟨hm,hn⟩:=qm7 h1
  obtain⟨f1,f2⟩:=xs6 hz hm
  exact .inr ⟨c,hb.symm,f1,f2,hn,hm,h2,rfl⟩
def yf9(f:Fo)(name:List UInt8):Nat × Int:=if qa2 name then (match qo4 f.zones name 300 0 with
 |none=>(0,12)
 |some a=>(a,0)) else (0,2)
theorem qv1{n:List UInt8}:qa5 n<=255:=by
 unfold qa5
 split
 ·rename_i h
  obtain⟨h1,h2,h3⟩:=qm5 h
  have:∀ l:List (List UInt8),l.length<=(mk l).length:=fun l=>by
   induction l with
   |nil=>exact Nat.zero_le _
   |cons a l ih =>
    have:(mk (a :: l)).length=1+a.length+(mk l).length:=js0 a l
    rw[this,List.length_cons]
    omega
  have h4:=this (labN n)
  rw [<-h3] at h4
  omega
 ·exact Nat.zero_le _
theorem qu3{z:Zo}(hz:qa2 z.apex)(h:fold z.apex=[0]){name:List UInt8}(hn:qa2 name):qa1 name z.apex=true:=by
 refine within_suf.2 ⟨hn,hz,?_⟩
 have:qa5 z.apex=0:=(za0 h).resolve_right (fun e=>e hz)
 rw [qs0 hz] at this
 rw[List.eq_nil_of_length_eq_zero this]
 exact List.nil_suffix
structure DwS where
 k:Nat
 at_:Nat
set_option maxHeartbeats 16000000 in
theorem xi3(f:Fo)(hf:f.Fit)(hok:f.ok=true)(name:List UInt8) :
 COk Tryz.prog 28 [f.V,.map 0,.d (.str name)] [qd6 (qe0 f.zones)] (fun s k=>s = .tup [iV (yf9 f name).1,.d (.int .i64 (yf9 f name).2)]/\k=[qd6 (qe0 f.zones)]):=by
 obtain⟨⟨h1,h2,h3⟩,hz,ho,hr,_,_⟩:=Fo.parts hok
 refine qc7 (TT:=TT) (IN:=qd0 []) qd2 qa7 mixed 1000 Tryz.func28 rfl (qb7 Tryz.func28 (by kernel_rfl) rfl) 37 (by kernel_rfl) ?_
 conv=>whnf
 refine .one (.data _ (qd8 name) rfl rfl ?_)
 unfold yf9
 by_cases hn:qa2 name
 case neg =>
  rw[if_neg hn,if_neg hn]
  conv=>whnf
  refine brT rfl ?_
  conv=>whnf
  refine⟨[0],_,[qd6 (qe0 f.zones)],rfl,rfl,?_,?_,rfl,rfl⟩
  ·exact rfl
  ·conv=>whnf
   repeat'(first|exact ⟨⟩|exact rfl|exact qa0 _|exact .inr rfl|exact fun _ _=>rfl|exact noI|apply And.intro)
   all_goals first
    |exact qc9 _
 rw[if_pos hn,if_pos hn]
 conv=>whnf
 refine brF rfl ?_
 conv=>whnf
 have hz0:f.zones[0]? = some (f.zones.getD 0 default):=by rw[List.getD_eq_getElem?_getD,List.getElem?_eq_getElem h1];rfl
 have hc0:=@qv1 name
 refine .inv DwS (fun s=>(∃ z,f.zones[s.at_]? = some z/\qa1 name z.apex=true/\qa5 name<s.k+qa5 z.apex)/\qo4 f.zones name s.k s.at_=qo4 f.zones name 300 0) (fun s=>[(8,iV s.at_)]) (fun s=>[]) (fun s=>s.k) ⟨⟨300,0⟩,[0,1],⟨⟨_,hz0,qu3 (Zo.ok_name (hz _ (List.mem_of_getElem? hz0))) hr hn,by show qa5 name<300+_;omega⟩,rfl⟩,?_⟩ ?_
 ·conv=>whnf
  repeat'(first|exact ⟨⟩|exact rfl|exact qa0 _|exact .inr rfl|exact fun _ _=>rfl|exact noI|apply And.intro)
  all_goals first
   |exact qc9 _
 intro s hs
 obtain⟨⟨z,hza,hwi,hcn⟩,hdn⟩:=hs
 conv=>whnf
 generalize s.k=k at hcn hdn ⊢
 generalize s.at_=at_ at hza hdn ⊢
 have hzm:=List.mem_of_getElem? hza
 have hlt:at_<f.zones.length:=(List.getElem?_eq_some_iff.1 hza).1
 have hzd:f.zones.getD at_ default=z:=by rw[List.getD_eq_getElem?_getD,hza];rfl
 obtain⟨k,rfl⟩:∃ k',k=k'+1:=⟨k - 1,by have:=qj9 hwi;omega⟩
 have e1:qo4 f.zones name (k+1) at_=match z.cut name with
  |none=>some at_
  |some c=>match qg6 f.zones c with
   |none=>none
   |some next=>qo4 f.zones name k next:=by
  show(match f.zones[at_]? with|none=>none|some z=>_)=_
  rw[hza]
  rfl
 conv=>whnf
 refine⟨by omega,?_⟩
 conv=>whnf
 rw[Int.toNat_natCast,hzd]
 refine .one (.data _ (zd3 z (hf z hzm).2 name) rfl rfl ?_)
 rcases jn5 (hz z hzm) name with⟨hcut,hq,_⟩|⟨c,hcut,hq,hnm,hcn2,_,_,_⟩
 ·have hfin:qo4 f.zones name 300 0=some at_:=by rw[<-hdn,e1,hcut]
  rw[hfin,hq]
  conv=>whnf
  refine brT rfl ?_
  conv=>whnf
  refine⟨[0],_,[qd6 (qe0 f.zones)],rfl,rfl,?_,?_,rfl,rfl⟩
  ·exact rfl
  ·conv=>whnf
   repeat'(first|exact ⟨⟩|exact rfl|exact qa0 _|exact .inr rfl|exact fun _ _=>rfl|exact noI|apply And.intro)
   all_goals first
    |exact qc9 _
 ·rw [hcut] at e1
  simp only at e1
  rw[hq]
  generalize hS:(cutQ z name).1=S at hnm ⊢
  conv=>whnf
  refine brF rfl ?_
  conv=>whnf
  refine .one (.data _ (qj6 S.nm (by rw[hnm];have:=hcn2.2.1;omega)) rfl rfl ?_)
  rw[hnm]
  conv=>whnf
  have hfs:=qg8 (ev:=intV) qg9 (qe0 f.zones) (fold c)
  rw [qq5] at hfs
  refine⟨_,hfs,?_⟩
  cases hp:qg6 f.zones (fold c) with
  |none =>
   rw [hp] at e1
   have hfin:qo4 f.zones name 300 0=none:=by rw[<-hdn,e1]
   rw[hfin]
   conv=>whnf
   refine⟨[0],_,[qd6 (qe0 f.zones)],rfl,rfl,?_,?_,rfl,rfl⟩
   ·exact rfl
   ·conv=>whnf
    repeat'(first|exact ⟨⟩|exact rfl|exact qa0 _|exact .inr rfl|exact fun _ _=>rfl|exact noI|apply And.intro)
    all_goals first
     |exact qc9 _
  |some next =>
   rw [hp] at e1
   simp only at e1
   obtain⟨y,hy,ey⟩:=qo1 hp
   obtain⟨c',ec,w1,w2,w3⟩:=z.cut_spec (hz z hzm) hcut
   have hyn:=Zo.ok_name (hz y (List.mem_of_getElem? hy))
   have hyc:fold y.apex=fold c':=by rw[ey,ec]
   have wy:=qe7 hyn hyc w1
   have hlt:=qi4 w2 w3
   have hcc:qa5 y.apex=qa5 c':=jg5 hyn (qb9 w1).2 hyc
   conv=>whnf
   refine⟨⟨k,next⟩,[0,1],⟨⟨y,hy,wy,by show qa5 name<k+_;omega⟩,by show qo4 f.zones name k next=_;rw[<-e1,hdn]⟩,Nat.lt_succ_self k,?_⟩
   conv=>whnf
   repeat'(first|exact ⟨⟩|exact rfl|exact qa0 _|exact .inr rfl|exact fun _ _=>rfl|exact noI|apply And.intro)
   all_goals first
    |exact qc9 _
structure Q where
 nm:List UInt8
 ty:Int
 cl:Int
deriving Inhabited
def Q.enc(q:Q):List DV:=[.str q.nm,.int .u16 q.ty,.int .u16 q.cl]
def Fo.Len(f:Fo):Prop:=∀ h ∈ f.hosts,h.2.2.length<=9223372036854775807
theorem jw6(f:Fo)(hf:f.Fit)(hl:f.Len)(ks:List KB):COk Tryz.prog 26 [f.V] ks (fun s k=>s=(if f.ok then .tup [.map (lenB ks),.d (.int .i64 0)] else .tup [.v (.map none),.d (.int .i64 2)])/\k=(if f.ok then appB ks [qd6 (qe0 f.zones)] else ks)) :=
 (COk.frameX (zz9 f hf hl) [] rfl rfl rfl).imp fun r k ⟨s0,k0,⟨h1,h2⟩,h3,h4⟩=>by
  subst h1 h2 h3 h4
  unfold jo3 jo4
  cases f.ok with
  |true =>
   refine⟨rfl,?_⟩
   show appB ks [mapK _ (qd6 _)]=_
   rw[qo0]
   rfl
  |false=>exact⟨rfl,by show appB ks []=ks;rw[yr9,List.append_nil]⟩
set_option maxHeartbeats 8000000 in
theorem yz2(f:Fo)(hf:f.Fit)(hl:f.Len):FnOk Tryz.prog 9 [f.V] (.d (.int .i64 (if f.ok then 0 else 2))):=by
 refine qa3 (TT:=TT) (IN:=qd0 []) qd2 qa7 mixed 1000 Tryz.func9 rfl (qb7 Tryz.func9 (by kernel_rfl) rfl) rfl 10 (by kernel_rfl) ?_
 conv=>whnf
 refine .rel _ (jw6 f hf hl _) (fun r ks' hR=>?_)
 obtain⟨rfl,rfl⟩:=hR
 cases f.ok with
 |true =>
  rw[if_pos rfl,if_pos rfl,if_pos rfl]
  conv=>whnf
 |false =>
  rw[if_neg (by decide),if_neg (by decide),if_neg (by decide)]
  conv=>whnf
def jv9(f:Fo)(name:List UInt8):Nat × Int:=if f.ok then yf9 f name else (0,2)
set_option maxHeartbeats 8000000 in
theorem xr4(f:Fo)(hf:f.Fit)(hl:f.Len)(name:List UInt8):FnOk Tryz.prog 11 [f.V,.d (.str name)] (.tup [iV (jv9 f name).1,.d (.int .i64 (jv9 f name).2)]):=by
 refine qa3 (TT:=TT) (IN:=qd0 []) qd2 qa7 mixed 1000 Tryz.func11 rfl (qb7 Tryz.func11 (by kernel_rfl) rfl) rfl 20 (by kernel_rfl) ?_
 conv=>whnf
 refine .rel _ (jw6 f hf hl _) (fun r ks' hR=>?_)
 obtain⟨rfl,rfl⟩:=hR
 unfold jv9
 cases hok:f.ok with
 |false =>
  rw[if_neg (by decide),if_neg (by decide),if_neg (by decide)]
  conv=>whnf
  refine brT rfl ?_
  conv=>whnf
  repeat'(first|exact ⟨⟩|exact rfl|exact⟨rfl,rfl,.inr rfl,fun _ _=>rfl⟩|exact⟨rfl,rfl,.inl rfl,noI⟩|apply And.intro)
 |true =>
  rw[if_pos rfl,if_pos rfl,if_pos rfl]
  conv=>whnf
  refine brF rfl ?_
  conv=>whnf
  refine .rel _ (COk.frameX (xi3 f hf hok name) [1] rfl rfl (by show[qd6 _]=[mapK _ (qd6 _)];rw[qo0])) (fun x ks' hR=>?_)
  obtain⟨s0,k0,⟨rfl,rfl⟩,rfl,rfl⟩:=hR
  conv=>whnf
  repeat'(first|exact ⟨⟩|exact rfl|exact⟨rfl,rfl,.inr rfl,fun _ _=>rfl⟩|exact⟨rfl,rfl,.inl rfl,noI⟩|apply And.intro)
def Ver.no(why:Int):Ver:=⟨[],St.no,0,why⟩
def Ver.V(v:Ver):SV:=.agg [.d (.int .i64 v.code),.d (stsD v.chain.isEmpty v.chain),.d (.str v.ans.nm),.d (.int .u16 v.ans.ty),.d (.int .u32 v.ans.ttl),.d (.sl v.ans.z v.ans.data.length 1 (strs v.ans.data))]
def ofR(f:Fo)(q:Q):Ver:=if f.ok then ofF f.zones q.ty 20 q.nm [] else Ver.no 2
theorem qd4{α:Type}(l:List α):Nat.beq l.length 0=l.isEmpty:=by cases l <;> rfl
structure OfS where
 k:Nat
 nm:List UInt8
 ch:List St
set_option maxHeartbeats 32000000 in
theorem kf6(f:Fo)(hf:f.Fit)(hl:f.Len)(q:Q):FnOk Tryz.prog 19 [f.V,.agg [.d (.str q.nm),.d (.int .u16 q.ty),.d (.int .u16 q.cl)]] (.tup [(ofR f q).V,.d (.int .i64 (ofR f q).why)]):=by
 refine qa3 (TT:=TT) (IN:=qd0 []) qd2 qa7 mixed 1000 Tryz.func19 rfl (qb7 Tryz.func19 (by kernel_rfl) rfl) rfl 95 (by kernel_rfl) ?_
 conv=>whnf
 refine .rel _ (jw6 f hf hl _) (fun r ks' hR=>?_)
 obtain⟨rfl,rfl⟩:=hR
 unfold ofR
 cases hok:f.ok with
 |false =>
  rw[if_neg (by decide),if_neg (by decide),if_neg (by decide)]
  conv=>whnf
  refine brT rfl ?_
  conv=>whnf
  repeat'(first|exact ⟨⟩|exact rfl|exact⟨rfl,rfl,.inr rfl,fun _ _=>rfl⟩|exact⟨rfl,rfl,.inl rfl,noI⟩|apply And.intro)
 |true =>
  obtain⟨⟨h1,h2,h3⟩,hz,ho,hr,_,_⟩:=Fo.parts hok
  rw[if_pos rfl,if_pos rfl,if_pos rfl]
  conv=>whnf
  refine brF rfl ?_
  conv=>whnf
  refine .nilC 4 1 47 4 (fun _=>[]) _ _ _ _ rfl rfl ?_
  refine .inv OfS (fun s=>ofF f.zones q.ty s.k s.nm s.ch=ofF f.zones q.ty 20 q.nm []/\s.ch.length+s.k=20/\s.ch.length<=8) (fun s=>[(9,.d (.str s.nm))])
   (fun s=>[(4,.cells 60 [.d (.int .i64 0),.all 5,.d (.str []),.d (.int .u16 0),.d (.int .u32 0),nilS]),(5,.row 47 4 s.ch.length .iff (fun j=>(s.ch.getD j default).enc))]) (fun s=>s.k) ⟨⟨20,q.nm,[]⟩,[0,1,2,3,4,5],⟨rfl,rfl,Nat.zero_le _⟩,?_⟩ ?_
  ·conv=>whnf
   repeat'(first|exact ⟨⟩|exact rfl|exact qa0 _|exact .inr rfl|exact fun _ _=>rfl|exact noI|apply And.intro)
   all_goals first
    |exact qc9 _
  intro s hs
  obtain⟨hof,hkl,hcl⟩:=hs
  conv=>whnf
  generalize s.k=k at hof hkl ⊢
  generalize s.nm=nm at hof ⊢
  generalize s.ch=ch at hof hkl hcl ⊢
  obtain⟨k,rfl⟩:∃ k',k=k'+1:=⟨k - 1,by omega⟩
  generalize hV:ofF f.zones q.ty 20 q.nm []=V at hof ⊢
  have e1:ofF f.zones q.ty (k+1) nm ch=if qa2 nm then (match qo4 f.zones nm 300 0 with
   |none=>⟨[],St.no,0,12⟩
   |some at_=>if (qb2 nm q.ty (f.zones.getD at_ default).rrs).2=0 then ⟨ch,(qb2 nm q.ty (f.zones.getD at_ default).rrs).1,0,0⟩
    else if q.ty=5\/(qb2 nm 5 (f.zones.getD at_ default).rrs).2≠0\/(qb2 nm 5 (f.zones.getD at_ default).rrs).1.data.length=0 then ⟨ch,St.no,if qi8 (f.zones.getD at_ default) nm then 0 else 3,0⟩
    else if ch.length >= 8 then ⟨[],St.no,0,9⟩
    else ofF f.zones q.ty k ((qb2 nm 5 (f.zones.getD at_ default).rrs).1.data.headD []) (ch++[(qb2 nm 5 (f.zones.getD at_ default).rrs).1])) else ⟨[],St.no,0,2⟩:=rfl
  refine .rel _ (COk.frameX (xi3 f hf hok nm) [3] rfl rfl (by show[qd6 _]=[mapK _ (qd6 _)];rw[qo0])) (fun x ks' hR=>?_)
  obtain⟨s0,k0,⟨rfl,rfl⟩,rfl,rfl⟩:=hR
  rw[show mapB (sig [3] _) [qd6 (qe0 f.zones)]=[qd6 (qe0 f.zones)] from congrArg (fun x=>[x]) (qo0 _)]
  by_cases hn:qa2 nm
  case neg =>
   rw [if_neg hn] at e1
   rw[show yf9 f nm=(0,2) from if_neg hn,<-hof,e1]
   conv=>whnf
   refine brT rfl ?_
   conv=>whnf
   repeat'(first|exact ⟨⟩|exact rfl|exact⟨rfl,rfl,.inr rfl,fun _ _=>rfl⟩|exact⟨rfl,rfl,.inl rfl,noI⟩|apply And.intro)
  rw [if_pos hn] at e1
  cases hd:qo4 f.zones nm 300 0 with
  |none =>
   rw [hd] at e1
   rw[show yf9 f nm=(0,12) by unfold yf9;rw[if_pos hn,hd],<-hof,e1]
   conv=>whnf
   refine brT rfl ?_
   conv=>whnf
   repeat'(first|exact ⟨⟩|exact rfl|exact⟨rfl,rfl,.inr rfl,fun _ _=>rfl⟩|exact⟨rfl,rfl,.inl rfl,noI⟩|apply And.intro)
  |some at_ =>
   rw [hd] at e1
   simp only at e1
   have hz0:f.zones[0]? = some (f.zones.getD 0 default):=by rw[List.getD_eq_getElem?_getD,List.getElem?_eq_getElem h1];rfl
   obtain⟨z,hza,_,_⟩:=(yc4 hz 300 0 _ hz0 (qu3 (Zo.ok_name (hz _ (List.mem_of_getElem? hz0))) hr hn) (by have:=@qv1 nm;omega)).2 at_ hd
   have hzm:=List.mem_of_getElem? hza
   have hlt:at_<f.zones.length:=(List.getElem?_eq_some_iff.1 hza).1
   have hzd:f.zones.getD at_ default=z:=by rw[List.getD_eq_getElem?_getD,hza];rfl
   have hzo:=hz z hzm
   have hzf:=(hf z hzm).2
   rw [hzd] at e1
   have hnl:nm.length<=100000:=by have:=hn.2.1;omega
   have hg:∀ t,getZ z nm t=qb2 nm t z.rrs:=fun t=>by unfold getZ;rw[if_pos hzo]
   rw[show yf9 f nm=(at_,0) by unfold yf9;rw[if_pos hn,hd]]
   conv=>whnf
   refine brF rfl ?_
   conv=>whnf
   refine⟨by omega,?_⟩
   conv=>whnf
   rw[Int.toNat_natCast,hzd]
   refine .one (.data _ (yl3 z hzf nm q.ty hnl) rfl rfl ?_)
   rw[hg]
   generalize qb2 nm q.ty z.rrs=r1 at e1 ⊢
   conv=>whnf
   refine⟨fun g1=>?_,fun g1=>?_⟩
   ·have g1:r1.2=0:=by simpa using g1
    rw [if_pos g1] at e1
    rw[<-hof,e1]
    conv=>whnf
    repeat'(first|exact ⟨⟩|exact rfl|exact⟨rfl,rfl,.inr rfl,fun _ _=>rfl⟩|exact⟨rfl,rfl,.inl rfl,noI⟩|apply And.intro)
    all_goals first
     |exact qd4 _
     |exact .inr rfl
     |exact fun _ _=>rfl
   have g1:¬ r1.2=0:=by simpa using g1
   rw [if_neg g1] at e1
   conv=>whnf
   refine .one (.data _ (yl3 z hzf nm 5 hnl) rfl rfl ?_)
   rw[hg]
   have hrt:(qb2 nm 5 z.rrs).2=0->(qb2 nm 5 z.rrs).1.ok=true:=fun h=>(qh6 h (by decide)).1
   generalize qb2 nm 5 z.rrs=r2 at e1 hrt ⊢
   obtain⟨L,e2⟩:=r2
   have hno:(q.ty=5\/e2≠0\/L.data.length=0)->V=⟨ch,St.no,if qi8 z nm then 0 else 3,0⟩:=fun h=>by rw[<-hof,e1,if_pos h]
   have hyes:¬ (q.ty=5\/e2≠0\/L.data.length=0)->V=if ch.length >= 8 then ⟨[],St.no,0,9⟩ else ofF f.zones q.ty k (L.data.headD []) (ch++[L]):=fun h=>by rw[<-hof,e1,if_neg h]
   clear e1
   conv=>whnf
   refine⟨fun g2=>?_,fun g2=>?_⟩
   ·have g2:q.ty=5:=by simpa using g2
    have hV':=hno (.inl g2)
    conv=>whnf
    refine .one (.data _ (qp9 z hzf nm) rfl rfl ?_)
    rw[show qh2 z nm=qi8 z nm by unfold qh2;rw[hzo];rfl,hV']
    cases qi8 z nm with
    |true =>
     rw[if_pos rfl]
     conv=>whnf
     refine brF rfl ?_
     conv=>whnf
     repeat'(first|exact ⟨⟩|exact rfl|exact⟨rfl,rfl,.inr rfl,fun _ _=>rfl⟩|exact⟨rfl,rfl,.inl rfl,noI⟩|apply And.intro)
     all_goals first
      |exact qd4 _
      |exact .inr rfl
      |exact fun _ _=>rfl
    |false =>
     rw[if_neg (by decide)]
     conv=>whnf
     refine brT rfl ?_
     conv=>whnf
     repeat'(first|exact ⟨⟩|exact rfl|exact⟨rfl,rfl,.inr rfl,fun _ _=>rfl⟩|exact⟨rfl,rfl,.inl rfl,noI⟩|apply And.intro)
     all_goals first
      |exact qd4 _
      |exact .inr rfl
      |exact fun _ _=>rfl
   have g2:¬ q.ty=5:=by simpa using g2
   conv=>whnf
   refine⟨fun g3=>?_,fun g3=>?_⟩
   ·have g3:e2≠0:=by simpa using g3
    have hV':=hno (.inr (.inl g3))
    conv=>whnf
    refine .one (.data _ (qp9 z hzf nm) rfl rfl ?_)
    rw[show qh2 z nm=qi8 z nm by unfold qh2;rw[hzo];rfl,hV']
    cases qi8 z nm with
    |true =>
     rw[if_pos rfl]
     conv=>whnf
     refine brF rfl ?_
     conv=>whnf
     repeat'(first|exact ⟨⟩|exact rfl|exact⟨rfl,rfl,.inr rfl,fun _ _=>rfl⟩|exact⟨rfl,rfl,.inl rfl,noI⟩|apply And.intro)
     all_goals first
      |exact qd4 _
      |exact .inr rfl
      |exact fun _ _=>rfl
    |false =>
     rw[if_neg (by decide)]
     conv=>whnf
     refine brT rfl ?_
     conv=>whnf
     repeat'(first|exact ⟨⟩|exact rfl|exact⟨rfl,rfl,.inr rfl,fun _ _=>rfl⟩|exact⟨rfl,rfl,.inl rfl,noI⟩|apply And.intro)
     all_goals first
      |exact qd4 _
      |exact .inr rfl
      |exact fun _ _=>rfl
   have g3:e2=0:=by simpa using g3
   conv=>whnf
   refine⟨fun g4=>?_,fun g4=>?_⟩
   ·have g4:L.data.length=0:=by
     have h:(L.data.length:Int)=0:=by simpa using g4
     omega
    have hV':=hno (.inr (.inr g4))
    conv=>whnf
    refine .one (.data _ (qp9 z hzf nm) rfl rfl ?_)
    rw[show qh2 z nm=qi8 z nm by unfold qh2;rw[hzo];rfl,hV']
    cases qi8 z nm with
    |true =>
     rw[if_pos rfl]
     conv=>whnf
     refine brF rfl ?_
     conv=>whnf
     repeat'(first|exact ⟨⟩|exact rfl|exact⟨rfl,rfl,.inr rfl,fun _ _=>rfl⟩|exact⟨rfl,rfl,.inl rfl,noI⟩|apply And.intro)
     all_goals first
      |exact qd4 _
      |exact .inr rfl
      |exact fun _ _=>rfl
    |false =>
     rw[if_neg (by decide)]
     conv=>whnf
     refine brT rfl ?_
     conv=>whnf
     repeat'(first|exact ⟨⟩|exact rfl|exact⟨rfl,rfl,.inr rfl,fun _ _=>rfl⟩|exact⟨rfl,rfl,.inl rfl,noI⟩|apply And.intro)
     all_goals first
      |exact qd4 _
      |exact .inr rfl
      |exact fun _ _=>rfl
   have g4:¬ L.data.length=0:=by
    have h:¬ (L.data.length:Int)=0:=by simpa using g4
    omega
   have hV':=hyes (fun h=>h.elim g2 (fun h=>h.elim (fun h=>h g3) g4))
   conv=>whnf
   refine⟨fun g5=>?_,fun g5=>?_⟩
   ·have g5:ch.length >= 8:=by
     have h:(ch.length:Int) >= 8:=of_decide_eq_true g5
     omega
    rw [if_pos g5] at hV'
    rw[hV']
    conv=>whnf
    repeat'(first|exact ⟨⟩|exact rfl|exact⟨rfl,rfl,.inr rfl,fun _ _=>rfl⟩|exact⟨rfl,rfl,.inl rfl,noI⟩|apply And.intro)
    all_goals first
     |exact qd4 _
     |exact .inr rfl
     |exact fun _ _=>rfl
   have g5:¬ ch.length >= 8:=by
    have h:¬ (ch.length:Int) >= 8:=of_decide_eq_false g5
    omega
   rw [if_neg g5] at hV'
   conv=>whnf
   refine⟨by omega,?_⟩
   conv=>whnf
   refine⟨⟨Int.le_refl 0,by show(0:Int)<(L.data.length:Int);omega⟩,?_⟩
   conv=>whnf
   have hhd:L.data.headD []=L.data[0]?.getD []:=by cases L.data <;> rfl
   rw [hhd] at hV'
   refine⟨⟨k,L.data[0]?.getD [],ch++[L]⟩,[0,1,2,3,4,10],⟨hV'.symm,by show(ch++[L]).length+k=20;rw[List.length_append,List.length_singleton];omega,by show(ch++[L]).length<=8;rw[List.length_append,List.length_singleton];omega⟩,Nat.lt_succ_self k,?_⟩
   conv=>whnf
   repeat'(first|exact ⟨⟩|exact rfl|exact qa0 _|exact .inr rfl|exact fun _ _=>rfl|exact noI|apply And.intro)
   all_goals first
    |exact qc9 _
    |(show _+1=(_++[_]).length;simp;done)
    |exact fun j hj=>xw1 _ _ j hj
structure Msg where
 id:Int
 bits:Int
 za:Bool
 asks:List Q
 zs:Bool
 says:List RR
 zh:Bool
 heads:List RR
 ze:Bool
 extra:List RR
def qsD(z:Bool)(l:List Q):DV:=.sl z l.length 3 (fun i=>(l.getD i default).enc)
def Msg.cells(m:Msg):List SV:=[.d (.int .u16 m.id),.d (.int .u16 m.bits),.d (qsD m.za m.asks),.d (rrsD m.zs m.says),.d (rrsD m.zh m.heads),.d (rrsD m.ze m.extra)]
end Go.Proofs.YtnfoihdifohkeaaGreat
