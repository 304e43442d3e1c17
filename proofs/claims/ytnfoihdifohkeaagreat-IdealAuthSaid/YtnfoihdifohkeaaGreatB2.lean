/-
  Part of the proof: lemmas about the functions that the row calls, and about the steps of a run. Conditions: those ahead of each lemma.
-/
import Derived.Test.YtnfoihdifohkeaaGreatB1
import Derived.Test.YtnfoihdifohkeaaGreatM4
import Derived.Test.YtnfoihdifohkeaaGreatM1
set_option linter.unusedVariables false
set_option linter.unusedSimpArgs false
set_option maxRecDepth 100000
set_option maxHeartbeats 64000000
namespace Go.Proofs.YtnfoihdifohkeaaGreat
open Go Go.Eng
def zcel(L:List (List UInt8))(x:Nat):List DV:=plW (L.getD x default)
def yv(L:List (List UInt8))(n:Nat)(z:Z)(p:Nat->Nat):KB:=.row 201 2 n z (fun i=>zcel L (p i))
def zltC(c:Nat->Nat->Int)(x y:Nat):Bool:=decide (c x y<0)
theorem ja3 L (q:Nat->Nat) (j y:Nat):oneF j 0 (zcel L y) (fun i=>zcel L (q i))=fun i=>zcel L (upd q j y i):=by
 funext i
 unfold oneF upd
 split
 ·rfl
 ·rfl
theorem yn6{α:Type}(q:Nat->α)(j k:Nat)(h:j<k):upd (upd q j (q k)) k (q j)=swp q j k 1:=by
 funext x;unfold upd swp;(try dsimp only);repeat' split
 all_goals first|rfl|(exfalso;omega)|(congr 1;omega)
theorem yg8(L:List (List UInt8))(q:Nat->Nat)(j k:Nat)(h:j<k):oneF k 0 (zcel L (q j)) (oneF j 0 (zcel L (q k)) (fun x=>zcel L (q x)))=fun x=>zcel L (swp q j k 1 x):=by
 rw[ja3,ja3,yn6 q j k h]
theorem yc4(L:List (List UInt8))(q:Nat->Nat)(j k:Nat)(h:j<k):oneF j 0 (zcel L (q k)) (oneF k 0 (zcel L (q j)) (fun x=>zcel L (q x)))=fun x=>zcel L (swp q j k 1 x):=by
 rw[ja3,ja3,<-yn6 q j k h];funext x;unfold upd;repeat' split
 all_goals first|rfl|omega|(congr 1;omega)
theorem jo6(L:List (List UInt8))(n:Nat)(hn:n<1152921504606846976)(z:Z)(p:Nat->Nat)(a b m:Nat)(ha:a+m<=n)(hb:b+m<=n)(hab:a+m<=b):COk Tryz.prog 164 [.all 0,iV a,iV b,iV m,.any] [yv L n z p] (fun s k=>s = .tup []/\k=[yv L n z (swp p a b m)]):=by
 refine j7 (TT:=TT) (IN:=qh []) qk qj mixed 1000 Tryz.func164 rfl (qi Tryz.func164 (by kernel_rfl) rfl) 33 (by kernel_rfl) ?_
 conv=>whnf
 refine .inv Nat (fun i=>i<=m) (fun i=>[(10,iV i)]) (fun i=>[(0,yv L n z (swp p a b i))]) (fun i=>m - i) ⟨0,[0],by omega,?_⟩ ?_
 ·conv=>whnf
  rw[yo1];repeat'(first|exact ⟨⟩|exact rfl|exact qa _|exact .inr rfl|exact fun _ _=>rfl|exact noI|apply And.intro)
 intro i hi;conv=>whnf
 refine⟨fun h1=>?_,fun h1=>?_⟩
 ·have h1:i<m:=by
   have h:(i:Int)<m:=of_decide_eq_true h1
   omega
  have e1:IntKind.i64.wrap ((a:Int)+(i:Int))=((a+i:Nat):Int):=by rw[qe _ (by omega)];omega
  have e2:IntKind.i64.wrap ((b:Int)+(i:Int))=((b+i:Nat):Int):=by rw[qe _ (by omega)];omega
  conv=>whnf
  refine⟨?_,?_,?_,?_⟩;rotate_left 2
  ·conv=>whnf
   rw[e1,e2];repeat'(first|exact⟨rfl,rfl⟩|(refine⟨⟨by omega,by omega⟩,?_⟩;conv=>whnf)|exact ⟨⟩|apply And.intro|(conv=>whnf))
  ·conv=>whnf
   refine⟨i+1,[0],by omega,by show m - (i+1)<m - i;omega,?_⟩
   have e3:=w64s i (by omega)
   rw[e3];conv=>whnf
   repeat'(first|exact ⟨⟩|exact rfl|exact qa _|exact .inr rfl|exact fun _ _=>rfl|exact noI|apply And.intro)
   intro x hx;rw[e1];exact(congrFun (yg8 L (swp p a b i) (a+i) (b+i) (by omega)) x).trans (congrArg (fun f=>zcel L (f x)) (yt9 p a b i (by omega)))
 ·have h1:i=m:=by
   have h:¬ ((i:Int)<m):=of_decide_eq_false h1
   omega
  subst h1;conv=>whnf
  refine⟨[0],_,_,rfl,rfl,?_,?_,rfl,rfl⟩
  ·exact rfl
  ·conv=>whnf
   repeat'(first|exact ⟨⟩|exact rfl|exact qa _|exact .inr rfl|exact fun _ _=>rfl|exact noI|apply And.intro)
theorem zj7(L:List (List UInt8))(n:Nat)(hn:n<1152921504606846976)(z:Z)(p:Nat->Nat)(a m b:Nat)(ha:a<m)(hb:m<b)(hbn:b<=n):COk Tryz.prog 163 [.all 0,iV a,iV m,iV b,.any] [yv L n z p] (fun s k=>s = .tup []/\k=[yv L n z (rot p a m b)]):=by
 refine j7 (TT:=TT) (IN:=qh []) qk qj mixed 1000 Tryz.func163 rfl (qi Tryz.func163 (by kernel_rfl) rfl) 53 (by kernel_rfl) ?_
 have e1:IntKind.i64.wrap ((m:Int) - (a:Int))=((m - a:Nat):Int):=by rw[qe _ (by omega)];omega
 have e2:IntKind.i64.wrap ((b:Int) - (m:Int))=((b - m:Nat):Int):=by rw[qe _ (by omega)];omega
 conv=>whnf
 rw[e1,e2];refine .inv (Nat × Nat × (Nat->Nat)) (fun s=>0<s.1/\0<s.2.1/\s.1<=m - a/\s.2.1<=b - m/\rot s.2.2 (m - s.1) m (m+s.2.1)=rot p a m b) (fun s=>[(10,iV s.1),(11,iV s.2.1)]) (fun s=>[(0,yv L n z s.2.2)]) (fun s=>s.1+s.2.1) ⟨(m - a,b - m,p),[0],show 0<m - a/\0<b - m/\m - a<=m - a/\b - m<=b - m/\rot p (m - (m - a)) m (m+(b - m))=rot p a m b from⟨by omega,by omega,by omega,by omega,?_⟩,?_⟩ ?_
 ·rw[show m - (m - a)=a by omega,show m+(b - m)=b by omega]
 ·conv=>whnf
  repeat'(first|exact ⟨⟩|exact rfl|exact qa _|exact .inr rfl|exact fun _ _=>rfl|exact noI|apply And.intro)
 intro s hs;obtain⟨i,j,q⟩:=s;obtain⟨h0,h00,him,hjb,hq⟩:=hs;dsimp only at h0 h00 him hjb hq
 conv=>whnf
 refine⟨fun h1=>?_,fun h1=>?_⟩
 ·have h1:¬ i=j:=fun e=>by subst e;simp at h1
  conv=>whnf
  refine⟨fun h2=>?_,fun h2=>?_⟩
  ·have h2:j<i:=by
    have h:(i:Int) > j:=of_decide_eq_true h2
    omega
   have e3:IntKind.i64.wrap ((m:Int) - (i:Int))=((m - i:Nat):Int):=by rw[qe _ (by omega)];omega
   conv=>whnf
   rw[e3];refine .rel _ (jo6 L n hn z q (m - i) m j (by omega) (by omega) (by omega)) (fun r ks' hR=>?_)
   obtain⟨rfl,rfl⟩:=hR;have e4:IntKind.i64.wrap ((i:Int) - (j:Int))=((i - j:Nat):Int):=by rw[qe _ (by omega)];omega
   conv=>whnf
   rw[e4];refine⟨(i - j,j,swp q (m - i) m j),[0],(show 0<i - j/\0<j/\i - j<=m - a/\j<=b - m/\rot (swp q (m - i) m j) (m - (i - j)) m (m+j)=rot p a m b from⟨by omega,by omega,by omega,by omega,(yo7 q m i j h2 (by omega)).trans hq⟩),by show i - j+j<i+j;omega,?_⟩
   conv=>whnf
   repeat'(first|exact ⟨⟩|exact rfl|exact qa _|exact .inr rfl|exact fun _ _=>rfl|exact noI|apply And.intro)
  ·have h2:i<j:=by
    have h:¬ ((i:Int) > j):=of_decide_eq_false h2
    omega
   have e3:IntKind.i64.wrap ((m:Int) - (i:Int))=((m - i:Nat):Int):=by rw[qe _ (by omega)];omega
   have e5:IntKind.i64.wrap (IntKind.i64.wrap ((m:Int)+(j:Int)) - (i:Int))=((m+j - i:Nat):Int):=by rw[qe ((m:Int)+j) (by omega),qe _ (by omega)];omega
   conv=>whnf
   rw[e3,e5];refine .rel _ (jo6 L n hn z q (m - i) (m+j - i) i (by omega) (by omega) (by omega)) (fun r ks' hR=>?_)
   obtain⟨rfl,rfl⟩:=hR;have e4:IntKind.i64.wrap ((j:Int) - (i:Int))=((j - i:Nat):Int):=by rw[qe _ (by omega)];omega
   conv=>whnf
   rw[e4];refine⟨(i,j - i,swp q (m - i) (m+j - i) i),[0],(show 0<i/\0<j - i/\i<=m - a/\j - i<=b - m/\rot (swp q (m - i) (m+j - i) i) (m - i) m (m+(j - i))=rot p a m b from⟨by omega,by omega,by omega,by omega,(yi5 q m i j h2 (by omega)).trans hq⟩),by show i+(j - i)<i+j;omega,?_⟩
   conv=>whnf
   repeat'(first|exact ⟨⟩|exact rfl|exact qa _|exact .inr rfl|exact fun _ _=>rfl|exact noI|apply And.intro)
 ·have h1:i=j:=by simp at h1;omega
  subst h1;have e3:IntKind.i64.wrap ((m:Int) - (i:Int))=((m - i:Nat):Int):=by rw[qe _ (by omega)];omega
  conv=>whnf
  rw[e3];refine .rel _ (jo6 L n hn z q (m - i) m i (by omega) (by omega) (by omega)) (fun r ks' hR=>?_)
  obtain⟨rfl,rfl⟩:=hR;rw[yo6 q m i (by omega),hq]
  conv=>whnf
  refine⟨[0],_,_,rfl,rfl,?_,?_,rfl,rfl⟩
  ·exact rfl
  ·conv=>whnf
   repeat'(first|exact ⟨⟩|exact rfl|exact qa _|exact .inr rfl|exact fun _ _=>rfl|exact noI|apply And.intro)
theorem yt4(L:List (List UInt8))(n:Nat)(hn:n<1152921504606846976)(z:Z)(p:Nat->Nat)(hw:Weak n (zltC (cmpZ L)))(hp:Inj n p)(a b:Nat)(hab:a<=b)(hb:b<=n)(hasc:∀ i j,a<=i->i<j->j<b->p i<p j):COk Tryz.prog 159 [.all 0,iV a,iV b,.fn 131 []] [yv L n z p] (fun s k=>s = .tup []/\∃ r,Merged (L:=LL (zltC (cmpZ L))) p r n a b/\k=[yv L n z r]):=by
 refine j7 (TT:=TT) (IN:=qh []) qk qj mixed 1000 Tryz.func159 rfl (qi Tryz.func159 (by kernel_rfl) rfl) 49 (by kernel_rfl) ?_
 have e1:=w64s a (by omega)
 conv=>whnf
 rw[e1];refine .inv (Nat × (Nat->Nat)) (fun s=>a+1<=s.1/\(s.1<=b\/(s.1=a+1/\s.2=p))/\Merged (L:=LL (zltC (cmpZ L))) p s.2 n a s.1) (fun s=>[(8,iV s.1)]) (fun s=>[(0,yv L n z s.2)]) (fun s=>n+1 - s.1) ⟨(a+1,p),[0],show a+1<=a+1/\(a+1<=b\/(a+1=a+1/\p=p))/\Merged (L:=LL (zltC (cmpZ L))) p p n a (a+1) from⟨by omega,.inr ⟨rfl,rfl⟩,.stay hp (fun i j _ _ _=>by omega)⟩,?_⟩ ?_
 ·conv=>whnf
  repeat'(first|exact ⟨⟩|exact rfl|exact qa _|exact .inr rfl|exact fun _ _=>rfl|exact noI|apply And.intro)
 intro s hs;obtain⟨i,q⟩:=s;obtain⟨hai,hib,hm⟩:=hs;have hai:a+1<=i:=hai
 have hib:i<=b\/(i=a+1/\q=p):=hib
 have hm:Merged (L:=LL (zltC (cmpZ L))) p q n a i:=hm
 conv=>whnf
 refine⟨fun h1=>?_,fun h1=>?_⟩
 ·have h1:i<b:=by
   have h:(i:Int)<b:=of_decide_eq_true h1
   omega
  have asc:∀ t,a<=t->t<i->q t<q i:=fun t h3 h4=>by
   obtain⟨t',b1,b2,b3⟩:=hm.same.fwd t h3 h4;rw[b3,hm.same.out i (by omega)]
   exact hasc t' i b1 b2 h1
  have next:∀ j,a<=j->j<=i->(j=a\/LL (zltC (cmpZ L)) (q (j - 1)) (q i))->(j=i\/LL (zltC (cmpZ L)) (q i) (q j))->Merged (L:=LL (zltC (cmpZ L))) p (rot q j i (i+1)) n a (i+1):=fun j h3 h4 h5 h6=>by
   have:=jf5 hw.ord hm.inj (show i<n by omega) h3 h4 hm.rise h5 h6
   exact⟨this.inj,(hm.same.wide (pq _) (by omega)).trans this.same,this.rise⟩
  have e6:=w64s i (by omega)
  conv=>whnf
  refine .inv Nat (fun j=>a<=j/\j<=i/\(j=i\/LL (zltC (cmpZ L)) (q i) (q j))) (fun j=>[(9,iV j)]) (fun j=>[(0,yv L n z (rot q j i (i+1)))]) (fun j=>j) ⟨i,[0],⟨by omega,by omega,.inl rfl⟩,?_⟩ ?_
  ·conv=>whnf
   rw[qo9 q i (i+1) (by omega)]
   repeat'(first|exact ⟨⟩|exact rfl|exact qa _|exact .inr rfl|exact fun _ _=>rfl|exact noI|apply And.intro)
  intro j hj;obtain⟨haj,hji,hjL⟩:=hj;conv=>whnf
  refine⟨fun h2=>?_,fun h2=>?_⟩
  ·have h2:a<j:=by
    have h:(j:Int) > a:=of_decide_eq_true h2
    omega
   have e2:IntKind.i64.wrap ((j:Int) - 1)=((j - 1:Nat):Int):=by rw[qe _ (by omega)];omega
   have e3:rot q j i (i+1) j=q i:=by rw[qw8 q (by omega) (by omega)];congr 1;omega
   have e4:rot q j i (i+1) (j - 1)=q (j - 1):=qh8 q (by omega) (by omega) (by omega)
   conv=>whnf
   refine⟨by omega,?_⟩
   conv=>whnf
   rw[e2];refine⟨by omega,?_⟩
   conv=>whnf
   rw[pp,pp,e3,e4];refine .data _ (je3 _ _) rfl rfl ?_;conv=>whnf
   refine⟨fun h3=>?_,fun h3=>?_⟩
   ·have h3:zltC (cmpZ L) (q i) (q (j - 1))=true:=h3
    conv=>whnf
    refine⟨?_,?_,?_,?_⟩;rotate_left 2
    ·conv=>whnf
     rw[e2];repeat'(first|exact⟨rfl,rfl⟩|(refine⟨⟨by omega,by omega⟩,?_⟩;conv=>whnf)|exact ⟨⟩|apply And.intro|(conv=>whnf))
    ·conv=>whnf
     rw[e2];refine⟨j - 1,[0],⟨by omega,by omega,.inr (.inl h3)⟩,by omega,?_⟩
     conv=>whnf
     repeat'(first|exact ⟨⟩|exact rfl|exact qa _|exact .inr rfl|exact fun _ _=>rfl|exact noI|apply And.intro)
     intro x hx;rw[pp,pp];have:=yc4 L (rot q j i (i+1)) (j - 1) j (by omega)
     have e5:=jc2 q i (j - 1) (by omega)
     rw [show j - 1+1=j by omega] at e5
     exact(congrFun this x).trans (congrArg (fun f=>zcel L (f x)) e5)
   ·have h3:zltC (cmpZ L) (q i) (q (j - 1))=false:=h3
    have hL:LL (zltC (cmpZ L)) (q (j - 1)) (q i):=.inr ⟨h3,asc (j - 1) (by omega) (by omega)⟩
    conv=>whnf
    refine⟨(i+1,rot q j i (i+1)),[0],(show a+1<=i+1/\(i+1<=b\/(i+1=a+1/\rot q j i (i+1)=p))/\Merged (L:=LL (zltC (cmpZ L))) p (rot q j i (i+1)) n a (i+1) from⟨by omega,.inl (by omega),next j haj hji (.inr hL) hjL⟩),by show n+1 - (i+1)<n+1 - i;omega,?_⟩
    conv=>whnf
    rw[e6];repeat'(first|exact ⟨⟩|exact rfl|exact qa _|exact .inr rfl|exact fun _ _=>rfl|exact noI|apply And.intro)
  ·have h2:j=a:=by
    have h:¬ ((j:Int) > a):=of_decide_eq_false h2
    omega
   conv=>whnf
   refine⟨(i+1,rot q j i (i+1)),[0],(show a+1<=i+1/\(i+1<=b\/(i+1=a+1/\rot q j i (i+1)=p))/\Merged (L:=LL (zltC (cmpZ L))) p (rot q j i (i+1)) n a (i+1) from⟨by omega,.inl (by omega),next j haj hji (.inl h2) hjL⟩),by show n+1 - (i+1)<n+1 - i;omega,?_⟩
   conv=>whnf
   rw[e6];repeat'(first|exact ⟨⟩|exact rfl|exact qa _|exact .inr rfl|exact fun _ _=>rfl|exact noI|apply And.intro)
 ·have h1:b<=i:=by
   have h:¬ ((i:Int)<b):=of_decide_eq_false h1
   omega
  conv=>whnf
  refine⟨[0],_,_,rfl,rfl,?_,?_,rfl,q,?_,rfl⟩
  ·exact rfl
  ·conv=>whnf
   repeat'(first|exact ⟨⟩|exact rfl|exact qa _|exact .inr rfl|exact fun _ _=>rfl|exact noI|apply And.intro)
  ·rcases hib with h|h
   ·have:i=b:=by omega
    rw[<-this];exact hm
   ·rw[h.2];exact .stay hp (fun i j _ _ _=>by omega)
theorem xg7(L:List (List UInt8))(n:Nat)(hn:n<1152921504606846976)(z:Z)(p:Nat->Nat)(a m b:Nat)(ha:a<m)(hb:m<b)(hbn:b<=n):COk Tryz.prog 163 [.all 0,iV a,iV m,iV b,.fn 131 []] [yv L n z p] (fun s k=>s = .tup []/\k=[yv L n z (rot p a m b)]):=by
 refine COk.anyA (COk.frame (zj7 L n hn z p a m b ha hb hbn) [0] («as»:=[.all 0,iV a,iV m,iV b,.any]) rfl rfl rfl (fun s0 k0 h=>?_)) ⟨.inr rfl,.inr rfl,.inr rfl,.inr rfl,.inl rfl,True.intro⟩
 obtain⟨rfl,rfl⟩:=h;exact⟨rfl,rfl⟩
theorem jg8(i j:Nat)(h:i+j<9223372036854775808):IntKind.i64.wrap ((IntKind.u64.wrap (IntKind.i64.wrap ((i:Int)+(j:Int)))).fdiv (2 ^ (min (Int.toNat 1) IntKind.u64.bits)))=(((i+j) / 2:Nat):Int):=by
 rw[qe ((i:Int)+(j:Int)) (by omega),IntKind.wrap_u64]
 rw[show(2:Int) ^ (min (Int.toNat 1) IntKind.u64.bits)=2 from rfl,Int.fdiv_eq_ediv_of_nonneg _ (by omega)]
 rw[qe _ (by omega)]
 omega
theorem yt2(L:List (List UInt8))(n:Nat)(hn:n<1152921504606846976)(z:Z)(hw:Weak n (zltC (cmpZ L))):∀ (k:Nat) (p:Nat->Nat) (a m b:Nat),b - a<k->Inj n p->a<m->m<b->b<=n->Rise (LL (zltC (cmpZ L))) p a m->Rise (LL (zltC (cmpZ L))) p m b->Sep p a m b ->
 COk Tryz.prog 160 [.all 0,iV a,iV m,iV b,.fn 131 []] [yv L n z p] (fun s k=>s = .tup []/\∃ r,Merged (L:=LL (zltC (cmpZ L))) p r n a b/\k=[yv L n z r]):=by
 intro k;induction k with
 |zero=>intro p a m b h;omega
 |succ k ih =>
 intro p a m b hk hp ham hmb hbn h1 h2 hs;refine j7 (TT:=TT) (IN:=qh []) qk qj mixed 1000 Tryz.func160 rfl (qi Tryz.func160 (by kernel_rfl) rfl) 215 (by kernel_rfl) ?_
 have e1:IntKind.i64.wrap ((m:Int) - (a:Int))=((m - a:Nat):Int):=by rw[qe _ (by omega)];omega
 have e2:IntKind.i64.wrap ((b:Int) - (m:Int))=((b - m:Nat):Int):=by rw[qe _ (by omega)];omega
 conv=>whnf
 rw[e1];refine⟨fun c1=>?_,fun c1=>?_⟩
 ·have c1:m=a+1:=by simp at c1;omega
  subst c1;conv=>whnf
  refine .inv (Nat × Nat) (fun s=>a+1<=s.1/\s.1<=s.2/\s.2<=b/\(s.1=a+1\/LL (zltC (cmpZ L)) (p (s.1 - 1)) (p a))/\(s.2=b\/LL (zltC (cmpZ L)) (p a) (p s.2))) (fun s=>[(10,iV s.1),(11,iV s.2)]) (fun s=>[]) (fun s=>s.2 - s.1) ⟨(a+1,b),[0],⟨show a+1<=a+1 by omega,show a+1<=b by omega,show b<=b by omega,.inl rfl,.inl rfl⟩,?_⟩ ?_
  ·conv=>whnf
   repeat'(first|exact ⟨⟩|exact rfl|exact qa _|exact .inr rfl|exact fun _ _=>rfl|exact noI|apply And.intro)
  intro s hs2;obtain⟨q1,q2,q3,q4,q5⟩:=hs2;conv=>whnf
  generalize s.1=i at q1 q2 q4 ⊢;generalize s.2=j at q2 q3 q5 ⊢;refine⟨fun h3=>?_,fun h3=>?_⟩
  ·have h3:i<j:=by
    have h:(i:Int)<j:=of_decide_eq_true h3
    omega
   conv=>whnf
   refine⟨by omega,?_⟩
   conv=>whnf
   rw[jg8 i j (by omega)]
   have g1:i<=(i+j) / 2:=by omega
   have g2:(i+j) / 2<j:=by omega
   generalize (i+j) / 2=h at g1 g2 ⊢;refine⟨by omega,?_⟩
   conv=>whnf
   refine⟨by omega,?_⟩
   conv=>whnf
   rw[pp,pp];refine .data _ (je3 _ _) rfl rfl ?_;conv=>whnf
   refine⟨fun h4=>?_,fun h4=>?_⟩
   ·have h4:zltC (cmpZ L) (p h) (p a)=true:=h4
    conv=>whnf
    rw[show IntKind.i64.wrap ((h:Int)+1)=((h+1:Nat):Int) by rw[qe _ (by omega)];omega]
    refine⟨(h+1,j),[0],⟨show a+1<=h+1 by omega,show h+1<=j by omega,q3,.inr (.inl h4),q5⟩,by show j - (h+1)<j - i;omega,?_⟩
    conv=>whnf
    repeat'(first|exact ⟨⟩|exact rfl|exact qa _|exact .inr rfl|exact fun _ _=>rfl|exact noI|apply And.intro)
   ·have h4:zltC (cmpZ L) (p h) (p a)=false:=h4
    conv=>whnf
    refine⟨(i,h),[0],⟨q1,g1,show h<=b by omega,q4,.inr (.inr ⟨h4,hs a h (by omega) (by omega) (by omega) (by omega)⟩)⟩,by show h - i<j - i;omega,?_⟩
    conv=>whnf
    repeat'(first|exact ⟨⟩|exact rfl|exact qa _|exact .inr rfl|exact fun _ _=>rfl|exact noI|apply And.intro)
  ·have h3:i=j:=by
    have h:¬ (i:Int)<j:=of_decide_eq_false h3
    omega
   subst h3;have hfin:=yy2 hw.ord hp hbn q1 q3 h2 q4 q5
   have ei:IntKind.i64.wrap ((i:Int) - 1)=((i - 1:Nat):Int):=by rw[qe _ (by omega)];omega
   conv=>whnf
   refine .inv Nat (fun k=>a<=k/\k+1<=i) (fun k=>[(13,iV k)]) (fun k=>[(0,yv L n z (rot p a (a+1) (k+1)))]) (fun k=>i - k) ⟨a,[0],⟨by omega,by omega⟩,?_⟩ ?_
   ·conv=>whnf
    rw[je7 p a (a+1) (by omega)]
    repeat'(first|exact ⟨⟩|exact rfl|exact qa _|exact .inr rfl|exact fun _ _=>rfl|exact noI|apply And.intro)
   intro k hk2;obtain⟨r1,r2⟩:=hk2;conv=>whnf
   rw[ei];refine⟨fun h3=>?_,fun h3=>?_⟩
   ·have h3:k<i - 1:=by
     have h:(k:Int)<((i - 1:Nat):Int):=of_decide_eq_true h3
     omega
    have ek:=w64s k (by omega)
    conv=>whnf
    refine⟨?_,?_,?_,?_⟩;rotate_left 2
    ·conv=>whnf
     rw[ek];repeat'(first|exact⟨rfl,rfl⟩|(refine⟨⟨by omega,by omega⟩,?_⟩;conv=>whnf)|exact ⟨⟩|apply And.intro|(conv=>whnf))
    ·conv=>whnf
     rw[ek];refine⟨k+1,[0],⟨by omega,by omega⟩,by omega,?_⟩
     conv=>whnf
     repeat'(first|exact ⟨⟩|exact rfl|exact qa _|exact .inr rfl|exact fun _ _=>rfl|exact noI|apply And.intro)
     intro x hx;rw[pp,pp];have:=yg8 L (rot p a (a+1) (k+1)) k (k+1) (by omega)
     exact(congrFun this x).trans (congrArg (fun f=>zcel L (f x)) (yw6 p a k (by omega)))
   ·have h3:k+1=i:=by
     have h:¬ (k:Int)<((i - 1:Nat):Int):=of_decide_eq_false h3
     omega
    rw[h3];conv=>whnf
    refine⟨[0],_,_,rfl,rfl,?_,?_,rfl,_,hfin,rfl⟩
    ·exact rfl
    ·conv=>whnf
     repeat'(first|exact ⟨⟩|exact rfl|exact qa _|exact .inr rfl|exact fun _ _=>rfl|exact noI|apply And.intro)
 have c1:¬ m=a+1:=by simp at c1;omega
 conv=>whnf
 rw[e2];refine⟨fun c2=>?_,fun c2=>?_⟩
 ·have c2:b=m+1:=by simp at c2;omega
  subst c2;conv=>whnf
  refine .inv (Nat × Nat) (fun s=>a<=s.1/\s.1<=s.2/\s.2<=m/\(s.1=a\/LL (zltC (cmpZ L)) (p (s.1 - 1)) (p m))/\(s.2=m\/LL (zltC (cmpZ L)) (p m) (p s.2))) (fun s=>[(14,iV s.1),(15,iV s.2)]) (fun s=>[]) (fun s=>s.2 - s.1) ⟨(a,m),[0],⟨show a<=a by omega,show a<=m by omega,show m<=m by omega,.inl rfl,.inl rfl⟩,?_⟩ ?_
  ·conv=>whnf
   repeat'(first|exact ⟨⟩|exact rfl|exact qa _|exact .inr rfl|exact fun _ _=>rfl|exact noI|apply And.intro)
  intro s hs2;obtain⟨q1,q2,q3,q4,q5⟩:=hs2;conv=>whnf
  generalize s.1=i at q1 q2 q4 ⊢;generalize s.2=j at q2 q3 q5 ⊢;refine⟨fun h3=>?_,fun h3=>?_⟩
  ·have h3:i<j:=by
    have h:(i:Int)<j:=of_decide_eq_true h3
    omega
   conv=>whnf
   refine⟨by omega,?_⟩
   conv=>whnf
   rw[jg8 i j (by omega)]
   have g1:i<=(i+j) / 2:=by omega
   have g2:(i+j) / 2<j:=by omega
   generalize (i+j) / 2=h at g1 g2 ⊢;refine⟨by omega,?_⟩
   conv=>whnf
   refine⟨by omega,?_⟩
   conv=>whnf
   rw[pp,pp];refine .data _ (je3 _ _) rfl rfl ?_;conv=>whnf
   refine⟨fun h4=>?_,fun h4=>?_⟩
   ·have h4:zltC (cmpZ L) (p m) (p h)=false:=(by have h5:(!(zltC (cmpZ L) (p m) (p h)))=true:=h4;simpa using h5)
    conv=>whnf
    rw[show IntKind.i64.wrap ((h:Int)+1)=((h+1:Nat):Int) by rw[qe _ (by omega)];omega]
    refine⟨(h+1,j),[0],⟨show a<=h+1 by omega,show h+1<=j by omega,q3,.inr (.inr ⟨h4,hs h m (by omega) (by omega) (by omega) (by omega)⟩),q5⟩,by show j - (h+1)<j - i;omega,?_⟩
    conv=>whnf
    repeat'(first|exact ⟨⟩|exact rfl|exact qa _|exact .inr rfl|exact fun _ _=>rfl|exact noI|apply And.intro)
   ·have h4:zltC (cmpZ L) (p m) (p h)=true:=(by have h5:(!(zltC (cmpZ L) (p m) (p h)))=false:=h4;simpa using h5)
    conv=>whnf
    refine⟨(i,h),[0],⟨q1,g1,show h<=m by omega,q4,.inr (.inl h4)⟩,by show h - i<j - i;omega,?_⟩
    conv=>whnf
    repeat'(first|exact ⟨⟩|exact rfl|exact qa _|exact .inr rfl|exact fun _ _=>rfl|exact noI|apply And.intro)
  ·have h3:i=j:=by
    have h:¬ (i:Int)<j:=of_decide_eq_false h3
    omega
   subst h3;have hfin:=jf5 hw.ord hp (show m<n by omega) q1 q3 h1 q4 q5
   conv=>whnf
   refine .inv Nat (fun k=>i<=k/\k<=m) (fun k=>[(17,iV k)]) (fun k=>[(0,yv L n z (rot p k m (m+1)))]) (fun k=>k) ⟨m,[0],⟨by omega,by omega⟩,?_⟩ ?_
   ·conv=>whnf
    rw[qo9 p m (m+1) (by omega)]
    repeat'(first|exact ⟨⟩|exact rfl|exact qa _|exact .inr rfl|exact fun _ _=>rfl|exact noI|apply And.intro)
   intro k hk2;obtain⟨r1,r2⟩:=hk2;conv=>whnf
   refine⟨fun h3=>?_,fun h3=>?_⟩
   ·have h3:i<k:=by
     have h:(k:Int) > (i:Int):=of_decide_eq_true h3
     omega
    have ek:IntKind.i64.wrap ((k:Int) - 1)=((k - 1:Nat):Int):=by rw[qe _ (by omega)];omega
    conv=>whnf
    refine⟨?_,?_,?_,?_⟩;rotate_left 2
    ·conv=>whnf
     rw[ek];repeat'(first|exact⟨rfl,rfl⟩|(refine⟨⟨by omega,by omega⟩,?_⟩;conv=>whnf)|exact ⟨⟩|apply And.intro|(conv=>whnf))
    ·conv=>whnf
     rw[ek];refine⟨k - 1,[0],⟨by omega,by omega⟩,by omega,?_⟩
     conv=>whnf
     repeat'(first|exact ⟨⟩|exact rfl|exact qa _|exact .inr rfl|exact fun _ _=>rfl|exact noI|apply And.intro)
     intro x hx;rw[pp,pp];have:=yc4 L (rot p k m (m+1)) (k - 1) k (by omega)
     have e5:=jc2 p m (k - 1) (by omega)
     rw [show k - 1+1=k by omega] at e5
     exact(congrFun this x).trans (congrArg (fun f=>zcel L (f x)) e5)
   ·have h3:k=i:=by
     have h:¬ (k:Int) > (i:Int):=of_decide_eq_false h3
     omega
    rw[h3];conv=>whnf
    refine⟨[0],_,_,rfl,rfl,?_,?_,rfl,_,hfin,rfl⟩
    ·exact rfl
    ·conv=>whnf
     repeat'(first|exact ⟨⟩|exact rfl|exact qa _|exact .inr rfl|exact fun _ _=>rfl|exact noI|apply And.intro)
 have c2:¬ b=m+1:=by simp at c2;omega
 conv=>whnf
 refine⟨by omega,?_⟩
 conv=>whnf
 rw[jg8 a b (by omega)]
 rw[show IntKind.i64.wrap ((((a+b) / 2:Nat):Int)+(m:Int))=(((a+b) / 2+m:Nat):Int) by rw[qe _ (by omega)];omega]
 refine⟨fun c3=>?_,fun c3=>?_⟩
 have c3:(a+b) / 2<m:=by
  have h:(m:Int) > (((a+b) / 2:Nat):Int):=of_decide_eq_true c3
  omega
 conv=>whnf
 obtain⟨N,hN⟩:∃ N,N=(a+b) / 2+m:=⟨_,rfl⟩;rw[<-hN];obtain⟨s0,hs0⟩:∃ s0,s0=N - b:=⟨_,rfl⟩;obtain⟨r0,hr0⟩:∃ r0,r0=(a+b) / 2:=⟨_,rfl⟩;have f1:s0=a\/N - s0=b:=by omega
 have f2:r0=m\/N - r0=m:=by omega
 have f3:a<=s0/\s0<=r0/\r0<=m/\m<=N - r0/\N - s0<=b:=by omega
 have x1:IntKind.i64.wrap ((N:Int) - (b:Int))=(s0:Int):=by rw[qe _ (by omega)];omega
 have x2:IntKind.i64.wrap ((N:Int) - 1)=((N - 1:Nat):Int):=by rw[qe _ (by omega)];omega
 rw[x1,x2];rotate_left
 have c3:m<=(a+b) / 2:=by
  have h:¬ (m:Int) > (((a+b) / 2:Nat):Int):=of_decide_eq_false c3
  omega
 conv=>whnf
 obtain⟨N,hN⟩:∃ N,N=(a+b) / 2+m:=⟨_,rfl⟩;rw[<-hN];obtain⟨s0,hs0⟩:∃ s0,s0=a:=⟨_,rfl⟩;obtain⟨r0,hr0⟩:∃ r0,r0=m:=⟨_,rfl⟩;have f1:s0=a\/N - s0=b:=by omega
 have f2:r0=m\/N - r0=m:=by omega
 have f3:a<=s0/\s0<=r0/\r0<=m/\m<=N - r0/\N - s0<=b:=by omega
 have x2:IntKind.i64.wrap ((N:Int) - 1)=((N - 1:Nat):Int):=by rw[qe _ (by omega)];omega
 rw[x2];all_goals
  refine .inv (Nat × Nat) (fun s=>s0<=s.1/\s.1<=s.2/\s.2<=r0/\(s.1=s0\/LL (zltC (cmpZ L)) (p (s.1 - 1)) (p (N - s.1)))/\(s.2=r0\/LL (zltC (cmpZ L)) (p (N - 1 - s.2)) (p s.2))) (fun s=>[(20,iV s.1),(21,iV s.2)]) (fun s=>[]) (fun s=>s.2 - s.1) ⟨(s0,r0),[0],⟨show s0<=s0 by omega,show s0<=r0 by omega,show r0<=r0 by omega,.inl rfl,.inl rfl⟩,?_⟩ ?_
  ·subst hr0;subst hs0;conv=>whnf
   repeat'(first|exact ⟨⟩|exact rfl|exact qa _|exact .inr rfl|exact fun _ _=>rfl|exact noI|apply And.intro)
  intro st hst;obtain⟨q1,q2,q3,q4,q5⟩:=hst;conv=>whnf
  generalize st.1=s at q1 q2 q4 ⊢;generalize st.2=j at q2 q3 q5 ⊢;refine⟨fun h3=>?_,fun h3=>?_⟩
  ·have h3:s<j:=by
    have h:(s:Int)<j:=of_decide_eq_true h3
    omega
   conv=>whnf
   refine⟨by omega,?_⟩
   conv=>whnf
   rw[jg8 s j (by omega)]
   have g1:s<=(s+j) / 2:=by omega
   have g2:(s+j) / 2<j:=by omega
   generalize (s+j) / 2=h at g1 g2 ⊢;rw[show IntKind.i64.wrap (((N - 1:Nat):Int) - (h:Int))=((N - 1 - h:Nat):Int) by rw[qe _ (by omega)];omega]
   refine⟨by omega,?_⟩
   conv=>whnf
   refine⟨by omega,?_⟩
   conv=>whnf
   rw[pp,pp];refine .data _ (je3 _ _) rfl rfl ?_;conv=>whnf
   refine⟨fun h4=>?_,fun h4=>?_⟩
   ·have h4:zltC (cmpZ L) (p (N - 1 - h)) (p h)=false:=(by have h5:(!(zltC (cmpZ L) (p (N - 1 - h)) (p h)))=true:=h4;simpa using h5)
    conv=>whnf
    rw[show IntKind.i64.wrap ((h:Int)+1)=((h+1:Nat):Int) by rw[qe _ (by omega)];omega]
    refine⟨(h+1,j),[0],⟨show s0<=h+1 by omega,show h+1<=j by omega,q3,.inr (?_:LL (zltC (cmpZ L)) (p (h+1 - 1)) (p (N - (h+1)))),q5⟩,by show j - (h+1)<j - s;omega,?_⟩
    ·rw[show h+1 - 1=h by omega,show N - (h+1)=N - 1 - h by omega]
     exact .inr ⟨h4,hs h (N - 1 - h) (by omega) (by omega) (by omega) (by omega)⟩
    conv=>whnf
    repeat'(first|exact ⟨⟩|exact rfl|exact qa _|exact .inr rfl|exact fun _ _=>rfl|exact noI|apply And.intro)
   ·have h4:zltC (cmpZ L) (p (N - 1 - h)) (p h)=true:=(by have h5:(!(zltC (cmpZ L) (p (N - 1 - h)) (p h)))=false:=h4;simpa using h5)
    conv=>whnf
    refine⟨(s,h),[0],⟨q1,g1,show h<=r0 by omega,q4,.inr (.inl h4)⟩,by show h - s<j - s;omega,?_⟩
    conv=>whnf
    repeat'(first|exact ⟨⟩|exact rfl|exact qa _|exact .inr rfl|exact fun _ _=>rfl|exact noI|apply And.intro)
  have h3:s=j:=by
   have h:¬ (s:Int)<j:=of_decide_eq_false h3
   omega
  subst h3;have hc:Cut (L:=LL (zltC (cmpZ L))) p a m b s (N - s):=yx9 hw.ord hp hbn h1 h2 (by omega) (by omega) (by omega) (by omega)
   (by
    rcases q4 with x|x
    ·rcases f1 with y|y
     ·exact .inl (by omega)
     ·exact .inr (.inl (by omega))
    ·exact .inr (.inr x))
   (by
    rcases q5 with x|x
    ·rcases f2 with y|y
     ·exact .inl (by omega)
     ·exact .inr (.inl (by omega))
    ·exact .inr (.inr (by rw[show N - s - 1=N - 1 - s by omega];exact x)))
  have hmid:(a+b) / 2=s+(N - s - m):=by omega
  have cl:=yr7 h1 h2 hs hc hmid
  have cr:=ym6 h1 h2 hs hc hmid
  have hrot:Inj n (rot p s m (N - s)):=hp.rot (by omega) (by omega) (by omega)
  have ee:IntKind.i64.wrap ((N:Int) - (s:Int))=((N - s:Nat):Int):=by rw[qe _ (by omega)];omega
  conv=>whnf
  rw[ee];by_cases k1:s<m/\m<N - s
  refine brT (decide_eq_true (by omega)) ?_
  conv=>whnf
  refine brT (decide_eq_true (by omega)) ?_
  conv=>whnf
  refine .rel _ (xg7 L n hn z p s m (N - s) k1.1 k1.2 (by omega)) (fun r ks' hR=>?_)
  obtain⟨rfl,rfl⟩:=hR;conv=>whnf
  rotate_left
  have eq:rot p s m (N - s)=p:=by
   rcases pz s m with x|x
   ·rw[show N - s=m by omega];exact je7 p s m (by omega)
   ·rw[show s=m by omega];exact qo9 p m _ (by omega)
  rw[show yv L n z p=yv L n z (rot p s m (N - s)) by rw[eq]]
  by_cases k0:s<m
  refine brT (decide_eq_true (by omega)) ?_
  conv=>whnf
  refine brF (decide_eq_false (by omega)) ?_
  conv=>whnf
  rotate_left
  refine brF (decide_eq_false (by omega)) ?_
  conv=>whnf
  all_goals
   by_cases k2:a<s/\s<(a+b) / 2
   refine brT (decide_eq_true (by omega)) ?_
   conv=>whnf
   refine brT (decide_eq_true (by omega)) ?_
   conv=>whnf
   refine .rel _ (ih (rot p s m (N - s)) a s ((a+b) / 2) (by omega) hrot k2.1 k2.2 (by omega) cl.1 cl.2.1 cl.2.2) (fun r ks' hR=>?_)
   obtain⟨rfl,r1,hr1,rfl⟩:=hR;have hfin:∀ r2,Merged (L:=LL (zltC (cmpZ L))) r1 r2 n ((a+b) / 2) b->Merged (L:=LL (zltC (cmpZ L))) p r2 n a b:=fun r2 h=>ja8 h1 h2 hc hmid hr1 h
   conv=>whnf
   rotate_left
   obtain⟨r1,hr1,er⟩:∃ r1,Merged (L:=LL (zltC (cmpZ L))) (rot p s m (N - s)) r1 n a ((a+b) / 2)/\r1=rot p s m (N - s):=⟨_,.stay hrot (by
    rcases pz a s with x|x
    ·exact cl.1.sub (pq _) (by omega)
    ·exact cl.2.1.sub (by omega) (pq _)),rfl⟩
   have hfin:∀ r2,Merged (L:=LL (zltC (cmpZ L))) r1 r2 n ((a+b) / 2) b->Merged (L:=LL (zltC (cmpZ L))) p r2 n a b:=fun r2 h=>ja8 h1 h2 hc hmid hr1 h
   rw[<-er];clear er;by_cases k0:a<s
   refine brT (decide_eq_true (by omega)) ?_
   conv=>whnf
   refine brF (decide_eq_false (by omega)) ?_
   conv=>whnf
   rotate_left
   refine brF (decide_eq_false (by omega)) ?_
   conv=>whnf
   all_goals
    by_cases k3:(a+b) / 2<N - s/\N - s<b
    refine brT (decide_eq_true (by omega)) ?_
    conv=>whnf
    refine brT (decide_eq_true (by omega)) ?_
    conv=>whnf
    refine .rel _ (ih r1 ((a+b) / 2) (N - s) b (by omega) hr1.inj k3.1 k3.2 hbn (cr.1.congr fun i x1 x2=>hr1.same.out i (by omega)) (cr.2.1.congr fun i x1 x2=>hr1.same.out i (by omega)) (cr.2.2.congr fun i x1 x2=>hr1.same.out i (by omega))) (fun r ks' hR=>?_)
    obtain⟨rfl,r2,hr2,rfl⟩:=hR;conv=>whnf
    rotate_left
    have hr2:Merged (L:=LL (zltC (cmpZ L))) r1 r1 n ((a+b) / 2) b:=.stay hr1.inj (by
     rcases pz ((a+b) / 2) (N - s) with x|x
     ·exact(cr.1.congr fun i x1 x2=>hr1.same.out i (by omega)).sub (pq _) (by omega)
     ·exact(cr.2.1.congr fun i x1 x2=>hr1.same.out i (by omega)).sub (by omega) (pq _))
    by_cases k0:(a+b) / 2<N - s
    refine brT (decide_eq_true (by omega)) ?_
    conv=>whnf
    refine brF (decide_eq_false (by omega)) ?_
    conv=>whnf
    rotate_left
    refine brF (decide_eq_false (by omega)) ?_
    conv=>whnf
    all_goals
     refine⟨[0],_,_,rfl,rfl,?_,?_,rfl,_,hfin _ hr2,rfl⟩
     ·exact rfl
     ·conv=>whnf
      repeat'(first|exact ⟨⟩|exact rfl|exact qa _|exact .inr rfl|exact fun _ _=>rfl|exact noI|apply And.intro)
theorem zj6(L:List (List UInt8))(n:Nat)(hn:n<1152921504606846976)(z:Z)(hw:Weak n (zltC (cmpZ L))) :
 COk Tryz.prog 152 [.all 0,iV n,.fn 131 []] [yv L n z id] (fun s k=>s = .tup []/\∃ r,Inj n r/\Rise (LL (zltC (cmpZ L))) r 0 n/\k=[yv L n z r]):=by
 refine j7 (TT:=TT) (IN:=qh []) qk qj mixed 1000 Tryz.func152 rfl (qi Tryz.func152 (by kernel_rfl) rfl) 60 (by kernel_rfl) ?_
 conv=>whnf
 refine .inv (Nat × (Nat->Nat)) (fun s=>s.1 * 20<=n/\Fst (LL (zltC (cmpZ L))) 20 n s.1 s.2) (fun s=>[(6,iV 20),(7,iV (s.1 * 20)),(8,iV (s.1 * 20+20))]) (fun s=>[(0,yv L n z s.2)]) (fun s=>n - s.1 * 20) ⟨(0,id),[0],⟨by show 0 * 20<=n;omega,Fst.zero 20 n⟩,?_⟩ ?_
 ·conv=>whnf
  repeat'(first|exact ⟨⟩|exact rfl|exact qa _|exact .inr rfl|exact fun _ _=>rfl|exact noI|apply And.intro)
 intro s hs;obtain⟨h1,h2⟩:=hs;conv=>whnf
 generalize s.1=q at h1 h2 ⊢;generalize s.2=p at h2 ⊢;refine⟨fun h3=>?_,fun h3=>?_⟩
 ·have h3:q * 20+20<=n:=by
   have h:((q * 20+20:Nat):Int)<=n:=of_decide_eq_true h3
   omega
  conv=>whnf
  refine .rel _ (yt4 L n hn z p hw h2.inj (q * 20) (q * 20+20) (by omega) h3 (fun i j x1 x2 x3=>by rw[h2.rest i x1,h2.rest j (by omega)];exact x2)) (fun r ks' hR=>?_)
  obtain⟨rfl,r,hr,rfl⟩:=hR;have e1:IntKind.i64.wrap (((q * 20+20:Nat):Int)+((20:Nat):Int))=(((q+1) * 20+20:Nat):Int):=by rw[qe _ (by omega)];omega
  have e2:q * 20+20=(q+1) * 20:=by omega
  conv=>whnf
  rw[e1,e2];refine⟨(q+1,r),[0],⟨by show(q+1) * 20<=n;omega,h2.next h3 (by omega) (.inr rfl) hr⟩,by show n - (q+1) * 20<n - q * 20;omega,?_⟩
  conv=>whnf
  repeat'(first|exact ⟨⟩|exact rfl|exact qa _|exact .inr rfl|exact fun _ _=>rfl|exact noI|apply And.intro)
 ·have h3:n<q * 20+20:=by
   have h:¬ ((q * 20+20:Nat):Int)<=n:=of_decide_eq_false h3
   omega
  conv=>whnf
  refine .rel _ (yt4 L n hn z p hw h2.inj (q * 20) n h1 (pq _) (fun i j x1 x2 x3=>by rw[h2.rest i x1,h2.rest j (by omega)];exact x2)) (fun r ks' hR=>?_)
  obtain⟨rfl,r,hr,rfl⟩:=hR;have h4:=h2.next (pq _) (by omega) (.inl rfl) hr
  conv=>whnf
  refine .inv (Nat × (Nat->Nat)) (fun s=>0<s.1/\s.1<=20+2 * n/\Inj n s.2/\Lc s.1 0 n s.2/\Rs (LL (zltC (cmpZ L))) s.1 0 n s.2) (fun s=>[(6,iV s.1)]) (fun s=>[(0,yv L n z s.2)]) (fun s=>n - s.1) ⟨(20,r),[0],⟨show 0<20 by omega,show 20<=20+2 * n by omega,h4.inj,h4.loc,?_⟩,?_⟩ ?_
  ·have:=h4.done
   rw [show min ((q+1) * 20) n=n by omega] at this
   exact this
  ·conv=>whnf
   repeat'(first|exact ⟨⟩|exact rfl|exact qa _|exact .inr rfl|exact fun _ _=>rfl|exact noI|apply And.intro)
  clear h1 h2 h3 h4 hr;intro s hs;obtain⟨h1,h2,h3,h4,h5⟩:=hs;conv=>whnf
  generalize s.1=k at h1 h2 h4 h5 ⊢;generalize s.2=p at h3 h4 h5 ⊢;refine⟨fun h6=>?_,fun h6=>?_⟩
  ·have h6:k<n:=by
    have h:(k:Int)<n:=of_decide_eq_true h6
    omega
   have e1:IntKind.i64.wrap (2 * (k:Int))=((2 * k:Nat):Int):=by rw[qe _ (by omega)];omega
   conv=>whnf
   rw[e1];refine .inv (Nat × (Nat->Nat)) (fun s=>s.1<=n/\∃ q,s.1=q * (2 * k)/\Mg (LL (zltC (cmpZ L))) k n q s.2) (fun s=>[(7,iV s.1),(8,iV (s.1+2 * k))]) (fun s=>[(0,yv L n z s.2)]) (fun s=>n - s.1) ⟨(0,p),[0],⟨pu _,0,(Nat.zero_mul _).symm,Mg.begin h3 h4 h5⟩,?_⟩ ?_
   ·conv=>whnf
    rw[oo];repeat'(first|exact ⟨⟩|exact rfl|exact qa _|exact .inr rfl|exact fun _ _=>rfl|exact noI|apply And.intro)
   intro s hs;obtain⟨g1,q,g2,g3⟩:=hs;conv=>whnf
   generalize s.1=a at g1 g2 ⊢;generalize s.2=p at g3 ⊢;refine⟨fun h7=>?_,fun h7=>?_⟩
   ·have h7:a+2 * k<=n:=by
     have h:((a+2 * k:Nat):Int)<=n:=of_decide_eq_true h7
     omega
    have e2:IntKind.i64.wrap ((a:Int)+(k:Int))=((a+k:Nat):Int):=by rw[qe _ (by omega)];omega
    have e3:IntKind.i64.wrap (((a+2 * k:Nat):Int)+((2 * k:Nat):Int))=((a+2 * k+2 * k:Nat):Int):=by rw[qe _ (by omega)];omega
    conv=>whnf
    rw[e2];refine .rel _ (yt2 L n hn z hw (2 * k+1) p a (a+k) (a+2 * k) (by omega) g3.inj (by omega) (by omega) h7 (by rw[g2];exact g3.left (by omega)) (by rw[g2];exact g3.right (by omega) (by omega)) (by rw[g2];exact g3.sep (by omega) (by omega))) (fun r ks' hR=>?_)
    obtain⟨rfl,r,hr,rfl⟩:=hR;have hn2:Mg (LL (zltC (cmpZ L))) k n (q+1) r:=g3.next h1 h7 (by omega) (by omega) (by omega) (by rw[<-g2];exact hr)
    conv=>whnf
    rw[e1,e3];refine⟨(a+2 * k,r),[0],⟨h7,q+1,by show a+2 * k=(q+1) * (2 * k);rw[cw q (2 * k),<-g2],hn2⟩,by show n - (a+2 * k)<n - a;omega,?_⟩
    conv=>whnf
    repeat'(first|exact ⟨⟩|exact rfl|exact qa _|exact .inr rfl|exact fun _ _=>rfl|exact noI|apply And.intro)
   ·have h7:n<a+2 * k:=by
     have h:¬ ((a+2 * k:Nat):Int)<=n:=of_decide_eq_false h7
     omega
    have e2:IntKind.i64.wrap ((a:Int)+(k:Int))=((a+k:Nat):Int):=by rw[qe _ (by omega)];omega
    have e4:IntKind.i64.wrap ((k:Int) * 2)=((2 * k:Nat):Int):=by rw[qe _ (by omega)];omega
    conv=>whnf
    rw[e2];refine⟨fun h8=>?_,fun h8=>?_⟩
    ·have h8:a+k<n:=by
      have h:((a+k:Nat):Int)<n:=of_decide_eq_true h8
      omega
     conv=>whnf
     refine .rel _ (yt2 L n hn z hw (2 * k+1) p a (a+k) n (by omega) g3.inj (by omega) h8 (pq _) (by rw[g2];exact g3.left (by omega)) (by rw[g2];exact g3.right (pq _) (by omega)) (by rw[g2];exact g3.sep (pq _) (by omega))) (fun r ks' hR=>?_)
     obtain⟨rfl,r,hr,rfl⟩:=hR;have hn2:Mg (LL (zltC (cmpZ L))) k n (q+1) r:=g3.next h1 (pq _) (by omega) (by omega) (by omega) (by rw[<-g2];exact hr)
     have ho:=hn2.over h1 (by rw[cw,<-g2];omega)
     conv=>whnf
     rw[e4];refine⟨(2 * k,r),[0],⟨show 0<2 * k by omega,show 2 * k<=20+2 * n by omega,hn2.inj,ho.1,ho.2⟩,by show n - 2 * k<n - k;omega,?_⟩
     conv=>whnf
     repeat'(first|exact ⟨⟩|exact rfl|exact qa _|exact .inr rfl|exact fun _ _=>rfl|exact noI|apply And.intro)
    ·have h8:n<=a+k:=by
      have h:¬ ((a+k:Nat):Int)<n:=of_decide_eq_false h8
      omega
     have ho:=g3.over h1 (by rw[<-g2];exact h8)
     conv=>whnf
     rw[e4];refine⟨(2 * k,p),[0],⟨show 0<2 * k by omega,show 2 * k<=20+2 * n by omega,g3.inj,ho.1,ho.2⟩,by show n - 2 * k<n - k;omega,?_⟩
     conv=>whnf
     repeat'(first|exact ⟨⟩|exact rfl|exact qa _|exact .inr rfl|exact fun _ _=>rfl|exact noI|apply And.intro)
  ·have h6:n<=k:=by
    have h:¬ (k:Int)<n:=of_decide_eq_false h6
    omega
   conv=>whnf
   refine⟨[0],_,_,rfl,rfl,?_,?_,rfl,p,h3,h5.all h6,rfl⟩
   ·exact rfl
   ·conv=>whnf
    repeat'(first|exact ⟨⟩|exact rfl|exact qa _|exact .inr rfl|exact fun _ _=>rfl|exact noI|apply And.intro)
theorem zy3(L:List (List UInt8))(n:Nat)(hn:n<1152921504606846976)(z:Z)(hw:Weak n (zltC (cmpZ L))) :
 COk Tryz.prog 130 [.all 0,.fn 131 []] [yv L n z id] (fun s k=>s = .tup []/\∃ r,Inj n r/\Rise (LL (zltC (cmpZ L))) r 0 n/\k=[yv L n z r]):=by
 refine j7 (TT:=TT) (IN:=qh []) qk qj mixed 1000 Tryz.func130 rfl (qi Tryz.func130 (by kernel_rfl) rfl) 7 (by kernel_rfl) ?_
 conv=>whnf
 refine .rel _ (zj6 L n hn z hw) (fun r ks' hR=>?_)
 obtain⟨rfl,r,hr,h2,rfl⟩:=hR;conv=>whnf
 refine⟨[0],_,_,rfl,rfl,?_,?_,rfl,r,hr,h2,rfl⟩
 ·exact rfl
 ·conv=>whnf
  repeat'(first|exact ⟨⟩|exact rfl|exact qa _|exact .inr rfl|exact fun _ _=>rfl|exact noI|apply And.intro)
def cCap:List SV:=[.ptr 1 0]
def ue(nf:Nat)(zf:Z)(fo:Nat->List DV):List KB:=[.cells 45 [.all 2],.row 9 1 nf zf fo]
def ltC(c:Nat->Nat->Int)(x y:Nat):Bool:=decide (c x y<0)
def qx8(g:FuncId)(c:Nat->Nat->Int)(n:Nat)(z:Z)(nf:Nat)(zf:Z)(fo:Nat->List DV):Prop :=
 ∀ (q:Nat->Nat) (x y:Nat),x<n->y<n->COk Tryz.prog g (iV x :: iV y :: cCap) (rowP n z q :: ue nf zf fo) (fun s k=>s = .d (.int .i64 (c x y))/\k=rowP n z q :: ue nf zf fo)
theorem yx4(n:Nat)(hn:n<1152921504606846976)(z:Z)(p:Nat->Nat)(c:Nat->Nat->Int)(g:FuncId)(nf:Nat)(zf:Z)(fo:Nat->List DV)(hg:qx8 g c n z nf zf fo)(hw:Weak n (ltC c))(hp:Inj n p)(a b:Nat)(hab:a<=b)(hb:b<=n)(hasc:∀ i j,a<=i->i<j->j<b->p i<p j):COk Tryz.prog 144 [.all 0,iV a,iV b,.fn g cCap] (rowP n z p :: ue nf zf fo) (fun s k=>s = .tup []/\∃ r,Merged (L:=LL (ltC c)) p r n a b/\k=rowP n z r :: ue nf zf fo):=by
 refine j7 (TT:=TT) (IN:=qh []) qk qj mixed 1000 Tryz.func144 rfl (qi Tryz.func144 (by kernel_rfl) rfl) 49 (by kernel_rfl) ?_
 have e1:=w64s a (by omega)
 conv=>whnf
 rw[e1];refine .inv (Nat × (Nat->Nat)) (fun s=>a+1<=s.1/\(s.1<=b\/(s.1=a+1/\s.2=p))/\Merged (L:=LL (ltC c)) p s.2 n a s.1) (fun s=>[(8,iV s.1)]) (fun s=>[(0,rowP n z s.2)]) (fun s=>n+1 - s.1) ⟨(a+1,p),[0,1,2],show a+1<=a+1/\(a+1<=b\/(a+1=a+1/\p=p))/\Merged (L:=LL (ltC c)) p p n a (a+1) from⟨by omega,.inr ⟨rfl,rfl⟩,.stay hp (fun i j _ _ _=>by omega)⟩,?_⟩ ?_
 ·conv=>whnf
  repeat'(first|exact ⟨⟩|exact rfl|exact qa _|exact .inr rfl|exact fun _ _=>rfl|exact noI|apply And.intro)
 intro s hs;obtain⟨i,q⟩:=s;obtain⟨hai,hib,hm⟩:=hs;have hai:a+1<=i:=hai
 have hib:i<=b\/(i=a+1/\q=p):=hib
 have hm:Merged (L:=LL (ltC c)) p q n a i:=hm
 conv=>whnf
 refine⟨fun h1=>?_,fun h1=>?_⟩
 ·have h1:i<b:=by
   have h:(i:Int)<b:=of_decide_eq_true h1
   omega
  have asc:∀ t,a<=t->t<i->q t<q i:=fun t h3 h4=>by
   obtain⟨t',b1,b2,b3⟩:=hm.same.fwd t h3 h4;rw[b3,hm.same.out i (by omega)]
   exact hasc t' i b1 b2 h1
  have next:∀ j,a<=j->j<=i->(j=a\/LL (ltC c) (q (j - 1)) (q i))->(j=i\/LL (ltC c) (q i) (q j))->Merged (L:=LL (ltC c)) p (rot q j i (i+1)) n a (i+1):=fun j h3 h4 h5 h6=>by
   have:=jf5 hw.ord hm.inj (show i<n by omega) h3 h4 hm.rise h5 h6
   exact⟨this.inj,(hm.same.wide (pq _) (by omega)).trans this.same,this.rise⟩
  have e6:=w64s i (by omega)
  conv=>whnf
  refine .inv Nat (fun j=>a<=j/\j<=i/\(j=i\/LL (ltC c) (q i) (q j))) (fun j=>[(9,iV j)]) (fun j=>[(0,rowP n z (rot q j i (i+1)))]) (fun j=>j) ⟨i,[0,1,2],⟨by omega,by omega,.inl rfl⟩,?_⟩ ?_
  ·conv=>whnf
   rw[qo9 q i (i+1) (by omega)]
   repeat'(first|exact ⟨⟩|exact rfl|exact qa _|exact .inr rfl|exact fun _ _=>rfl|exact noI|apply And.intro)
  intro j hj;obtain⟨haj,hji,hjL⟩:=hj;conv=>whnf
  refine⟨fun h2=>?_,fun h2=>?_⟩
  ·have h2:a<j:=by
    have h:(j:Int) > a:=of_decide_eq_true h2
    omega
   have e2:IntKind.i64.wrap ((j:Int) - 1)=((j - 1:Nat):Int):=by rw[qe _ (by omega)];omega
   have e3:rot q j i (i+1) j=q i:=by rw[qw8 q (by omega) (by omega)];congr 1;omega
   have e4:rot q j i (i+1) (j - 1)=q (j - 1):=qh8 q (by omega) (by omega) (by omega)
   conv=>whnf
   refine⟨by omega,?_⟩
   conv=>whnf
   rw[e2];refine⟨by omega,?_⟩
   conv=>whnf
   rw[pp,pp,e3,e4];refine .mem _ _ (hg _ _ _ (hm.inj.lt i (by omega)) (hm.inj.lt (j - 1) (by omega))) ?_
   conv=>whnf
   refine⟨fun h3=>?_,fun h3=>?_⟩
   ·have h3:ltC c (q i) (q (j - 1))=true:=h3
    conv=>whnf
    refine⟨?_,?_,?_,?_⟩;rotate_left 2
    ·conv=>whnf
     rw[e2];repeat'(first|exact⟨rfl,rfl⟩|(refine⟨⟨by omega,by omega⟩,?_⟩;conv=>whnf)|exact ⟨⟩|apply And.intro|(conv=>whnf))
    ·conv=>whnf
     rw[e2];refine⟨j - 1,[0,1,2],⟨by omega,by omega,.inr (.inl h3)⟩,by omega,?_⟩
     conv=>whnf
     repeat'(first|exact ⟨⟩|exact rfl|exact qa _|exact .inr rfl|exact fun _ _=>rfl|exact noI|apply And.intro)
     intro x hx;rw[pp,pp];have:=yj3 (rot q j i (i+1)) (j - 1) j (by omega)
     have e5:=jc2 q i (j - 1) (by omega)
     rw [show j - 1+1=j by omega] at e5
     exact(congrFun this x).trans (congrArg (fun f=>cel (f x)) e5)
   ·have h3:ltC c (q i) (q (j - 1))=false:=h3
    have hL:LL (ltC c) (q (j - 1)) (q i):=.inr ⟨h3,asc (j - 1) (by omega) (by omega)⟩
    conv=>whnf
    refine⟨(i+1,rot q j i (i+1)),[0,1,2],(show a+1<=i+1/\(i+1<=b\/(i+1=a+1/\rot q j i (i+1)=p))/\Merged (L:=LL (ltC c)) p (rot q j i (i+1)) n a (i+1) from⟨by omega,.inl (by omega),next j haj hji (.inr hL) hjL⟩),by show n+1 - (i+1)<n+1 - i;omega,?_⟩
    conv=>whnf
    rw[e6];repeat'(first|exact ⟨⟩|exact rfl|exact qa _|exact .inr rfl|exact fun _ _=>rfl|exact noI|apply And.intro)
  ·have h2:j=a:=by
    have h:¬ ((j:Int) > a):=of_decide_eq_false h2
    omega
   conv=>whnf
   refine⟨(i+1,rot q j i (i+1)),[0,1,2],(show a+1<=i+1/\(i+1<=b\/(i+1=a+1/\rot q j i (i+1)=p))/\Merged (L:=LL (ltC c)) p (rot q j i (i+1)) n a (i+1) from⟨by omega,.inl (by omega),next j haj hji (.inl h2) hjL⟩),by show n+1 - (i+1)<n+1 - i;omega,?_⟩
   conv=>whnf
   rw[e6];repeat'(first|exact ⟨⟩|exact rfl|exact qa _|exact .inr rfl|exact fun _ _=>rfl|exact noI|apply And.intro)
 ·have h1:b<=i:=by
   have h:¬ ((i:Int)<b):=of_decide_eq_false h1
   omega
  conv=>whnf
  refine⟨[0,1,2],_,_,rfl,rfl,?_,?_,rfl,q,?_,rfl⟩
  ·exact rfl
  ·conv=>whnf
   repeat'(first|exact ⟨⟩|exact rfl|exact qa _|exact .inr rfl|exact fun _ _=>rfl|exact noI|apply And.intro)
  ·rcases hib with h|h
   ·have:i=b:=by omega
    rw[<-this];exact hm
   ·rw[h.2];exact .stay hp (fun i j _ _ _=>by omega)
theorem xl9(n:Nat)(hn:n<1152921504606846976)(z:Z)(p:Nat->Nat)(a m b:Nat)(ha:a<m)(hb:m<b)(hbn:b<=n)(g:FuncId)(nf:Nat)(zf:Z)(fo:Nat->List DV):COk Tryz.prog 157 [.all 0,iV a,iV m,iV b,.fn g cCap] (rowP n z p :: ue nf zf fo) (fun s k=>s = .tup []/\k=rowP n z (rot p a m b) :: ue nf zf fo):=by
 refine COk.anyA (COk.frame (zr9 n hn z p a m b ha hb hbn) [0] («as»:=[.all 0,iV a,iV m,iV b,.any]) rfl rfl rfl (fun s0 k0 h=>?_)) ⟨.inr rfl,.inr rfl,.inr rfl,.inr rfl,.inl rfl,True.intro⟩
 obtain⟨rfl,rfl⟩:=h;exact⟨rfl,rfl⟩
theorem half(i j:Nat)(h:i+j<9223372036854775808):IntKind.i64.wrap ((IntKind.u64.wrap (IntKind.i64.wrap ((i:Int)+(j:Int)))).fdiv (2 ^ (min (Int.toNat 1) IntKind.u64.bits)))=(((i+j) / 2:Nat):Int):=by
 rw[qe ((i:Int)+(j:Int)) (by omega),IntKind.wrap_u64]
 rw[show(2:Int) ^ (min (Int.toNat 1) IntKind.u64.bits)=2 from rfl,Int.fdiv_eq_ediv_of_nonneg _ (by omega)]
 rw[qe _ (by omega)]
 omega
theorem yw4(n:Nat)(hn:n<1152921504606846976)(z:Z)(c:Nat->Nat->Int)(g:FuncId)(nf:Nat)(zf:Z)(fo:Nat->List DV)(hg:qx8 g c n z nf zf fo)(hw:Weak n (ltC c)):∀ (k:Nat) (p:Nat->Nat) (a m b:Nat),b - a<k->Inj n p->a<m->m<b->b<=n->Rise (LL (ltC c)) p a m->Rise (LL (ltC c)) p m b->Sep p a m b ->
 COk Tryz.prog 145 [.all 0,iV a,iV m,iV b,.fn g cCap] (rowP n z p :: ue nf zf fo) (fun s k=>s = .tup []/\∃ r,Merged (L:=LL (ltC c)) p r n a b/\k=rowP n z r :: ue nf zf fo):=by
 intro k;induction k with
 |zero=>intro p a m b h;omega
 |succ k ih =>
 intro p a m b hk hp ham hmb hbn h1 h2 hs;refine j7 (TT:=TT) (IN:=qh []) qk qj mixed 1000 Tryz.func145 rfl (qi Tryz.func145 (by kernel_rfl) rfl) 215 (by kernel_rfl) ?_
 have e1:IntKind.i64.wrap ((m:Int) - (a:Int))=((m - a:Nat):Int):=by rw[qe _ (by omega)];omega
 have e2:IntKind.i64.wrap ((b:Int) - (m:Int))=((b - m:Nat):Int):=by rw[qe _ (by omega)];omega
 conv=>whnf
 rw[e1];refine⟨fun c1=>?_,fun c1=>?_⟩
 ·have c1:m=a+1:=by simp at c1;omega
  subst c1;conv=>whnf
  refine .inv (Nat × Nat) (fun s=>a+1<=s.1/\s.1<=s.2/\s.2<=b/\(s.1=a+1\/LL (ltC c) (p (s.1 - 1)) (p a))/\(s.2=b\/LL (ltC c) (p a) (p s.2))) (fun s=>[(10,iV s.1),(11,iV s.2)]) (fun s=>[]) (fun s=>s.2 - s.1) ⟨(a+1,b),[0,1,2],⟨show a+1<=a+1 by omega,show a+1<=b by omega,show b<=b by omega,.inl rfl,.inl rfl⟩,?_⟩ ?_
  ·conv=>whnf
   repeat'(first|exact ⟨⟩|exact rfl|exact qa _|exact .inr rfl|exact fun _ _=>rfl|exact noI|apply And.intro)
  intro s hs2;obtain⟨q1,q2,q3,q4,q5⟩:=hs2;conv=>whnf
  generalize s.1=i at q1 q2 q4 ⊢;generalize s.2=j at q2 q3 q5 ⊢;refine⟨fun h3=>?_,fun h3=>?_⟩
  ·have h3:i<j:=by
    have h:(i:Int)<j:=of_decide_eq_true h3
    omega
   conv=>whnf
   refine⟨by omega,?_⟩
   conv=>whnf
   rw[half i j (by omega)]
   have g1:i<=(i+j) / 2:=by omega
   have g2:(i+j) / 2<j:=by omega
   generalize (i+j) / 2=h at g1 g2 ⊢;refine⟨by omega,?_⟩
   conv=>whnf
   refine⟨by omega,?_⟩
   conv=>whnf
   rw[pp,pp];refine .mem _ _ (hg _ _ _ (hp.lt h (by omega)) (hp.lt a (by omega))) ?_
   conv=>whnf
   refine⟨fun h4=>?_,fun h4=>?_⟩
   ·have h4:ltC c (p h) (p a)=true:=h4
    conv=>whnf
    rw[show IntKind.i64.wrap ((h:Int)+1)=((h+1:Nat):Int) by rw[qe _ (by omega)];omega]
    refine⟨(h+1,j),[0,1,2],⟨show a+1<=h+1 by omega,show h+1<=j by omega,q3,.inr (.inl h4),q5⟩,by show j - (h+1)<j - i;omega,?_⟩
    conv=>whnf
    repeat'(first|exact ⟨⟩|exact rfl|exact qa _|exact .inr rfl|exact fun _ _=>rfl|exact noI|apply And.intro)
   ·have h4:ltC c (p h) (p a)=false:=h4
    conv=>whnf
    refine⟨(i,h),[0,1,2],⟨q1,g1,show h<=b by omega,q4,.inr (.inr ⟨h4,hs a h (by omega) (by omega) (by omega) (by omega)⟩)⟩,by show h - i<j - i;omega,?_⟩
    conv=>whnf
    repeat'(first|exact ⟨⟩|exact rfl|exact qa _|exact .inr rfl|exact fun _ _=>rfl|exact noI|apply And.intro)
  ·have h3:i=j:=by
    have h:¬ (i:Int)<j:=of_decide_eq_false h3
    omega
   subst h3;have hfin:=yy2 hw.ord hp hbn q1 q3 h2 q4 q5
   have ei:IntKind.i64.wrap ((i:Int) - 1)=((i - 1:Nat):Int):=by rw[qe _ (by omega)];omega
   conv=>whnf
   refine .inv Nat (fun k=>a<=k/\k+1<=i) (fun k=>[(13,iV k)]) (fun k=>[(0,rowP n z (rot p a (a+1) (k+1)))]) (fun k=>i - k) ⟨a,[0,1,2],⟨by omega,by omega⟩,?_⟩ ?_
   ·conv=>whnf
    rw[je7 p a (a+1) (by omega)]
    repeat'(first|exact ⟨⟩|exact rfl|exact qa _|exact .inr rfl|exact fun _ _=>rfl|exact noI|apply And.intro)
   intro k hk2;obtain⟨r1,r2⟩:=hk2;conv=>whnf
   rw[ei];refine⟨fun h3=>?_,fun h3=>?_⟩
   ·have h3:k<i - 1:=by
     have h:(k:Int)<((i - 1:Nat):Int):=of_decide_eq_true h3
     omega
    have ek:=w64s k (by omega)
    conv=>whnf
    refine⟨?_,?_,?_,?_⟩;rotate_left 2
    ·conv=>whnf
     rw[ek];repeat'(first|exact⟨rfl,rfl⟩|(refine⟨⟨by omega,by omega⟩,?_⟩;conv=>whnf)|exact ⟨⟩|apply And.intro|(conv=>whnf))
    ·conv=>whnf
     rw[ek];refine⟨k+1,[0,1,2],⟨by omega,by omega⟩,by omega,?_⟩
     conv=>whnf
     repeat'(first|exact ⟨⟩|exact rfl|exact qa _|exact .inr rfl|exact fun _ _=>rfl|exact noI|apply And.intro)
     intro x hx;rw[pp,pp];have:=yp0 (rot p a (a+1) (k+1)) k (k+1) (by omega)
     exact(congrFun this x).trans (congrArg (fun f=>cel (f x)) (yw6 p a k (by omega)))
   ·have h3:k+1=i:=by
     have h:¬ (k:Int)<((i - 1:Nat):Int):=of_decide_eq_false h3
     omega
    rw[h3];conv=>whnf
    refine⟨[0,1,2],_,_,rfl,rfl,?_,?_,rfl,_,hfin,rfl⟩
    ·exact rfl
    ·conv=>whnf
     repeat'(first|exact ⟨⟩|exact rfl|exact qa _|exact .inr rfl|exact fun _ _=>rfl|exact noI|apply And.intro)
 have c1:¬ m=a+1:=by simp at c1;omega
 conv=>whnf
 rw[e2];refine⟨fun c2=>?_,fun c2=>?_⟩
 ·have c2:b=m+1:=by simp at c2;omega
  subst c2;conv=>whnf
  refine .inv (Nat × Nat) (fun s=>a<=s.1/\s.1<=s.2/\s.2<=m/\(s.1=a\/LL (ltC c) (p (s.1 - 1)) (p m))/\(s.2=m\/LL (ltC c) (p m) (p s.2))) (fun s=>[(14,iV s.1),(15,iV s.2)]) (fun s=>[]) (fun s=>s.2 - s.1) ⟨(a,m),[0,1,2],⟨show a<=a by omega,show a<=m by omega,show m<=m by omega,.inl rfl,.inl rfl⟩,?_⟩ ?_
  ·conv=>whnf
   repeat'(first|exact ⟨⟩|exact rfl|exact qa _|exact .inr rfl|exact fun _ _=>rfl|exact noI|apply And.intro)
  intro s hs2;obtain⟨q1,q2,q3,q4,q5⟩:=hs2;conv=>whnf
  generalize s.1=i at q1 q2 q4 ⊢;generalize s.2=j at q2 q3 q5 ⊢;refine⟨fun h3=>?_,fun h3=>?_⟩
  ·have h3:i<j:=by
    have h:(i:Int)<j:=of_decide_eq_true h3
    omega
   conv=>whnf
   refine⟨by omega,?_⟩
   conv=>whnf
   rw[half i j (by omega)]
   have g1:i<=(i+j) / 2:=by omega
   have g2:(i+j) / 2<j:=by omega
   generalize (i+j) / 2=h at g1 g2 ⊢;refine⟨by omega,?_⟩
   conv=>whnf
   refine⟨by omega,?_⟩
   conv=>whnf
   rw[pp,pp];refine .mem _ _ (hg _ _ _ (hp.lt m (by omega)) (hp.lt h (by omega))) ?_
   conv=>whnf
   refine⟨fun h4=>?_,fun h4=>?_⟩
   ·have h4:ltC c (p m) (p h)=false:=by
     have h5:(!(ltC c (p m) (p h)))=true:=h4
     simpa using h5
    conv=>whnf
    rw[show IntKind.i64.wrap ((h:Int)+1)=((h+1:Nat):Int) by rw[qe _ (by omega)];omega]
    refine⟨(h+1,j),[0,1,2],⟨show a<=h+1 by omega,show h+1<=j by omega,q3,.inr (.inr ⟨h4,hs h m (by omega) (by omega) (by omega) (by omega)⟩),q5⟩,by show j - (h+1)<j - i;omega,?_⟩
    conv=>whnf
    repeat'(first|exact ⟨⟩|exact rfl|exact qa _|exact .inr rfl|exact fun _ _=>rfl|exact noI|apply And.intro)
   ·have h4:ltC c (p m) (p h)=true:=by
     have h5:(!(ltC c (p m) (p h)))=false:=h4
     simpa using h5
    conv=>whnf
    refine⟨(i,h),[0,1,2],⟨q1,g1,show h<=m by omega,q4,.inr (.inl h4)⟩,by show h - i<j - i;omega,?_⟩
    conv=>whnf
    repeat'(first|exact ⟨⟩|exact rfl|exact qa _|exact .inr rfl|exact fun _ _=>rfl|exact noI|apply And.intro)
  ·have h3:i=j:=by
    have h:¬ (i:Int)<j:=of_decide_eq_false h3
    omega
   subst h3;have hfin:=jf5 hw.ord hp (show m<n by omega) q1 q3 h1 q4 q5
   conv=>whnf
   refine .inv Nat (fun k=>i<=k/\k<=m) (fun k=>[(17,iV k)]) (fun k=>[(0,rowP n z (rot p k m (m+1)))]) (fun k=>k) ⟨m,[0,1,2],⟨by omega,by omega⟩,?_⟩ ?_
   ·conv=>whnf
    rw[qo9 p m (m+1) (by omega)]
    repeat'(first|exact ⟨⟩|exact rfl|exact qa _|exact .inr rfl|exact fun _ _=>rfl|exact noI|apply And.intro)
   intro k hk2;obtain⟨r1,r2⟩:=hk2;conv=>whnf
   refine⟨fun h3=>?_,fun h3=>?_⟩
   ·have h3:i<k:=by
     have h:(k:Int) > (i:Int):=of_decide_eq_true h3
     omega
    have ek:IntKind.i64.wrap ((k:Int) - 1)=((k - 1:Nat):Int):=by rw[qe _ (by omega)];omega
    conv=>whnf
    refine⟨?_,?_,?_,?_⟩;rotate_left 2
    ·conv=>whnf
     rw[ek];repeat'(first|exact⟨rfl,rfl⟩|(refine⟨⟨by omega,by omega⟩,?_⟩;conv=>whnf)|exact ⟨⟩|apply And.intro|(conv=>whnf))
    ·conv=>whnf
     rw[ek];refine⟨k - 1,[0,1,2],⟨by omega,by omega⟩,by omega,?_⟩
     conv=>whnf
     repeat'(first|exact ⟨⟩|exact rfl|exact qa _|exact .inr rfl|exact fun _ _=>rfl|exact noI|apply And.intro)
     intro x hx;rw[pp,pp];have:=yj3 (rot p k m (m+1)) (k - 1) k (by omega)
     have e5:=jc2 p m (k - 1) (by omega)
     rw [show k - 1+1=k by omega] at e5
     exact(congrFun this x).trans (congrArg (fun f=>cel (f x)) e5)
   ·have h3:k=i:=by
     have h:¬ (k:Int) > (i:Int):=of_decide_eq_false h3
     omega
    rw[h3];conv=>whnf
    refine⟨[0,1,2],_,_,rfl,rfl,?_,?_,rfl,_,hfin,rfl⟩
    ·exact rfl
    ·conv=>whnf
     repeat'(first|exact ⟨⟩|exact rfl|exact qa _|exact .inr rfl|exact fun _ _=>rfl|exact noI|apply And.intro)
 have c2:¬ b=m+1:=by simp at c2;omega
 conv=>whnf
 refine⟨by omega,?_⟩
 conv=>whnf
 rw[half a b (by omega)]
 rw[show IntKind.i64.wrap ((((a+b) / 2:Nat):Int)+(m:Int))=(((a+b) / 2+m:Nat):Int) by rw[qe _ (by omega)];omega]
 refine⟨fun c3=>?_,fun c3=>?_⟩
 have c3:(a+b) / 2<m:=by
  have h:(m:Int) > (((a+b) / 2:Nat):Int):=of_decide_eq_true c3
  omega
 conv=>whnf
 obtain⟨N,hN⟩:∃ N,N=(a+b) / 2+m:=⟨_,rfl⟩;rw[<-hN];obtain⟨s0,hs0⟩:∃ s0,s0=N - b:=⟨_,rfl⟩;obtain⟨r0,hr0⟩:∃ r0,r0=(a+b) / 2:=⟨_,rfl⟩;have f1:s0=a\/N - s0=b:=by omega
 have f2:r0=m\/N - r0=m:=by omega
 have f3:a<=s0/\s0<=r0/\r0<=m/\m<=N - r0/\N - s0<=b:=by omega
 have x1:IntKind.i64.wrap ((N:Int) - (b:Int))=(s0:Int):=by rw[qe _ (by omega)];omega
 have x2:IntKind.i64.wrap ((N:Int) - 1)=((N - 1:Nat):Int):=by rw[qe _ (by omega)];omega
 rw[x1,x2];rotate_left
 have c3:m<=(a+b) / 2:=by
  have h:¬ (m:Int) > (((a+b) / 2:Nat):Int):=of_decide_eq_false c3
  omega
 conv=>whnf
 obtain⟨N,hN⟩:∃ N,N=(a+b) / 2+m:=⟨_,rfl⟩;rw[<-hN];obtain⟨s0,hs0⟩:∃ s0,s0=a:=⟨_,rfl⟩;obtain⟨r0,hr0⟩:∃ r0,r0=m:=⟨_,rfl⟩;have f1:s0=a\/N - s0=b:=by omega
 have f2:r0=m\/N - r0=m:=by omega
 have f3:a<=s0/\s0<=r0/\r0<=m/\m<=N - r0/\N - s0<=b:=by omega
 have x2:IntKind.i64.wrap ((N:Int) - 1)=((N - 1:Nat):Int):=by rw[qe _ (by omega)];omega
 rw[x2];all_goals
  refine .inv (Nat × Nat) (fun s=>s0<=s.1/\s.1<=s.2/\s.2<=r0/\(s.1=s0\/LL (ltC c) (p (s.1 - 1)) (p (N - s.1)))/\(s.2=r0\/LL (ltC c) (p (N - 1 - s.2)) (p s.2))) (fun s=>[(20,iV s.1),(21,iV s.2)]) (fun s=>[]) (fun s=>s.2 - s.1) ⟨(s0,r0),[0,1,2],⟨show s0<=s0 by omega,show s0<=r0 by omega,show r0<=r0 by omega,.inl rfl,.inl rfl⟩,?_⟩ ?_
  ·subst hr0;subst hs0;conv=>whnf
   repeat'(first|exact ⟨⟩|exact rfl|exact qa _|exact .inr rfl|exact fun _ _=>rfl|exact noI|apply And.intro)
  intro st hst;obtain⟨q1,q2,q3,q4,q5⟩:=hst;conv=>whnf
  generalize st.1=s at q1 q2 q4 ⊢;generalize st.2=j at q2 q3 q5 ⊢;refine⟨fun h3=>?_,fun h3=>?_⟩
  ·have h3:s<j:=by
    have h:(s:Int)<j:=of_decide_eq_true h3
    omega
   conv=>whnf
   refine⟨by omega,?_⟩
   conv=>whnf
   rw[half s j (by omega)]
   have g1:s<=(s+j) / 2:=by omega
   have g2:(s+j) / 2<j:=by omega
   generalize (s+j) / 2=h at g1 g2 ⊢;rw[show IntKind.i64.wrap (((N - 1:Nat):Int) - (h:Int))=((N - 1 - h:Nat):Int) by rw[qe _ (by omega)];omega]
   refine⟨by omega,?_⟩
   conv=>whnf
   refine⟨by omega,?_⟩
   conv=>whnf
   rw[pp,pp];refine .mem _ _ (hg _ _ _ (hp.lt (N - 1 - h) (by omega)) (hp.lt h (by omega))) ?_
   conv=>whnf
   refine⟨fun h4=>?_,fun h4=>?_⟩
   ·have h4:ltC c (p (N - 1 - h)) (p h)=false:=by
     have h5:(!(ltC c (p (N - 1 - h)) (p h)))=true:=h4
     simpa using h5
    conv=>whnf
    rw[show IntKind.i64.wrap ((h:Int)+1)=((h+1:Nat):Int) by rw[qe _ (by omega)];omega]
    refine⟨(h+1,j),[0,1,2],⟨show s0<=h+1 by omega,show h+1<=j by omega,q3,.inr (?_:LL (ltC c) (p (h+1 - 1)) (p (N - (h+1)))),q5⟩,by show j - (h+1)<j - s;omega,?_⟩
    ·rw[show h+1 - 1=h by omega,show N - (h+1)=N - 1 - h by omega]
     exact .inr ⟨h4,hs h (N - 1 - h) (by omega) (by omega) (by omega) (by omega)⟩
    conv=>whnf
    repeat'(first|exact ⟨⟩|exact rfl|exact qa _|exact .inr rfl|exact fun _ _=>rfl|exact noI|apply And.intro)
   ·have h4:ltC c (p (N - 1 - h)) (p h)=true:=by
     have h5:(!(ltC c (p (N - 1 - h)) (p h)))=false:=h4
     simpa using h5
    conv=>whnf
    refine⟨(s,h),[0,1,2],⟨q1,g1,show h<=r0 by omega,q4,.inr (.inl h4)⟩,by show h - s<j - s;omega,?_⟩
    conv=>whnf
    repeat'(first|exact ⟨⟩|exact rfl|exact qa _|exact .inr rfl|exact fun _ _=>rfl|exact noI|apply And.intro)
  have h3:s=j:=by
   have h:¬ (s:Int)<j:=of_decide_eq_false h3
   omega
  subst h3;have hc:Cut (L:=LL (ltC c)) p a m b s (N - s):=yx9 hw.ord hp hbn h1 h2 (by omega) (by omega) (by omega) (by omega)
   (by
    rcases q4 with x|x
    ·rcases f1 with y|y
     ·exact .inl (by omega)
     ·exact .inr (.inl (by omega))
    ·exact .inr (.inr x))
   (by
    rcases q5 with x|x
    ·rcases f2 with y|y
     ·exact .inl (by omega)
     ·exact .inr (.inl (by omega))
    ·exact .inr (.inr (by rw[show N - s - 1=N - 1 - s by omega];exact x)))
  have hmid:(a+b) / 2=s+(N - s - m):=by omega
  have cl:=yr7 h1 h2 hs hc hmid
  have cr:=ym6 h1 h2 hs hc hmid
  have hrot:Inj n (rot p s m (N - s)):=hp.rot (by omega) (by omega) (by omega)
  have ee:IntKind.i64.wrap ((N:Int) - (s:Int))=((N - s:Nat):Int):=by rw[qe _ (by omega)];omega
  conv=>whnf
  rw[ee];by_cases k1:s<m/\m<N - s
  refine brT (decide_eq_true (by omega)) ?_
  conv=>whnf
  refine brT (decide_eq_true (by omega)) ?_
  conv=>whnf
  refine .rel _ (xl9 n hn z p s m (N - s) k1.1 k1.2 (by omega) g nf zf fo) (fun r ks' hR=>?_)
  obtain⟨rfl,rfl⟩:=hR;conv=>whnf
  rotate_left
  have eq:rot p s m (N - s)=p:=by
   rcases pz s m with x|x
   ·rw[show N - s=m by omega];exact je7 p s m (by omega)
   ·rw[show s=m by omega];exact qo9 p m _ (by omega)
  rw[show rowP n z p=rowP n z (rot p s m (N - s)) by rw[eq]]
  by_cases k0:s<m
  refine brT (decide_eq_true (by omega)) ?_
  conv=>whnf
  refine brF (decide_eq_false (by omega)) ?_
  conv=>whnf
  rotate_left
  refine brF (decide_eq_false (by omega)) ?_
  conv=>whnf
  all_goals
   by_cases k2:a<s/\s<(a+b) / 2
   refine brT (decide_eq_true (by omega)) ?_
   conv=>whnf
   refine brT (decide_eq_true (by omega)) ?_
   conv=>whnf
   refine .rel _ (ih (rot p s m (N - s)) a s ((a+b) / 2) (by omega) hrot k2.1 k2.2 (by omega) cl.1 cl.2.1 cl.2.2) (fun r ks' hR=>?_)
   obtain⟨rfl,r1,hr1,rfl⟩:=hR;have hfin:∀ r2,Merged (L:=LL (ltC c)) r1 r2 n ((a+b) / 2) b->Merged (L:=LL (ltC c)) p r2 n a b:=fun r2 h=>ja8 h1 h2 hc hmid hr1 h
   conv=>whnf
   rotate_left
   obtain⟨r1,hr1,er⟩:∃ r1,Merged (L:=LL (ltC c)) (rot p s m (N - s)) r1 n a ((a+b) / 2)/\r1=rot p s m (N - s):=⟨_,.stay hrot (by
    rcases pz a s with x|x
    ·exact cl.1.sub (pq _) (by omega)
    ·exact cl.2.1.sub (by omega) (pq _)),rfl⟩
   have hfin:∀ r2,Merged (L:=LL (ltC c)) r1 r2 n ((a+b) / 2) b->Merged (L:=LL (ltC c)) p r2 n a b:=fun r2 h=>ja8 h1 h2 hc hmid hr1 h
   rw[<-er];clear er;by_cases k0:a<s
   refine brT (decide_eq_true (by omega)) ?_
   conv=>whnf
   refine brF (decide_eq_false (by omega)) ?_
   conv=>whnf
   rotate_left
   refine brF (decide_eq_false (by omega)) ?_
   conv=>whnf
   all_goals
    by_cases k3:(a+b) / 2<N - s/\N - s<b
    refine brT (decide_eq_true (by omega)) ?_
    conv=>whnf
    refine brT (decide_eq_true (by omega)) ?_
    conv=>whnf
    refine .rel _ (ih r1 ((a+b) / 2) (N - s) b (by omega) hr1.inj k3.1 k3.2 hbn (cr.1.congr fun i x1 x2=>hr1.same.out i (by omega)) (cr.2.1.congr fun i x1 x2=>hr1.same.out i (by omega)) (cr.2.2.congr fun i x1 x2=>hr1.same.out i (by omega))) (fun r ks' hR=>?_)
    obtain⟨rfl,r2,hr2,rfl⟩:=hR;conv=>whnf
    rotate_left
    have hr2:Merged (L:=LL (ltC c)) r1 r1 n ((a+b) / 2) b:=.stay hr1.inj (by
     rcases pz ((a+b) / 2) (N - s) with x|x
     ·exact(cr.1.congr fun i x1 x2=>hr1.same.out i (by omega)).sub (pq _) (by omega)
     ·exact(cr.2.1.congr fun i x1 x2=>hr1.same.out i (by omega)).sub (by omega) (pq _))
    by_cases k0:(a+b) / 2<N - s
    refine brT (decide_eq_true (by omega)) ?_
    conv=>whnf
    refine brF (decide_eq_false (by omega)) ?_
    conv=>whnf
    rotate_left
    refine brF (decide_eq_false (by omega)) ?_
    conv=>whnf
    all_goals
     refine⟨[0,1,2],_,_,rfl,rfl,?_,?_,rfl,_,hfin _ hr2,rfl⟩
     ·exact rfl
     ·conv=>whnf
      repeat'(first|exact ⟨⟩|exact rfl|exact qa _|exact .inr rfl|exact fun _ _=>rfl|exact noI|apply And.intro)
theorem zq9(n:Nat)(hn:n<1152921504606846976)(z:Z)(c:Nat->Nat->Int)(g:FuncId)(nf:Nat)(zf:Z)(fo:Nat->List DV)(hg:qx8 g c n z nf zf fo)(hw:Weak n (ltC c)) :
 COk Tryz.prog 125 [.all 0,iV n,.fn g cCap] (rowP n z id :: ue nf zf fo) (fun s k=>s = .tup []/\∃ r,Inj n r/\Rise (LL (ltC c)) r 0 n/\k=rowP n z r :: ue nf zf fo):=by
 refine j7 (TT:=TT) (IN:=qh []) qk qj mixed 1000 Tryz.func125 rfl (qi Tryz.func125 (by kernel_rfl) rfl) 60 (by kernel_rfl) ?_
 conv=>whnf
 refine .inv (Nat × (Nat->Nat)) (fun s=>s.1 * 20<=n/\Fst (LL (ltC c)) 20 n s.1 s.2) (fun s=>[(6,iV 20),(7,iV (s.1 * 20)),(8,iV (s.1 * 20+20))]) (fun s=>[(0,rowP n z s.2)]) (fun s=>n - s.1 * 20) ⟨(0,id),[0,1,2],⟨by show 0 * 20<=n;omega,Fst.zero 20 n⟩,?_⟩ ?_
 ·conv=>whnf
  repeat'(first|exact ⟨⟩|exact rfl|exact qa _|exact .inr rfl|exact fun _ _=>rfl|exact noI|apply And.intro)
 intro s hs;obtain⟨h1,h2⟩:=hs;conv=>whnf
 generalize s.1=q at h1 h2 ⊢;generalize s.2=p at h2 ⊢;refine⟨fun h3=>?_,fun h3=>?_⟩
 ·have h3:q * 20+20<=n:=by
   have h:((q * 20+20:Nat):Int)<=n:=of_decide_eq_true h3
   omega
  conv=>whnf
  refine .rel _ (yx4 n hn z p c g nf zf fo hg hw h2.inj (q * 20) (q * 20+20) (by omega) h3 (fun i j x1 x2 x3=>by rw[h2.rest i x1,h2.rest j (by omega)];exact x2)) (fun r ks' hR=>?_)
  obtain⟨rfl,r,hr,rfl⟩:=hR;have e1:IntKind.i64.wrap (((q * 20+20:Nat):Int)+((20:Nat):Int))=(((q+1) * 20+20:Nat):Int):=by rw[qe _ (by omega)];omega
  have e2:q * 20+20=(q+1) * 20:=by omega
  conv=>whnf
  rw[e1,e2];refine⟨(q+1,r),[0,1,2],⟨by show(q+1) * 20<=n;omega,h2.next h3 (by omega) (.inr rfl) hr⟩,by show n - (q+1) * 20<n - q * 20;omega,?_⟩
  conv=>whnf
  repeat'(first|exact ⟨⟩|exact rfl|exact qa _|exact .inr rfl|exact fun _ _=>rfl|exact noI|apply And.intro)
 ·have h3:n<q * 20+20:=by
   have h:¬ ((q * 20+20:Nat):Int)<=n:=of_decide_eq_false h3
   omega
  conv=>whnf
  refine .rel _ (yx4 n hn z p c g nf zf fo hg hw h2.inj (q * 20) n h1 (pq _) (fun i j x1 x2 x3=>by rw[h2.rest i x1,h2.rest j (by omega)];exact x2)) (fun r ks' hR=>?_)
  obtain⟨rfl,r,hr,rfl⟩:=hR;have h4:=h2.next (pq _) (by omega) (.inl rfl) hr
  conv=>whnf
  refine .inv (Nat × (Nat->Nat)) (fun s=>0<s.1/\s.1<=20+2 * n/\Inj n s.2/\Lc s.1 0 n s.2/\Rs (LL (ltC c)) s.1 0 n s.2) (fun s=>[(6,iV s.1)]) (fun s=>[(0,rowP n z s.2)]) (fun s=>n - s.1) ⟨(20,r),[0,1,2],⟨show 0<20 by omega,show 20<=20+2 * n by omega,h4.inj,h4.loc,?_⟩,?_⟩ ?_
  ·have:=h4.done
   rw [show min ((q+1) * 20) n=n by omega] at this
   exact this
  ·conv=>whnf
   repeat'(first|exact ⟨⟩|exact rfl|exact qa _|exact .inr rfl|exact fun _ _=>rfl|exact noI|apply And.intro)
  clear h1 h2 h3 h4 hr;intro s hs;obtain⟨h1,h2,h3,h4,h5⟩:=hs;conv=>whnf
  generalize s.1=k at h1 h2 h4 h5 ⊢;generalize s.2=p at h3 h4 h5 ⊢;refine⟨fun h6=>?_,fun h6=>?_⟩
  ·have h6:k<n:=by
    have h:(k:Int)<n:=of_decide_eq_true h6
    omega
   have e1:IntKind.i64.wrap (2 * (k:Int))=((2 * k:Nat):Int):=by rw[qe _ (by omega)];omega
   conv=>whnf
   rw[e1];refine .inv (Nat × (Nat->Nat)) (fun s=>s.1<=n/\∃ q,s.1=q * (2 * k)/\Mg (LL (ltC c)) k n q s.2) (fun s=>[(7,iV s.1),(8,iV (s.1+2 * k))]) (fun s=>[(0,rowP n z s.2)]) (fun s=>n - s.1) ⟨(0,p),[0,1,2],⟨pu _,0,(Nat.zero_mul _).symm,Mg.begin h3 h4 h5⟩,?_⟩ ?_
   ·conv=>whnf
    rw[oo];repeat'(first|exact ⟨⟩|exact rfl|exact qa _|exact .inr rfl|exact fun _ _=>rfl|exact noI|apply And.intro)
   intro s hs;obtain⟨g1,q,g2,g3⟩:=hs;conv=>whnf
   generalize s.1=a at g1 g2 ⊢;generalize s.2=p at g3 ⊢;refine⟨fun h7=>?_,fun h7=>?_⟩
   ·have h7:a+2 * k<=n:=by
     have h:((a+2 * k:Nat):Int)<=n:=of_decide_eq_true h7
     omega
    have e2:IntKind.i64.wrap ((a:Int)+(k:Int))=((a+k:Nat):Int):=by rw[qe _ (by omega)];omega
    have e3:IntKind.i64.wrap (((a+2 * k:Nat):Int)+((2 * k:Nat):Int))=((a+2 * k+2 * k:Nat):Int):=by rw[qe _ (by omega)];omega
    conv=>whnf
    rw[e2];refine .rel _ (yw4 n hn z c g nf zf fo hg hw (2 * k+1) p a (a+k) (a+2 * k) (by omega) g3.inj (by omega) (by omega) h7 (by rw[g2];exact g3.left (by omega)) (by rw[g2];exact g3.right (by omega) (by omega)) (by rw[g2];exact g3.sep (by omega) (by omega))) (fun r ks' hR=>?_)
    obtain⟨rfl,r,hr,rfl⟩:=hR;have hn2:Mg (LL (ltC c)) k n (q+1) r:=g3.next h1 h7 (by omega) (by omega) (by omega) (by rw[<-g2];exact hr)
    conv=>whnf
    rw[e1,e3];refine⟨(a+2 * k,r),[0,1,2],⟨h7,q+1,by show a+2 * k=(q+1) * (2 * k);rw[cw q (2 * k),<-g2],hn2⟩,by show n - (a+2 * k)<n - a;omega,?_⟩
    conv=>whnf
    repeat'(first|exact ⟨⟩|exact rfl|exact qa _|exact .inr rfl|exact fun _ _=>rfl|exact noI|apply And.intro)
   ·have h7:n<a+2 * k:=by
     have h:¬ ((a+2 * k:Nat):Int)<=n:=of_decide_eq_false h7
     omega
    have e2:IntKind.i64.wrap ((a:Int)+(k:Int))=((a+k:Nat):Int):=by rw[qe _ (by omega)];omega
    have e4:IntKind.i64.wrap ((k:Int) * 2)=((2 * k:Nat):Int):=by rw[qe _ (by omega)];omega
    conv=>whnf
    rw[e2];refine⟨fun h8=>?_,fun h8=>?_⟩
    ·have h8:a+k<n:=by
      have h:((a+k:Nat):Int)<n:=of_decide_eq_true h8
      omega
     conv=>whnf
     refine .rel _ (yw4 n hn z c g nf zf fo hg hw (2 * k+1) p a (a+k) n (by omega) g3.inj (by omega) h8 (pq _) (by rw[g2];exact g3.left (by omega)) (by rw[g2];exact g3.right (pq _) (by omega)) (by rw[g2];exact g3.sep (pq _) (by omega))) (fun r ks' hR=>?_)
     obtain⟨rfl,r,hr,rfl⟩:=hR;have hn2:Mg (LL (ltC c)) k n (q+1) r:=g3.next h1 (pq _) (by omega) (by omega) (by omega) (by rw[<-g2];exact hr)
     have ho:=hn2.over h1 (by rw[cw,<-g2];omega)
     conv=>whnf
     rw[e4];refine⟨(2 * k,r),[0,1,2],⟨show 0<2 * k by omega,show 2 * k<=20+2 * n by omega,hn2.inj,ho.1,ho.2⟩,by show n - 2 * k<n - k;omega,?_⟩
     conv=>whnf
     repeat'(first|exact ⟨⟩|exact rfl|exact qa _|exact .inr rfl|exact fun _ _=>rfl|exact noI|apply And.intro)
    ·have h8:n<=a+k:=by
      have h:¬ ((a+k:Nat):Int)<n:=of_decide_eq_false h8
      omega
     have ho:=g3.over h1 (by rw[<-g2];exact h8)
     conv=>whnf
     rw[e4];refine⟨(2 * k,p),[0,1,2],⟨show 0<2 * k by omega,show 2 * k<=20+2 * n by omega,g3.inj,ho.1,ho.2⟩,by show n - 2 * k<n - k;omega,?_⟩
     conv=>whnf
     repeat'(first|exact ⟨⟩|exact rfl|exact qa _|exact .inr rfl|exact fun _ _=>rfl|exact noI|apply And.intro)
  ·have h6:n<=k:=by
    have h:¬ (k:Int)<n:=of_decide_eq_false h6
    omega
   conv=>whnf
   refine⟨[0,1,2],_,_,rfl,rfl,?_,?_,rfl,p,h3,h5.all h6,rfl⟩
   ·exact rfl
   ·conv=>whnf
    repeat'(first|exact ⟨⟩|exact rfl|exact qa _|exact .inr rfl|exact fun _ _=>rfl|exact noI|apply And.intro)
theorem xh1(n:Nat)(hn:n<1152921504606846976)(z:Z)(c:Nat->Nat->Int)(g:FuncId)(nf:Nat)(zf:Z)(fo:Nat->List DV)(hg:qx8 g c n z nf zf fo)(hw:Weak n (ltC c)) :
 COk Tryz.prog 101 [.all 0,.fn g cCap] (rowP n z id :: ue nf zf fo) (fun s k=>s = .tup []/\∃ r,Inj n r/\Rise (LL (ltC c)) r 0 n/\k=rowP n z r :: ue nf zf fo):=by
 refine j7 (TT:=TT) (IN:=qh []) qk qj mixed 1000 Tryz.func101 rfl (qi Tryz.func101 (by kernel_rfl) rfl) 7 (by kernel_rfl) ?_
 conv=>whnf
 refine .rel _ (zq9 n hn z c g nf zf fo hg hw) (fun r ks' hR=>?_)
 obtain⟨rfl,r,hr,h2,rfl⟩:=hR;conv=>whnf
 refine⟨[0,1,2],_,_,rfl,rfl,?_,?_,rfl,r,hr,h2,rfl⟩
 ·exact rfl
 ·conv=>whnf
  repeat'(first|exact ⟨⟩|exact rfl|exact qa _|exact .inr rfl|exact fun _ _=>rfl|exact noI|apply And.intro)
def eCap:List SV:=[.ptr 1 0]
def jh8(nf:Nat)(zf:Z)(fo:Nat->List DV):List KB:=[.cells 165 [.fn 99 [.ptr 2 0]],.cells 45 [.all 3],.row 9 1 nf zf fo]
def EqOk(g:FuncId)(F:Nat->List UInt8)(n:Nat)(z:Z)(nf:Nat)(zf:Z)(fo:Nat->List DV):Prop :=
 ∀ (q:Nat->Nat) (x y:Nat),x<n->y<n->COk Tryz.prog g (iV x :: iV y :: eCap) (rowP n z q :: jh8 nf zf fo) (fun s k=>s = .d (.bool (decide (F x=F y)))/\k=rowP n z q :: jh8 nf zf fo)
def over(K:List Nat)(p:Nat->Nat):Nat->Nat:=fun i=>if i<K.length then K.getD i 0 else p i
theorem jc8{F:Nat->List UInt8}{p:Nat->Nat}:∀ k,(∀ i,0<i->i<k->F (p i)≠F (p (i - 1)))->kept F p k=(List.range k).map p
 |0=>fun _=>rfl
 |k+1=>fun h=>by
  unfold kept
  rw[jc8 k (fun i h1 h2=>h i h1 (by omega)),List.range_succ,fx]
  rw[if_pos]
  ·rfl
  ·rcases gw k with e|e
   ·exact .inl e
   ·exact .inr (h k e (by omega))
theorem xb6{p:Nat->Nat}(k:Nat):over ((List.range k).map p) p=p:=by
 funext i;unfold over
 rw[o4,cx];split
 ·rename_i h;simp[List.getD,d4 h]
 ·rfl
theorem xb5{F:Nat->List UInt8}{p:Nat->Nat}{m:Nat}(hne:F (p m)≠F (p (m - 1))):upd (over (kept F p m) p) (kept F p m).length (p m)=over (kept F p (m+1)) p:=by
 have e:kept F p (m+1)=kept F p m++[p m]:=by
  conv=>lhs;unfold kept
  rw[if_pos (.inr hne)]
 rw[e];funext i;unfold upd over
 simp only[p7,lq,ry]
 by_cases h1:i=(kept F p m).length
 ·rw[if_pos h1,if_pos (by omega),h1];simp[List.getD]
 ·rw[if_neg h1];by_cases h2:i<(kept F p m).length
  ·rw[if_pos h2,if_pos (by omega)];simp[List.getD,p9 h2]
  ·rw[if_neg h2,if_neg (by omega)]
theorem yk8{F:Nat->List UInt8}{p:Nat->Nat}{m:Nat}(h0:0<m)(he:F (p m)=F (p (m - 1))):kept F p (m+1)=kept F p m:=by
 conv=>lhs;unfold kept
 rw[if_neg];rintro (h|h)
 ·omega
 ·exact h he
theorem zp4(n:Nat)(hn:n<1152921504606846976)(z:Z)(F:Nat->List UInt8)(g:FuncId)(nf:Nat)(zf:Z)(fo:Nat->List DV)(hg:EqOk g F n z nf zf fo)(p:Nat->Nat)(hp:Inj n p) :
 COk Tryz.prog 102 [.all 0,.fn g eCap] (rowP n z p :: jh8 nf zf fo) (fun s k=>((s = .all 0/\(kept F p n).length=n)\/s = .row 0 0 (kept F p n).length)/\∃ q,(∀ i,i<(kept F p n).length->q i=(kept F p n).getD i 0)/\k=rowP n z q :: jh8 nf zf fo):=by
 refine j7 (TT:=TT) (IN:=qh []) qk qj mixed 1000 Tryz.func102 rfl (qi Tryz.func102 (by kernel_rfl) rfl) 64 (by kernel_rfl) ?_
 conv=>whnf
 refine⟨fun h2=>?_,fun h2=>?_⟩
 ·have h2:n<2:=by
   have h:(n:Int)<2:=of_decide_eq_true h2
   omega
  have hk:kept F p n=(List.range n).map p:=jc8 n (fun i x1 x2=>by omega)
  conv=>whnf
  refine⟨[0,1,2,3],_,_,rfl,rfl,?_,?_,.inl ⟨rfl,by rw[hk];simp⟩,p,fun i hi=>?_,rfl⟩
  ·exact rfl
  ·conv=>whnf
   repeat'(first|exact ⟨⟩|exact rfl|exact qa _|exact .inr rfl|exact fun _ _=>rfl|exact noI|apply And.intro)
  ·rw [hk] at hi ⊢;simp at hi
   simp[List.getD,d4 hi]
 have h2:2<=n:=by
  have h:¬ (n:Int)<2:=of_decide_eq_false h2
  omega
 conv=>whnf
 refine .inv Nat (fun k=>1<=k/\k<=n/\∀ i,0<i->i<k->F (p i)≠F (p (i - 1))) (fun k=>[(5,iV k)]) (fun k=>[]) (fun k=>n - k) ⟨1,[0,1,2,3],⟨by omega,by omega,fun i h1 h2=>by omega⟩,?_⟩ ?_
 ·conv=>whnf
  repeat'(first|exact ⟨⟩|exact rfl|exact qa _|exact .inr rfl|exact fun _ _=>rfl|exact noI|apply And.intro)
 intro k hk;obtain⟨k1,k2,k3⟩:=hk;conv=>whnf
 refine⟨fun h3=>?_,fun h3=>?_⟩
 ·have h3:k<n:=by
   have h:(k:Int)<n:=of_decide_eq_true h3
   omega
  have e1:IntKind.i64.wrap ((k:Int) - 1)=((k - 1:Nat):Int):=by rw[qe _ (by omega)];omega
  have e2:=w64s k (by omega)
  conv=>whnf
  refine⟨by omega,?_⟩
  conv=>whnf
  rw[e1];refine⟨by omega,?_⟩
  conv=>whnf
  rw[pp,pp];refine .mem _ _ (hg _ _ _ (hp.lt k h3) (hp.lt (k - 1) (by omega))) ?_
  conv=>whnf
  refine⟨fun h4=>?_,fun h4=>?_⟩
  ·have h4:F (p k)=F (p (k - 1)):=of_decide_eq_true h4
   have hk0:kept F p (k+1)=(List.range k).map p:=by rw[yk8 k1 h4,jc8 k k3]
   conv=>whnf
   refine⟨by omega,?_⟩
   conv=>whnf
   refine .inv Nat (fun j=>1<=j/\k+j<=n/\(kept F p (k+j)).length<k+j) (fun j=>[(5,iV (kept F p (k+j)).length),(7,iV j)]) (fun j=>[(0,rowP n z (over (kept F p (k+j)) p))]) (fun j=>n - j) ⟨1,[0,1,2,3],⟨by omega,by omega,by rw[hk0];simp⟩,?_⟩ ?_
   ·rw[hk0,xb6];conv=>whnf
    rw[o4,cx];repeat'(first|exact ⟨⟩|exact rfl|exact qa _|exact .inr rfl|exact fun _ _=>rfl|exact noI|apply And.intro)
   intro j hj;obtain⟨j1,j2,j3⟩:=hj;conv=>whnf
   refine⟨fun h5=>?_,fun h5=>?_⟩
   ·have e3:IntKind.i64.wrap ((j:Int) - 1)=((j - 1:Nat):Int):=by rw[qe _ (by omega)];omega
    have e4:=w64s j (by omega)
    have h5:k+j<n:=by
     have h:(j:Int)<(((n:Int) - k).toNat:Nat):=of_decide_eq_true h5
     omega
    have r1:over (kept F p (k+j)) p (k+j)=p (k+j):=by unfold over;rw[if_neg (by omega)]
    have r2:over (kept F p (k+j)) p (k+(j - 1))=p (k+j - 1):=by unfold over;rw[if_neg (by omega),show k+(j - 1)=k+j - 1 by omega]
    conv=>whnf
    refine⟨by omega,?_⟩
    conv=>whnf
    rw[e3];refine⟨by omega,?_⟩
    conv=>whnf
    rw[pp,pp,pp,r1,r2];refine .mem _ _ (hg _ _ _ (hp.lt (k+j) (by omega)) (hp.lt (k+j - 1) (by omega))) ?_
    conv=>whnf
    refine⟨fun h6=>?_,fun h6=>?_⟩
    ·have h6:F (p (k+j))≠F (p (k+j - 1)):=by
      have h7:(!(decide (F (p (k+j))=F (p (k+j - 1)))))=true:=h6
      simpa using h7
     have r3:over (kept F p (k+j)) p (k+j)=p (k+j):=r1
     have h8:(kept F p (k+(j+1))).length=(kept F p (k+j)).length+1:=by
      show(kept F p (k+j+1)).length=_
      conv=>lhs;unfold kept
      rw[if_pos (.inr h6)];simp
     have e5:IntKind.i64.wrap (((kept F p (k+j)).length:Int)+1)=(((kept F p (k+j)).length+1:Nat):Int):=by rw[qe _ (by omega)];omega
     conv=>whnf
     refine⟨by omega,?_⟩
     conv=>whnf
     rw[pp,r1];refine⟨by omega,?_⟩
     conv=>whnf
     rw[e4,e5];refine⟨j+1,[0,1,2,3],⟨by omega,by omega,?_⟩,by omega,?_⟩
     ·rw[h8];omega
     rw[h8];conv=>whnf
     repeat'(first|exact ⟨⟩|exact rfl|exact qa _|exact .inr rfl|exact fun _ _=>rfl|exact noI|apply And.intro)
     intro x hx;rw[pp];have h9:=qu1 (over (kept F p (k+j)) p) (kept F p (k+j)).length (p (k+j));rw [xb5 h6] at h9;exact congrFun h9 x
    ·have h6:F (p (k+j))=F (p (k+j - 1)):=by
      have h7:(!(decide (F (p (k+j))=F (p (k+j - 1)))))=false:=h6
      simpa using h7
     have h7:=yk8 (by omega) h6
     conv=>whnf
     rw[e4];refine⟨j+1,[0,1,2,3],⟨by omega,by omega,?_⟩,by omega,?_⟩
     ·show(kept F p (k+j+1)).length<k+j+1
      rw[h7];omega
     rw[show kept F p (k+(j+1))=kept F p (k+j) from h7];conv=>whnf
     repeat'(first|exact ⟨⟩|exact rfl|exact qa _|exact .inr rfl|exact fun _ _=>rfl|exact noI|apply And.intro)
   ·have h5:k+j=n:=by
     have h:¬ (j:Int)<(((n:Int) - k).toNat:Nat):=of_decide_eq_false h5
     omega
    rw [h5] at j3 ⊢;conv=>whnf
    refine⟨by omega,?_⟩
    conv=>whnf
    refine⟨by omega,?_⟩
    conv=>whnf
    refine⟨by omega,?_⟩
    conv=>whnf
    rw[pp];refine⟨[0,1,2,3],_,_,rfl,rfl,?_,?_,.inr rfl,fun i=>if i<(kept F p n).length then (kept F p n).getD i 0 else 0,fun i hi=>if_pos hi,rfl⟩
    ·exact rfl
    ·conv=>whnf
     repeat'(first|exact ⟨⟩|exact rfl|exact qa _|exact .inr rfl|exact fun _ _=>rfl|exact noI|apply And.intro)
     intro x hx;unfold midF over
     dsimp only
     by_cases hxk:x<(kept F p n).length
     ·rw[if_neg (by omega),if_pos hxk,if_pos hxk]
     ·rw[if_pos (by omega),if_neg hxk];rfl
  ·have h4:F (p k)≠F (p (k - 1)):=of_decide_eq_false h4
   conv=>whnf
   rw[e2];refine⟨k+1,[0,1,2,3],⟨by omega,by omega,fun i x1 x2=>?_⟩,by omega,?_⟩
   ·rcases pz i k with x|x
    ·exact k3 i x1 x
    ·rw[show i=k by omega];exact h4
   conv=>whnf
   repeat'(first|exact ⟨⟩|exact rfl|exact qa _|exact .inr rfl|exact fun _ _=>rfl|exact noI|apply And.intro)
 ·have h3:k=n:=by
   have h:¬ (k:Int)<n:=of_decide_eq_false h3
   omega
  subst h3;have hk:=jc8 k k3
  conv=>whnf
  refine⟨[0,1,2,3],_,_,rfl,rfl,?_,?_,.inl ⟨rfl,by rw[hk];simp⟩,p,fun i hi=>?_,rfl⟩
  ·exact rfl
  ·conv=>whnf
   repeat'(first|exact ⟨⟩|exact rfl|exact qa _|exact .inr rfl|exact fun _ _=>rfl|exact noI|apply And.intro)
  ·rw [hk] at hi ⊢;simp at hi
   simp[List.getD,d4 hi]
theorem yh1(a b:List UInt8):FnOk Tryz.prog 100 [.d (.str a),.d (.str b)] (.d (.int .i64 (Lib.compareBytes a b))):=by
 refine⟨qi Tryz.func100 (by kernel_rfl) rfl,fun M w vs _ hM hl hd=>?_⟩
 match vs,hl with
 |[v0,v1],_ =>
  have h0:=kq (hd 0 _ v0 rfl rfl)
  have h1:=kq (hd 1 _ v1 rfl rfl)
  subst h0 h1;refine(Try.strings_Compare ⟨a.toArray⟩ ⟨b.toArray⟩ w).mono ?_;rintro e w' ⟨rfl,rfl⟩;exact⟨_,rfl,Step.refl _ _,.d (by simpa using Rd.int _ _)⟩
def fT(fl:List (List UInt8))(i:Nat):List UInt8:=fl[i]?.getD []
theorem xk4(fl:List (List UInt8))(z zf:Z):qx8 99 (fun x y=>Lib.compareBytes (fT fl x) (fT fl y)) fl.length z fl.length zf (strs fl):=by
 intro q x y hx hy;refine j7 (TT:=TT) (IN:=qh []) qk qj mixed 1000 Tryz.func99 rfl (qi Tryz.func99 (by kernel_rfl) rfl) 12 (by kernel_rfl) ?_
 conv=>whnf
 refine⟨by omega,?_⟩
 conv=>whnf
 refine⟨by omega,?_⟩
 conv=>whnf
 rw[pp,pp];refine .data _ (yh1 _ _) rfl rfl ?_;conv=>whnf
 refine⟨[0,1,2],_,_,rfl,rfl,?_,?_,rfl,rfl⟩
 ·exact rfl
 ·conv=>whnf
  repeat'(first|exact ⟨⟩|exact rfl|exact qa _|exact .inr rfl|exact fun _ _=>rfl|exact noI|apply And.intro)
theorem xk3(fl:List (List UInt8))(z zf:Z):EqOk 103 (fT fl) fl.length z fl.length zf (strs fl):=by
 intro q x y hx hy;refine j7 (TT:=TT) (IN:=qh [(99,Tryz.f99,3)]) qk (jj qj Tryz.func99 (by kernel_rfl) (by kernel_rfl)) mixed 1000 Tryz.func103 rfl (qi Tryz.func103 (by kernel_rfl) rfl) 8 (by kernel_rfl) ?_
 conv=>whnf
 refine⟨by omega,?_⟩
 conv=>whnf
 refine⟨by omega,?_⟩
 conv=>whnf
 rw[pp,pp];refine .data _ (yh1 _ _) rfl rfl ?_;conv=>whnf
 rw[show(Lib.compareBytes (fl[x]?.getD []) (fl[y]?.getD []) == 0)=decide (fT fl x=fT fl y) by
  unfold fT
  rw[lw,beq_iff_eq,decide_eq_true_iff];exact qp5 _ _]
 refine⟨[0,1,2,3],_,_,rfl,rfl,?_,?_,rfl,rfl⟩
 ·exact rfl
 ·conv=>whnf
  repeat'(first|exact ⟨⟩|exact rfl|exact qa _|exact .inr rfl|exact fun _ _=>rfl|exact noI|apply And.intro)
def xf(a:Int)(l:List RR):Int:=l.foldl (fun a r=>if r.ttl<a then r.ttl else a) a
def wm(t:Int)(l:List RR):List (List UInt8):=(uh (qx t) (l.map (·.d))).take 64
def xx(l:List RR)(K:List Nat):List (List UInt8):=K.map fun i=>(l.getD i default).d
def yi(t:Int)(l:List RR):List (List UInt8):=l.map fun r=>qx t r.d
theorem ye7{F G:Nat->List UInt8}{p:Nat->Nat}:∀ n,(∀ i,i<n->F (p i)=G (p i))->kept F p n=kept G p n
 |0=>fun _=>rfl
 |n+1=>fun h=>by
  unfold kept
  rw[ye7 n (fun i hi=>h i (by omega)),h n (by omega),h (n - 1) (by omega)]
theorem zx2{t:Int}{l:List RR}{p:Nat->Nat}(hp:Inj l.length p)(hr:Rise (LL (ltF (fT (yi t l)))) p 0 l.length):xx l (kept (fT (yi t l)) p l.length)=uh (qx t) (l.map (·.d)):=by
 have hF:∀ i,i<l.length->fT (yi t l) i=qx t ((l.map (·.d))[i]?.getD []):=fun i hi=>by
  simp[fT,yi,o9,pn hi]
 have hxl:(l.map (·.d)).length=l.length:=by simp
 have h1:=zh6 (F:=qx t) (xs:=l.map (·.d)) (p:=p) (hxl ▸ hp) (by
  rw[hxl];intro i j hi hij hj;have:=hr i j hi hij hj
  unfold LL ltF at this ⊢
  rw [hF _ (hp.lt i (by omega)),hF _ (hp.lt j hj)] at this
  exact this)
 have h2:=jb4 (qx t) (l.map (·.d))
 rw[h1.uniq h2 |>.symm];rw[hxl,<-ye7 (F:=fT (yi t l)) (G:=fun i=>qx t ((l.map (·.d))[i]?.getD [])) l.length (fun i hi=>hF _ (hp.lt i hi))]
 unfold xx
 apply List.map_congr_left;intro a ha;obtain⟨i,hi,e,_⟩:=(jb0 hp hr l.length (pq _)).2.1 a ha;have:=hp.lt i hi;rw[e];simp[List.getD,o9,pn this]
theorem yf9{l:List RR}{K:List Nat}{j:Nat}(h:j<K.length):xx l (K.take (j+1))=xx l (K.take j)++[(l.getD (K.getD j 0) default).d]:=by
 have e:K.take (j+1)=K.take j++[K.getD j 0]:=by
  rw[mr,List.getD,pn h];rfl
 rw[e];unfold xx
 rw[fx];rfl
theorem xf4(nm:List UInt8)(t:Int)(z:Bool)(l:List RR)(h0:0<l.length)(hn:l.length<=100000):FnOk Tryz.prog 63 [.d (.str nm),.d (.int .u16 t),.d (rrsD z l)] (setV nm t (xf (l.getD 0 default).ttl l) false (wm t l)):=by
 refine qp (TT:=TT) (IN:=qh []) qk qj mixed 1000 Tryz.func63 rfl (qi Tryz.func63 (by kernel_rfl) rfl) rfl 79 (by kernel_rfl) ?_
 conv=>whnf
 refine⟨by omega,?_⟩
 conv=>whnf
 refine⟨⟨by omega,by omega,by show(l.length:Int) * 16<=_;omega,by omega⟩,?_⟩
 conv=>whnf
 refine⟨⟨by omega,by omega,by show(l.length:Int) * 8<=_;omega,by omega⟩,?_⟩
 conv=>whnf
 refine .inv Nat (fun i=>i<=l.length) (fun i=>[(30,iV i),(9,.all 4),(24,.any),(27,.any)]) (fun i=>[(1,.cells 47 [.d (.str nm),.d (.int .u16 t),.d (.int .u32 (xf (l.getD 0 default).ttl (l.take i))),nilS]),(2,.row 9 1 i .no (strs (yi t (l.take i)))),(4,rowP i .no id)]) (fun i=>l.length - i) ⟨0,[0,1,2,3,4],pu _,?_⟩ ?_
 ·conv=>whnf
  repeat'(first|exact ⟨⟩|exact rfl|exact qa _|exact .inr rfl|exact fun _ _=>rfl|exact noI|apply And.intro)
 intro i hi;conv=>whnf
 refine⟨fun h1=>?_,fun h1=>?_⟩
 ·have h1:i<l.length:=by
   have h:(i:Int)<l.length:=of_decide_eq_true h1
   omega
  obtain⟨r,hr⟩:∃ r,l.getD i default=r:=⟨_,rfl⟩;conv=>whnf
  refine⟨by omega,?_⟩
  conv=>whnf
  refine .data _ (qt8 t _) rfl rfl ?_;conv=>whnf
  refine⟨by omega,?_⟩
  conv=>whnf
  refine⟨by omega,?_⟩
  conv=>whnf
  rw[show IntKind.i64.wrap ((i:Int)+1)=((i+1:Nat):Int) by rw[qe _ (by omega)];omega]
  rw[pp,hr];refine⟨i+1,[0,1,7,3,9],h1,by omega,?_⟩
  have htk:l.take (i+1)=l.take i++[r]:=by rw[mr,<-hr,List.getD,pn h1];rfl
  have hmin:xf (l.getD 0 default).ttl (l.take (i+1))=(if r.ttl<xf (l.getD 0 default).ttl (l.take i) then r.ttl else xf (l.getD 0 default).ttl (l.take i)):=by
   rw[htk];unfold xf;rw[List.foldl_append];rfl
  have hfo:yi t (l.take (i+1))=yi t (l.take i)++[qx t r.d]:=by rw[htk];simp[yi]
  have hfl:(yi t (l.take i)).length=i:=by simp[yi];omega
  rw[hmin,hfo];conv=>whnf
  repeat'(first|exact ⟨⟩|exact rfl|exact qa _|exact .inr rfl|exact fun _ _=>rfl|exact noI|apply And.intro)
  ·intro x hx;have:=kp (yi t (l.take i)) (qx t r.d) (jd [DV.str (qx t r.d)] 1) rfl x (by omega)
   rw [hfl] at this;exact this
  ·intro x hx;show catF i (fun i=>cel i) _ x=cel x
   unfold catF
   by_cases hxi:x<i
   ·rw[if_pos hxi]
   ·have:x=i:=by omega
    subst this;rw[if_neg hxi,dq];rfl
 ·have h1:i=l.length:=by
   have h:¬ (i:Int)<l.length:=of_decide_eq_false h1
   omega
  subst h1;rw[mz];have hfl:(yi t l).length=l.length:=by simp[yi]
  have hw:=xc1 l.length (fT (yi t l))
  have hlt:ltC (fun x y=>Lib.compareBytes (fT (yi t l) x) (fT (yi t l) y))=ltF (fT (yi t l)):=by
   funext x y
   unfold ltC ltF
   rw[lw,decide_eq_true_iff];exact ql8 _ _
  have hc1:=xk4 (yi t l) .no .no
  have hc2:=xk3 (yi t l) .no .no
  rw [hfl] at hc1 hc2;have hsort:=xh1 l.length (by omega) .no _ _ _ _ _ hc1 (by rw[hlt];exact hw)
  rw [hlt] at hsort;conv=>whnf
  refine .rel _ (COk.frameX hsort [4,3,2] rfl rfl rfl) (fun r ks' hR=>?_)
  obtain⟨_,_,⟨rfl,p,hp,hrise,rfl⟩,rfl,hk0⟩:=hR;have hk:ks'=[.cells 47 [.d (.str []),.d (.int .u16 0),.d (.int .u32 0),nilS],.cells 47 [.d (.str nm),.d (.int .u16 t),.d (.int .u32 (xf (l.getD 0 default).ttl l)),nilS],.row 9 1 l.length .no (strs (yi t l)),.cells 45 [.all 2],rowP l.length .no p,.cells 165 [.fn 99 [.ptr 3 0]]]:=hk0;clear hk0;subst hk;conv=>whnf
  refine .rel _ (COk.frameX (zp4 l.length (by omega) .no _ _ _ _ _ hc2 p hp) [4,5,3,2] rfl rfl rfl) (fun r ks' hR=>?_)
  obtain⟨_,_,⟨hres,q,hq,rfl⟩,hr,hk0⟩:=hR;have hk:ks'=[.cells 47 [.d (.str []),.d (.int .u16 0),.d (.int .u32 0),nilS],.cells 47 [.d (.str nm),.d (.int .u16 t),.d (.int .u32 (xf (l.getD 0 default).ttl l)),nilS],.row 9 1 l.length .no (strs (yi t l)),.cells 45 [.all 2],rowP l.length .no q,.cells 165 [.fn 99 [.ptr 3 0]]]:=hk0;clear hk0;subst hk;have hkl:=yv1 (fT (yi t l)) p l.length;have hKlt:∀ j,j<(kept (fT (yi t l)) p l.length).length->(kept (fT (yi t l)) p l.length).getD j 0<l.length:=fun j hj=>by
   have hs:=(jb0 hp hrise l.length (pq _)).2.1 _ (d5 hj)
   obtain⟨i,hi,e,_⟩:=hs;rw[List.getD,pn hj];show(kept (fT (yi t l)) p l.length)[j]<l.length;rw[e];exact hp.lt i hi
  have hlaw:=zx2 hp hrise
  have hpos:=yq4 (fT (yi t l)) p l.length h0
  generalize hK:kept (fT (yi t l)) p l.length=K at hres hq hkl hKlt hlaw hpos;have hlaw2:xx l (K.take 64)=wm t l:=by unfold wm;rw[<-hlaw];unfold xx;rw[List.map_take]
  have hr2:(r = .all 4/\K.length=l.length)\/r = .row 4 0 K.length:=by
   rcases hres with⟨e,h⟩|e
   ·subst e;exact .inl ⟨hr,h⟩
   ·subst e;exact .inr hr
  clear hr hres hc1 hc2 hsort;rcases hr2 with⟨rfl,hres⟩|rfl
  ·conv=>whnf
   have em:(if (64:Int)<(l.length:Int) then (64:Int) else (l.length:Int))=((min K.length 64:Nat):Int):=by split <;> omega
   rw[em];refine⟨by omega,?_⟩
   conv=>whnf
   refine .nilC 1 3 9 1 (strs []) _ _ _ _ rfl rfl ?_;conv=>whnf
   refine .inv Nat (fun j=>j<=min K.length 64) (fun j=>[(66,iV j)]) (fun j=>[(1,.cells 47 [.d (.str nm),.d (.int .u16 t),.d (.int .u32 (xf (l.getD 0 default).ttl l)),.all 6]),(6,.row 9 1 j .iff (strs (xx l (K.take j))))]) (fun j=>min K.length 64 - j) ⟨0,[0,1,2,3,4,5,6],pu _,?_⟩ ?_
   ·conv=>whnf
    repeat'(first|exact ⟨⟩|exact rfl|exact qa _|exact .inr rfl|exact fun _ _=>rfl|exact noI|apply And.intro)
   intro j hj;conv=>whnf
   refine⟨fun h1=>?_,fun h1=>?_⟩
   ·have h1:j<min K.length 64:=by
     have h:(j:Int)<((min K.length 64:Nat):Int):=of_decide_eq_true h1
     omega
    have hqj:=hq j (by omega)
    have hlt:=hKlt j (by omega)
    rw [<-hqj] at hlt;conv=>whnf
    refine⟨by omega,?_⟩
    conv=>whnf
    first
     |rw[show 0+Int.toNat 0+(j:Int).toNat=j by simp]
     |rw[show Int.toNat 0+(j:Int).toNat=j by simp]
    generalize q j=v at hlt hqj ⊢;refine⟨by omega,?_⟩
    conv=>whnf
    refine⟨by omega,?_⟩
    conv=>whnf
    rw[show IntKind.i64.wrap ((j:Int)+1)=((j+1:Nat):Int) by rw[qe _ (by omega)];omega]
    rw[pp,hqj];have hdt:=yf9 (l:=l) (K:=K) (j:=j) (by omega)
    have hdl:(xx l (K.take j)).length=j:=by unfold xx;simp;omega
    refine⟨j+1,[0,1,2,3,4,5,8],h1,by omega,?_⟩
    rw[hdt];conv=>whnf
    repeat'(first|exact ⟨⟩|exact rfl|exact qa _|exact .inr rfl|exact fun _ _=>rfl|exact noI|apply And.intro)
    intro x hx;have:=kp (xx l (K.take j)) ((l.getD (K.getD j 0) default).d) (jd [DV.str (l.getD (K.getD j 0) default).d] 1) rfl x (by omega)
    rw [hdl] at this;exact this
   ·have h1:j=min K.length 64:=by
     have h:¬ (j:Int)<((min K.length 64:Nat):Int):=of_decide_eq_false h1
     omega
    have htk:K.take j=K.take 64:=by
     rw[h1];rcases Nat.le_total K.length 64 with x|x
     ·rw[ax x,mz,gt x]
     ·rw[Nat.min_eq_right x]
    rw[htk,hlaw2];have hbl:(wm t l).length=j:=by rw[<-hlaw2];unfold xx;simp;omega
    have hj0:0<j:=by omega
    rw [<-hbl] at hj0 ⊢;conv=>whnf
    repeat'(first|exact ⟨⟩|exact rfl|exact .inr rfl|exact .inl rfl|exact fun _ _=>rfl|exact noI|apply And.intro)
    ·generalize (wm t l).length=k at hj0;cases k with
     |zero=>omega
     |succ k=>rfl
    try exact .inr rfl
    try exact fun _ _=>rfl
  ·conv=>whnf
   have em:(if (64:Int)<(K.length:Int) then (64:Int) else (K.length:Int))=((min K.length 64:Nat):Int):=by split <;> omega
   rw[em];refine⟨by omega,?_⟩
   conv=>whnf
   refine .nilC 1 3 9 1 (strs []) _ _ _ _ rfl rfl ?_;conv=>whnf
   refine .inv Nat (fun j=>j<=min K.length 64) (fun j=>[(66,iV j)]) (fun j=>[(1,.cells 47 [.d (.str nm),.d (.int .u16 t),.d (.int .u32 (xf (l.getD 0 default).ttl l)),.all 6]),(6,.row 9 1 j .iff (strs (xx l (K.take j))))]) (fun j=>min K.length 64 - j) ⟨0,[0,1,2,3,4,5,6],pu _,?_⟩ ?_
   ·conv=>whnf
    repeat'(first|exact ⟨⟩|exact rfl|exact qa _|exact .inr rfl|exact fun _ _=>rfl|exact noI|apply And.intro)
   intro j hj;conv=>whnf
   refine⟨fun h1=>?_,fun h1=>?_⟩
   ·have h1:j<min K.length 64:=by
     have h:(j:Int)<((min K.length 64:Nat):Int):=of_decide_eq_true h1
     omega
    have hqj:=hq j (by omega)
    have hlt:=hKlt j (by omega)
    rw [<-hqj] at hlt;conv=>whnf
    refine⟨by omega,?_⟩
    conv=>whnf
    first
     |rw[show 0+Int.toNat 0+(j:Int).toNat=j by simp]
     |rw[show Int.toNat 0+(j:Int).toNat=j by simp]
    generalize q j=v at hlt hqj ⊢;refine⟨by omega,?_⟩
    conv=>whnf
    refine⟨by omega,?_⟩
    conv=>whnf
    rw[show IntKind.i64.wrap ((j:Int)+1)=((j+1:Nat):Int) by rw[qe _ (by omega)];omega]
    rw[pp,hqj];have hdt:=yf9 (l:=l) (K:=K) (j:=j) (by omega)
    have hdl:(xx l (K.take j)).length=j:=by unfold xx;simp;omega
    refine⟨j+1,[0,1,2,3,4,5,8],h1,by omega,?_⟩
    rw[hdt];conv=>whnf
    repeat'(first|exact ⟨⟩|exact rfl|exact qa _|exact .inr rfl|exact fun _ _=>rfl|exact noI|apply And.intro)
    intro x hx;have:=kp (xx l (K.take j)) ((l.getD (K.getD j 0) default).d) (jd [DV.str (l.getD (K.getD j 0) default).d] 1) rfl x (by omega)
    rw [hdl] at this;exact this
   ·have h1:j=min K.length 64:=by
     have h:¬ (j:Int)<((min K.length 64:Nat):Int):=of_decide_eq_false h1
     omega
    have htk:K.take j=K.take 64:=by
     rw[h1];rcases Nat.le_total K.length 64 with x|x
     ·rw[ax x,mz,gt x]
     ·rw[Nat.min_eq_right x]
    rw[htk,hlaw2];have hbl:(wm t l).length=j:=by rw[<-hlaw2];unfold xx;simp;omega
    have hj0:0<j:=by omega
    rw [<-hbl] at hj0 ⊢;conv=>whnf
    repeat'(first|exact ⟨⟩|exact rfl|exact .inr rfl|exact .inl rfl|exact fun _ _=>rfl|exact noI|apply And.intro)
    ·generalize (wm t l).length=k at hj0;cases k with
     |zero=>omega
     |succ k=>rfl
    try exact .inr rfl
    try exact fun _ _=>rfl
def ju(r:RR):Bool:=r.cl == 1 && r.check
def yw7(z:Bool)(l:List RR):SV:=.fn 98 [.dptr [rrsD z l] 0]
theorem zr0(z:Bool)(l:List RR):FnOk Tryz.prog 62 [.d (rrsD z l)] (yw7 z l):=by
 refine COk.clos (t:=38) ?_;refine j7 (TT:=TT) (IN:=qh []) qk qj mixed 1000 Tryz.func62 rfl (qi Tryz.func62 (by kernel_rfl) rfl) 3 (by kernel_rfl) ?_
 conv=>whnf
 refine⟨[0],.fn 98 [.ptr 0 0],[.cells 38 [.d (rrsD z l)]],rfl,rfl,rfl,?_,rfl,rfl⟩;repeat'(first|exact ⟨⟩|exact rfl|exact fun _=>Iff.rfl|exact fun _ _=>rfl|exact renM_ent rfl _|apply And.intro)
def rrs(l:List RR):Nat->List DV:=fun i=>(l.getD i default).enc
theorem zp5(z:Bool)(l:List RR)(hn:l.length<=100000):FnOk Tryz.prog 61 [yw7 z l] (.d (rrsD (l.filter ju).isEmpty (l.filter ju))):=by
 refine qp (TT:=TT) (IN:=qh [(97,Tryz.f97,2),(98,Tryz.f98,2)]) qk (jj (jj qj Tryz.func98 (by kernel_rfl) (by kernel_rfl)) Tryz.func97 (by kernel_rfl) (by kernel_rfl)) mixed 1000 Tryz.func61 rfl (qi Tryz.func61 (by kernel_rfl) rfl) rfl 4 (by kernel_rfl) ?_
 conv=>whnf
 refine .nilC 0 0 94 5 (rrs []) _ _ _ _ rfl rfl ?_;conv=>whnf
 refine .inv Nat (fun i=>i<=l.length) (fun i=>[(7,iV i)]) (fun i=>[(2,.row 94 5 ((l.take i).filter ju).length .iff (rrs ((l.take i).filter ju)))]) (fun i=>l.length - i) ⟨0,[0,1,2],pu _,?_⟩ ?_
 ·conv=>whnf
  repeat'(first|exact ⟨⟩|exact rfl|exact qa _|exact .inr rfl|exact fun _ _=>rfl|exact noI|apply And.intro)
 intro i hi;conv=>whnf
 refine⟨fun h1=>?_,fun h1=>?_⟩
 ·have h1:i<l.length:=by
   have h:(i:Int)<l.length:=of_decide_eq_true h1
   omega
  obtain⟨r,hr⟩:∃ r,l.getD i default=r:=⟨_,rfl⟩;have htk:l.take (i+1)=l.take i++[r]:=by rw[mr,<-hr,List.getD,pn h1];rfl
  have hw1:=w64s i (by omega)
  conv=>whnf
  refine⟨by omega,?_⟩
  conv=>whnf
  rw[pp,hr];refine⟨fun h2=>?_,fun h2=>?_⟩
  ·have hb:ju r=false:=by unfold ju;rw[show(r.cl == 1)=false by simpa using h2];rfl
   have hf:(l.take (i+1)).filter ju=(l.take i).filter ju:=by rw[htk,f8];simp[hb]
   conv=>whnf
   rw[hw1];refine⟨i+1,[0,1,2],h1,by omega,?_⟩
   rw[hf];conv=>whnf
   repeat'(first|exact ⟨⟩|exact rfl|exact qa _|exact .inr rfl|exact fun _ _=>rfl|exact noI|apply And.intro)
  ·have hcl:(r.cl == 1)=true:=by simpa using h2
   conv=>whnf
   refine od (qy8 r) rfl rfl ?_;conv=>whnf
   cases hck:r.check with
   |false =>
    have hb:ju r=false:=by unfold ju;rw[hck,lr]
    have hf:(l.take (i+1)).filter ju=(l.take i).filter ju:=by rw[htk,f8];simp[hb]
    refine brT rfl ?_;conv=>whnf
    rw[hw1];refine⟨i+1,[0,1,2],h1,by omega,?_⟩
    rw[hf];conv=>whnf
    repeat'(first|exact ⟨⟩|exact rfl|exact qa _|exact .inr rfl|exact fun _ _=>rfl|exact noI|apply And.intro)
   |true =>
    have hb:ju r=true:=by unfold ju;rw[hck,hcl];rfl
    have hf:(l.take (i+1)).filter ju=(l.take i).filter ju++[r]:=by rw[htk,f8];simp[hb]
    have hll:((l.take i).filter ju).length<=100000:=o7 (fq _ _) (by simp;omega)
    refine brF rfl ?_;conv=>whnf
    refine⟨by omega,?_⟩
    conv=>whnf
    rw[hw1];refine⟨i+1,[0,1,6],h1,by omega,?_⟩
    rw[hf];conv=>whnf
    repeat'(first|exact ⟨⟩|exact rfl|exact qa _|exact .inr rfl|exact fun _ _=>rfl|exact noI|apply And.intro)
    ·rw[p7];rfl
    ·exact fun x hx=>jg0 _ r x hx
 ·have h1:i=l.length:=by
   have h:¬ (i:Int)<l.length:=of_decide_eq_false h1
   omega
  subst h1;rw[mz];conv=>whnf
  refine⟨?_,rfl,.inr rfl,fun _ _=>rfl⟩
  cases l.filter ju <;> rfl
structure St where
 nm:List UInt8
 ty:Int
 ttl:Int
 z:Bool
 data:List (List UInt8)
def St.no:St:=⟨[],0,0,true,[]⟩
instance:Inhabited St:=⟨St.no⟩
def St.V(s:St):SV:=setV s.nm s.ty s.ttl s.z s.data
def jy(nm:List UInt8)(t:Int)(r:RR):Bool:=r.ty == t && (r.nm.length == nm.length && fold r.nm == fold nm)
def qv(nm:List UInt8)(t:Int)(l:List RR):List RR:=(l.filter (jy nm t)).filter ju
def qh4(nm:List UInt8)(t:Int)(l:List RR):St:=⟨nm,t,xf (l.getD 0 default).ttl l,false,wm t l⟩
def qc(nm:List UInt8)(t:Int)(l:List RR):St × Int:=if qb nm then (if (qv nm t l).isEmpty then (St.no,3) else (qh4 nm t (qv nm t l),0)) else (St.no,3)
theorem qp2(nm:List UInt8)(t:Int)(z:Bool)(l:List RR)(hn:l.length<=100000)(hnm:nm.length<=100000)(hl:∀ r ∈ l,r.nm.length<=100000):FnOk Tryz.prog 32 [.d (.str nm),.d (.int .u16 t),.d (rrsD z l)] (.tup [(qc nm t l).1.V,.d (.int .i64 (qc nm t l).2)]):=by
 refine qp (TT:=TT) (IN:=qh [(60,Tryz.f60,4)]) qk (jj qj Tryz.func60 (by kernel_rfl) (by kernel_rfl)) mixed 1000 Tryz.func32 rfl (qi Tryz.func32 (by kernel_rfl) rfl) rfl 42 (by kernel_rfl) ?_
 conv=>whnf
 refine od (zw nm) rfl rfl ?_;by_cases hnn:qb nm
 ·rw[if_pos hnn];have hsp:qc nm t l=if (qv nm t l).isEmpty then (St.no,3) else (qh4 nm t (qv nm t l),0):=if_pos hnn;rw[hsp];conv=>whnf
  refine brF rfl ?_;conv=>whnf
  refine od (zx nm (by omega)) rfl rfl ?_
  conv=>whnf
  refine .nilT 10 94 5 (rrs []) _ _ rfl ?_;conv=>whnf
  refine .inv Nat (fun i=>i<=l.length) (fun i=>[(22,iV i),(10,.all 4)]) (fun i=>[(4,.row 94 5 ((l.take i).filter (jy nm t)).length .iff (rrs ((l.take i).filter (jy nm t))))]) (fun i=>l.length - i) ⟨0,[0,1,2,3,4],pu _,?_⟩ ?_
  ·conv=>whnf
   repeat'(first|exact ⟨⟩|exact rfl|exact qa _|exact .inr rfl|exact fun _ _=>rfl|exact noI|apply And.intro)
  intro i hi;conv=>whnf
  refine⟨fun h1=>?_,fun h1=>?_⟩
  ·have h1:i<l.length:=by
    have h:(i:Int)<l.length:=of_decide_eq_true h1
    omega
   obtain⟨r,hr⟩:∃ r,l.getD i default=r:=⟨_,rfl⟩;have hrl:l[i]? = some r:=by rw[<-hr,List.getD,pn h1];rfl
   have hrn:=hl r (py hrl)
   have htk:l.take (i+1)=l.take i++[r]:=by rw[mr,hrl];rfl
   have hw1:=w64s i (by omega)
   conv=>whnf
   refine⟨by omega,?_⟩
   conv=>whnf
   rw[pp,hr];refine⟨fun h2=>?_,fun h2=>?_⟩
   ·conv=>whnf
    refine⟨fun h3=>?_,fun h3=>?_⟩
    ·conv=>whnf
     refine .data _ (zx r.nm (by omega)) rfl rfl ?_
     conv=>whnf
     refine⟨fun h4=>?_,fun h4=>?_⟩
     ·have hb:jy nm t r=true:=by
       unfold jy
       rw [qq9] at h3;rw [h2,h3,h4];rfl
      have hf:(l.take (i+1)).filter (jy nm t)=(l.take i).filter (jy nm t)++[r]:=by rw[htk,f8];simp[hb]
      have hll:((l.take i).filter (jy nm t)).length<=100000:=o7 (fq _ _) (by simp;omega)
      conv=>whnf
      refine⟨by omega,?_⟩
      conv=>whnf
      rw[hw1];refine⟨i+1,[0,1,2,3,8],h1,by omega,?_⟩
      rw[hf];conv=>whnf
      repeat'(first|exact ⟨⟩|exact rfl|exact qa _|exact .inr rfl|exact fun _ _=>rfl|exact noI|apply And.intro)
      ·rw[p7];rfl
      ·exact fun x hx=>jg0 _ r x hx
     ·have hb:jy nm t r=false:=by
       unfold jy
       rw[h4,lr,lr]
      have hf:(l.take (i+1)).filter (jy nm t)=(l.take i).filter (jy nm t):=by rw[htk,f8];simp[hb]
      conv=>whnf
      repeat(first|(refine brF rfl ?_;conv=>whnf))
      rw[hw1];refine⟨i+1,[0,1,2,3,4],h1,by omega,?_⟩
      rw[hf];conv=>whnf
      repeat'(first|exact ⟨⟩|exact rfl|exact qa _|exact .inr rfl|exact fun _ _=>rfl|exact noI|apply And.intro)
    ·have hb:jy nm t r=false:=by
      unfold jy
      rw [qq9] at h3;rw [h3,lz,lr]
     have hf:(l.take (i+1)).filter (jy nm t)=(l.take i).filter (jy nm t):=by rw[htk,f8];simp[hb]
     conv=>whnf
     repeat(first|(refine brF rfl ?_;conv=>whnf))
     rw[hw1];refine⟨i+1,[0,1,2,3,4],h1,by omega,?_⟩
     rw[hf];conv=>whnf
     repeat'(first|exact ⟨⟩|exact rfl|exact qa _|exact .inr rfl|exact fun _ _=>rfl|exact noI|apply And.intro)
   ·have hb:jy nm t r=false:=by
     unfold jy
     rw[h2,lz]
    have hf:(l.take (i+1)).filter (jy nm t)=(l.take i).filter (jy nm t):=by rw[htk,f8];simp[hb]
    conv=>whnf
    repeat(first|(refine brF rfl ?_;conv=>whnf))
    rw[hw1];refine⟨i+1,[0,1,2,3,4],h1,by omega,?_⟩
    rw[hf];conv=>whnf
    repeat'(first|exact ⟨⟩|exact rfl|exact qa _|exact .inr rfl|exact fun _ _=>rfl|exact noI|apply And.intro)
  ·have h1:i=l.length:=by
    have h:¬ (i:Int)<l.length:=of_decide_eq_false h1
    omega
   subst h1;rw[mz];have hfl:(l.filter (jy nm t)).length<=100000:=o7 (fq _ _) hn;have hpl:(qv nm t l).length<=100000:=o7 (fq _ _) hfl;conv=>whnf
   refine .one (.frz _ _ [4] (zr0 (Nat.beq (l.filter (jy nm t)).length 0) (l.filter (jy nm t))) ?_ rfl rfl ?_)
   ·conv=>whnf
    exact⟨rfl,rfl⟩
   conv=>whnf
   refine od (zp5 _ (l.filter (jy nm t)) hfl) rfl rfl ?_;rw[show(l.filter (jy nm t)).filter ju=qv nm t l from rfl];generalize qv nm t l=m at hpl ⊢;cases m with
   |nil =>
    conv=>whnf
    refine brT rfl ?_;conv=>whnf
    repeat'(first|exact ⟨⟩|exact rfl|exact .inr rfl|exact .inl rfl|exact fun _ _=>rfl|exact noI|apply And.intro)
   |cons r m =>
    conv=>whnf
    refine brF rfl ?_;conv=>whnf
    refine od (xf4 nm t false (r :: m) (by simp) hpl) rfl rfl ?_
    conv=>whnf
    repeat'(first|exact ⟨⟩|exact rfl|exact .inr rfl|exact .inl rfl|exact fun _ _=>rfl|exact noI|apply And.intro)
 ·rw[if_neg hnn];have hsp:qc nm t l=(St.no,3):=if_neg hnn;rw[hsp];conv=>whnf
  refine brT rfl ?_;conv=>whnf
  repeat'(first|exact ⟨⟩|exact rfl|exact .inr rfl|exact .inl rfl|exact fun _ _=>rfl|exact noI|apply And.intro)
theorem yt7{a b:List (List UInt8)}(h:a.length≠b.length):(a == b)=false:=by
 cases e:a == b
 ·rfl
 ·exact absurd (congrArg List.length (eq_of_beq e)) h
def texD(z:Bool)(l:List (List UInt8)):DV:=.sl z l.length 1 (strs l)
theorem xl2(y z:Bool)(a b:List (List UInt8))(ha:a.length<4611686018427387904)(hb:b.length<4611686018427387904):FnOk Tryz.prog 133 [.d (texD y a),.d (texD z b)] (.d (.bool (a == b))):=by
 refine qp (TT:=TT) (IN:=qh []) qk qj mixed 1000 Tryz.func133 rfl (qi Tryz.func133 (by kernel_rfl) rfl) rfl 24 (by kernel_rfl) ?_
 conv=>whnf
 refine⟨fun h1=>?_,fun h1=>?_⟩
 ·have h:a.length≠b.length:=by intro e;rw [e] at h1;simp at h1
  rw[yt7 h];conv=>whnf
  first|done|exact rfl
 have hl:a.length=b.length:=by simp at h1;omega
 conv=>whnf
 refine .inv Nat (fun i=>i<=a.length/\(a.drop i == b.drop i)=(a == b)) (fun i=>[(13,.d (.int .i64 i))]) (fun _=>[]) (fun i=>a.length - i) ⟨0,[],⟨pu _,rfl⟩,?_⟩ ?_
 ·conv=>whnf
  repeat'(first|exact ⟨⟩|exact rfl|exact fun _=>Iff.rfl|exact fun _ _=>rfl|exact renM_ent rfl _|apply And.intro)
 rintro i ⟨hi,hrest⟩
 conv=>whnf
 refine⟨fun c5=>?_,fun c5=>?_⟩
 ·have c5':i<a.length:=(by have h:(i:Int)<a.length:=of_decide_eq_true c5;omega)
  conv=>whnf
  refine⟨by omega,?_⟩
  conv=>whnf
  refine⟨by omega,?_⟩
  conv=>whnf
  obtain⟨q,hq⟩:∃ q,a[i]?.getD []=q:=⟨_,rfl⟩;obtain⟨r,hr⟩:∃ r,b[i]?.getD []=r:=⟨_,rfl⟩;rw[pp,hq,hr];have hda:a.drop i=q :: a.drop (i+1):=by
   rw[ly c5',<-hq,pn c5'];rfl
  have hdb:b.drop i=r :: b.drop (i+1):=by
   rw[ly (by omega),<-hr,pn (by omega)]
   rfl
  have hst:(q == r && a.drop (i+1) == b.drop (i+1))=(a == b):=by rw[<-hrest,hda,hdb];rfl
  cases he:q == r
  ·rw [he,lz] at hst;rw[<-hst];refine brT rfl ?_;conv=>whnf
   first|done|exact rfl
  ·rw [he,m6] at hst;refine brF rfl ?_;conv=>whnf
   have hw1:=w64s i (by omega)
   refine⟨i+1,[],⟨c5',hst⟩,by omega,?_⟩
   conv=>whnf
   rw[hw1];repeat'(first|exact ⟨⟩|exact rfl|exact fun _=>Iff.rfl|exact fun _ _=>rfl|exact renM_ent rfl _|apply And.intro)
 have hia:i=a.length:=(by have h:¬ (i:Int)<a.length:=of_decide_eq_false c5;omega)
 rw [sv (by omega),sv (by omega)] at hrest
 rw[<-hrest];conv=>whnf
 exact rfl
def St.ok(s:St):Bool:=x6 s.nm s.ty s.ttl s.data
def plsZ(l:List (List UInt8)):Nat->List DV:=fun j=>plW (l.getD j default)
def nmsZ(l:List (List UInt8)):List (List UInt8):=l.filter fun n=>decide (qb n)
theorem xb0(l:List (List UInt8))(r:List UInt8):∀ i,i<l.length+1->catF l.length (plsZ l) (jd (plW r) 2) i=plsZ (l++[r]) i:=fun i hi=>by
 unfold catF plsZ
 split
 ·rename_i h
  congr 1
  rw[o8,o8,p9 h]
 ·have:i=l.length:=by omega
  subst this;rw[dq,o8,oz (pq _),dq];rfl
theorem zu1(l:List (List UInt8))(i:Nat)(n:List UInt8)(h:l[i]? = some n):nmsZ (l.take (i+1))=if qb n then nmsZ (l.take i)++[n] else nmsZ (l.take i):=by
 unfold nmsZ
 rw[mr,h];by_cases hn:qb n <;> simp[hn]
theorem zy7(z:Bool)(l:List (List UInt8))(hn:l.length<=100000):FnOk Tryz.prog 109 [.d (.sl z l.length 1 (strs l))] (.d (.sl (zu l).isEmpty (zu l).length 1 (strs (zu l)))):=by
 refine qp (TT:=TT) (IN:=qh []) qk qj mixed 1000 Tryz.func109 rfl (qi Tryz.func109 (by kernel_rfl) rfl) rfl 55 (by kernel_rfl) ?_
 conv=>whnf
 refine .nilT 3 201 2 (plsZ []) _ _ rfl ?_;conv=>whnf
 refine .inv Nat (fun i=>i<=l.length) (fun i=>[(11,iV i),(3,.all 0)]) (fun i=>[(0,.row 201 2 (nmsZ (l.take i)).length .iff (plsZ (nmsZ (l.take i))))]) (fun i=>l.length - i) ⟨0,[0],pu _,?_⟩ ?_
 ·conv=>whnf
  repeat'(first|exact ⟨⟩|exact rfl|exact qa _|exact .inr rfl|exact fun _ _=>rfl|exact noI|apply And.intro)
 intro i hi;conv=>whnf
 have hfl:(nmsZ (l.take i)).length<=i:=o7 (fq _ _) (by rw[m9];omega)
 refine⟨fun h1=>?_,fun h1=>?_⟩
 ·have h1:i<l.length:=by
   have h:(i:Int)<l.length:=of_decide_eq_true h1
   omega
  have hw1:=w64s i (by omega)
  have hli:l[i]? = some (l[i]?.getD []):=by rw[pn h1];rfl
  have hnx:=zu1 l i _ hli
  conv=>whnf
  refine⟨by omega,?_⟩
  conv=>whnf
  rw[pp];generalize l[i]?.getD []=n at hli hnx ⊢;refine od (zw n) rfl rfl ?_;by_cases hnn:qb n
  ·rw [if_pos hnn] at hnx ⊢;conv=>whnf
   refine brT rfl ?_;conv=>whnf
   refine od (zs0 n hnn) rfl rfl ?_;conv=>whnf
   refine⟨by omega,?_⟩
   conv=>whnf
   rw[hw1];refine⟨i+1,[2],h1,by omega,?_⟩
   rw[hnx];conv=>whnf
   repeat'(first|exact ⟨⟩|exact rfl|exact qa _|exact .inr rfl|exact fun _ _=>rfl|exact noI|apply And.intro)
   ·simp
   ·exact xb0 _ n
  ·rw [if_neg hnn] at hnx ⊢;conv=>whnf
   refine brF rfl ?_;conv=>whnf
   rw[hw1];refine⟨i+1,[0],h1,by omega,?_⟩
   rw[hnx];conv=>whnf
   repeat'(first|exact ⟨⟩|exact rfl|exact qa _|exact .inr rfl|exact fun _ _=>rfl|exact noI|apply And.intro)
 ·have h1:i=l.length:=by
   have h:¬ (i:Int)<l.length:=of_decide_eq_false h1
   omega
  subst h1;rw[mz];rw [mz] at hfl;conv=>whnf
  refine .rel _ (zy3 (nmsZ l) (nmsZ l).length (by omega) .iff (xn5 (nmsZ l))) (fun r ks' hR=>?_)
  obtain⟨rfl,q,hq,hrise,rfl⟩:=hR;have hqs:=zz5 (nmsZ l) q hq hrise;conv=>whnf
  refine .nilT 6 9 1 (strs []) _ _ rfl ?_;conv=>whnf
  refine .inv Nat (fun i=>i<=(nmsZ l).length) (fun i=>[(30,iV i),(6,.all 1)]) (fun i=>[(1,.row 9 1 (qb6 (xj (nmsZ l)) i).length .iff (strs (qb6 (xj (nmsZ l)) i)))]) (fun i=>(nmsZ l).length - i) ⟨0,[0,1],pu _,?_⟩ ?_
  ·conv=>whnf
   repeat'(first|exact ⟨⟩|exact rfl|exact qa _|exact .inr rfl|exact fun _ _=>rfl|exact noI|apply And.intro)
  intro i hi;conv=>whnf
  refine⟨fun h1=>?_,fun h1=>?_⟩
  ·have h1:i<(nmsZ l).length:=by
    have h:(i:Int)<(nmsZ l).length:=of_decide_eq_true h1
    omega
   have hw1:=w64s i (by omega)
   have hul:=jm8 (xj (nmsZ l)) i
   conv=>whnf
   refine⟨by omega,?_⟩
   conv=>whnf
   rw[pp,hqs i h1];have hnx:=qz9 (xj (nmsZ l)) i;refine⟨fun h2=>?_,fun h2=>?_⟩
   ·have h2:i=0:=by simpa using h2
    have hk:uu (xj (nmsZ l)) i=true:=by unfold uu;rw[h2];rfl
    rw [hk,if_pos rfl] at hnx;conv=>whnf
    refine⟨by omega,?_⟩
    conv=>whnf
    rw[hw1];refine⟨i+1,[0,4],h1,by omega,?_⟩
    rw[hnx];conv=>whnf
    repeat'(first|exact ⟨⟩|exact rfl|exact qa _|exact .inr rfl|exact fun _ _=>rfl|exact noI|apply And.intro)
    ·simp
    ·exact kp _ _ _ rfl
   ·have h2:i≠0:=by simpa using h2
    have hw2:IntKind.i64.wrap ((i:Int) - 1)=((i - 1:Nat):Int):=by rw[qe _ (by omega)];omega
    conv=>whnf
    rw[hw2];refine⟨by omega,?_⟩
    conv=>whnf
    rw[pp,hqs (i - 1) (by omega)]
    refine .data _ (xl2 _ _ _ _ (by have:=qz7 ((xj (nmsZ l)).getD i default);omega) (by have:=qz7 ((xj (nmsZ l)).getD (i - 1) default);omega)) rfl rfl ?_
    conv=>whnf
    refine⟨fun h3=>?_,fun h3=>?_⟩
    ·have hk:uu (xj (nmsZ l)) i=true:=by
      unfold uu
      rw[dp];exact .inr (by simpa using h3)
     rw [hk,if_pos rfl] at hnx;conv=>whnf
     refine⟨by omega,?_⟩
     conv=>whnf
     rw[hw1];refine⟨i+1,[0,4],h1,by omega,?_⟩
     rw[hnx];conv=>whnf
     repeat'(first|exact ⟨⟩|exact rfl|exact qa _|exact .inr rfl|exact fun _ _=>rfl|exact noI|apply And.intro)
     ·simp
     ·exact kp _ _ _ rfl
    ·have hk:uu (xj (nmsZ l)) i=false:=by
      unfold uu
      rw[ar];exact⟨by simpa using h2,by simpa using h3⟩
     rw [hk,if_neg (by decide)] at hnx
     conv=>whnf
     rw[hw1];refine⟨i+1,[0,1],h1,by omega,?_⟩
     rw[hnx];conv=>whnf
     repeat'(first|exact ⟨⟩|exact rfl|exact qa _|exact .inr rfl|exact fun _ _=>rfl|exact noI|apply And.intro)
  ·have h1:i=(nmsZ l).length:=by
    have h:¬ (i:Int)<(nmsZ l).length:=of_decide_eq_false h1
    omega
   subst h1;conv=>whnf
   refine⟨?_,rfl,.inr rfl,fun _ _=>rfl⟩
   show(zu l).length.beq 0=_
   cases zu l <;> rfl
theorem jc6(a b:List UInt8):FnOk Tryz.prog 17 [.d (.str a),.d (.str b)] (.d (.bool (jq a b))):=by
 refine qp (TT:=TT) (IN:=qh []) qk qj mixed 1000 Tryz.func17 rfl (qi Tryz.func17 (by kernel_rfl) rfl) rfl 25 (by kernel_rfl) ?_
 conv=>whnf
 cases h0:((a.length:Int) == (b.length:Int))
 ·have:jq a b=false:=by
   cases hf:fold a == fold b
   ·unfold jq;rw[hf,lr,lr]
   ·have:=congrArg List.length (eq_of_beq hf)
    rw [qu4,qu4] at this;rw [this] at h0;simp at h0
  rw[this];refine brF rfl ?_;conv=>whnf
  repeat(first|(refine brF rfl ?_;conv=>whnf))
  try exact rfl
 ·refine brT rfl ?_;conv=>whnf
  refine od (zw a) rfl rfl ?_;by_cases ha:qb a
  ·rw[if_pos ha];conv=>whnf
   refine brT rfl ?_;conv=>whnf
   refine od (zw b) rfl rfl ?_;by_cases hb:qb b
   ·rw[if_pos hb];conv=>whnf
    refine brT rfl ?_;conv=>whnf
    refine od (zx a (qy4 ha)) rfl rfl ?_;conv=>whnf
    refine od (zx b (qy4 hb)) rfl rfl ?_;rw[show jq a b=(fold a == fold b) by unfold jq;rw[decide_eq_true ha,decide_eq_true hb];rfl]
    conv=>whnf
    try exact rfl
   ·rw[if_neg hb,show jq a b=false by unfold jq;rw[decide_eq_false hb,lz,lr]]
    conv=>whnf
    refine brF rfl ?_;conv=>whnf
    repeat(first|(refine brF rfl ?_;conv=>whnf))
    try exact rfl
  ·rw[if_neg ha,show jq a b=false by unfold jq;rw[decide_eq_false ha,lz]]
   conv=>whnf
   refine brF rfl ?_;conv=>whnf
   repeat(first|(refine brF rfl ?_;conv=>whnf))
   try exact rfl
def cutZ(apex:List UInt8)(r:RR):Bool:=isNs r && !jq r.nm apex
def qb0(z:Zo)(i:Nat):List (List UInt8):=((z.rrs.take i).filter (cutZ z.apex)).map (·.nm)
theorem zi8{z:Zo}{i:Nat}{r:RR}(h:z.rrs[i]? = some r):qb0 z (i+1)=if cutZ z.apex r then qb0 z i++[r.nm] else qb0 z i:=by
 unfold qb0
 rw[mr,h];cases hc:cutZ z.apex r <;> simp[hc]
theorem yg0(z:Zo)(i:Nat):(qb0 z i).length<=i:=by
 unfold qb0
 rw[o4];exact o7 (fq _ _) (by rw[m9];omega)
theorem yg1(z:Zo):qb0 z z.rrs.length=z.cutL:=by
 unfold qb0
 rw[mz];rfl
theorem yv6(z:Zo)(S:List ((List UInt8 × Int × Int × List UInt8) × Nat))(N:List (List UInt8 × Hd))(hl:z.rrs.length<=100000) :
 COk Tryz.prog 75 [.ptr 0 0] (lookK z S N .free) (fun s k=>s = .d (.sl (zu z.cutL).isEmpty (zu z.cutL).length 1 (strs (zu z.cutL)))/\k=lookK z S N .free):=by
 refine j7 (TT:=TT) (IN:=qh []) qk qj mixed 1000 Tryz.func75 rfl (qi Tryz.func75 (by kernel_rfl) rfl) 37 (by kernel_rfl) ?_
 conv=>whnf
 refine .nilT 3 9 1 (strs []) _ _ rfl ?_;conv=>whnf
 refine .inv Nat (fun i=>i<=z.rrs.length) (fun i=>[(12,iV i),(3,.all 3)]) (fun i=>[(3,.row 9 1 (qb0 z i).length .iff (strs (qb0 z i)))]) (fun i=>z.rrs.length - i) ⟨0,[0,1,2,3],pu _,?_⟩ ?_
 ·conv=>whnf
  repeat'(first|exact ⟨⟩|exact rfl|exact qa _|exact .inr rfl|exact fun _ _=>rfl|exact noI|apply And.intro)
  all_goals first
   |exact qo _
   |exact qn _
   |exact qt _ _ _
 intro i hi;conv=>whnf
 refine⟨fun h1=>?_,fun h1=>?_⟩
 ·have h1:i<z.rrs.length:=by
   have h:(i:Int)<z.rrs.length:=of_decide_eq_true h1
   omega
  have hw1:=w64s i (by omega)
  obtain⟨r,hr⟩:∃ r,z.rrs.getD i default=r:=⟨_,rfl⟩;have hrl:z.rrs[i]? = some r:=by rw[<-hr,List.getD,pn h1];rfl
  have hnx:=zi8 hrl
  have hcl:=yg0 z i
  conv=>whnf
  refine⟨by omega,?_⟩
  conv=>whnf
  rw[pp,hr];refine⟨fun h2=>?_,fun h2=>?_⟩
  ·have h2:isNs r=true:=h2
   conv=>whnf
   refine .data _ (jc6 r.nm z.apex) rfl rfl ?_;cases h3:jq r.nm z.apex with
   |true =>
    rw [show cutZ z.apex r=false by unfold cutZ;rw [h2,h3];rfl,if_neg (by decide)] at hnx
    conv=>whnf
    refine brF rfl ?_;conv=>whnf
    rw[hw1];refine⟨i+1,[0,1,2,3],h1,by omega,?_⟩
    rw[hnx];conv=>whnf
    repeat'(first|exact ⟨⟩|exact rfl|exact qa _|exact .inr rfl|exact fun _ _=>rfl|exact noI|apply And.intro)
    all_goals first
     |exact qo _
     |exact qn _
     |exact qt _ _ _
   |false =>
    rw [show cutZ z.apex r=true by unfold cutZ;rw [h2,h3];rfl,if_pos rfl] at hnx
    conv=>whnf
    refine brT rfl ?_;conv=>whnf
    refine⟨by omega,?_⟩
    conv=>whnf
    rw[hw1];refine⟨i+1,[0,1,2,6],h1,by omega,?_⟩
    rw[hnx];conv=>whnf
    repeat'(first|exact ⟨⟩|exact rfl|exact qa _|exact .inr rfl|exact fun _ _=>rfl|exact noI|apply And.intro)
    all_goals first
     |exact qo _
     |exact qn _
     |(show _+1=(_++[_]).length;simp;done)
     |exact kp _ _ _ rfl
  ·have h2:isNs r=false:=h2
   rw [show cutZ z.apex r=false by unfold cutZ;rw [h2];rfl,if_neg (by decide)] at hnx
   conv=>whnf
   rw[hw1];refine⟨i+1,[0,1,2,3],h1,by omega,?_⟩
   rw[hnx];conv=>whnf
   repeat'(first|exact ⟨⟩|exact rfl|exact qa _|exact .inr rfl|exact fun _ _=>rfl|exact noI|apply And.intro)
   all_goals first
    |exact qo _
    |exact qn _
    |exact qt _ _ _
 ·have h1:i=z.rrs.length:=by
   have h:¬ (i:Int)<z.rrs.length:=of_decide_eq_false h1
   omega
  subst h1;rw[yg1];have hcl:z.cutL.length<=100000:=by rw[<-yg1];exact o7 (yg0 _ _) hl
  conv=>whnf
  refine .one (.frz _ _ [3] (zy7 (Nat.beq z.cutL.length 0) z.cutL hcl) ?_ rfl rfl ?_)
  ·conv=>whnf
   exact⟨rfl,rfl⟩
  conv=>whnf
  refine⟨[0,1,2],_,lookK z S N .free,rfl,rfl,?_,?_,rfl,rfl⟩
  ·exact rfl
  ·conv=>whnf
   repeat'(first|exact ⟨⟩|exact rfl|exact qa _|exact .inr rfl|exact fun _ _=>rfl|exact noI|apply And.intro)
   all_goals first
    |exact qo _
    |exact qn _
    |exact qt _ _ _
def qv5(name c:List UInt8)(b:Option (List UInt8)):Option (List UInt8):=if qd name c then (match b with
 |none=>some c
 |some y=>if qg c<qg y then some c else some y) else b
def xz(name:List UInt8)(l:List (List UInt8)):Option (List UInt8):=l.foldl (fun b c=>qv5 name c b) none
theorem yg6(name:List UInt8)(l:List (List UInt8))(c:List UInt8):xz name (l++[c])=qv5 name c (xz name l):=by
 unfold xz
 rw[List.foldl_append];rfl
theorem xh3{α:Type}{P:List α->Prop}(h0:P [])(h1:∀ l a,P l->P (l++[a])):∀ l,P l:=fun l=>by
 rw[<-l.reverse_reverse];induction l.reverse with
 |nil=>exact h0
 |cons a m ih=>rw[List.reverse_cons];exact h1 _ _ ih
theorem jl8(name:List UInt8)(l:List (List UInt8)):match xz name l with
 |none=>∀ c ∈ l,qd name c=false
 |some b=>b ∈ l/\qd name b=true/\∀ c ∈ l,qd name c=true->qg b<=qg c:=by
 refine xh3 (P:=fun l=>match xz name l with
  |none=>∀ c ∈ l,qd name c=false
  |some b=>b ∈ l/\qd name b=true/\∀ c ∈ l,qd name c=true->qg b<=qg c) ?_ ?_ l
 ·exact fun c h=>by cases h
 ·intro l c ih;rw[yg6];unfold qv5
  cases hw:qd name c with
  |false =>
   rw[if_neg (by decide)]
   cases hb:xz name l with
   |none =>
    rw [hb] at ih;intro x hx;rcases ox.1 hx with hx|hx
    ·exact ih x hx
    ·rw[gp.1 hx];exact hw
   |some b =>
    rw [hb] at ih;refine⟨au _ ih.1,ih.2.1,fun x hx hxw=>?_⟩
    rcases ox.1 hx with hx|hx
    ·exact ih.2.2 x hx hxw
    ·rw [gp.1 hx,hw] at hxw;cases hxw
  |true =>
   rw[if_pos rfl];cases hb:xz name l with
   |none =>
    rw [hb] at ih;refine⟨by simp,hw,fun x hx hxw=>?_⟩
    rcases ox.1 hx with hx|hx
    ·rw [ih x hx] at hxw;cases hxw
    ·rw[gp.1 hx];exact pq _
   |some b =>
    rw [hb] at ih;simp only
    by_cases hc:qg c<qg b
    ·rw[if_pos hc];refine⟨by simp,hw,fun x hx hxw=>?_⟩
     rcases ox.1 hx with hx|hx
     ·have:=ih.2.2 x hx hxw;omega
     ·rw[gp.1 hx];exact pq _
    ·rw[if_neg hc];refine⟨au _ ih.1,ih.2.1,fun x hx hxw=>?_⟩
     rcases ox.1 hx with hx|hx
     ·exact ih.2.2 x hx hxw
     ·rw[gp.1 hx];omega
theorem zk1{n a b:List UInt8}(ha:qd n a=true)(hb:qd n b=true)(h:qg a=qg b):fold a=fold b:=by
 have na:=zd ha
 have nb:=zd hb
 unfold qd at ha hb
 simp only [px,sr] at ha hb
 unfold qg at h
 rw [if_pos na.2,if_pos nb.2] at h;have hl:(fl a).length=(fl b).length:=by unfold fl;rw[o4,o4];exact h
 have e:fl a=fl b:=by
  obtain⟨s,hs⟩:=ha.2.2;obtain⟨t,ht⟩:=hb.2.2;have:=hs.trans ht.symm
  exact(List.append_inj_right' this hl)
 rw[vx na.2,vx nb.2,e]
theorem topCut_none{name:List UInt8}:∀ {l:List (List UInt8)},vz name l=none↔∀ c ∈ l,qd name c=false
 |[]=>⟨fun _ c h=>(by cases h),fun _=>rfl⟩
 |c :: l=>by
  unfold vz
  cases hw:qd name c with
  |true =>
   rw[if_pos rfl];refine⟨fun h=>?_,fun h=>?_⟩
   ·split at h
    ·cases h
    ·split at h <;> cases h
   ·have:=h c (mq ..)
    rw [hw] at this;cases this
  |false =>
   rw[if_neg (by decide),topCut_none]
   exact⟨fun h x hx=>by
    rcases pr.1 hx with rfl|hx
    ·exact hw
    ·exact h x hx,fun h x hx=>h x (mw _ hx)⟩
theorem ze7{a b:List UInt8}(ha:qb a)(hb:qb b)(h:fold a=fold b):qg a=qg b:=by
 rw[<-wr ha,<-wr hb,h]
theorem xf5{name:List UInt8}{l:List (List UInt8)}(hl:∀ c ∈ l,qb c):(xz name (zu l)).map fold=vz name l:=by
 have hs:=jl8 name (zu l)
 cases hb:xz name (zu l) with
 |none =>
  rw [hb] at hs;refine(topCut_none.2 fun c hc=>?_).symm
  obtain⟨m,hm,e⟩:=jm4 hc (hl c hc);cases hw:qd name c
  ·rfl
  ·have:=qb9 (qa2 hm).2 e hw
   rw [hs m hm] at this;cases this
 |some b =>
  rw [hb] at hs;obtain⟨h1,h2,h3⟩:=hs;cases ht:vz name l with
  |none =>
   have:=topCut_none.1 ht b (qa2 h1).1
   rw [h2] at this;cases this
  |some t =>
   obtain⟨⟨c,hc,e,hw⟩,hmin⟩:=qs4 ht;obtain⟨m,hm,em⟩:=jm4 hc (hl c hc);have hmw:=qb9 (qa2 hm).2 em hw;have a1:=h3 m hm hmw;have a2:=hmin b (qa2 h1).1 h2;have a3:=ze7 (qa2 hm).2 (hl c hc) em;have a4:qg t=qg c:=by rw[<-e];exact wr (hl c hc)
   rw[<-e];exact congrArg some (zk1 h2 hw (by omega))
abbrev Gp:=(List UInt8 × Int) × List RR
def addG:List Gp->(List UInt8 × Int)->RR->List Gp
 |[],k,r=>[(k,[r])]
 |(k',rs) :: G,k,r=>if k'=k then (k',rs++[r]) :: G else (k',rs) :: addG G k r
def plc(r:RR):List UInt8 × Int:=(fold r.nm,r.ty)
def qx2(r:RR):Bool:=ju r && r.ty != 41
def stepG(G:List Gp)(r:RR):List Gp:=if qx2 r then addG G (plc r) r else G
def St.enc(s:St):List DV:=[.str s.nm,.int .u16 s.ty,.int .u32 s.ttl,.sl s.z s.data.length 1 (strs s.data)]
def stsD(z:Bool)(l:List St):DV:=.sl z l.length 4 (fun i=>(l.getD i default).enc)
theorem yw5(l:List St)(q:St)(j:Nat)(hj:j<l.length+1):catF l.length (fun j=>(l.getD j default).enc) (jd q.enc 4) j=((l++[q]).getD j default).enc:=by
 show(if j<l.length then (l.getD j default).enc else jd q.enc 4 (j - l.length))=_
 by_cases h:j<l.length
 ·rw[if_pos h,List.getD,List.getD,p9 h]
 ·have:j=l.length:=by omega
  subst this;rw[if_neg h,dq,List.getD,oz (pq _),dq];rfl
theorem xa0{a b:List UInt8}(ha:qb a)(hb:qb b):jq a b=(fold a == fold b):=by
 unfold jq;rw[decide_eq_true ha,decide_eq_true hb];rfl
theorem ya6{a b:List UInt8}(h:fold a=fold b):a.length=b.length:=by
 have:=congrArg List.length h
 rwa [qu4,qu4] at this
theorem zp7(t:Int)(l:List RR):(wm t l).length<=64:=by unfold wm;simp;omega
theorem yi7{t:Int}:∀ (D:List (List UInt8)) (b:Bool) (last:List UInt8),(∀ d ∈ D,q9 t d=true)->D.Pairwise (fun x y=>Op.bytesLess (qx t x) (qx t y)=true)->(b=true->∀ d ∈ D,Op.bytesLess last (qx t d)=true)->wh t b last D=true
 |[],_,_=>fun _ _ _=>rfl
 |d :: D,b,last=>fun h1 h2 h3=>by
  obtain⟨h4,h5⟩:=gz.1 h2;have ih:=yi7 D true (qx t d) (fun x hx=>h1 x (by simp[hx])) h5 (fun _ x hx=>h4 x hx)
  unfold wh
  rw[h1 d (by simp),ih]
  cases b with
  |false=>rfl
  |true =>
   have h6:=h3 rfl d (by simp)
   rw [qv4 _ _ h6,show (qx t d == last)=false from Bool.eq_false_iff.2 (fun e=>by rw [eq_of_beq e,x9] at h6;cases h6)]
   rfl
theorem yi6{t:Int}:∀ (D:List (List UInt8)) (b:Bool) (last:List UInt8),wh t b last D=true->(∀ d ∈ D,q9 t d=true)/\D.Pairwise (fun x y=>Op.bytesLess (qx t x) (qx t y)=true)/\(b=true->∀ d ∈ D,Op.bytesLess last (qx t d)=true)
 |[],_,_=>fun _=>⟨fun _ h=>(by cases h),.nil,fun _ _ h=>(by cases h)⟩
 |d :: D,b,last=>fun h=>by
  unfold wh at h
  simp only [px] at h
  obtain⟨⟨h1,h2⟩,h3⟩:=h;obtain⟨a1,a2,a3⟩:=yi6 D true (qx t d) h3;have hd:b=true->Op.bytesLess last (qx t d)=true:=fun hb=>by
   rw [hb] at h2;simp only [m6,ct,ar] at h2
   cases e:Op.bytesLess last (qx t d)
   ·have:=qh5 _ _ h2.1 e
    rw [this] at h2;simp at h2
   ·rfl
  refine⟨fun x hx=>?_,gz.2 ⟨fun x hx=>a3 rfl x hx,a2⟩,fun hb x hx=>?_⟩
  ·rcases pr.1 hx with rfl|hx
   ·exact h1
   ·exact a1 x hx
  ·rcases pr.1 hx with rfl|hx
   ·exact hd hb
   ·exact ql0 _ _ _ (hd hb) (a3 rfl x hx)
theorem St.ok_iff(s:St):s.ok=true↔qb s.nm/\s.ttl<=2147483647/\(0<s.data.length/\s.data.length<=64)/\(∀ d ∈ s.data,q9 s.ty d=true)/\s.data.Pairwise (fun x y=>Op.bytesLess (qx s.ty x) (qx s.ty y)=true):=by
 unfold St.ok x6
 simp only[px,decide_eq_true_eq]
 constructor
 ·rintro ⟨⟨⟨h1,h2⟩,h3⟩,h4⟩
  obtain⟨a1,a2,_⟩:=yi6 _ _ _ h4;exact⟨h1,h2,h3,a1,a2⟩
 ·rintro ⟨h1,h2,h3,h4,h5⟩
  exact⟨⟨⟨h1,h2⟩,h3⟩,yi7 _ _ _ h4 h5 (fun h=>by cases h)⟩
theorem yp7:∀ (l:List RR) (a:Int),xf a l<=a/\∀ r ∈ l,xf a l<=r.ttl
 |[],a=>⟨br _,fun _ h=>(by cases h)⟩
 |r :: l,a=>by
  have ih:=yp7 l (if r.ttl<a then r.ttl else a)
  have e:xf a (r :: l)=xf (if r.ttl<a then r.ttl else a) l:=rfl
  rw[e];refine⟨?_,fun x hx=>?_⟩
  ·have:=ih.1
   split at this <;> omega
  ·rcases pr.1 hx with rfl|hx
   ·have:=ih.1
    split at this <;> omega
   ·exact ih.2 x hx
theorem jl1{a:Int}:∀ (l:List RR),(∀ r ∈ l,r.ttl=a)->xf a l=a
 |[],_=>rfl
 |r :: l,h=>by
  have e:xf a (r :: l)=xf (if r.ttl<a then r.ttl else a) l:=rfl
  rw[e,if_neg (by rw[h r (by simp)];omega)]
  exact jl1 l (fun x hx=>h x (by simp[hx]))
theorem ye9{r:RR}(h:qx2 r=true):r.cl=1/\r.check=true/\r.ty≠41/\qb r.nm/\q9 r.ty r.d=true/\r.ttl<=2147483647:=by
 unfold qx2 ju at h
 simp only [px,bne_iff_ne,ne_eq,beq_iff_eq] at h
 obtain⟨⟨h1,h2⟩,h3⟩:=h;have hc:=h2
 unfold RR.check at hc
 simp only [px,decide_eq_true_eq,dp,beq_iff_eq] at hc
 exact⟨h1,h2,h3,hc.1.1,hc.1.2,hc.2.resolve_right h3⟩
theorem ji8(t:Int)(rs:List RR):Firsts (qx t) (rs.map (·.d)) (uh (qx t) (rs.map (·.d))):=jb4 _ _
theorem zb4{α:Type}{R:α->α->Prop}{l:List α}(n:Nat)(h:l.Pairwise R):(l.take n).Pairwise R:=h.sublist (List.take_sublist n l)
theorem ws{nm:List UInt8}{t:Int}{l:List RR}(h:(qc nm t l).2=0)(ht:t≠41):(qc nm t l).1.ok=true/\(qc nm t l).1.nm=nm/\(qc nm t l).1.ty=t/\qb nm:=by
 by_cases hn:qb nm
 case neg =>
  rw [show qc nm t l=(St.no,3) from if_neg hn] at h;exact absurd h (by decide)
 have e:qc nm t l=if (qv nm t l).isEmpty then (St.no,3) else (qh4 nm t (qv nm t l),0):=if_pos hn
 rw [e] at h ⊢;cases hp:(qv nm t l).isEmpty with
 |true=>rw [hp] at h;exact absurd (show (3:Int)=0 from h) (by decide)
 |false =>
  have hne:qv nm t l≠[]:=fun e=>by rw [e] at hp;cases hp
  have hall:∀ r ∈ qv nm t l,qx2 r=true/\r.ty=t:=fun r hr=>by
   unfold qv at hr
   obtain⟨h1,h2⟩:=l9.1 hr;obtain⟨_,h3⟩:=l9.1 h1;unfold jy at h3
   simp only [px,beq_iff_eq] at h3
   refine⟨?_,h3.1⟩;unfold qx2
   rw[h2,h3.1];simpa using ht
  generalize qv nm t l=P at hne hall ⊢;have hF:=ji8 t P
  have hm:P.getD 0 default ∈ P:=by
   cases P with
   |nil=>exact absurd rfl hne
   |cons a P=>simp
  refine⟨(St.ok_iff _).2 ⟨hn,?_,⟨?_,zp7 _ _⟩,fun d hd=>?_,?_⟩,rfl,rfl,hn⟩
  ·have h1:=(yp7 P (P.getD 0 default).ttl).1
   have h2:=(ye9 (hall _ hm).1).2.2.2.2.2
   show xf (P.getD 0 default).ttl P<=2147483647
   omega
  ·show 0<(wm t P).length
   have:=hF.len (by simpa using hne)
   unfold wm
   rw[m9];omega
  ·have hd:d ∈ uh (qx t) (P.map (·.d)):=fy hd
   obtain⟨i,hi⟩:=hF.from hd;obtain⟨r,hr,rfl⟩:=o5.1 (py hi);have:=(ye9 (hall r hr).1).2.2.2.2.1;show q9 t r.d=true;rw[<-(hall r hr).2];exact this
  ·exact zb4 64 hF.rise
def yx(zs:List Zo)(i:Nat):List (List UInt8):=(zs.take i++zs.drop (i+1)).map (·.apex)
def yp(n:List UInt8):List (List UInt8)->Option (List UInt8)->Option (List UInt8)
 |[],b=>b
 |c :: l,b=>yp n l (if qd n c then (match b with
  |none=>some c
  |some y=>if qg y<qg c then some c else some y) else b)
def qw3(zs:List Zo)(i:Nat)(apex:List UInt8):Option Nat:=match yp apex (yx zs i) none with
 |none=>none
 |some a=>ya zs (fold a)
def qr1(zs:List Zo):Bool:=(List.range zs.length).all fun i=>i == 0 || (match qw3 zs i (zs.getD i default).apex with
 |none=>false
 |some a=>(zs.getD a default).cutL.any fun c=>fold c == fold (zs.getD i default).apex)
def qi3:List Int->Bool
 |[]=>true
 |a :: l=>!l.contains a && qi3 l
def zl:List (List UInt8)->Bool
 |[]=>true
 |a :: l=>!l.contains a && zl l
def x4(n:Nat)(hs:List (Int × Bool × List Int)):Bool:=qi3 (hs.map (·.1)) && hs.all fun h=>h.2.2.all fun at_=>decide (0<=at_) && decide (at_<(n:Int))
def Fo.ok(f:Fo):Bool:=decide (1<=f.zones.length) && (decide (f.zones.length<=64) && (decide (f.hosts.length<=64) && (f.zones.all Zo.ok && (zl (f.zones.map fun z=>fold z.apex) && (fold (f.zones.getD 0 default).apex == [0] && (qr1 f.zones && x4 f.zones.length f.hosts))))))
structure Ver where
 chain:List St
 ans:St
 code:Int
 why:Int
def zy(z:Zo)(name:List UInt8):Bool:=qd name z.apex && z.rrs.any fun r=>qd r.nm name
def ofF(zs:List Zo)(ty:Int):Nat->List UInt8->List St->Ver
 |0,_,_=>⟨[],St.no,0,9⟩
 |k+1,name,chain=>if qb name then (match yn zs name 300 0 with
  |none=>⟨[],St.no,0,12⟩
  |some at_=>if (qc name ty (zs.getD at_ default).rrs).2=0 then ⟨chain,(qc name ty (zs.getD at_ default).rrs).1,0,0⟩
   else if ty=5\/(qc name 5 (zs.getD at_ default).rrs).2≠0\/(qc name 5 (zs.getD at_ default).rrs).1.data.length=0 then ⟨chain,St.no,if zy (zs.getD at_ default) name then 0 else 3,0⟩
   else if chain.length >= 8 then ⟨[],St.no,0,9⟩
   else ofF zs ty k ((qc name 5 (zs.getD at_ default).rrs).1.data.headD []) (chain++[(qc name 5 (zs.getD at_ default).rrs).1])) else ⟨[],St.no,0,2⟩
theorem zl2{n:List UInt8}(h:qb n):jq n n=true:=by
 unfold jq
 rw[decide_eq_true h];simp
theorem xj9{nm:List UInt8}{t:Int}{l:List RR}(h:(qc nm t l).2=0):∃ r ∈ l,r.ty=t:=by
 by_cases hn:qb nm
 case neg =>
  rw [show qc nm t l=(St.no,3) from if_neg hn] at h;exact absurd h (by decide)
 have e:qc nm t l=if (qv nm t l).isEmpty then (St.no,3) else (qh4 nm t (qv nm t l),0):=if_pos hn
 rw [e] at h;cases hp:qv nm t l with
 |nil=>rw [hp] at h;exact absurd (show (3:Int)=0 from h) (by decide)
 |cons r P =>
  have hr:r ∈ qv nm t l:=by rw[hp];exact mq ..
  unfold qv at hr
  obtain⟨h1,_⟩:=l9.1 hr;obtain⟨h2,h3⟩:=l9.1 h1;unfold jy at h3
  simp only [px,beq_iff_eq] at h3
  exact⟨r,h2,h3.1⟩
def Zo.Fit(z:Zo):Prop:=∀ r ∈ z.rrs,r.nm.length<=100000/\r.d.length<=100000
theorem Zo.ok_len{z:Zo}(h:z.ok=true):z.rrs.length<=256:=by
 unfold Zo.ok at h
 simp only [px,decide_eq_true_eq] at h
 exact h.2.1
theorem ql5(z:Zo)(hz:z.Fit)(ks:List KB):COk Tryz.prog 74 [z.V] ks (fun s k=>∃ S N,s = .tup [.agg [.d (.str z.apex),.d (rrsD z.z z.rrs),.map (lenB ks),.map (lenB ks+1)],.d (.bool z.ok)]/\k=appB ks [ua S,wo N .free]) :=
 (COk.frameX (xl7 z hz) [] rfl rfl rfl).imp fun r k ⟨s0,k0,⟨S,N,h1,h2⟩,h3,h4⟩=>by
  refine⟨S,N,?_,?_⟩
  ·rw[h3,h1];rfl
  ·rw[h4,h2];show appB ks [KB.mapx _ _ _ (mapM _ (aenc xk intV S)) _,KB.mapx _ _ _ (mapM _ (aenc strK Hd.enc N)) _]=_;rw[jp0,jp5];rfl
theorem yg9(z:Zo)(hz:z.Fit):FnOk Tryz.prog 39 [z.V] (.d (.int .i64 (if z.ok then 0 else 2))):=by
 refine qp (TT:=TT) (IN:=qh []) qk qj mixed 1000 Tryz.func39 rfl (qi Tryz.func39 (by kernel_rfl) rfl) rfl 11 (by kernel_rfl) ?_
 conv=>whnf
 refine .rel _ (ql5 z hz _) (fun r ks' hR=>?_)
 obtain⟨S,N,rfl,rfl⟩:=hR;conv=>whnf
 cases h:z.ok with
 |false =>
  refine brT rfl ?_;conv=>whnf
  exact rfl
 |true =>
  refine brF rfl ?_;conv=>whnf
  exact rfl
def xo8(l:List (List UInt8)):DV:=.sl l.isEmpty l.length 1 (strs l)
def xy(z:Zo):List (List UInt8):=if z.ok then zu z.cutL else []
theorem zy6(z:Zo)(hz:z.Fit):FnOk Tryz.prog 93 [z.V] (.d (xo8 (xy z))):=by
 refine qp (TT:=TT) (IN:=qh []) qk qj mixed 1000 Tryz.func93 rfl (qi Tryz.func93 (by kernel_rfl) rfl) rfl 12 (by kernel_rfl) ?_
 conv=>whnf
 refine .rel _ (ql5 z hz _) (fun r ks' hR=>?_)
 obtain⟨S,N,rfl,rfl⟩:=hR;unfold xy
 cases h:z.ok with
 |false =>
  rw[if_neg (by decide)]
  conv=>whnf
  refine brT rfl ?_;conv=>whnf
  repeat'(first|exact ⟨⟩|exact rfl|exact .inr rfl|exact .inl rfl|exact fun _ _=>rfl|exact noI|apply And.intro)
 |true =>
  rw[if_pos rfl];conv=>whnf
  refine brF rfl ?_;conv=>whnf
  refine .rel _ (COk.frameX (yv6 z S N (by have:=z.ok_len h;omega)) [3,1,2] rfl rfl (by rw[qf4];rfl)) (fun x ks' hR=>?_)
  obtain⟨s0,k0,⟨rfl,rfl⟩,rfl,rfl⟩:=hR;conv=>whnf
  repeat'(first|exact ⟨⟩|exact rfl|exact .inr rfl|exact .inl rfl|exact fun _ _=>rfl|exact noI|apply And.intro)
def getZ(z:Zo)(name:List UInt8)(t:Int):St × Int:=if z.ok then qc name t z.rrs else (St.no,2)
theorem je4(z:Zo)(hz:z.Fit)(name:List UInt8)(t:Int)(hn:name.length<=100000):FnOk Tryz.prog 45 [z.V,.d (.str name),.d (.int .u16 t)] (.tup [(getZ z name t).1.V,.d (.int .i64 (getZ z name t).2)]):=by
 refine qp (TT:=TT) (IN:=qh []) qk qj mixed 1000 Tryz.func45 rfl (qi Tryz.func45 (by kernel_rfl) rfl) rfl 23 (by kernel_rfl) ?_
 conv=>whnf
 refine .rel _ (ql5 z hz _) (fun r ks' hR=>?_)
 obtain⟨S,N,rfl,rfl⟩:=hR;unfold getZ
 cases h:z.ok with
 |false =>
  conv=>whnf
  refine brT rfl ?_;conv=>whnf
  repeat'(first|exact ⟨⟩|exact rfl|exact .inr rfl|exact .inl rfl|exact fun _ _=>rfl|exact noI|apply And.intro)
 |true =>
  rw[if_pos rfl];have hl:=z.ok_len h
  conv=>whnf
  refine brF rfl ?_;conv=>whnf
  refine od (qp2 name t z.z z.rrs (by omega) hn (fun r hr=>(hz r hr).1)) rfl rfl ?_
  conv=>whnf
  repeat'(first|exact ⟨⟩|exact rfl|exact .inr rfl|exact .inl rfl|exact fun _ _=>rfl|exact noI|apply And.intro)
def yz(z:Zo)(name:List UInt8):Bool:=z.ok && zy z name
theorem zc9{l:List RR}{p:RR->Bool}{i:Nat}{r:RR}(h:l[i]? = some r)(hp:p r=false)(ha:(l.take i).any p=false):(l.take (i+1)).any p=false:=by
 rw[mr,h,List.any_append,ha];simp[hp]
theorem qj4(z:Zo)(hz:z.Fit)(name:List UInt8):FnOk Tryz.prog 46 [z.V,.d (.str name)] (.d (.bool (yz z name))):=by
 refine qp (TT:=TT) (IN:=qh []) qk qj mixed 1000 Tryz.func46 rfl (qi Tryz.func46 (by kernel_rfl) rfl) rfl 35 (by kernel_rfl) ?_
 conv=>whnf
 refine .rel _ (ql5 z hz _) (fun r ks' hR=>?_)
 obtain⟨S,N,rfl,rfl⟩:=hR;unfold yz
 cases h:z.ok with
 |false =>
  conv=>whnf
  refine brT rfl ?_;conv=>whnf
  exact rfl
 |true =>
  have hl:=z.ok_len h
  conv=>whnf
  refine brF rfl ?_;conv=>whnf
  refine od (qa1 _ _) rfl rfl ?_;unfold zy;cases hw:qd name z.apex with
  |false =>
   conv=>whnf
   refine brT rfl ?_;conv=>whnf
   exact rfl
  |true =>
   conv=>whnf
   refine brF rfl ?_;conv=>whnf
   refine .inv Nat (fun i=>i<=z.rrs.length/\(z.rrs.take i).any (fun r=>qd r.nm name)=false) (fun i=>[(28,iV i)]) (fun i=>[]) (fun i=>z.rrs.length - i) ⟨0,[0,1,2,3],⟨pu _,rfl⟩,?_⟩ ?_
   ·conv=>whnf
    repeat'(first|exact ⟨⟩|exact rfl|exact qa _|exact .inr rfl|exact fun _ _=>rfl|exact noI|apply And.intro)
    all_goals first
     |exact qo _
     |exact qn _
     |exact qt _ _ _
   intro i hi;obtain⟨hi,hti⟩:=hi;conv=>whnf
   refine⟨fun h2=>?_,fun h2=>?_⟩
   ·have h2:i<z.rrs.length:=by
     have h:(i:Int)<z.rrs.length:=of_decide_eq_true h2
     omega
    have hw1:=w64s i (by omega)
    obtain⟨r,hr⟩:∃ r,z.rrs.getD i default=r:=⟨_,rfl⟩;have hrl:z.rrs[i]? = some r:=by rw[<-hr,List.getD,pn h2];rfl
    conv=>whnf
    refine⟨by omega,?_⟩
    conv=>whnf
    rw[pp,hr];refine od (qa1 _ _) rfl rfl ?_;cases hwr:qd r.nm name with
    |true =>
     have hb:(z.rrs.any fun r=>qd r.nm name)=true:=bu.2 ⟨r,py hrl,hwr⟩
     rw[hb];conv=>whnf
     refine brT rfl ?_;conv=>whnf
     exact rfl
    |false =>
     conv=>whnf
     refine brF rfl ?_;conv=>whnf
     rw[hw1];refine⟨i+1,[0,1,2,3],⟨h2,zc9 hrl hwr hti⟩,by omega,?_⟩
     conv=>whnf
     repeat'(first|exact ⟨⟩|exact rfl|exact qa _|exact .inr rfl|exact fun _ _=>rfl|exact noI|apply And.intro)
     all_goals first
      |exact qo _
      |exact qn _
      |exact qt _ _ _
   ·have h2:i=z.rrs.length:=by
     have h:¬ (i:Int)<z.rrs.length:=of_decide_eq_false h2
     omega
    subst h2;rw [mz] at hti;rw[hti];conv=>whnf
    exact rfl
def cutQ(z:Zo)(name:List UInt8):St × Int:=if z.ok then (match xz name (zu z.cutL) with
 |none=>(St.no,3)
 |some c=>qc c 2 z.rrs) else (St.no,2)
def fewC:Option (List UInt8)->Int
 |none=>-1
 |some c=>qg c
theorem zp8{name:List UInt8}{l:List (List UInt8)}{i:Nat}{c:List UInt8}(h:l[i]? = some c):xz name (l.take (i+1))=qv5 name c (xz name (l.take i)):=by
 rw[mr,h];exact yg6 name _ c
theorem jr1(z:Zo)(hz:z.Fit)(name:List UInt8):FnOk Tryz.prog 40 [z.V,.d (.str name)] (.tup [(cutQ z name).1.V,.d (.int .i64 (cutQ z name).2)]):=by
 refine qp (TT:=TT) (IN:=qh []) qk qj mixed 1000 Tryz.func40 rfl (qi Tryz.func40 (by kernel_rfl) rfl) rfl 51 (by kernel_rfl) ?_
 conv=>whnf
 refine .rel _ (ql5 z hz _) (fun r ks' hR=>?_)
 obtain⟨S,N,rfl,rfl⟩:=hR;unfold cutQ
 cases h:z.ok with
 |false =>
  conv=>whnf
  refine brT rfl ?_;conv=>whnf
  repeat'(first|exact ⟨⟩|exact rfl|exact .inr rfl|exact .inl rfl|exact fun _ _=>rfl|exact noI|apply And.intro)
 |true =>
  rw[if_pos rfl];have hl:=z.ok_len h
  conv=>whnf
  refine brF rfl ?_;conv=>whnf
  refine .rel _ (COk.frameX (yv6 z S N (by omega)) [4,2,3] rfl rfl (by rw[qf4];rfl)) (fun x ks' hR=>?_)
  obtain⟨s0,k0,⟨rfl,rfl⟩,rfl,rfl⟩:=hR;rw[qf4];have hsl:(zu z.cutL).length<=100000:=by
   have h1:=yh8 z.cutL
   have h2:z.cutL.length<=z.rrs.length:=by unfold Zo.cutL;rw[o4];exact fq _ _
   omega
  have hsn:∀ c ∈ zu z.cutL,qb c:=fun c hc=>(qa2 hc).2
  generalize zu z.cutL=L at hsl hsn ⊢;conv=>whnf
  refine .inv Nat (fun i=>i<=L.length) (fun i=>[(23,iV i),(8,.d (.str ((xz name (L.take i)).getD []))),(9,.d (.int .i64 (fewC (xz name (L.take i)))))]) (fun i=>[]) (fun i=>L.length - i) ⟨0,[0,1,2,3,4],pu _,?_⟩ ?_
  ·conv=>whnf
   repeat'(first|exact ⟨⟩|exact rfl|exact qa _|exact .inr rfl|exact fun _ _=>rfl|exact noI|apply And.intro)
   all_goals first
    |exact qo _
    |exact qn _
    |exact qt _ _ _
  intro i hi;conv=>whnf
  refine⟨fun h2=>?_,fun h2=>?_⟩
  ·have h2:i<L.length:=by
    have h:(i:Int)<L.length:=of_decide_eq_true h2
    omega
   have hw1:=w64s i (by omega)
   have hli:L[i]? = some (L[i]?.getD []):=by rw[pn h2];rfl
   have hnx:=zp8 (name:=name) hli
   conv=>whnf
   refine⟨by omega,?_⟩
   conv=>whnf
   rw[pp];generalize L[i]?.getD []=c at hli hnx ⊢;unfold qv5 at hnx
   refine od (qa1 _ _) rfl rfl ?_;cases hw:qd name c with
   |false =>
    rw [hw,if_neg (by decide)] at hnx
    conv=>whnf
    refine brT rfl ?_;conv=>whnf
    rw[hw1];refine⟨i+1,[0,1,2,3,4],h2,by omega,?_⟩
    rw[hnx];conv=>whnf
    repeat'(first|exact ⟨⟩|exact rfl|exact qa _|exact .inr rfl|exact fun _ _=>rfl|exact noI|apply And.intro)
    all_goals first
     |exact qo _
     |exact qn _
     |exact qt _ _ _
   |true =>
    rw [hw,if_pos rfl] at hnx;conv=>whnf
    refine brF rfl ?_;conv=>whnf
    refine od (jd4 _) rfl rfl ?_;conv=>whnf
    cases hb:xz name (L.take i) with
    |none =>
     rw [hb] at hnx;refine brT rfl ?_;conv=>whnf
     rw[hw1];refine⟨i+1,[0,1,2,3,4],h2,by omega,?_⟩
     rw[hnx];conv=>whnf
     repeat'(first|exact ⟨⟩|exact rfl|exact qa _|exact .inr rfl|exact fun _ _=>rfl|exact noI|apply And.intro)
     all_goals first
      |exact qo _
      |exact qn _
      |exact qt _ _ _
    |some y =>
     rw [hb] at hnx;simp only at hnx
     refine brF (decide_eq_false (by show ¬ ((qg y:Nat):Int)<0;omega)) ?_
     conv=>whnf
     by_cases hc:qg c<qg y
     ·rw [if_pos hc] at hnx;refine brT (decide_eq_true (by show((qg c:Nat):Int)<((qg y:Nat):Int);omega)) ?_
      conv=>whnf
      rw[hw1];refine⟨i+1,[0,1,2,3,4],h2,by omega,?_⟩
      rw[hnx];conv=>whnf
      repeat'(first|exact ⟨⟩|exact rfl|exact qa _|exact .inr rfl|exact fun _ _=>rfl|exact noI|apply And.intro)
      all_goals first
       |exact qo _
       |exact qn _
       |exact qt _ _ _
     ·rw [if_neg hc] at hnx;refine brF (decide_eq_false (by show ¬ ((qg c:Nat):Int)<((qg y:Nat):Int);omega)) ?_
      conv=>whnf
      rw[hw1];refine⟨i+1,[0,1,2,3,4],h2,by omega,?_⟩
      rw[hnx];conv=>whnf
      repeat'(first|exact ⟨⟩|exact rfl|exact qa _|exact .inr rfl|exact fun _ _=>rfl|exact noI|apply And.intro)
      all_goals first
       |exact qo _
       |exact qn _
       |exact qt _ _ _
  ·have h2:i=L.length:=by
    have h:¬ (i:Int)<L.length:=of_decide_eq_false h2
    omega
   subst h2;have hsp:=jl8 name L
   rw[mz];conv=>whnf
   cases hb:xz name L with
   |none =>
    refine brT rfl ?_;conv=>whnf
    repeat'(first|exact ⟨⟩|exact rfl|exact .inr rfl|exact .inl rfl|exact fun _ _=>rfl|exact noI|apply And.intro)
   |some c =>
    rw [hb] at hsp;have hcn:=hsn c hsp.1
    refine brF (decide_eq_false (by show ¬ ((qg c:Nat):Int)<0;omega)) ?_
    conv=>whnf
    refine od (qp2 c 2 z.z z.rrs (by omega) (by have:=hcn.2.1;omega) (fun r hr=>(hz r hr).1)) rfl rfl ?_
    conv=>whnf
    repeat'(first|exact ⟨⟩|exact rfl|exact .inr rfl|exact .inl rfl|exact fun _ _=>rfl|exact noI|apply And.intro)
def qq2(n c:List UInt8)(b:Option (List UInt8)):Option (List UInt8):=if qd n c then (match b with
 |none=>some c
 |some y=>if qg y<qg c then some c else some y) else b
theorem jy6(n:List UInt8):∀ (l:List (List UInt8)) (c:List UInt8) (b:Option (List UInt8)),yp n (l++[c]) b=qq2 n c (yp n l b)
 |[],c,b=>rfl
 |x :: l,c,b=>by
  show yp n (l++[c]) _=qq2 n c (yp n l _)
  exact jy6 n l c _
theorem zp1{n:List UInt8}{l:List (List UInt8)}{i:Nat}{c:List UInt8}(h:l[i]? = some c):yp n (l.take (i+1)) none=qq2 n c (yp n (l.take i) none):=by
 rw[mr,h];exact jy6 n _ c none
def fewD:Option (List UInt8)->Int
 |none=>-1
 |some c=>qg c
def ud(n:List UInt8)(l:List (List UInt8)):List UInt8 × Int:=if qb n then (match yp n l none with
 |none=>([],3)
 |some c=>(c,0)) else ([],2)
theorem yf8(name:List UInt8)(z:Bool)(L:List (List UInt8))(hsl:L.length<=100000):FnOk Tryz.prog 72 [.d (.str name),.d (.sl z L.length 1 (strs L))] (.tup [.d (.str (ud name L).1),.d (.int .i64 (ud name L).2)]):=by
 refine qp (TT:=TT) (IN:=qh []) qk qj mixed 1000 Tryz.func72 rfl (qi Tryz.func72 (by kernel_rfl) rfl) rfl 33 (by kernel_rfl) ?_
 conv=>whnf
 refine od (zw name) rfl rfl ?_;unfold ud;by_cases hn:qb name;case neg =>
  rw[if_neg hn,if_neg hn];conv=>whnf
  refine brT rfl ?_;conv=>whnf
  repeat'(first|exact ⟨⟩|exact rfl|exact .inr rfl|exact .inl rfl|exact fun _ _=>rfl|exact noI|apply And.intro)
 rw[if_pos hn,if_pos hn];conv=>whnf
 refine brF rfl ?_;conv=>whnf
 refine .inv Nat (fun i=>i<=L.length) (fun i=>[(16,iV i),(6,.d (.str ((yp name (L.take i) none).getD []))),(7,.d (.int .i64 (fewD (yp name (L.take i) none))))]) (fun i=>[]) (fun i=>L.length - i) ⟨0,[],pu _,?_⟩ ?_
 ·conv=>whnf
  repeat'(first|exact ⟨⟩|exact rfl|exact qa _|exact .inr rfl|exact fun _ _=>rfl|exact noI|apply And.intro)
 intro i hi;conv=>whnf
 refine⟨fun h2=>?_,fun h2=>?_⟩
 ·have h2:i<L.length:=by
   have h:(i:Int)<L.length:=of_decide_eq_true h2
   omega
  have hw1:=w64s i (by omega)
  have hli:L[i]? = some (L[i]?.getD []):=by rw[pn h2];rfl
  have hnx:=zp1 (n:=name) hli
  conv=>whnf
  refine⟨by omega,?_⟩
  conv=>whnf
  rw[pp];generalize L[i]?.getD []=c at hli hnx ⊢;unfold qq2 at hnx
  refine od (qa1 _ _) rfl rfl ?_;cases hw:qd name c with
  |false =>
   rw [hw,if_neg (by decide)] at hnx
   conv=>whnf
   refine brT rfl ?_;conv=>whnf
   rw[hw1];refine⟨i+1,[],h2,by omega,?_⟩
   rw[hnx];conv=>whnf
   repeat'(first|exact ⟨⟩|exact rfl|exact qa _|exact .inr rfl|exact fun _ _=>rfl|exact noI|apply And.intro)
  |true =>
   rw [hw,if_pos rfl] at hnx;conv=>whnf
   refine brF rfl ?_;conv=>whnf
   refine od (jd4 _) rfl rfl ?_;conv=>whnf
   cases hb:yp name (L.take i) none with
   |none =>
    rw [hb] at hnx;refine brT (decide_eq_true (by show((qg c:Nat):Int) > -1;omega)) ?_
    conv=>whnf
    rw[hw1];refine⟨i+1,[],h2,by omega,?_⟩
    rw[hnx];conv=>whnf
    repeat'(first|exact ⟨⟩|exact rfl|exact qa _|exact .inr rfl|exact fun _ _=>rfl|exact noI|apply And.intro)
   |some y =>
    rw [hb] at hnx;simp only at hnx
    by_cases hc:qg y<qg c
    ·rw [if_pos hc] at hnx;refine brT (decide_eq_true (by show((qg c:Nat):Int) > ((qg y:Nat):Int);omega)) ?_
     conv=>whnf
     rw[hw1];refine⟨i+1,[],h2,by omega,?_⟩
     rw[hnx];conv=>whnf
     repeat'(first|exact ⟨⟩|exact rfl|exact qa _|exact .inr rfl|exact fun _ _=>rfl|exact noI|apply And.intro)
    ·rw [if_neg hc] at hnx;refine brF (decide_eq_false (by show ¬ ((qg c:Nat):Int) > ((qg y:Nat):Int);omega)) ?_
     conv=>whnf
     rw[hw1];refine⟨i+1,[],h2,by omega,?_⟩
     rw[hnx];conv=>whnf
     repeat'(first|exact ⟨⟩|exact rfl|exact qa _|exact .inr rfl|exact fun _ _=>rfl|exact noI|apply And.intro)
 ·have h2:i=L.length:=by
   have h:¬ (i:Int)<L.length:=of_decide_eq_false h2
   omega
  subst h2;rw[mz];conv=>whnf
  cases hb:yp name L none with
  |none =>
   refine brT rfl ?_;conv=>whnf
   repeat'(first|exact ⟨⟩|exact rfl|exact .inr rfl|exact .inl rfl|exact fun _ _=>rfl|exact noI|apply And.intro)
  |some c =>
   refine brF (decide_eq_false (by show ¬ ((qg c:Nat):Int)<0;omega)) ?_
   conv=>whnf
   repeat'(first|exact ⟨⟩|exact rfl|exact .inr rfl|exact .inl rfl|exact fun _ _=>rfl|exact noI|apply And.intro)
def qg3(k:Nat):List Zo->List (List UInt8 × Nat)
 |[]=>[]
 |z :: l=>(fold z.apex,k) :: qg3 (k+1) l
def jp(zs:List Zo):List (List UInt8 × Nat):=qg3 0 zs
theorem jw7:∀ (l m:List Zo) (k:Nat),qg3 k (l++m)=qg3 k l++qg3 (k+l.length) m
 |[],m,k=>rfl
 |z :: l,m,k=>by
  show(fold z.apex,k) :: qg3 (k+1) (l++m)=_
  rw[jw7 l m (k+1),show k+1+l.length=k+(z :: l).length by simp;omega]
  rfl
theorem zg4(l:List Zo)(z:Zo):jp (l++[z])=jp l++[(fold z.apex,l.length)]:=by
 unfold jp
 rw[jw7,oo];rfl
theorem ya1(n:List UInt8):∀ (l:List Zo) (k:Nat),aget (qg3 k l) n=(ya l n).map (· + k)
 |[],k=>rfl
 |z :: l,k=>by
  show(if n=fold z.apex then some k else aget (qg3 (k+1) l) n)=_
  unfold ya
  rw[List.findIdx?_cons];by_cases h:n=fold z.apex
  ·rw[if_pos h,show(fold z.apex == n)=true by simpa using h.symm,if_pos rfl]
   simp
  ·rw[if_neg h,show(fold z.apex == n)=false by simpa using fun e=>h e.symm,if_neg (by decide),ya1 n l (k+1)]
   unfold ya
   rw[Option.map_map];congr 1
   funext x
   simp only[Function.comp]
   omega
theorem qj6(l:List Zo)(n:List UInt8):aget (jp l) n=ya l n:=by
 unfold jp
 rw[ya1];cases ya l n <;> rfl
theorem place_none{l:List Zo}{n:List UInt8}:ya l n=none↔∀ z ∈ l,fold z.apex≠n:=by
 unfold ya
 rw[List.findIdx?_eq_none_iff];simp
theorem ye3(l:List (List UInt8))(a:List UInt8):zl (l++[a])=(zl l && !l.contains a):=by
 induction l with
 |nil=>simp[zl]
 |cons x l ih =>
  show(!(l++[a]).contains x && zl (l++[a]))=((!l.contains x && zl l) && !(x :: l).contains a)
  rw[ih,lw];simp only[List.contains_append,List.contains_cons,List.contains_nil,Bool.or_false,Bool.not_or,px,ct,beq_eq_false_iff_ne]
  constructor
  ·rintro ⟨⟨h1,h2⟩,h3,h4⟩;exact⟨⟨h1,h3⟩,fun e=>h2 e.symm,h4⟩
  ·rintro ⟨⟨h1,h3⟩,h2,h4⟩;exact⟨⟨h1,fun e=>h2 e.symm⟩,h3,h4⟩
theorem zm8{l:List (List UInt8)}{i:Nat}(h:zl (l.take i)=false):zl l=false:=by
 have hl:l=l.take i++l.drop i:=(cn i l).symm
 cases e:zl l with
 |false=>rfl
 |true =>
  exfalso
  have:∀ (m n:List (List UInt8)),zl (m++n)=true->zl m=true:=by
   intro m n;refine qk4 (P:=fun n=>zl (m++n)=true->zl m=true) (fun h=>by rwa [mv] at h) (fun n r ih h=>?_) n
   rw [<-gv,ye3,px] at h;exact ih h.1
  rw [hl] at e;rw [this _ _ e] at h;cases h
def Zo.enc(z:Zo):List DV:=[.str z.apex,rrsD z.z z.rrs]
def jt1(b:Bool)(l:List Zo):DV:=.sl b l.length 2 (fun i=>(l.getD i default).enc)
def jv2(h:Int × Bool × List Int):List DV:=[.int .u32 h.1,.sl h.2.1 h.2.2.length 1 (fun j=>[.int .i64 (h.2.2.getD j 0)])]
def jt7(b:Bool)(l:List (Int × Bool × List Int)):DV:=.sl b l.length 2 (fun i=>jv2 (l.getD i default))
def Fo.V(f:Fo):SV:=.agg [.d (jt1 f.zz f.zones),.d (jt7 f.hz f.hosts)]
def Fo.Fit(f:Fo):Prop:=∀ z ∈ f.zones,z.apex.length<=100000/\z.Fit
def jl(P:List (List UInt8 × Nat)):KB:=.map [.str] false false (aenc strK intV P)
theorem qf2{σ:Nat->Nat}(P:List (List UInt8 × Nat)):mapK σ (jl P)=jl P:=by
 show KB.mapx _ _ _ (mapM _ (aenc strK intV P)) _=_
 rw[je1 (fun _=>rfl)]
 rfl
theorem yh{ρ:List Nat}(P:List (List UInt8 × Nat)):renM ρ (aenc strK intV P)=aenc strK intV P:=ql1 (fun _=>rfl) P
def qa4(zs:List Zo)(i j:Nat):List (List UInt8):=(((zs.take j).zipIdx).filter (fun p=>p.2 != i)).map (·.1.apex)
theorem zc3{zs:List Zo}{i j:Nat}{z:Zo}(h:zs[j]? = some z):qa4 zs i (j+1)=if j≠i then qa4 zs i j++[z.apex] else qa4 zs i j:=by
 unfold qa4
 have hj:j<zs.length:=(po.1 h).1
 rw[mr,h];simp only[Option.toList_some,List.zipIdx_append,f8,fx]
 by_cases hc:j=i
 ·subst hc;simp[m9,ax (Nat.le_of_lt hj)]
 ·simp[m9,ax (Nat.le_of_lt hj),hc]
theorem ze0(zs:List Zo)(i j:Nat):(qa4 zs i j).length<=j:=by
 unfold qa4
 rw[o4];exact o7 (fq _ _) (by rw[List.length_zipIdx,m9];omega)
theorem ze1(zs:List Zo){i:Nat}(hi:i<zs.length):qa4 zs i zs.length=yx zs i:=by
 unfold qa4 yx
 rw[mz];have h:zs=zs.take i++zs[i] :: zs.drop (i+1):=by rw[List.getElem_cons_drop,cn]
 have hl:(zs.take i).length=i:=by rw[m9];omega
 generalize zs.take i=A at h hl ⊢;generalize zs.drop (i+1)=B at h ⊢;generalize zs[i]=x at h;subst h;rw[List.zipIdx_append,f8,List.zipIdx_cons,List.filter_cons,fx,fx];have e1:(A.zipIdx.filter fun p=>p.2 != i).map (·.1.apex)=A.map (·.apex):=by
  rw[tn.2 (fun p hp=>by
   have:=List.snd_lt_of_mem_zipIdx hp
   simp;omega)]
  rw[show(fun p:Zo × Nat=>p.1.apex)=(fun z:Zo=>z.apex) ∘ Prod.fst from rfl,<-dn,List.zipIdx_map_fst]
 have e2:((B.zipIdx (0+A.length+1)).filter fun p=>p.2 != i).map (·.1.apex)=B.map (·.apex):=by
  rw[tn.2 (fun p hp=>by
   have:=List.le_snd_of_mem_zipIdx hp
   simp;omega)]
  rw[show(fun p:Zo × Nat=>p.1.apex)=(fun z:Zo=>z.apex) ∘ Prod.fst from rfl,<-dn,List.zipIdx_map_fst]
 rw[e1,if_neg (by simp[hl]),e2]
theorem yu5{K V:Type}[DecidableEq K]{ek:K->List DV}{ev:V->List SV}(hk:∀ a b,jm (ek a) (ek b)=decide (a=b))(k:K)(z:List SV):∀ l:List (K × V),∃ (l1:List (List DV × List SV)) (q:Nat),opnM (aenc ek ev l) (ek k) z=(l1,((aget l k).map ev).getD z,q)/\zo l1 (ek k)=some (((aget l k).map ev).getD z)/\∀ v,putQ l1 q (ev v)=aenc ek ev (aput l k v)
 |[]=>⟨[(ek k,z)],0,rfl,by show(if jm (ek k) (ek k) then some z else _)=_;rw[hk,if_pos (by simp)];rfl,fun v=>rfl⟩
 |e :: l=>by
  obtain⟨l1,q,h1,h2,h3⟩:=yu5 hk k z l;by_cases h:k=e.1
  ·refine⟨aenc ek ev (e :: l),0,?_,?_,fun v=>?_⟩
   ·show(if jm (ek k) (ek e.1) then _ else _)=_
    rw[hk,if_pos (by simpa using h)]
    simp only[aget,if_pos h]
    rfl
   ·show(if jm (ek k) (ek e.1) then some (ev e.2) else _)=_
    rw[hk,if_pos (by simpa using h)]
    simp only[aget,if_pos h]
    rfl
   ·show(ek e.1,ev v) :: aenc ek ev l=aenc ek ev (aput (e :: l) k v)
    simp only[aput,if_pos h]
    rw[<-h];rfl
  ·refine⟨(ek e.1,ev e.2) :: l1,q+1,?_,?_,fun v=>?_⟩
   ·show(if jm (ek k) (ek e.1) then _ else ((ek e.1,ev e.2) :: (opnM (aenc ek ev l) (ek k) z).1,(opnM (aenc ek ev l) (ek k) z).2.1,(opnM (aenc ek ev l) (ek k) z).2.2+1))=_
    rw[hk,if_neg (by simpa using h),h1]
    simp only[aget,if_neg h]
   ·show(if jm (ek k) (ek e.1) then some (ev e.2) else zo l1 (ek k))=_
    rw[hk,if_neg (by simpa using h),h2]
    simp only[aget,if_neg h]
   ·show(ek e.1,ev e.2) :: putQ l1 q (ev v)=aenc ek ev (aput (e :: l) k v)
    rw[h3];simp only[aput,if_neg h]
    rfl
def qi2(p:Nat × Nat):List DV:=[.int .i64 (p.1:Nat),.int .i64 (p.2:Nat)]
theorem jp3(a b:Nat × Nat):jm (qi2 a) (qi2 b)=decide (a=b):=by
 rw[lw];obtain⟨a1,a2⟩:=a;obtain⟨b1,b2⟩:=b;simp[qi2,jm,dEq,kEq]
 omega
def yx0(C:List ((Nat × Nat) × Nat)):KB:=.map [.int .i64,.int .i64] true false (aenc qi2 intV C)
theorem qf6{ρ:List Nat}(C:List ((Nat × Nat) × Nat)):renM ρ (aenc qi2 intV C)=aenc qi2 intV C:=ql1 (fun _=>rfl) C
theorem jb8{n:List UInt8}:∀ {l:List (List UInt8)} {b:Option (List UInt8)} {a:List UInt8},yp n l b=some a->a ∈ l\/b=some a
 |[],b,a,h=>.inr h
 |c :: l,b,a,h=>by
  unfold yp at h
  rcases jb8 h with h|h
  ·exact .inl (mw _ h)
  ·split at h
   ·cases b with
    |none=>simp only [mp] at h;subst h;exact .inl (mq ..)
    |some y =>
     simp only at h
     split at h
     ·simp only [mp] at h;subst h;exact .inl (mq ..)
     ·exact .inr h
   ·exact .inr h
def zk(P:List (List UInt8 × Nat))(apex:List UInt8)(L:List (List UInt8)):Nat × Bool:=match yp apex L none with
 |none=>(0,false)
 |some a=>match aget P (fold a) with
  |none=>(0,false)
  |some k=>(k,true)
theorem zi9(f:Fo)(hl:f.zones.length<=64)(i:Nat)(hi:i<f.zones.length)(apex:List UInt8)(ha:qb apex)(P:List (List UInt8 × Nat))(hn:∀ z ∈ f.zones,qb z.apex) :
 COk Tryz.prog 94 [f.V,iV i,.d (.str apex),.map 0] [jl P] (fun s k=>∃ b,s = .tup [iV (zk P apex (yx f.zones i)).1,.d b]/\DenTo (.d b) (.d (.bool (zk P apex (yx f.zones i)).2))/\k=[jl P]):=by
 refine j7 (TT:=TT) (IN:=qh []) qk qj mixed 1000 Tryz.func94 rfl (qi Tryz.func94 (by kernel_rfl) rfl) 47 (by kernel_rfl) ?_
 conv=>whnf
 refine .nilT 10 9 1 (strs []) _ _ rfl ?_;conv=>whnf
 refine .inv Nat (fun j=>j<=f.zones.length) (fun j=>[(20,iV j),(10,.all 2)]) (fun j=>[(2,.row 9 1 (qa4 f.zones i j).length .iff (strs (qa4 f.zones i j)))]) (fun j=>f.zones.length - j) ⟨0,[0,1,2],pu _,?_⟩ ?_
 ·conv=>whnf
  repeat'(first|exact ⟨⟩|exact rfl|exact qa _|exact .inr rfl|exact fun _ _=>rfl|exact noI|apply And.intro)
  all_goals first
   |exact yh _
 intro j hj;conv=>whnf
 have hol:=ze0 f.zones i j
 refine⟨fun h2=>?_,fun h2=>?_⟩
 ·have h2:j<f.zones.length:=by
   have h:(j:Int)<f.zones.length:=of_decide_eq_true h2
   omega
  have hw1:=w64s j (by omega)
  obtain⟨z,hz⟩:∃ z,f.zones.getD j default=z:=⟨_,rfl⟩;have hzl:f.zones[j]? = some z:=by rw[<-hz,List.getD,pn h2];rfl
  have hnx:=zc3 (i:=i) hzl
  conv=>whnf
  refine⟨by omega,?_⟩
  conv=>whnf
  rw[pp,hz];refine⟨fun h3=>?_,fun h3=>?_⟩
  ·have h3:j≠i:=by
    have h:(j:Int)≠(i:Int):=by simpa using h3
    omega
   rw [if_pos h3] at hnx;conv=>whnf
   refine⟨by omega,?_⟩
   conv=>whnf
   rw[hw1];refine⟨j+1,[0,1,5],h2,by omega,?_⟩
   rw[hnx];conv=>whnf
   repeat'(first|exact ⟨⟩|exact rfl|exact qa _|exact .inr rfl|exact fun _ _=>rfl|exact noI|apply And.intro)
   all_goals first
    |exact yh _
    |(show _+1=(_++[_]).length;simp;done)
    |exact kp _ _ _ rfl
  ·have h3:¬ j≠i:=by
    have h:¬ (j:Int)≠(i:Int):=by simpa using h3
    omega
   rw [if_neg h3] at hnx;conv=>whnf
   rw[hw1];refine⟨j+1,[0,1,2],h2,by omega,?_⟩
   rw[hnx];conv=>whnf
   repeat'(first|exact ⟨⟩|exact rfl|exact qa _|exact .inr rfl|exact fun _ _=>rfl|exact noI|apply And.intro)
   all_goals first
    |exact yh _
 ·have h2:j=f.zones.length:=by
   have h:¬ (j:Int)<f.zones.length:=of_decide_eq_false h2
   omega
  subst h2;rw [ze1 f.zones hi] at hol ⊢;generalize hL:yx f.zones i=L at hol ⊢;have hLn:∀ c ∈ L,qb c:=fun c hc=>by
   rw [<-hL] at hc;unfold yx at hc
   obtain⟨z,hz,rfl⟩:=o5.1 hc;refine hn z ?_;rcases ox.1 hz with h|h
   ·exact fy h
   ·exact co h
  conv=>whnf
  refine .one (.view _ _ [2] (yf8 apex (Nat.beq L.length 0) L (by omega)) ?_ rfl rfl ?_)
  ·conv=>whnf
   exact⟨rfl,rfl⟩
  unfold ud
  rw[if_pos ha];cases hd:yp apex L none with
  |none =>
   rw[show zk P apex L=(0,false) by unfold zk;rw[hd]]
   conv=>whnf
   refine brT rfl ?_;conv=>whnf
   refine⟨[0],_,[jl P],rfl,rfl,?_,?_,.ff,rfl,DenTo.ff,rfl⟩
   ·exact rfl
   ·conv=>whnf
    repeat'(first|exact ⟨⟩|exact rfl|exact qa _|exact .inr rfl|exact fun _ _=>rfl|exact noI|apply And.intro)
    all_goals first
     |exact yh _
  |some a =>
   conv=>whnf
   refine brF rfl ?_;conv=>whnf
   refine od (zx a ?_) rfl rfl ?_
   ·rcases jb8 hd with h|h
    ·have:=(hLn a h).2.1;omega
    ·cases h
   conv=>whnf
   have hf:=zv (ev:=intV) yt P (fold a)
   refine⟨_,hf,?_⟩;cases hg:aget P (fold a) with
   |none =>
    rw[show zk P apex L=(0,false) by unfold zk;rw[hd];show(match aget P (fold a) with|none=>(0,false)|some k=>(k,true))=_;rw[hg]]
    conv=>whnf
    refine⟨[0],_,[jl P],rfl,rfl,?_,?_,.ff,rfl,DenTo.ff,rfl⟩
    ·exact rfl
    ·conv=>whnf
     repeat'(first|exact ⟨⟩|exact rfl|exact qa _|exact .inr rfl|exact fun _ _=>rfl|exact noI|apply And.intro)
     all_goals first
      |exact yh _
   |some k =>
    rw[show zk P apex L=(k,true) by unfold zk;rw[hd];show(match aget P (fold a) with|none=>(0,false)|some k=>(k,true))=_;rw[hg]]
    conv=>whnf
    refine⟨[0],_,[jl P],rfl,rfl,?_,?_,.tt,rfl,DenTo.tt,rfl⟩
    ·exact rfl
    ·conv=>whnf
     repeat'(first|exact ⟨⟩|exact rfl|exact qa _|exact .inr rfl|exact fun _ _=>rfl|exact noI|apply And.intro)
     all_goals first
      |exact yh _
section
def CutI(zs:List Zo)(P:List (List UInt8 × Nat))(a b:Nat):Prop:=∃ c ∈ xy (zs.getD a default),aget P (fold c)=some b
structure HInv(zs:List Zo)(P:List (List UInt8 × Nat))(i:Nat)(L:List (List UInt8))(m:Nat)(C:List ((Nat × Nat) × Nat)):Prop where
 has:∀ a b,(aget C (a,b)).isSome=true↔(a<i/\CutI zs P a b)\/(a=i/\∃ c ∈ L,aget P (fold c)=some b)
 le:∀ k v,aget C k=some v->1<=v/\v<=m
variable{zs:List Zo}{P:List (List UInt8 × Nat)}
theorem HInv.zero:HInv zs P 0 [] 0 []:=⟨fun a b=>⟨fun h=>(by cases h),fun h=>(by rcases h with h|⟨_,c,hc,_⟩;exact absurd h.1 (gr _);cases hc)⟩,fun k v h=>by cases h⟩
theorem HInv.next{i m:Nat}{L:List (List UInt8)}{C:List ((Nat × Nat) × Nat)}(h:HInv zs P i L m C){m':Nat}(hm:m<=m')(hL:L=xy (zs.getD i default)):HInv zs P (i+1) [] m' C:=by
 refine⟨fun a b=>?_,fun k v hv=>?_⟩
 ·rw[h.has];constructor
  ·rintro (⟨h1,h2⟩|⟨rfl,c,hc,e⟩)
   ·exact .inl ⟨by omega,h2⟩
   ·exact .inl ⟨l8 _,c,hL ▸ hc,e⟩
  ·rintro (⟨h1,h2⟩|⟨_,c,hc,_⟩)
   ·rcases pz a i with h3|h3
    ·exact .inl ⟨h3,h2⟩
    ·have:a=i:=by omega
     subst this;obtain⟨c,hc,e⟩:=h2;exact .inr ⟨rfl,c,hL ▸ hc,e⟩
   ·cases hc
 ·have:=h.le k v hv
  omega
theorem HInv.skip{i m:Nat}{L:List (List UInt8)}{C:List ((Nat × Nat) × Nat)}(h:HInv zs P i L m C){c:List UInt8}(hc:aget P (fold c)=none):HInv zs P i (L++[c]) (m+1) C:=by
 refine⟨fun a b=>?_,fun k v hv=>?_⟩
 ·rw[h.has];constructor
  ·rintro (h1|⟨rfl,c',hc',e⟩)
   ·exact .inl h1
   ·exact .inr ⟨rfl,c',au _ hc',e⟩
  ·rintro (h1|⟨rfl,c',hc',e⟩)
   ·exact .inl h1
   ·rcases ox.1 hc' with h2|h2
    ·exact .inr ⟨rfl,c',h2,e⟩
    ·rw [gp.1 h2,hc] at e;cases e
 ·have:=h.le k v hv
  omega
theorem HInv.put{i m:Nat}{L:List (List UInt8)}{C:List ((Nat × Nat) × Nat)}(h:HInv zs P i L m C){c:List UInt8}{b:Nat}(hc:aget P (fold c)=some b){v:Nat}(hv:(aget C (i,b)).getD 0=v):HInv zs P i (L++[c]) (m+1) (aput C (i,b) (v+1)):=by
 refine⟨fun a b'=>?_,fun k w hw=>?_⟩
 ·rw[qo6];by_cases hk:(a,b')=(i,b)
  ·rw[if_pos hk];obtain⟨rfl,rfl⟩:=lv hk;exact⟨fun _=>.inr ⟨rfl,c,by simp,hc⟩,fun _=>rfl⟩
  ·rw[if_neg hk,h.has];constructor
   ·rintro (h1|⟨rfl,c',hc',e⟩)
    ·exact .inl h1
    ·exact .inr ⟨rfl,c',au _ hc',e⟩
   ·rintro (h1|⟨rfl,c',hc',e⟩)
    ·exact .inl h1
    ·rcases ox.1 hc' with h2|h2
     ·exact .inr ⟨rfl,c',h2,e⟩
     ·rw [gp.1 h2,hc] at e;simp only [mp] at e
      exact absurd (by rw[e]) hk
 ·rw [qo6] at hw;split at hw
  ·simp only [mp] at hw
   subst hw;cases hg:aget C (i,b) with
   |none=>rw [hg] at hv;simp at hv;omega
   |some x =>
    rw [hg] at hv;simp at hv
    have:=h.le _ _ hg
    omega
  ·have:=h.le k w hw
   omega
theorem ys0{n:Nat}(hP:∀ k v,aget P k=some v->v<n)(apex:List UInt8)(L:List (List UInt8)):(zk P apex L).2=true->(zk P apex L).1<n:=by
 unfold zk
 cases yp apex L none with
 |none=>exact fun h=>by cases h
 |some a =>
  show(match aget P (fold a) with|none=>(0,false)|some k=>(k,true)).2=true->(match aget P (fold a) with|none=>(0,false)|some k=>(k,true)).1<n
  cases hg:aget P (fold a) with
  |none=>exact fun h=>by cases h
  |some k=>exact fun _=>hP _ _ hg
theorem zp6(f:Fo)(hl:f.zones.length<=64)(i:Nat)(hi:i<f.zones.length)(apex:List UInt8)(ha:qb apex)(P:List (List UInt8 × Nat))(hn:∀ z ∈ f.zones,qb z.apex) :
 COk Tryz.prog 94 [f.V,iV i,.d (.str apex),.map 0] [jl P] (fun s k=>s = .tup [iV (zk P apex (yx f.zones i)).1,.d (.bool (zk P apex (yx f.zones i)).2)]/\k=[jl P]) :=
 COk.resD (zi9 f hl i hi apex ha P hn) fun _ _ ⟨_,h1,h2,h3⟩=>⟨_,h1 ▸ DenTo.tup ⟨DenTo.refl _,h2,trivial⟩,rfl,h3⟩
def ux(zs:List Zo)(P:List (List UInt8 × Nat))(i:Nat):Bool:=i == 0 || ((zk P (zs.getD i default).apex (yx zs i)).2 && (xy (zs.getD (zk P (zs.getD i default).apex (yx zs i)).1 default)).any fun c=>decide (aget P (fold c)=some i))
def qi5(zs:List Zo)(P:List (List UInt8 × Nat)):Bool:=(List.range zs.length).all (ux zs P)
theorem yr0{i:Nat}(hi:i<zs.length)(h:ux zs P i=false):qi5 zs P=false:=by
 unfold qi5
 rw[aw];exact⟨i,lu.2 hi,by rw[h];decide⟩
theorem xj4(f:Fo)(hf:f.Fit)(hl:f.zones.length<=64)(P:List (List UInt8 × Nat))(hz:∀ z ∈ f.zones,z.ok=true)(hP:∀ k v,aget P k=some v->v<f.zones.length) :
 COk Tryz.prog 57 [f.V,.map 0] [jl P] (fun s k=>s = .d (.bool (qi5 f.zones P))/\k=[jl P]):=by
 refine j7 (TT:=TT) (IN:=qh []) qk qj mixed 1000 Tryz.func57 rfl (qi Tryz.func57 (by kernel_rfl) rfl) 78 (by kernel_rfl) ?_
 conv=>whnf
 refine .inv (Nat × List ((Nat × Nat) × Nat)) (fun s=>s.1<=f.zones.length/\HInv f.zones P s.1 [] (s.1 * 256) s.2) (fun s=>[(20,iV s.1)]) (fun s=>[(2,yx0 s.2)]) (fun s=>f.zones.length - s.1) ⟨(0,[]),[0,1,2],⟨pu _,HInv.zero⟩,?_⟩ ?_
 ·conv=>whnf
  repeat'(first|exact ⟨⟩|exact rfl|exact qa _|exact .inr rfl|exact fun _ _=>rfl|exact noI|apply And.intro)
  all_goals first
   |exact yh _
 intro s hs;obtain⟨hi,hI⟩:=hs;conv=>whnf
 generalize s.1=i at hi hI ⊢;generalize s.2=C at hI ⊢;refine⟨fun h2=>?_,fun h2=>?_⟩
 ·have h2:i<f.zones.length:=by
   have h:(i:Int)<f.zones.length:=of_decide_eq_true h2
   omega
  have hw1:=w64s i (by omega)
  obtain⟨z,hzd⟩:∃ z,f.zones.getD i default=z:=⟨_,rfl⟩;have hzl:f.zones[i]? = some z:=by rw[<-hzd,List.getD,pn h2];rfl
  have hzm:=py hzl
  conv=>whnf
  refine⟨by omega,?_⟩
  conv=>whnf
  rw[pp,hzd];refine od (zy6 z (hf z hzm).2) rfl rfl ?_;have hLl:(xy z).length<=256:=by
   unfold xy
   split
   ·rename_i hok
    have h1:=yh8 z.cutL
    have h2:z.cutL.length<=z.rrs.length:=by unfold Zo.cutL;rw[o4];exact fq _ _
    have h3:=z.ok_len hok
    omega
   ·exact pu _
  have hLn:∀ c ∈ xy z,qb c:=fun c hc=>by
   unfold xy at hc
   split at hc
   ·exact(qa2 hc).2
   ·cases hc
  have hLz:xy z=xy (f.zones.getD i default):=by rw[hzd]
  generalize xy z=L at hLl hLn hLz ⊢;conv=>whnf
  refine .inv (Nat × List ((Nat × Nat) × Nat)) (fun s=>s.1<=L.length/\HInv f.zones P i (L.take s.1) (i * 256+s.1) s.2) (fun s=>[(28,iV s.1)]) (fun s=>[(2,yx0 s.2)]) (fun s=>L.length - s.1) ⟨(0,C),[0,1,2,3],⟨pu _,hI⟩,?_⟩ ?_
  ·conv=>whnf
   repeat'(first|exact ⟨⟩|exact rfl|exact qa _|exact .inr rfl|exact fun _ _=>rfl|exact noI|apply And.intro)
   all_goals first
    |exact yh _
    |exact qf6 _
  clear hI;intro s hs;obtain⟨hj,hI⟩:=hs;conv=>whnf
  generalize s.1=j at hj hI ⊢;generalize s.2=D at hI ⊢;refine⟨fun h3=>?_,fun h3=>?_⟩
  ·have h3:j<L.length:=by
    have h:(j:Int)<L.length:=of_decide_eq_true h3
    omega
   have hwj:=w64s j (by omega)
   have hli:L[j]? = some (L[j]?.getD []):=by rw[pn h3];rfl
   conv=>whnf
   refine⟨by omega,?_⟩
   conv=>whnf
   rw[pp];generalize L[j]?.getD []=c at hli ⊢;have hcn:=hLn c (py hli);have htk:L.take (j+1)=L.take j++[c]:=by rw[mr,hli];rfl
   refine od (zx c (by have:=hcn.2.1;omega)) rfl rfl ?_
   conv=>whnf
   have hfc:=zv (ev:=intV) yt P (fold c)
   refine⟨_,hfc,?_⟩;cases hg:aget P (fold c) with
   |none =>
    conv=>whnf
    rw[hwj];refine⟨(j+1,D),[0,1,2,3],⟨h3,by rw[htk];exact hI.skip hg⟩,by show _ - (j+1)<_;omega,?_⟩
    conv=>whnf
    repeat'(first|exact ⟨⟩|exact rfl|exact qa _|exact .inr rfl|exact fun _ _=>rfl|exact noI|apply And.intro)
    all_goals first
     |exact yh _
     |exact qf6 _
   |some b =>
    conv=>whnf
    obtain⟨l1,q,ho1,ho2,ho3⟩:=yu5 (ev:=intV) jp3 (i,b) [SV.d (.int .i64 0)] D;have hfs:=zv (ev:=intV) jp3 D (i,b);cases hgc:aget D (i,b) with
    |none =>
     rw [hgc] at hfs ho1 ho2;have hput:putQ l1 q [SV.d (.int .i64 1)]=aenc qi2 intV (aput D (i,b) 1):=ho3 1;have hnext:=hI.put hg (v:=0) (by rw[hgc];rfl)
     apply Exists.intro;refine⟨?_,?_⟩
     ·conv=>whnf
      repeat'(first|exact ⟨⟩|exact⟨rfl,rfl⟩|refine⟨_,hfs,?_⟩|refine⟨_,ho2,?_⟩|refine⟨_,_,_,ho1,?_⟩|intro s|refine⟨rfl,_,hput,?_⟩|apply And.intro|(conv=>whnf))
     conv=>whnf
     rw[hwj];refine⟨(j+1,aput D (i,b) 1),[0,1,2,3],⟨h3,by rw[htk];exact hnext⟩,by show _ - (j+1)<_;omega,?_⟩
     conv=>whnf
     repeat'(first|exact ⟨⟩|exact rfl|exact qa _|exact .inr rfl|exact fun _ _=>rfl|exact noI|apply And.intro)
     all_goals first
      |exact yh _
      |exact qf6 _
    |some v =>
     rw [hgc] at hfs ho1 ho2;have hvb:=hI.le _ _ hgc
     have hwv:=w64s v (by omega)
     have hput:putQ l1 q [SV.d (.int .i64 (IntKind.i64.wrap ((v:Int)+1)))]=aenc qi2 intV (aput D (i,b) (v+1)):=by rw[hwv];exact ho3 (v+1)
     have hnext:=hI.put hg (v:=v) (by rw[hgc];rfl)
     apply Exists.intro;refine⟨?_,?_⟩
     ·conv=>whnf
      repeat'(first|exact ⟨⟩|exact⟨rfl,rfl⟩|refine⟨_,hfs,?_⟩|refine⟨_,ho2,?_⟩|refine⟨_,_,_,ho1,?_⟩|intro s|refine⟨rfl,_,hput,?_⟩|apply And.intro|(conv=>whnf))
     conv=>whnf
     rw[hwj];refine⟨(j+1,aput D (i,b) (v+1)),[0,1,2,3],⟨h3,by rw[htk];exact hnext⟩,by show _ - (j+1)<_;omega,?_⟩
     conv=>whnf
     repeat'(first|exact ⟨⟩|exact rfl|exact qa _|exact .inr rfl|exact fun _ _=>rfl|exact noI|apply And.intro)
     all_goals first
      |exact yh _
      |exact qf6 _
  ·have h3:j=L.length:=by
    have h:¬ (j:Int)<L.length:=of_decide_eq_false h3
    omega
   subst h3;rw [mz] at hI;conv=>whnf
   rw[hw1];refine⟨(i+1,D),[0,1,2],⟨h2,hI.next (by omega) hLz⟩,by show _ - (i+1)<_;omega,?_⟩
   conv=>whnf
   repeat'(first|exact ⟨⟩|exact rfl|exact qa _|exact .inr rfl|exact fun _ _=>rfl|exact noI|apply And.intro)
   all_goals first
    |exact yh _
    |exact qf6 _
 ·have h2:i=f.zones.length:=by
   have h:¬ (i:Int)<f.zones.length:=of_decide_eq_false h2
   omega
  subst h2;conv=>whnf
  refine .inv Nat (fun i=>i<=f.zones.length/\∀ k,k<i->ux f.zones P k=true) (fun i=>[(53,iV i)]) (fun i=>[]) (fun i=>f.zones.length - i) ⟨0,[0,1,2],⟨pu _,fun k hk=>absurd hk (gr _)⟩,?_⟩ ?_
  ·conv=>whnf
   repeat'(first|exact ⟨⟩|exact rfl|exact qa _|exact .inr rfl|exact fun _ _=>rfl|exact noI|apply And.intro)
   all_goals first
    |exact yh _
    |exact qf6 _
  intro i hs;obtain⟨hi,hs⟩:=hs;conv=>whnf
  refine⟨fun h2=>?_,fun h2=>?_⟩
  ·have h2:i<f.zones.length:=by
    have h:(i:Int)<f.zones.length:=of_decide_eq_true h2
    omega
   have hw1:=w64s i (by omega)
   obtain⟨z,hzd⟩:∃ z,f.zones.getD i default=z:=⟨_,rfl⟩;have hzl:f.zones[i]? = some z:=by rw[<-hzd,List.getD,pn h2];rfl
   have hzm:=py hzl
   have hnext:ux f.zones P i=true->∀ k,k<i+1->ux f.zones P k=true:=fun h k hk=>by
    by_cases e:k=i
    ·subst e;exact h
    ·exact hs k (by omega)
   conv=>whnf
   refine⟨by omega,?_⟩
   conv=>whnf
   rw[pp,hzd];refine⟨fun h3=>?_,fun h3=>?_⟩
   ·have h3:i=0:=by
     have h:(i:Int)=0:=by simpa using h3
     omega
    conv=>whnf
    rw[hw1];refine⟨i+1,[0,1,2],⟨h2,hnext (by subst h3;rfl)⟩,by omega,?_⟩
    conv=>whnf
    repeat'(first|exact ⟨⟩|exact rfl|exact qa _|exact .inr rfl|exact fun _ _=>rfl|exact noI|apply And.intro)
    all_goals first
     |exact yh _
     |exact qf6 _
   ·have h3:i≠0:=by
     have h:¬ (i:Int)=0:=by simpa using h3
     omega
    have hh:ux f.zones P i=((zk P z.apex (yx f.zones i)).2 && (xy (f.zones.getD (zk P z.apex (yx f.zones i)).1 default)).any fun c=>decide (aget P (fold c)=some i)):=by
     unfold ux
     rw[hzd,show(i == 0)=false by simpa using h3,rv]
    conv=>whnf
    refine .rel _ (COk.frameX (zp6 f hl i h2 z.apex (Zo.ok_name (hz z hzm)) P (fun z hz'=>Zo.ok_name (hz z hz'))) [0] rfl rfl (by show[jl P]=[mapK _ (jl P)];rw[qf2])) (fun x ks' hR=>?_)
    obtain⟨s0,k0,⟨rfl,rfl⟩,rfl,rfl⟩:=hR;have hcl:=ys0 hP z.apex (yx f.zones i);generalize zk P z.apex (yx f.zones i)=r at hh hcl ⊢;obtain⟨a,b⟩:=r;rw[show mapB (sig [0] _) [jl P]=[jl P] from congrArg (fun x=>[x]) (qf2 P)]
    have hhas:=hI.has a i
    cases b with
    |false =>
     conv=>whnf
     refine brT rfl ?_;conv=>whnf
     rw[yr0 h2 (hh.trans rfl)];refine⟨[0],_,[jl P],rfl,rfl,?_,?_,rfl,rfl⟩
     ·exact rfl
     ·conv=>whnf
      repeat'(first|exact ⟨⟩|exact rfl|exact qa _|exact .inr rfl|exact fun _ _=>rfl|exact noI|apply And.intro)
      all_goals first
       |exact yh _
    |true =>
     have hcl:a<f.zones.length:=hcl rfl
     conv=>whnf
     refine brF rfl ?_;conv=>whnf
     have hfs:=zv (ev:=intV) jp3 C (a,i)
     refine⟨_,hfs,?_⟩;cases hgc:aget C (a,i) with
     |none =>
      have hb:ux f.zones P i=false:=by
       rw[hh];show((xy (f.zones.getD a default)).any fun c=>decide (aget P (fold c)=some i))=false
       rw[List.any_eq_false];intro c hc hd;have:=hhas.2 (.inl ⟨hcl,c,hc,by simpa using hd⟩)
       rw [hgc] at this;cases this
      conv=>whnf
      refine brT rfl ?_;conv=>whnf
      rw[yr0 h2 hb];refine⟨[0],_,[jl P],rfl,rfl,?_,?_,rfl,rfl⟩
      ·exact rfl
      ·conv=>whnf
       repeat'(first|exact ⟨⟩|exact rfl|exact qa _|exact .inr rfl|exact fun _ _=>rfl|exact noI|apply And.intro)
       all_goals first
        |exact yh _
     |some v =>
      have hb:ux f.zones P i=true:=by
       rw[hh];show((xy (f.zones.getD a default)).any fun c=>decide (aget P (fold c)=some i))=true
       rcases hhas.1 (by rw[hgc];rfl) with⟨_,c,hc,e⟩|⟨_,c,hc,_⟩
       ·exact bu.2 ⟨c,hc,by simpa using e⟩
       ·cases hc
      have hv1:=(hI.le _ _ hgc).1
      conv=>whnf
      refine brF (by rw[beq_eq_false_iff_ne];omega) ?_
      conv=>whnf
      rw[hw1];refine⟨i+1,[0,1,2],⟨h2,hnext hb⟩,by omega,?_⟩
      conv=>whnf
      repeat'(first|exact ⟨⟩|exact rfl|exact qa _|exact .inr rfl|exact fun _ _=>rfl|exact noI|apply And.intro)
      all_goals first
       |exact yh _
       |exact qf6 _
  ·have h2:i=f.zones.length:=by
    have h:¬ (i:Int)<f.zones.length:=of_decide_eq_false h2
    omega
   have hb:qi5 f.zones P=true:=by
    unfold qi5
    rw[gn];intro k hk;exact hs k (by rw[h2];exact lu.1 hk)
   conv=>whnf
   rw[hb];refine⟨[0],_,[jl P],rfl,rfl,?_,?_,rfl,rfl⟩
   ·exact rfl
   ·conv=>whnf
    repeat'(first|exact ⟨⟩|exact rfl|exact qa _|exact .inr rfl|exact fun _ _=>rfl|exact noI|apply And.intro)
    all_goals first
     |exact yh _
end
def qi9(a:Int):List DV:=[.int .u32 a]
theorem ys6(a b:Int):jm (qi9 a) (qi9 b)=decide (a=b):=by
 rw[lw];simp[qi9,jm,dEq,kEq]
def qi8(l:List (Int × Bool × List Int)):List (Int × Nat):=l.map fun h=>(h.1,1)
def xn2(S:List (Int × Nat)):KB:=.map [.int .u32] false false (aenc qi9 intV S)
theorem jo5{ρ:List Nat}(C:List (Int × Nat)):renM ρ (aenc qi9 intV C)=aenc qi9 intV C:=ql1 (fun _=>rfl) C
theorem xg5(l:List (Int × Bool × List Int))(a:Int):aget (qi8 l) a=if l.any (fun h=>h.1 == a) then some 1 else none:=by
 induction l with
 |nil=>rfl
 |cons r l ih =>
  show(if a=r.1 then some 1 else aget (qi8 l) a)=_
  rw[ih,List.any_cons];by_cases h:a=r.1
  ·subst h;simp
  ·have h':(r.1 == a)=false:=by simpa using fun e=>h e.symm
   rw[if_neg h,h',rv]
theorem zm9(l:List Int)(a:Int):qi3 (l++[a])=(qi3 l && !l.contains a):=by
 induction l with
 |nil=>simp[qi3]
 |cons x l ih =>
  show(!(l++[a]).contains x && qi3 (l++[a]))=((!l.contains x && qi3 l) && !(x :: l).contains a)
  rw[ih,lw];simp only[List.contains_append,List.contains_cons,List.contains_nil,Bool.or_false,Bool.not_or,px,ct,beq_eq_false_iff_ne]
  constructor
  ·rintro ⟨⟨h1,h2⟩,h3,h4⟩;exact⟨⟨h1,h3⟩,fun e=>h2 e.symm,h4⟩
  ·rintro ⟨⟨h1,h3⟩,h2,h4⟩;exact⟨⟨h1,fun e=>h2 e.symm⟩,h3,h4⟩
def ku(n:Nat)(a:Int):Bool:=decide (0<=a) && decide (a<(n:Int))
theorem yb0(n:Nat)(l:List (Int × Bool × List Int))(h:Int × Bool × List Int):x4 n (l++[h])=(x4 n l && (!l.any (fun x=>x.1 == h.1) && h.2.2.all (ku n))):=by
 unfold x4
 rw[fx,cy,List.map_nil,zm9,bn,List.all_cons,List.all_nil,Bool.and_true];have e:(l.map (·.1)).contains h.1=l.any (fun x=>x.1 == h.1):=by
  rw[lw,List.contains_iff_mem,bu];constructor
  ·intro hm;obtain⟨x,hx,e⟩:=o5.1 hm;exact⟨x,hx,by simpa using e⟩
  ·rintro ⟨x,hx,e⟩
   exact o5.2 ⟨x,hx,by simpa using e⟩
 rw[e];show _=_
 unfold ku
 cases qi3 (l.map (·.1)) <;> cases (l.any fun x=>x.1 == h.1) <;> cases (l.all fun h=>h.2.2.all fun at_=>decide (0<=at_) && decide (at_<(n:Int))) <;> rfl
theorem zh8(n:Nat)(l m:List (Int × Bool × List Int))(h:x4 n l=false):x4 n (l++m)=false:=by
 refine qk4 (P:=fun m=>x4 n (l++m)=false) (by rwa [mv]) (fun m r ih=>?_) m
 rw[<-gv,yb0,ih];rfl
theorem jl4{n:Nat}{l:List (Int × Bool × List Int)}{i:Nat}(h:x4 n (l.take i)=false):x4 n l=false:=by
 rw[<-cn i l];exact zh8 n _ _ h
theorem zy0{n:Nat}{l:List Int}{j:Nat}{a:Int}(h:l[j]? = some a):(l.take (j+1)).all (ku n)=((l.take j).all (ku n) && ku n a):=by
 rw[mr,h,bn];simp
theorem ys5{n:Nat}{l:List Int}{j:Nat}(h:(l.take j).all (ku n)=false):l.all (ku n)=false:=by
 rw [aw] at h ⊢;obtain⟨x,hx,e⟩:=h;exact⟨x,fy hx,e⟩
theorem zv4(f:Fo)(hh:f.hosts.length<=64)(hl:∀ h ∈ f.hosts,h.2.2.length<=9223372036854775807):FnOk Tryz.prog 58 [f.V] (.d (.bool (x4 f.zones.length f.hosts))):=by
 refine qp (TT:=TT) (IN:=qh [(96,Tryz.f96,2),(123,Tryz.f123,2),(95,Tryz.f95,2)]) qk (jj (jj (jj qj Tryz.func95 (by kernel_rfl) (by kernel_rfl)) Tryz.func123 (by kernel_rfl) (by kernel_rfl)) Tryz.func96 (by kernel_rfl) (by kernel_rfl)) mixed 1000 Tryz.func58 rfl (qi Tryz.func58 (by kernel_rfl) rfl) rfl 32 (by kernel_rfl) ?_
 conv=>whnf
 refine .inv Nat (fun i=>i<=f.hosts.length/\x4 f.zones.length (f.hosts.take i)=true) (fun i=>[(12,iV i)]) (fun i=>[(1,xn2 (qi8 (f.hosts.take i)))]) (fun i=>f.hosts.length - i) ⟨0,[0,1],⟨pu _,rfl⟩,?_⟩ ?_
 ·conv=>whnf
  repeat'(first|exact ⟨⟩|exact rfl|exact qa _|exact .inr rfl|exact fun _ _=>rfl|exact noI|apply And.intro)
 intro i hi;obtain⟨hi,hti⟩:=hi;conv=>whnf
 refine⟨fun h2=>?_,fun h2=>?_⟩
 ·have h2:i<f.hosts.length:=by
   have h:(i:Int)<f.hosts.length:=of_decide_eq_true h2
   omega
  have hw1:=w64s i (by omega)
  obtain⟨h,hhd⟩:∃ h,f.hosts.getD i default=h:=⟨_,rfl⟩;have hhl:f.hosts[i]? = some h:=by rw[<-hhd,List.getD,pn h2];rfl
  have hlz:=hl h (py hhl)
  have htk:f.hosts.take (i+1)=f.hosts.take i++[h]:=by rw[mr,hhl];rfl
  have hsn:=yb0 f.zones.length (f.hosts.take i) h
  rw [hti,m6] at hsn;conv=>whnf
  refine⟨by omega,?_⟩
  conv=>whnf
  rw[pp,hhd];have hfs:=zv (ev:=intV) ys6 (qi8 (f.hosts.take i)) h.1;have hga:=xg5 (f.hosts.take i) h.1;refine⟨_,hfs,?_⟩;cases hany:(f.hosts.take i).any (fun x=>x.1 == h.1) with
  |true =>
   rw [hany] at hga hsn;rw[hga];conv=>whnf
   refine brT rfl ?_;conv=>whnf
   rw[jl4 (i:=i+1) (by rw[htk,hsn];rfl)]
  |false =>
   rw [hany] at hga hsn;rw[hga];conv=>whnf
   refine brF rfl ?_;conv=>whnf
   have hsn:x4 f.zones.length (f.hosts.take (i+1))=h.2.2.all (ku f.zones.length):=by rw[htk,hsn];rfl
   have hput:putM (aenc qi9 intV (qi8 (f.hosts.take i))) [.int .u32 h.1] [.d (.int .i64 1)]=aenc qi9 intV (qi8 (f.hosts.take (i+1))):=by
    have h1:=qa5 (ev:=intV) ys6 (qi8 (f.hosts.take i)) h.1 1
    rw [ys3 hga,] at h1;rw[htk];unfold qi8 at h1 ⊢
    rw[fx];exact h1
   generalize hm:h.2.2=m at hlz hsn ⊢;refine .inv Nat (fun j=>j<=m.length/\(m.take j).all (ku f.zones.length)=true) (fun j=>[(8,iV j)]) (fun j=>[]) (fun j=>m.length - j) ⟨0,[0,1,2],⟨pu _,rfl⟩,?_⟩ ?_
   ·conv=>whnf
    repeat'(first|exact ⟨⟩|exact rfl|exact qa _|exact .inr rfl|exact fun _ _=>rfl|exact noI|apply And.intro)
    all_goals first
     |exact jo5 _
   intro j hj;obtain⟨hj,htj⟩:=hj;conv=>whnf
   refine⟨fun h3=>?_,fun h3=>?_⟩
   ·have h3:j<m.length:=by
     have h:(j:Int)<m.length:=of_decide_eq_true h3
     omega
    have hwj:=w64s j (by omega)
    have hmj:m[j]? = some (m.getD j 0):=by rw[List.getD,pn h3];rfl
    have hnx:=zy0 (n:=f.zones.length) hmj
    rw [htj,m6] at hnx;conv=>whnf
    refine⟨by omega,?_⟩
    conv=>whnf
    rw[pp];generalize m.getD j 0=a at hmj hnx ⊢;refine⟨fun h4=>?_,fun h4=>?_⟩
    ·have h4:a<0:=of_decide_eq_true h4
     have hg:ku f.zones.length a=false:=by unfold ku;rw[decide_eq_false (by omega:¬ 0<=a)];rfl
     have hb:x4 f.zones.length f.hosts=false:=jl4 (i:=i+1) (by rw[hsn];exact ys5 (j:=j+1) (by rw[hnx,hg]))
     conv=>whnf
     refine brT (decide_eq_true (by omega)) ?_
     conv=>whnf
     rw[hb]
    ·have h4:¬ a<0:=of_decide_eq_false h4
     conv=>whnf
     refine⟨fun h5=>?_,fun h5=>?_⟩
     ·have h5:a >= (f.zones.length:Int):=of_decide_eq_true h5
      have hg:ku f.zones.length a=false:=by unfold ku;rw[decide_eq_false (by omega:¬ a<(f.zones.length:Int)),lr]
      have hb:x4 f.zones.length f.hosts=false:=jl4 (i:=i+1) (by rw[hsn];exact ys5 (j:=j+1) (by rw[hnx,hg]))
      conv=>whnf
      refine brT (decide_eq_true (by omega)) ?_
      conv=>whnf
      rw[hb]
     ·have h5:¬ a >= (f.zones.length:Int):=of_decide_eq_false h5
      have hg:ku f.zones.length a=true:=by unfold ku;rw[decide_eq_true (by omega:0<=a),decide_eq_true (by omega:a<(f.zones.length:Int))];rfl
      conv=>whnf
      rw[hwj];refine⟨j+1,[0,1,2],⟨h3,by rw[hnx,hg]⟩,by omega,?_⟩
      conv=>whnf
      repeat'(first|exact ⟨⟩|exact rfl|exact qa _|exact .inr rfl|exact fun _ _=>rfl|exact noI|apply And.intro)
      all_goals first
       |exact jo5 _
   ·have h3:j=m.length:=by
     have h:¬ (j:Int)<m.length:=of_decide_eq_false h3
     omega
    subst h3;rw [mz] at htj;rw [htj] at hsn;conv=>whnf
    refine brF rfl ?_;conv=>whnf
    refine⟨_,hfs,?_⟩;rw[hga];conv=>whnf
    refine⟨_,hput,?_⟩;conv=>whnf
    rw[hw1];refine⟨i+1,[0,1],⟨h2,hsn⟩,by omega,?_⟩
    conv=>whnf
    repeat'(first|exact ⟨⟩|exact rfl|exact qa _|exact .inr rfl|exact fun _ _=>rfl|exact noI|apply And.intro)
    all_goals first
     |exact jo5 _
 ·have h2:i=f.hosts.length:=by
   have h:¬ (i:Int)<f.hosts.length:=of_decide_eq_false h2
   omega
  subst h2;rw [mz] at hti;conv=>whnf
  rw[hti]
theorem within_suf{n z:List UInt8}:qd n z=true↔qb n/\qb z/\fl z <:+ fl n:=by
 unfold qd
 simp only[px,decide_eq_true_eq,sr]
theorem zd1{a b c:List UInt8}(h:qd a b=true)(k:qd b c=true):qd a c=true:=by
 obtain⟨h1,h2,h3⟩:=within_suf.1 h;obtain⟨k1,k2,k3⟩:=within_suf.1 k;exact within_suf.2 ⟨h1,k2,k3.trans h3⟩
theorem zf0{n:List UInt8}(h:qb n):qd n n=true:=within_suf.2 ⟨h,h,List.suffix_refl _⟩
theorem qf7{n:List UInt8}(h:qb n):qg n=(fl n).length:=by
 unfold qg fl
 rw[if_pos h,o4]
theorem yc7{n a b:List UInt8}(ha:qd n a=true)(hb:qd n b=true)(hc:qg a<=qg b):qd b a=true:=by
 obtain⟨h1,h2,h3⟩:=within_suf.1 ha;obtain⟨k1,k2,k3⟩:=within_suf.1 hb;exact within_suf.2 ⟨k2,h2,List.suffix_of_suffix_length_le h3 k3 (by rw[<-qf7 h2,<-qf7 k2];exact hc)⟩
theorem yf2{a b:List UInt8}(h:qd b a=true)(hc:qg a=qg b):fold a=fold b:=by
 obtain⟨k2,h2,h3⟩:=within_suf.1 h;rw[vx h2,vx k2,h3.eq_of_length (by rw[<-qf7 h2,<-qf7 k2];exact hc)]
theorem jd5{a b:List UInt8}(ha:qb a)(hb:qb b)(h:fold a=fold b):qg a=qg b:=by
 rw[<-wr ha,<-wr hb,h]
theorem jx0{n a b:List UInt8}(ha:qb a)(hb:qb b)(h:fold a=fold b):qd n a=qd n b:=by
 rw[lw];exact⟨qb9 hb h.symm,qb9 ha h⟩
theorem qr9{n a b:List UInt8}(ha:qb a)(hb:qb b)(h:fold a=fold b):qd a n=qd b n:=by
 unfold qd
 rw[decide_eq_true ha,decide_eq_true hb,yf3 ha hb h]
theorem zk3{n c:List UInt8}(hc:qb c):qd n (fold c)=qd n c:=jx0 (qj2 hc) hc (jb3 c)
theorem xl0{n:List UInt8}(h:qb n)(hn:n≠[0]):∃ l,labN n=l :: labN (upN n):=by
 obtain⟨h1,h2,h3⟩:=xp h;cases hl:labN n with
 |nil=>rw [hl] at h3;exact absurd h3 hn
 |cons l ls =>
  rw [hl] at h2 h3;have hok:=h2 l (by simp)
  have hb:bt n 0=l.length:=by rw[h3];exact uo l (mk ls) hok
  have hu:upN n=mk ls:=by
   unfold upN
   rw[hb,h3];show(UInt8.ofNat l.length :: (l++mk ls)).drop (1+l.length)=_;rw[Nat.add_comm,List.drop_succ_cons,sq]
  have hun:=wd h hn
  obtain⟨g1,g2,g3⟩:=xp hun;have:labN (upN n)=ls:=jg3 g2 (fun x hx=>h2 x (by simp[hx])) (by rw[<-g3,hu])
  exact⟨l,by rw[this]⟩
theorem zq5{n c:List UInt8}(h:qd n c=true)(hn:n≠[0])(hc:qg c<qg n):qd (upN n) c=true:=by
 obtain⟨h1,h2,h3⟩:=within_suf.1 h;obtain⟨l,hl⟩:=xl0 h1 hn;have hu:=wd h1 hn
 refine within_suf.2 ⟨hu,h2,?_⟩;have hf:fl n=fold l :: fl (upN n):=by unfold fl;rw[hl];rfl
 rw [hf] at h3;rcases List.suffix_cons_iff.1 h3 with e|e
 ·exfalso
  rw [qf7 h1,qf7 h2,hf,e] at hc;exact absurd hc (bp _)
 ·exact e
theorem yg3:qg [0]=0:=by decide
theorem xj7{u:List UInt8}(hf:fold u=u):fold (upN u)=upN u:=by
 have:fold (u.drop (1+bt u 0))=(fold u).drop (1+bt u 0):=by unfold fold;rw[List.map_drop]
 show fold (u.drop (1+bt u 0))=u.drop (1+bt u 0)
 rw[this,hf]
theorem yn0{l:List RR}{name top c0:List UInt8}(hc:0<cntZ isNs l c0)(hn:name≠c0)(ht:qg top<qg c0)(h00:fold c0=c0):∀ (k:Nat) (u:List UInt8),u.length<=k->qd u c0=true->fold u=u->zp l name top (upsF k u)=true->cntZ anyR l name=cntZ jx l name
 |0,u,hk,hw,_,_=>by have:=(zd hw).1.1;omega
 |k+1,u,hk,hw,hf,h=>by
  have hun:=(zd hw).1
  have hcu:=qm9 hw
  have h0:u≠[0]:=fun e=>by rw [e,yg3] at hcu;omega
  have e1:zp l name top (upsF (k+1) u)=if u=top then true else if u≠name/\0<cntZ isNs l u then cntZ anyR l name == cntZ jx l name else zp l name top (if u=[0] then [] else upsF k (u.drop (1+bt u 0))):=rfl
  rw [e1,if_neg (fun e=>by rw [e] at hcu;omega),if_neg h0] at h
  split at h
  ·simpa using h
  ·rename_i hx
   by_cases hcc:qg u=qg c0
   ·have hu:u=c0:=by have:=yf2 hw hcc.symm;rw [hf,h00] at this;exact this.symm
    exact absurd ⟨fun e=>hn (by rw[<-e,hu]),by rw[hu];exact hc⟩ hx
   ·have hup:=zq5 hw h0 (by omega)
    have hbt:=we hun h0
    exact yn0 hc hn ht h00 k (upN u) (by unfold upN;rw[ow];omega) hup (xj7 hf) h
theorem js5{p:RR->Bool}{l:List RR}{r:RR}(hr:r ∈ l)(hp:p r=true){n:List UInt8}(hn:fold r.nm=n):0<cntZ p l n:=by
 unfold cntZ
 exact List.length_pos_of_mem (l9.2 ⟨hr,by simp[hn,hp]⟩)
theorem xm9{p:RR->Bool}{l:List RR}{r:RR}(hr:r ∈ l)(hp:p r=false){n:List UInt8}(hn:fold r.nm=n):cntZ p l n<cntZ anyR l n:=by
 have e1:cntZ p l n=((l.filter fun r=>fold r.nm == n && anyR r).filter p).length:=by
  unfold cntZ
  rw[List.filter_filter];congr 1
  apply List.filter_congr;intro x _;simp[anyR,Bool.and_comm]
 rw[e1];unfold cntZ
 exact List.length_filter_lt_length_iff_exists.2 ⟨r,l9.2 ⟨hr,by simp[hn,anyR]⟩,by simp[hp]⟩
theorem Zo.cutL_spec{z:Zo}(hz:z.ok=true){c:List UInt8}(h:c ∈ z.cutL):∃ r ∈ z.rrs,r.nm=c/\r.ty=2/\qd c z.apex=true/\jq c z.apex=false/\qb c/\zr z.apex r=true:=by
 unfold Zo.cutL at h
 obtain⟨r,hr,rfl⟩:=o5.1 h;obtain⟨hr,hp⟩:=l9.1 hr;have ht:=z.ok_take hz hr
 have ht':=ht
 unfold zr at ht'
 simp only [px] at ht' hp
 exact⟨r,hr,rfl,by simpa[isNs] using hp.1,ht'.2.2.2.2,by simpa using hp.2,(zd ht'.2.2.2.2).1,ht⟩
theorem Zo.ok_sound{z:Zo}(h:z.ok=true):xu z=true:=by
 rw [z.ok_eq] at h;simp only [px] at h
 exact h.2.2.2
theorem zp2{z:Zo}(hz:z.ok=true){c0 c1:List UInt8}(h0:c0 ∈ z.cutL)(h1:c1 ∈ z.cutL)(hw:qd c1 c0=true):fold c1=fold c0:=by
 obtain⟨r0,m0,e0,t0,w0,s0,n0,k0⟩:=z.cutL_spec hz h0;obtain⟨r1,m1,e1,t1,w1,s1,n1,k1⟩:=z.cutL_spec hz h1;have han:=Zo.ok_name hz
 apply Classical.byContradiction;intro hne;have hs:=Zo.ok_sound hz
 unfold xu at hs
 simp only [px,gn] at hs
 have hf:=hs.2.2 r1 m1
 rw [e1] at hf;have hlt:qg c0<qg c1:=by
  have:=qm9 hw
  rcases pz (qg c0) (qg c1) with h|h
  ·exact h
  ·exact absurd (yf2 hw (by omega)).symm hne
 unfold jb at hf
 split at hf
 ·cases hf
 ·split at hf
  ·rename_i h
   have:=xa0 n1 han
   rw [h,beq_self_eq_true] at this;rw [this] at s1;cases s1
  ·split at hf
   ·cases hf
   ·have hl0:qg z.apex<qg c0:=qm8 w0 s0
    have hn1:=qj2 n1
    unfold upsN at hf
    rw [if_pos hn1] at hf;have hwf:qd (fold c1) (fold c0)=true:=by
     rw[zk3 n0,qr9 hn1 n1 (jb3 c1)];exact hw
    have:=yn0 (l:=z.rrs) (name:=fold c1) (top:=fold z.apex) (c0:=fold c0) (js5 m0 (by simp[isNs,t0]) (by rw[e0])) hne (by rw[wr han,wr n0];exact hl0) (jb3 c0) _ (fold c1) (pq _) hwf (jb3 c1) hf
    have hl:=xm9 (p:=jx) m1 (by simp[jx,t1]) (n:=fold c1) (by rw[e1])
    omega
structure Good(zs:List Zo):Prop where
 zok:∀ z ∈ zs,z.ok=true
 un:∀ (i j:Nat) (a b:Zo),zs[i]? = some a->zs[j]? = some b->fold a.apex=fold b.apex->i=j
 root:∀ z,zs[0]? = some z->fold z.apex=[0]
 hang:∀ (i:Nat) (z:Zo),zs[i]? = some z->i≠0->∃ (a:Nat) (za:Zo) (c:List UInt8),zs[a]? = some za/\a≠i/\c ∈ za.cutL/\fold c=fold z.apex/\qd z.apex za.apex=true /\
  ∀ (j:Nat) (zj:Zo),j≠i->zs[j]? = some zj->qd z.apex zj.apex=true->qg zj.apex<=qg za.apex
theorem yl5{n:List UInt8}(h:fold n=[0]):qg n=0\/¬ qb n:=by
 by_cases hn:qb n
 ·left
  rw[<-wr hn,h];exact yg3
 ·exact .inr hn
theorem zp3{n:List UInt8}(hn:qb n)(h:qg n=0):fold n=[0]:=by
 rw [qf7 hn] at h;rw[vx hn,fu h];rfl
theorem Good.covers{zs:List Zo}(g:Good zs){name:List UInt8}{i:Nat}{zi:Zo}(hi:zs[i]? = some zi)(wi:qd name zi.apex=true):∀ (k j:Nat) (zj:Zo),zs[j]? = some zj->i≠j->qd name zj.apex=true->qg zi.apex<=qg zj.apex->qg zj.apex<k ->
 ∃ c ∈ zi.cutL,qd name c=true/\∃ (m:Nat) (zm:Zo),zs[m]? = some zm/\fold zm.apex=fold c
 |0,j,zj,_,_,_,_,hk=>by omega
 |k+1,j,zj,hj,hij,wj,hc,hk=>by
  have hni:=(zd wi).2
  have hnj:=(zd wj).2
  have hj0:j≠0:=fun e=>by
   subst e;have h1:=g.root zj hj
   have h2:qg zj.apex=0:=(yl5 h1).resolve_right (fun e=>e hnj)
   have h3:=zp3 hni (by omega)
   exact hij (g.un i 0 zi zj hi hj (by rw[h1,h3]))
  obtain⟨a,za,c,ha,haj,hca,hcf,wa,hmax⟩:=g.hang j zj hj hj0;have hzam:=g.zok za (py ha);obtain⟨r,_,_,_,wc,sc,nc,_⟩:=za.cutL_spec hzam hca;have wnc:qd name c=true:=qb9 nc hcf wj;by_cases hai:i=a
  ·subst hai;rw [hi] at ha;cases ha
   exact⟨c,hca,wnc,j,zj,hj,hcf.symm⟩
  ·have w1:=yc7 wi wj hc
   have h1:=hmax i zi hij hi w1
   have hlt:qg za.apex<qg zj.apex:=by
    rw[<-jd5 nc hnj hcf];exact qm8 wc sc
   exact g.covers hi wi k a za ha hai (zd1 wj wa) h1 (by omega)
theorem Good.best{zs:List Zo}(g:Good zs){name:List UInt8}{i:Nat}{zi:Zo}(hi:zs[i]? = some zi)(wi:qd name zi.apex=true)(hc:zi.cut name=none){j:Nat}{zj:Zo}(hj:zs[j]? = some zj)(wj:qd name zj.apex=true)(hij:j≠i):qg zj.apex<qg zi.apex:=by
 apply Classical.byContradiction;intro h;obtain⟨c,h1,h2,_⟩:=g.covers hi wi (qg zj.apex+1) j zj hj (fun e=>hij e.symm) wj (by omega) (l8 _)
 have:=topCut_none.1 hc c h1
 rw [this] at h2;cases h2
theorem Good.others{zs:List Zo}(g:Good zs){name:List UInt8}{i:Nat}{zi:Zo}(hi:zs[i]? = some zi)(wi:qd name zi.apex=true)(hc:zi.cut name=none){j:Nat}{zj:Zo}(hj:zs[j]? = some zj)(wj:qd name zj.apex=true)(hij:j≠i):zj.cut name≠none:=by
 intro h;obtain⟨c,h1,h2,_⟩:=g.covers hj wj (qg zi.apex+1) i zi hi hij wi (Nat.le_of_lt (g.best hi wi hc hj wj hij)) (l8 _);have:=topCut_none.1 h c h1;rw [this] at h2;cases h2
theorem Good.lost{zs:List Zo}(g:Good zs){name:List UInt8}{j:Nat}{zj:Zo}(hj:zs[j]? = some zj)(wj:qd name zj.apex=true){b:List UInt8}(hb:zj.cut name=some b)(hp:ya zs b=none){i:Nat}{zi:Zo}(hi:zs[i]? = some zi)(wi:qd name zi.apex=true):zi.cut name≠none:=by
 intro h;have hne:i≠j:=fun e=>by
  subst e;rw [hi] at hj;cases hj
  rw [h] at hb;cases hb
 have hlt:=g.best hi wi h hj wj (fun e=>hne e.symm)
 obtain⟨c1,h1,h2,m,zm,hm,em⟩:=g.covers hj wj (qg zi.apex+1) i zi hi (fun e=>hne e.symm) wi (Nat.le_of_lt hlt) (l8 _)
 obtain⟨⟨c0,k1,k2,k3⟩,k4⟩:=qs4 hb;have hz:=g.zok zj (py hj);have hle:=k4 c1 h1 h2;obtain⟨_,_,_,_,_,_,n0,_⟩:=zj.cutL_spec hz k1;rw [<-k2,wr n0] at hle;have hw:=yc7 k3 h2 hle;have he:=zp2 hz k1 h1 hw;have:ya zs b≠none:=fun e=>by
  unfold ya at e
  rw [List.findIdx?_eq_none_iff] at e;have:=e zm (py hm);simp [em,he,k2] at this
 exact this hp
theorem ym4{zs:List Zo}(hz:∀ z ∈ zs,z.ok=true){name:List UInt8}:∀ (k at_:Nat) (z:Zo),zs[at_]? = some z->qd name z.apex=true->qg name<k+qg z.apex ->
 yn zs name k at_=none->∃ (j:Nat) (zj:Zo) (b:List UInt8),zs[j]? = some zj/\qd name zj.apex=true/\zj.cut name=some b/\ya zs b=none
 |0,at_,z,h,hw,hc,_=>by have:=qm9 hw;omega
 |k+1,at_,z,h,hw,hc,hd=>by
  have hzm:=hz z (py h)
  have e1:yn zs name (k+1) at_=match z.cut name with
   |none=>some at_
   |some c=>match ya zs c with
    |none=>none
    |some next=>yn zs name k next:=by
   show(match zs[at_]? with|none=>none|some z=>_)=_
   rw[h];rfl
  rw [e1] at hd;cases hcut:z.cut name with
  |none=>rw [hcut] at hd;cases hd
  |some c =>
   rw [hcut] at hd;simp only at hd
   cases hp:ya zs c with
   |none=>exact⟨at_,z,c,h,hw,hcut,hp⟩
   |some next =>
    rw [hp] at hd;simp only at hd
    obtain⟨y,hy,ey⟩:=qf3 hp;obtain⟨c',ec,w1,w2,w3⟩:=z.cut_spec hzm hcut;have hyn:=Zo.ok_name (hz y (py hy));have hyc:fold y.apex=fold c':=by rw[ey,ec]
    have wy:=qb9 hyn hyc w1
    have hlt:=qm8 w2 w3
    have hcc:qg y.apex=qg c':=jd5 hyn (zd w1).2 hyc
    exact ym4 hz k next y hy wy (by omega) hd
theorem yj8:∀ {l:List (List UInt8)},zl l=true->∀ {i j:Nat} {a:List UInt8},l[i]? = some a->l[j]? = some a->i=j
 |[],_,_,_,_,h,_=>by cases h
 |x :: l,h,i,j,a,hi,hj=>by
  have h':(!l.contains x && zl l)=true:=h
  simp only [px,ct] at h'
  have hx:∀ k,l[k]?≠some x:=fun k hk=>by
   have:=py hk
   rw [<-List.contains_iff_mem,h'.1] at this;cases this
  cases i with
  |zero =>
   cases j with
   |zero=>rfl
   |succ j =>
    simp at hi hj
    subst hi;exact absurd hj (hx j)
  |succ i =>
   cases j with
   |zero =>
    simp at hi hj
    subst hj;exact absurd hi (hx i)
   |succ j =>
    simp at hi hj
    rw[yj8 h'.2 hi hj]
theorem js9{zs:List Zo}(h:zl (zs.map fun z=>fold z.apex)=true){i j:Nat}{a b:Zo}(hi:zs[i]? = some a)(hj:zs[j]? = some b)(e:fold a.apex=fold b.apex):i=j :=
 yj8 h (a:=fold a.apex) (by rw[o9,hi];rfl) (by rw[o9,hj,e];rfl)
theorem zt3{zs:List Zo}(h:zl (zs.map fun z=>fold z.apex)=true){i:Nat}{z:Zo}(hi:zs[i]? = some z)(n:List UInt8):ya zs n=some i↔fold z.apex=n:=by
 constructor
 ·intro e;obtain⟨y,hy,e1⟩:=qf3 e;rw [hi] at hy;cases hy
  exact e1
 ·intro e;cases hp:ya zs n with
  |none=>exact absurd e (place_none.1 hp z (py hi))
  |some k =>
   obtain⟨y,hy,e1⟩:=qf3 hp;rw[js9 h hy hi (e1.trans e.symm)]
theorem zj0(zs:List Zo)(i:Nat)(apex:List UInt8):qw3 zs i apex=if (zk (jp zs) apex (yx zs i)).2 then some (zk (jp zs) apex (yx zs i)).1 else none:=by
 unfold qw3 zk
 cases yp apex (yx zs i) none with
 |none=>rfl
 |some a =>
  show ya zs (fold a)=if (match aget (jp zs) (fold a) with|none=>(0,false)|some k=>(k,true)).2 then some (match aget (jp zs) (fold a) with|none=>(0,false)|some k=>(k,true)).1 else none
  rw[qj6];cases ya zs (fold a) <;> rfl
theorem xj5{zs:List Zo}(hz:∀ z ∈ zs,z.ok=true)(ho:zl (zs.map fun z=>fold z.apex)=true):qi5 zs (jp zs)=qr1 zs:=by
 have hi:∀ i,i<zs.length->ux zs (jp zs) i=(i == 0 || (match qw3 zs i (zs.getD i default).apex with
  |none=>false
  |some a=>(zs.getD a default).cutL.any fun c=>fold c == fold (zs.getD i default).apex)):=fun i hi=>by
  unfold ux
  rw[zj0];have hzi:zs[i]? = some (zs.getD i default):=by rw[o8,pn hi];rfl
  congr 1
  have hcl:=ys0 (n:=zs.length) (P:=jp zs) (fun k v hv=>by
   rw [qj6] at hv;obtain⟨y,hy,_⟩:=qf3 hv;exact(po.1 hy).1) (zs.getD i default).apex (yx zs i)
  generalize zk (jp zs) (zs.getD i default).apex (yx zs i)=r at hcl ⊢;obtain⟨a,b⟩:=r;cases b with
  |false=>rfl
  |true =>
   have ha:a<zs.length:=hcl rfl
   have hza:zs[a]? = some (zs.getD a default):=by rw[o8,pn ha];rfl
   have hok:=hz _ (py hza)
   show((xy (zs.getD a default)).any fun c=>decide (aget (jp zs) (fold c)=some i))=(zs.getD a default).cutL.any fun c=>fold c == fold (zs.getD i default).apex
   unfold xy
   rw[if_pos hok,lw,bu,bu];have hp:∀ c,(aget (jp zs) (fold c)=some i)↔fold c=fold (zs.getD i default).apex:=fun c=>by
    rw[qj6,zt3 ho hzi];exact eq_comm
   constructor
   ·rintro ⟨c,hc,e⟩
    exact⟨c,(qa2 hc).1,by simpa using(hp c).1 (by simpa using e)⟩
   ·rintro ⟨c,hc,e⟩
    obtain⟨_,_,_,_,_,_,hcn,_⟩:=Zo.cutL_spec hok hc;obtain⟨m,hm,em⟩:=jm4 hc hcn;exact⟨m,hm,by simpa using(hp m).2 (by rw[em];simpa using e)⟩
 unfold qi5 qr1
 rw[lw,gn,gn];constructor
 ·intro h i hm;exact(hi i (lu.1 hm)).symm.trans (h i hm)
 ·intro h i hm;exact(hi i (lu.1 hm)).trans (h i hm)
def qa3(zs:List Zo)(i:Nat):Bool:=(zs.take i).all Zo.ok && (zl ((zs.take i).map fun z=>fold z.apex) && (i == 0 || fold (zs.getD 0 default).apex == [0]))
theorem xg2{p:Zo->Bool}{zs:List Zo}{i:Nat}(h:(zs.take i).all p=false):zs.all p=false:=by
 rw [aw] at h ⊢;obtain⟨x,hx,e⟩:=h;exact⟨x,fy hx,e⟩
theorem zk5{f:Fo}{i:Nat}(h:qa3 f.zones i=false):f.ok=false:=by
 unfold qa3 at h
 unfold Fo.ok
 simp only [rq] at h ⊢
 rcases h with h|h|h
 ·exact .inr (.inr (.inr (.inl (xg2 h))))
 ·rw [List.map_take] at h;exact .inr (.inr (.inr (.inr (.inl (zm8 h)))))
 ·rw [ar] at h;exact .inr (.inr (.inr (.inr (.inr (.inl h.2)))))
theorem zf5{zs:List Zo}{i:Nat}{z:Zo}(h:zs[i]? = some z)(hs:qa3 zs i=true):qa3 zs (i+1)=(z.ok && ((ya (zs.take i) (fold z.apex)).isNone && (i != 0 || fold z.apex == [0]))):=by
 unfold qa3 at hs ⊢
 simp only [px] at hs
 obtain⟨h1,h2,h3⟩:=hs;rw[mr,h];simp only[Option.toList_some,bn,fx,cy,List.map_nil,ye3,h1,h2,List.all_cons,List.all_nil,Bool.and_true,m6]
 have e1:(!((zs.take i).map fun z=>fold z.apex).contains (fold z.apex))=(ya (zs.take i) (fold z.apex)).isNone:=by
  rw[lw,ct,Option.isNone_iff_eq_none,place_none,<-Bool.not_eq_true,List.contains_iff_mem];constructor
  ·intro hm y hy e;exact hm (o5.2 ⟨y,hy,e⟩)
  ·intro hm hc;obtain⟨y,hy,e⟩:=o5.1 hc;exact hm y hy e
 rw[e1];congr 2
 cases i with
 |zero =>
  have:zs.getD 0 default=z:=by rw[o8,h];rfl
  rw[this];rfl
 |succ i =>
  have h3':(fold (zs.getD 0 default).apex == [0])=true:=by
   rw [dp] at h3;exact h3.resolve_left (by simp)
  rw[h3'];rfl
def qo7(f:Fo):SV:=if f.ok then .tup [.map 0,.d (.int .i64 0)] else .tup [.v (.map none),.d (.int .i64 2)]
def qo8(f:Fo):List KB:=if f.ok then [jl (jp f.zones)] else []
theorem zq8(f:Fo)(hf:f.Fit)(hl:∀ h ∈ f.hosts,h.2.2.length<=9223372036854775807) :
 COk Tryz.prog 26 [f.V] [] (fun s k=>s=qo7 f/\k=qo8 f):=by
 refine j7 (TT:=TT) (IN:=qh []) qk qj mixed 1000 Tryz.func26 rfl (qi Tryz.func26 (by kernel_rfl) rfl) 72 (by kernel_rfl) ?_
 have hno:f.ok=false->qo7 f = .tup [.v (.map none),.d (.int .i64 2)]/\qo8 f=[]:=fun h=>by
  unfold qo7 qo8
  rw[h];exact⟨rfl,rfl⟩
 conv=>whnf
 refine⟨fun h1=>?_,fun h1=>?_⟩
 ·have h1:¬ 1<=f.zones.length:=by
   have h:(f.zones.length:Int)<1:=of_decide_eq_true h1
   omega
  obtain⟨e1,e2⟩:=hno (by unfold Fo.ok;rw[decide_eq_false h1];rfl)
  rw[e1,e2];conv=>whnf
  refine⟨[],_,[],rfl,rfl,?_,?_,rfl,rfl⟩
  ·exact rfl
  ·exact True.intro
 have h1:1<=f.zones.length:=by
  have h:¬ (f.zones.length:Int)<1:=of_decide_eq_false h1
  omega
 conv=>whnf
 refine⟨fun h2=>?_,fun h2=>?_⟩
 ·have h2:¬ f.zones.length<=64:=by
   have h:(f.zones.length:Int) > 64:=of_decide_eq_true h2
   omega
  obtain⟨e1,e2⟩:=hno (by unfold Fo.ok;rw[decide_eq_false h2,lz,lr])
  rw[e1,e2];conv=>whnf
  refine⟨[],_,[],rfl,rfl,?_,?_,rfl,rfl⟩
  ·exact rfl
  ·exact True.intro
 have h2:f.zones.length<=64:=by
  have h:¬ (f.zones.length:Int) > 64:=of_decide_eq_false h2
  omega
 conv=>whnf
 refine⟨fun h3=>?_,fun h3=>?_⟩
 ·have h3:¬ f.hosts.length<=64:=by
   have h:(f.hosts.length:Int) > 64:=of_decide_eq_true h3
   omega
  obtain⟨e1,e2⟩:=hno (by unfold Fo.ok;rw[decide_eq_false h3,lz,lr,lr])
  rw[e1,e2];conv=>whnf
  refine⟨[],_,[],rfl,rfl,?_,?_,rfl,rfl⟩
  ·exact rfl
  ·exact True.intro
 have h3:f.hosts.length<=64:=by
  have h:¬ (f.hosts.length:Int) > 64:=of_decide_eq_false h3
  omega
 have hok:f.ok=(f.zones.all Zo.ok && (zl (f.zones.map fun z=>fold z.apex) && (fold (f.zones.getD 0 default).apex == [0] && (qr1 f.zones && x4 f.zones.length f.hosts)))):=by
  unfold Fo.ok
  rw[decide_eq_true h1,decide_eq_true h2,decide_eq_true h3];rfl
 conv=>whnf
 refine .inv Nat (fun i=>i<=f.zones.length/\qa3 f.zones i=true) (fun i=>[(33,iV i)]) (fun i=>[(1,jl (jp (f.zones.take i)))]) (fun i=>f.zones.length - i) ⟨0,[0,1],⟨pu _,rfl⟩,?_⟩ ?_
 ·conv=>whnf
  repeat'(first|exact ⟨⟩|exact rfl|exact qa _|exact .inr rfl|exact fun _ _=>rfl|exact noI|apply And.intro)
 intro i hi;obtain⟨hi,hti⟩:=hi;conv=>whnf
 refine⟨fun h4=>?_,fun h4=>?_⟩
 ·have h4:i<f.zones.length:=by
   have h:(i:Int)<f.zones.length:=of_decide_eq_true h4
   omega
  have hw1:=w64s i (by omega)
  obtain⟨z,hzd⟩:∃ z,f.zones.getD i default=z:=⟨_,rfl⟩;have hzl:f.zones[i]? = some z:=by rw[<-hzd,List.getD,pn h4];rfl
  have hzf:=hf z (py hzl)
  have hnx:=zf5 hzl hti
  have htk:f.zones.take (i+1)=f.zones.take i++[z]:=by rw[mr,hzl];rfl
  have hbad:qa3 f.zones (i+1)=false->f.ok=false:=zk5
  conv=>whnf
  refine⟨by omega,?_⟩
  conv=>whnf
  rw[pp,hzd];refine od (yg9 z hzf.2) rfl rfl ?_;cases hzo:z.ok with
  |false =>
   obtain⟨e1,e2⟩:=hno (hbad (by rw[hnx,hzo];rfl))
   rw[e1,e2,if_neg (by decide)]
   conv=>whnf
   refine brT rfl ?_;conv=>whnf
   refine⟨[],_,[],rfl,rfl,?_,?_,rfl,rfl⟩
   ·exact rfl
   ·exact True.intro
  |true =>
   rw[if_pos rfl];rw [hzo,m6] at hnx;conv=>whnf
   refine brF rfl ?_;conv=>whnf
   refine od (zx z.apex (by have:=hzf.1;omega)) rfl rfl ?_
   conv=>whnf
   have hfs:=zv (ev:=intV) yt (jp (f.zones.take i)) (fold z.apex)
   rw [qj6] at hfs;refine⟨_,hfs,?_⟩;cases hp:ya (f.zones.take i) (fold z.apex) with
   |some k =>
    rw [hp] at hnx;obtain⟨e1,e2⟩:=hno (hbad (by rw[hnx];rfl))
    rw[e1,e2];conv=>whnf
    refine⟨[],_,[],rfl,rfl,?_,?_,rfl,rfl⟩
    ·exact rfl
    ·exact True.intro
   |none =>
    rw [hp] at hnx;have hput:putM (aenc strK intV (jp (f.zones.take i))) [.str (fold z.apex)] [.d (.int .i64 (i:Nat))]=aenc strK intV (jp (f.zones.take (i+1))):=by
     have h1:=qa5 (ev:=intV) yt (jp (f.zones.take i)) (fold z.apex) i
     rw [ys3 (by rw [qj6,hp])] at h1
     rw[htk,zg4,show(f.zones.take i).length=i by rw[m9];omega]
     exact h1
    have hgo:qa3 f.zones (i+1)=true->qa3 f.zones (i+1)=true:=id
    conv=>whnf
    refine⟨fun h5=>?_,fun h5=>?_⟩
    ·have h5:i=0:=by
      have h:(i:Int)=0:=by simpa using h5
      omega
     conv=>whnf
     refine⟨fun h6=>?_,fun h6=>?_⟩
     ·have h6:(fold z.apex == [0])=false:=by simpa using h6
      obtain⟨e1,e2⟩:=hno (hbad (by rw[hnx,h6,h5];rfl))
      rw[e1,e2];conv=>whnf
      refine⟨[],_,[],rfl,rfl,?_,?_,rfl,rfl⟩
      ·exact rfl
      ·exact True.intro
     ·have h6:(fold z.apex == [0])=true:=by simpa using h6
      conv=>whnf
      refine⟨_,hput,?_⟩;conv=>whnf
      rw[hw1];refine⟨i+1,[0,1],⟨h4,by rw[hnx,h6,Bool.or_true];rfl⟩,by omega,?_⟩
      conv=>whnf
      repeat'(first|exact ⟨⟩|exact rfl|exact qa _|exact .inr rfl|exact fun _ _=>rfl|exact noI|apply And.intro)
      all_goals first
       |exact yh _
    ·have h5:(i != 0)=true:=by
      have h:¬ (i:Int)=0:=by simpa using h5
      simp;omega
     conv=>whnf
     refine⟨_,hput,?_⟩;conv=>whnf
     rw[hw1];refine⟨i+1,[0,1],⟨h4,by rw[hnx,h5];rfl⟩,by omega,?_⟩
     conv=>whnf
     repeat'(first|exact ⟨⟩|exact rfl|exact qa _|exact .inr rfl|exact fun _ _=>rfl|exact noI|apply And.intro)
     all_goals first
      |exact yh _
 ·have h4:i=f.zones.length:=by
   have h:¬ (i:Int)<f.zones.length:=of_decide_eq_false h4
   omega
  subst h4;unfold qa3 at hti
  rw [mz] at hti ⊢;simp only [px] at hti
  obtain⟨t1,t2,t3⟩:=hti;have t3:(fold (f.zones.getD 0 default).apex == [0])=true:=by
   rw [dp] at t3;exact t3.resolve_left (fun e=>by
    have:f.zones.length=0:=by simpa using e
    omega)
  have hz:∀ z ∈ f.zones,z.ok=true:=gn.1 t1
  rw [t1,t2,t3,m6,m6,m6,<-xj5 hz t2] at hok;have hP:∀ k v,aget (jp f.zones) k=some v->v<f.zones.length:=fun k v hv=>by
   rw [qj6] at hv;obtain⟨y,hy,_⟩:=qf3 hv;exact(po.1 hy).1
  conv=>whnf
  refine .rel _ (COk.frameX (xj4 f hf h2 (jp f.zones) hz hP) [1] rfl rfl (by show[jl _]=[mapK _ (jl _)];rw[qf2])) (fun x ks' hR=>?_)
  obtain⟨s0,k0,⟨rfl,rfl⟩,rfl,rfl⟩:=hR;rw[show mapB (sig [1] _) [jl (jp f.zones)]=[jl (jp f.zones)] from congrArg (fun x=>[x]) (qf2 _)]
  cases hh:qi5 f.zones (jp f.zones) with
  |false =>
   obtain⟨e1,e2⟩:=hno (by rw[hok,hh];rfl)
   rw[e1,e2];conv=>whnf
   refine brT rfl ?_;conv=>whnf
   refine⟨[],_,[],rfl,rfl,?_,?_,rfl,rfl⟩
   ·exact rfl
   ·exact True.intro
  |true =>
   rw [hh,m6] at hok;conv=>whnf
   refine brF rfl ?_;conv=>whnf
   refine od (zv4 f h3 hl) rfl rfl ?_;rw[<-hok];cases hk:f.ok with
   |false =>
    obtain⟨e1,e2⟩:=hno hk;rw[e1,e2];conv=>whnf
    refine brT rfl ?_;conv=>whnf
    refine⟨[],_,[],rfl,rfl,?_,?_,rfl,rfl⟩
    ·exact rfl
    ·exact True.intro
   |true =>
    have e1:qo7 f = .tup [.map 0,.d (.int .i64 0)]:=by unfold qo7;rw[hk];rfl
    have e2:qo8 f=[jl (jp f.zones)]:=by unfold qo8;rw[hk];rfl
    rw[e1,e2];conv=>whnf
    refine brF rfl ?_;conv=>whnf
    refine⟨[1],_,[jl (jp f.zones)],rfl,rfl,?_,?_,rfl,rfl⟩
    ·exact rfl
    ·conv=>whnf
     repeat'(first|exact ⟨⟩|exact rfl|exact qa _|exact .inr rfl|exact fun _ _=>rfl|exact noI|apply And.intro)
     all_goals first
      |exact yh _
theorem Fo.parts{f:Fo}(h:f.ok=true):(1<=f.zones.length/\f.zones.length<=64/\f.hosts.length<=64)/\(∀ z ∈ f.zones,z.ok=true)/\zl (f.zones.map fun z=>fold z.apex)=true/\fold (f.zones.getD 0 default).apex=[0]/\qr1 f.zones=true/\x4 f.zones.length f.hosts=true:=by
 unfold Fo.ok at h
 simp only [px,decide_eq_true_eq,beq_iff_eq] at h
 obtain⟨a1,a2,a3,a4,a5,a6,a7,a8⟩:=h;exact⟨⟨a1,a2,a3⟩,gn.1 a4,a5,a6,a7,a8⟩
theorem xe2{z:Zo}(hz:z.ok=true){c:List UInt8}(hc:c ∈ z.cutL):(qc c 2 z.rrs).2=0/\(qc c 2 z.rrs).1.nm=c:=by
 obtain⟨r,hr,hn,ht,_,_,hcn,hk⟩:=Zo.cutL_spec hz hc;have hp:qv c 2 z.rrs≠[]:=by
  intro e;have hm:r ∈ qv c 2 z.rrs:=by
   unfold qv jy ju
   refine l9.2 ⟨l9.2 ⟨hr,?_⟩,?_⟩
   ·rw[ht,hn];simp
   ·unfold zr at hk
    simp only [px] at hk
    rw[hk.1,hk.2.2.2.1];rfl
  rw [e] at hm;cases hm
 have e:qc c 2 z.rrs=(qh4 c 2 (qv c 2 z.rrs),0):=by
  unfold qc
  rw[if_pos hcn,if_neg (by simpa using hp)]
 rw[e];exact⟨rfl,rfl⟩
theorem jb9{z:Zo}(hz:z.ok=true)(name:List UInt8):(z.cut name=none/\(cutQ z name).2=3/\cutQ z name=(St.no,3))\/∃ c,z.cut name=some (fold c)/\(cutQ z name).2=0/\(cutQ z name).1.nm=c/\qb c/\c ∈ z.cutL/\qd name c=true/\cutQ z name=qc c 2 z.rrs:=by
 have hb:=xf5 (name:=name) (l:=z.cutL) (fun c hc=>by
  obtain⟨_,_,_,_,_,_,h,_⟩:=Zo.cutL_spec hz hc;exact h)
 have hs:=jl8 name (zu z.cutL)
 unfold cutQ Zo.cut
 rw[if_pos hz];cases hc:xz name (zu z.cutL) with
 |none =>
  rw [hc] at hb;exact .inl ⟨hb.symm,rfl,rfl⟩
 |some c =>
  rw [hc] at hb hs;obtain⟨h1,h2,_⟩:=hs;obtain⟨hm,hn⟩:=qa2 h1;obtain⟨f1,f2⟩:=xe2 hz hm;exact .inr ⟨c,hb.symm,f1,f2,hn,hm,h2,rfl⟩
def u0(f:Fo)(name:List UInt8):Nat × Int:=if qb name then (match yn f.zones name 300 0 with
 |none=>(0,12)
 |some a=>(a,0)) else (0,2)
theorem qz2{n:List UInt8}:qg n<=255:=by
 unfold qg
 split
 ·rename_i h
  obtain⟨h1,h2,h3⟩:=xp h;have:∀ l:List (List UInt8),l.length<=(mk l).length:=fun l=>by
   induction l with
   |nil=>exact pu _
   |cons a l ih =>
    have:(mk (a :: l)).length=1+a.length+(mk l).length:=qy3 a l
    rw[this,lq];omega
  have h4:=this (labN n)
  rw [<-h3] at h4;omega
 ·exact pu _
theorem jj5{z:Zo}(hz:qb z.apex)(h:fold z.apex=[0]){name:List UInt8}(hn:qb name):qd name z.apex=true:=by
 refine within_suf.2 ⟨hn,hz,?_⟩;have:qg z.apex=0:=(yl5 h).resolve_right (fun e=>e hz)
 rw [qf7 hz] at this;rw[fu this];exact List.nil_suffix
structure DwS where
 k:Nat
 at_:Nat
theorem yv4(f:Fo)(hf:f.Fit)(hok:f.ok=true)(name:List UInt8) :
 COk Tryz.prog 28 [f.V,.map 0,.d (.str name)] [jl (jp f.zones)] (fun s k=>s = .tup [iV (u0 f name).1,.d (.int .i64 (u0 f name).2)]/\k=[jl (jp f.zones)]):=by
 obtain⟨⟨h1,h2,h3⟩,hz,ho,hr,_,_⟩:=Fo.parts hok;refine j7 (TT:=TT) (IN:=qh []) qk qj mixed 1000 Tryz.func28 rfl (qi Tryz.func28 (by kernel_rfl) rfl) 37 (by kernel_rfl) ?_
 conv=>whnf
 refine od (zw name) rfl rfl ?_;unfold u0;by_cases hn:qb name;case neg =>
  rw[if_neg hn,if_neg hn];conv=>whnf
  refine brT rfl ?_;conv=>whnf
  refine⟨[0],_,[jl (jp f.zones)],rfl,rfl,?_,?_,rfl,rfl⟩
  ·exact rfl
  ·conv=>whnf
   repeat'(first|exact ⟨⟩|exact rfl|exact qa _|exact .inr rfl|exact fun _ _=>rfl|exact noI|apply And.intro)
   all_goals first
    |exact yh _
 rw[if_pos hn,if_pos hn];conv=>whnf
 refine brF rfl ?_;conv=>whnf
 have hz0:f.zones[0]? = some (f.zones.getD 0 default):=by rw[o8,pn h1];rfl
 have hc0:=@qz2 name
 refine .inv DwS (fun s=>(∃ z,f.zones[s.at_]? = some z/\qd name z.apex=true/\qg name<s.k+qg z.apex)/\yn f.zones name s.k s.at_=yn f.zones name 300 0) (fun s=>[(8,iV s.at_)]) (fun s=>[]) (fun s=>s.k) ⟨⟨300,0⟩,[0,1],⟨⟨_,hz0,jj5 (Zo.ok_name (hz _ (py hz0))) hr hn,by show qg name<300+_;omega⟩,rfl⟩,?_⟩ ?_
 ·conv=>whnf
  repeat'(first|exact ⟨⟩|exact rfl|exact qa _|exact .inr rfl|exact fun _ _=>rfl|exact noI|apply And.intro)
  all_goals first
   |exact yh _
 intro s hs;obtain⟨⟨z,hza,hwi,hcn⟩,hdn⟩:=hs;conv=>whnf
 generalize s.k=k at hcn hdn ⊢;generalize s.at_=at_ at hza hdn ⊢;have hzm:=py hza
 have hlt:at_<f.zones.length:=(po.1 hza).1
 have hzd:f.zones.getD at_ default=z:=by rw[o8,hza];rfl
 obtain⟨k,rfl⟩:∃ k',k=k'+1:=⟨k - 1,by have:=qm9 hwi;omega⟩
 have e1:yn f.zones name (k+1) at_=match z.cut name with
  |none=>some at_
  |some c=>match ya f.zones c with
   |none=>none
   |some next=>yn f.zones name k next:=by
  show(match f.zones[at_]? with|none=>none|some z=>_)=_
  rw[hza];rfl
 conv=>whnf
 refine⟨by omega,?_⟩
 conv=>whnf
 rw[pp,hzd];refine od (jr1 z (hf z hzm).2 name) rfl rfl ?_;rcases jb9 (hz z hzm) name with⟨hcut,hq,_⟩|⟨c,hcut,hq,hnm,hcn2,_,_,_⟩
 ·have hfin:yn f.zones name 300 0=some at_:=by rw[<-hdn,e1,hcut]
  rw[hfin,hq];conv=>whnf
  refine brT rfl ?_;conv=>whnf
  refine⟨[0],_,[jl (jp f.zones)],rfl,rfl,?_,?_,rfl,rfl⟩
  ·exact rfl
  ·conv=>whnf
   repeat'(first|exact ⟨⟩|exact rfl|exact qa _|exact .inr rfl|exact fun _ _=>rfl|exact noI|apply And.intro)
   all_goals first
    |exact yh _
 ·rw [hcut] at e1;simp only at e1
  rw[hq];generalize hS:(cutQ z name).1=S at hnm ⊢;conv=>whnf
  refine brF rfl ?_;conv=>whnf
  refine od (zx S.nm (by rw[hnm];have:=hcn2.2.1;omega)) rfl rfl ?_
  rw[hnm];conv=>whnf
  have hfs:=zv (ev:=intV) yt (jp f.zones) (fold c)
  rw [qj6] at hfs;refine⟨_,hfs,?_⟩;cases hp:ya f.zones (fold c) with
  |none =>
   rw [hp] at e1;have hfin:yn f.zones name 300 0=none:=by rw[<-hdn,e1]
   rw[hfin];conv=>whnf
   refine⟨[0],_,[jl (jp f.zones)],rfl,rfl,?_,?_,rfl,rfl⟩
   ·exact rfl
   ·conv=>whnf
    repeat'(first|exact ⟨⟩|exact rfl|exact qa _|exact .inr rfl|exact fun _ _=>rfl|exact noI|apply And.intro)
    all_goals first
     |exact yh _
  |some next =>
   rw [hp] at e1;simp only at e1
   obtain⟨y,hy,ey⟩:=qf3 hp;obtain⟨c',ec,w1,w2,w3⟩:=z.cut_spec (hz z hzm) hcut;have hyn:=Zo.ok_name (hz y (py hy));have hyc:fold y.apex=fold c':=by rw[ey,ec]
   have wy:=qb9 hyn hyc w1
   have hlt:=qm8 w2 w3
   have hcc:qg y.apex=qg c':=jd5 hyn (zd w1).2 hyc
   conv=>whnf
   refine⟨⟨k,next⟩,[0,1],⟨⟨y,hy,wy,by show qg name<k+_;omega⟩,by show yn f.zones name k next=_;rw[<-e1,hdn]⟩,l8 k,?_⟩
   conv=>whnf
   repeat'(first|exact ⟨⟩|exact rfl|exact qa _|exact .inr rfl|exact fun _ _=>rfl|exact noI|apply And.intro)
   all_goals first
    |exact yh _
structure Q where
 nm:List UInt8
 ty:Int
 cl:Int
deriving Inhabited
def Q.enc(q:Q):List DV:=[.str q.nm,.int .u16 q.ty,.int .u16 q.cl]
def Fo.Len(f:Fo):Prop:=∀ h ∈ f.hosts,h.2.2.length<=9223372036854775807
theorem jm1(f:Fo)(hf:f.Fit)(hl:f.Len)(ks:List KB):COk Tryz.prog 26 [f.V] ks (fun s k=>s=(if f.ok then .tup [.map (lenB ks),.d (.int .i64 0)] else .tup [.v (.map none),.d (.int .i64 2)])/\k=(if f.ok then appB ks [jl (jp f.zones)] else ks)) :=
 (COk.frameX (zq8 f hf hl) [] rfl rfl rfl).imp fun r k ⟨s0,k0,⟨h1,h2⟩,h3,h4⟩=>by
  subst h1 h2 h3 h4;unfold qo7 qo8
  cases f.ok with
  |true =>
   refine⟨rfl,?_⟩;show appB ks [mapK _ (jl _)]=_;rw[qf2];rfl
  |false=>exact⟨rfl,by show appB ks []=ks;rw[jf8,mv]⟩
theorem yl0(f:Fo)(hf:f.Fit)(hl:f.Len):FnOk Tryz.prog 9 [f.V] (.d (.int .i64 (if f.ok then 0 else 2))):=by
 refine qp (TT:=TT) (IN:=qh []) qk qj mixed 1000 Tryz.func9 rfl (qi Tryz.func9 (by kernel_rfl) rfl) rfl 10 (by kernel_rfl) ?_
 conv=>whnf
 refine .rel _ (jm1 f hf hl _) (fun r ks' hR=>?_)
 obtain⟨rfl,rfl⟩:=hR;cases f.ok with
 |true =>
  rw[if_pos rfl,if_pos rfl,if_pos rfl];conv=>whnf
 |false =>
  rw[if_neg (by decide),if_neg (by decide),if_neg (by decide)]
  conv=>whnf
def vb(f:Fo)(name:List UInt8):Nat × Int:=if f.ok then u0 f name else (0,2)
theorem jp9(f:Fo)(hf:f.Fit)(hl:f.Len)(name:List UInt8):FnOk Tryz.prog 11 [f.V,.d (.str name)] (.tup [iV (vb f name).1,.d (.int .i64 (vb f name).2)]):=by
 refine qp (TT:=TT) (IN:=qh []) qk qj mixed 1000 Tryz.func11 rfl (qi Tryz.func11 (by kernel_rfl) rfl) rfl 20 (by kernel_rfl) ?_
 conv=>whnf
 refine .rel _ (jm1 f hf hl _) (fun r ks' hR=>?_)
 obtain⟨rfl,rfl⟩:=hR;unfold vb
 cases hok:f.ok with
 |false =>
  rw[if_neg (by decide),if_neg (by decide),if_neg (by decide)]
  conv=>whnf
  refine brT rfl ?_;conv=>whnf
  repeat'(first|exact ⟨⟩|exact rfl|exact .inr rfl|exact .inl rfl|exact fun _ _=>rfl|exact noI|apply And.intro)
 |true =>
  rw[if_pos rfl,if_pos rfl,if_pos rfl];conv=>whnf
  refine brF rfl ?_;conv=>whnf
  refine .rel _ (COk.frameX (yv4 f hf hok name) [1] rfl rfl (by show[jl _]=[mapK _ (jl _)];rw[qf2])) (fun x ks' hR=>?_)
  obtain⟨s0,k0,⟨rfl,rfl⟩,rfl,rfl⟩:=hR;conv=>whnf
  repeat'(first|exact ⟨⟩|exact rfl|exact .inr rfl|exact .inl rfl|exact fun _ _=>rfl|exact noI|apply And.intro)
def Ver.no(why:Int):Ver:=⟨[],St.no,0,why⟩
def Ver.V(v:Ver):SV:=.agg [.d (.int .i64 v.code),.d (stsD v.chain.isEmpty v.chain),.d (.str v.ans.nm),.d (.int .u16 v.ans.ty),.d (.int .u32 v.ans.ttl),.d (.sl v.ans.z v.ans.data.length 1 (strs v.ans.data))]
def ofR(f:Fo)(q:Q):Ver:=if f.ok then ofF f.zones q.ty 20 q.nm [] else Ver.no 2
theorem yq{α:Type}(l:List α):Nat.beq l.length 0=l.isEmpty:=by cases l <;> rfl
structure OfS where
 k:Nat
 nm:List UInt8
 ch:List St
theorem jt6(f:Fo)(hf:f.Fit)(hl:f.Len)(q:Q):FnOk Tryz.prog 19 [f.V,.agg [.d (.str q.nm),.d (.int .u16 q.ty),.d (.int .u16 q.cl)]] (.tup [(ofR f q).V,.d (.int .i64 (ofR f q).why)]):=by
 refine qp (TT:=TT) (IN:=qh []) qk qj mixed 1000 Tryz.func19 rfl (qi Tryz.func19 (by kernel_rfl) rfl) rfl 95 (by kernel_rfl) ?_
 conv=>whnf
 refine .rel _ (jm1 f hf hl _) (fun r ks' hR=>?_)
 obtain⟨rfl,rfl⟩:=hR;unfold ofR
 cases hok:f.ok with
 |false =>
  rw[if_neg (by decide),if_neg (by decide),if_neg (by decide)]
  conv=>whnf
  refine brT rfl ?_;conv=>whnf
  repeat'(first|exact ⟨⟩|exact rfl|exact .inr rfl|exact .inl rfl|exact fun _ _=>rfl|exact noI|apply And.intro)
 |true =>
  obtain⟨⟨h1,h2,h3⟩,hz,ho,hr,_,_⟩:=Fo.parts hok;rw[if_pos rfl,if_pos rfl,if_pos rfl];conv=>whnf
  refine brF rfl ?_;conv=>whnf
  refine .nilC 4 1 47 4 (fun _=>[]) _ _ _ _ rfl rfl ?_
  refine .inv OfS (fun s=>ofF f.zones q.ty s.k s.nm s.ch=ofF f.zones q.ty 20 q.nm []/\s.ch.length+s.k=20/\s.ch.length<=8) (fun s=>[(9,.d (.str s.nm))])
   (fun s=>[(4,.cells 60 [.d (.int .i64 0),.all 5,.d (.str []),.d (.int .u16 0),.d (.int .u32 0),nilS]),(5,.row 47 4 s.ch.length .iff (fun j=>(s.ch.getD j default).enc))]) (fun s=>s.k) ⟨⟨20,q.nm,[]⟩,[0,1,2,3,4,5],⟨rfl,rfl,pu _⟩,?_⟩ ?_
  ·conv=>whnf
   repeat'(first|exact ⟨⟩|exact rfl|exact qa _|exact .inr rfl|exact fun _ _=>rfl|exact noI|apply And.intro)
   all_goals first
    |exact yh _
  intro s hs;obtain⟨hof,hkl,hcl⟩:=hs;conv=>whnf
  generalize s.k=k at hof hkl ⊢;generalize s.nm=nm at hof ⊢;generalize s.ch=ch at hof hkl hcl ⊢;obtain⟨k,rfl⟩:∃ k',k=k'+1:=⟨k - 1,by omega⟩
  generalize hV:ofF f.zones q.ty 20 q.nm []=V at hof ⊢;have e1:ofF f.zones q.ty (k+1) nm ch=if qb nm then (match yn f.zones nm 300 0 with
   |none=>⟨[],St.no,0,12⟩
   |some at_=>if (qc nm q.ty (f.zones.getD at_ default).rrs).2=0 then ⟨ch,(qc nm q.ty (f.zones.getD at_ default).rrs).1,0,0⟩
    else if q.ty=5\/(qc nm 5 (f.zones.getD at_ default).rrs).2≠0\/(qc nm 5 (f.zones.getD at_ default).rrs).1.data.length=0 then ⟨ch,St.no,if zy (f.zones.getD at_ default) nm then 0 else 3,0⟩
    else if ch.length >= 8 then ⟨[],St.no,0,9⟩
    else ofF f.zones q.ty k ((qc nm 5 (f.zones.getD at_ default).rrs).1.data.headD []) (ch++[(qc nm 5 (f.zones.getD at_ default).rrs).1])) else ⟨[],St.no,0,2⟩:=rfl
  refine .rel _ (COk.frameX (yv4 f hf hok nm) [3] rfl rfl (by show[jl _]=[mapK _ (jl _)];rw[qf2])) (fun x ks' hR=>?_)
  obtain⟨s0,k0,⟨rfl,rfl⟩,rfl,rfl⟩:=hR;rw[show mapB (sig [3] _) [jl (jp f.zones)]=[jl (jp f.zones)] from congrArg (fun x=>[x]) (qf2 _)]
  by_cases hn:qb nm
  case neg =>
   rw [if_neg hn] at e1;rw[show u0 f nm=(0,2) from if_neg hn,<-hof,e1];conv=>whnf
   refine brT rfl ?_;conv=>whnf
   repeat'(first|exact ⟨⟩|exact rfl|exact .inr rfl|exact .inl rfl|exact fun _ _=>rfl|exact noI|apply And.intro)
  rw [if_pos hn] at e1;cases hd:yn f.zones nm 300 0 with
  |none =>
   rw [hd] at e1;rw[show u0 f nm=(0,12) by unfold u0;rw[if_pos hn,hd],<-hof,e1]
   conv=>whnf
   refine brT rfl ?_;conv=>whnf
   repeat'(first|exact ⟨⟩|exact rfl|exact .inr rfl|exact .inl rfl|exact fun _ _=>rfl|exact noI|apply And.intro)
  |some at_ =>
   rw [hd] at e1;simp only at e1
   have hz0:f.zones[0]? = some (f.zones.getD 0 default):=by rw[o8,pn h1];rfl
   obtain⟨z,hza,_,_⟩:=(jn9 hz 300 0 _ hz0 (jj5 (Zo.ok_name (hz _ (py hz0))) hr hn) (by have:=@qz2 nm;omega)).2 at_ hd
   have hzm:=py hza
   have hlt:at_<f.zones.length:=(po.1 hza).1
   have hzd:f.zones.getD at_ default=z:=by rw[o8,hza];rfl
   have hzo:=hz z hzm
   have hzf:=(hf z hzm).2
   rw [hzd] at e1;have hnl:nm.length<=100000:=by have:=hn.2.1;omega
   have hg:∀ t,getZ z nm t=qc nm t z.rrs:=fun t=>by unfold getZ;rw[if_pos hzo]
   rw[show u0 f nm=(at_,0) by unfold u0;rw[if_pos hn,hd]]
   conv=>whnf
   refine brF rfl ?_;conv=>whnf
   refine⟨by omega,?_⟩
   conv=>whnf
   rw[pp,hzd];refine od (je4 z hzf nm q.ty hnl) rfl rfl ?_;rw[hg];generalize qc nm q.ty z.rrs=r1 at e1 ⊢;conv=>whnf
   refine⟨fun g1=>?_,fun g1=>?_⟩
   ·have g1:r1.2=0:=by simpa using g1
    rw [if_pos g1] at e1;rw[<-hof,e1];conv=>whnf
    repeat'(first|exact ⟨⟩|exact rfl|exact .inr rfl|exact .inl rfl|exact fun _ _=>rfl|exact noI|apply And.intro)
    all_goals first
     |exact yq _
     |exact .inr rfl
     |exact fun _ _=>rfl
   have g1:¬ r1.2=0:=by simpa using g1
   rw [if_neg g1] at e1;conv=>whnf
   refine od (je4 z hzf nm 5 hnl) rfl rfl ?_;rw[hg];have hrt:(qc nm 5 z.rrs).2=0->(qc nm 5 z.rrs).1.ok=true:=fun h=>(ws h (by decide)).1
   generalize qc nm 5 z.rrs=r2 at e1 hrt ⊢;obtain⟨L,e2⟩:=r2;have hno:(q.ty=5\/e2≠0\/L.data.length=0)->V=⟨ch,St.no,if zy z nm then 0 else 3,0⟩:=fun h=>by rw[<-hof,e1,if_pos h]
   have hyes:¬ (q.ty=5\/e2≠0\/L.data.length=0)->V=if ch.length >= 8 then ⟨[],St.no,0,9⟩ else ofF f.zones q.ty k (L.data.headD []) (ch++[L]):=fun h=>by rw[<-hof,e1,if_neg h]
   clear e1;conv=>whnf
   refine⟨fun g2=>?_,fun g2=>?_⟩
   ·have g2:q.ty=5:=by simpa using g2
    have hV':=hno (.inl g2)
    conv=>whnf
    refine od (qj4 z hzf nm) rfl rfl ?_;rw[show yz z nm=zy z nm by unfold yz;rw[hzo];rfl,hV']
    cases zy z nm with
    |true =>
     rw[if_pos rfl];conv=>whnf
     refine brF rfl ?_;conv=>whnf
     repeat'(first|exact ⟨⟩|exact rfl|exact .inr rfl|exact .inl rfl|exact fun _ _=>rfl|exact noI|apply And.intro)
     all_goals first
      |exact yq _
      |exact .inr rfl
      |exact fun _ _=>rfl
    |false =>
     rw[if_neg (by decide)]
     conv=>whnf
     refine brT rfl ?_;conv=>whnf
     repeat'(first|exact ⟨⟩|exact rfl|exact .inr rfl|exact .inl rfl|exact fun _ _=>rfl|exact noI|apply And.intro)
     all_goals first
      |exact yq _
      |exact .inr rfl
      |exact fun _ _=>rfl
   have g2:¬ q.ty=5:=by simpa using g2
   conv=>whnf
   refine⟨fun g3=>?_,fun g3=>?_⟩
   ·have g3:e2≠0:=by simpa using g3
    have hV':=hno (.inr (.inl g3))
    conv=>whnf
    refine od (qj4 z hzf nm) rfl rfl ?_;rw[show yz z nm=zy z nm by unfold yz;rw[hzo];rfl,hV']
    cases zy z nm with
    |true =>
     rw[if_pos rfl];conv=>whnf
     refine brF rfl ?_;conv=>whnf
     repeat'(first|exact ⟨⟩|exact rfl|exact .inr rfl|exact .inl rfl|exact fun _ _=>rfl|exact noI|apply And.intro)
     all_goals first
      |exact yq _
      |exact .inr rfl
      |exact fun _ _=>rfl
    |false =>
     rw[if_neg (by decide)]
     conv=>whnf
     refine brT rfl ?_;conv=>whnf
     repeat'(first|exact ⟨⟩|exact rfl|exact .inr rfl|exact .inl rfl|exact fun _ _=>rfl|exact noI|apply And.intro)
     all_goals first
      |exact yq _
      |exact .inr rfl
      |exact fun _ _=>rfl
   have g3:e2=0:=by simpa using g3
   conv=>whnf
   refine⟨fun g4=>?_,fun g4=>?_⟩
   ·have g4:L.data.length=0:=by
     have h:(L.data.length:Int)=0:=by simpa using g4
     omega
    have hV':=hno (.inr (.inr g4))
    conv=>whnf
    refine od (qj4 z hzf nm) rfl rfl ?_;rw[show yz z nm=zy z nm by unfold yz;rw[hzo];rfl,hV']
    cases zy z nm with
    |true =>
     rw[if_pos rfl];conv=>whnf
     refine brF rfl ?_;conv=>whnf
     repeat'(first|exact ⟨⟩|exact rfl|exact .inr rfl|exact .inl rfl|exact fun _ _=>rfl|exact noI|apply And.intro)
     all_goals first
      |exact yq _
      |exact .inr rfl
      |exact fun _ _=>rfl
    |false =>
     rw[if_neg (by decide)]
     conv=>whnf
     refine brT rfl ?_;conv=>whnf
     repeat'(first|exact ⟨⟩|exact rfl|exact .inr rfl|exact .inl rfl|exact fun _ _=>rfl|exact noI|apply And.intro)
     all_goals first
      |exact yq _
      |exact .inr rfl
      |exact fun _ _=>rfl
   have g4:¬ L.data.length=0:=by
    have h:¬ (L.data.length:Int)=0:=by simpa using g4
    omega
   have hV':=hyes (fun h=>h.elim g2 (fun h=>h.elim (fun h=>h g3) g4))
   conv=>whnf
   refine⟨fun g5=>?_,fun g5=>?_⟩
   ·have g5:ch.length >= 8:=by
     have h:(ch.length:Int) >= 8:=of_decide_eq_true g5
     omega
    rw [if_pos g5] at hV';rw[hV'];conv=>whnf
    repeat'(first|exact ⟨⟩|exact rfl|exact .inr rfl|exact .inl rfl|exact fun _ _=>rfl|exact noI|apply And.intro)
    all_goals first
     |exact yq _
     |exact .inr rfl
     |exact fun _ _=>rfl
   have g5:¬ ch.length >= 8:=by
    have h:¬ (ch.length:Int) >= 8:=of_decide_eq_false g5
    omega
   rw [if_neg g5] at hV';conv=>whnf
   refine⟨by omega,?_⟩
   conv=>whnf
   refine⟨⟨br 0,by show(0:Int)<(L.data.length:Int);omega⟩,?_⟩
   conv=>whnf
   have hhd:L.data.headD []=L.data[0]?.getD []:=by cases L.data <;> rfl
   rw [hhd] at hV';refine⟨⟨k,L.data[0]?.getD [],ch++[L]⟩,[0,1,2,3,4,10],⟨hV'.symm,by show(ch++[L]).length+k=20;rw[p7,rz];omega,by show(ch++[L]).length<=8;rw[p7,rz];omega⟩,l8 k,?_⟩
   conv=>whnf
   repeat'(first|exact ⟨⟩|exact rfl|exact qa _|exact .inr rfl|exact fun _ _=>rfl|exact noI|apply And.intro)
   all_goals first
    |exact yh _
    |(show _+1=(_++[_]).length;simp;done)
    |exact fun j hj=>yw5 _ _ j hj
structure Msg where
 id:Int
 bits:Int
 za:Bool
 asks:List Q
 zs:Bool
 says:List RR
 zh:Bool
 heads:List RR
 ze:Bool
 extra:List RR
def qsD(z:Bool)(l:List Q):DV:=.sl z l.length 3 (fun i=>(l.getD i default).enc)
def Msg.cells(m:Msg):List SV:=[.d (.int .u16 m.id),.d (.int .u16 m.bits),.d (qsD m.za m.asks),.d (rrsD m.zs m.says),.d (rrsD m.zh m.heads),.d (rrsD m.ze m.extra)]
end Go.Proofs.YtnfoihdifohkeaaGreat
