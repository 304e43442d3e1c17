/-
  Part of the proof: lemmas about the functions that the row calls, and about the steps of a run. Conditions: those ahead of each lemma.
-/
import Derived.Shelf.Strings.Builder1
import Derived.Lib.ParseIntBCases
import Derived.Lib.Bytealg
import Derived.Lib.ItoaNum
import Derived.Test.YtoefgnnkajhmiaaGreatDoorQ1
import Derived.Test.YtoefgnnkajhmiaaGreatDoorP4
import Derived.Test.YtoefgnnkajhmiaaGreatDoorP1
set_option linter.unusedVariables false
set_option linter.unusedSimpArgs false
set_option maxRecDepth 100000
set_option maxHeartbeats 64000000
namespace Go.Proofs.YtoefgnnkajhmiaaGreatDoor
open Go Go.Eng
def cmpZ(L:List Ls)(x y:Nat):Int:=jp (qr (L.getD x default)) (qr (L.getD y default))
def leZ(L:List Ls)(i j:Nat):Bool:=decide (cmpZ L i j<0) || (decide (cmpZ L i j=0) && decide (i<=j))
theorem qu7(L:List Ls)(i j:Nat):leZ L i j=true↔cmpZ L i j<0\/(cmpZ L i j=0/\i<=j):=by
 unfold leZ;simp
theorem xc6(L:List Ls)(a b c:Nat)(h1:leZ L a b=true)(h2:leZ L b c=true):leZ L a c=true:=by
 rw [qu7] at *;unfold cmpZ at *;have t1:=qz1 (qr (L.getD a default)) (qr (L.getD b default)) (qr (L.getD c default));have t2:=@Cw.lt_le _ _ _ jv8 (qr (L.getD a default)) (qr (L.getD b default)) (qr (L.getD c default)) trivial trivial trivial;have t3:=@Cw.le_lt _ _ _ jv8 (qr (L.getD a default)) (qr (L.getD b default)) (qr (L.getD c default)) trivial trivial trivial;omega
theorem xc7(L:List Ls)(a b:Nat):(leZ L a b || leZ L b a)=true:=by
 rw[cn,qu7,qu7];unfold cmpZ;have a1:=xz (qr (L.getD a default)) (qr (L.getD b default));have a2:=xz (qr (L.getD b default)) (qr (L.getD a default));omega
theorem xl3(L:List Ls)(a b:Nat)(h1:leZ L a b=true)(h2:leZ L b a=true):a=b:=by
 rw [qu7] at *;unfold cmpZ at *;have a1:=xz (qr (L.getD a default)) (qr (L.getD b default));have a2:=xz (qr (L.getD b default)) (qr (L.getD a default));omega
theorem ys2{α:Type}{le:α->α->Prop}(anti:∀ a b,le a b->le b a->a=b):∀ {l m:List α},l.Perm m->l.Pairwise le->m.Pairwise le->l=m
 |[],m,hp,_,_=>by rw[List.nil_perm.1 hp]
 |a :: l,[],hp,_,_=>by have:=hp.length_eq;simp at this
 |a :: l,b :: m,hp,h1,h2=>by
  have hab:a=b:=by
   rw [dw] at h1 h2;have ha:a ∈ b :: m:=hp.mem_iff.1 sm;have hb:b ∈ a :: l:=hp.mem_iff.2 sm;rcases pz.1 ha with e|ha
   ·exact e
   rcases pz.1 hb with e|hb
   ·exact e.symm
   exact anti a b (h1.1 b hb) (h2.1 a ha)
  subst hab;rw [dw] at h1 h2;rw[ys2 anti hp.cons_inv h1.2 h2.2]
def qw6(L:List Ls):List Nat:=(List.range L.length).mergeSort (leZ L)
theorem qz5(L:List Ls):(qw6 L).Perm (List.range L.length):=List.mergeSort_perm _ _
theorem zy5(L:List Ls):(qw6 L).length=L.length:=by rw[(qz5 L).length_eq,aq]
theorem xi0(L:List Ls):(qw6 L).Pairwise λa b=>leZ L a b=true:=List.pairwise_mergeSort (xc6 L) (xc7 L) _
def zy(L:List Ls):List Ls:=(qw6 L).map λi=>L.getD i default
theorem yj6(L:List Ls):(zy L).length=L.length:=by unfold zy;rw[mq,zy5]
theorem yj5(L:List Ls)(n:Ls):n ∈ zy L↔n ∈ L:=by
 unfold zy;rw[gv];constructor
 ·rintro ⟨i,hi,rfl⟩
  have hi:=o8.1 ((qz5 L).mem_iff.1 hi);rw[fy,pp hi];exact oz hi
 ·intro h;obtain⟨i,hi,rfl⟩:=mr.1 h;refine⟨i,(qz5 L).mem_iff.2 (o8.2 hi),?_⟩;rw[fy,pp hi];rfl
theorem xh9(L:List Ls)(q:Nat->Nat)(hq:Inj L.length q)(hr:Rise (LL λx y=>decide (cmpZ L x y<0)) q 0 L.length):∀ i,i<L.length->L.getD (q i) default=(zy L).getD i default:=by
 have e:(List.range L.length).map q=qw6 L:=by
  refine ys2 (le:=λa b=>leZ L a b=true) (xl3 L) ((xm0 hq).trans (qz5 L).symm) ?_ (xi0 L);rw[List.pairwise_map,az];intro i j hi hj hij;rw[List.getElem_range,List.getElem_range];simp only [aq] at hi hj;rw[qu7];rcases hr i j (pv _) hij hj with h|⟨h,h2⟩
  ·exact .inl (px h)
  ·have h:¬ cmpZ L (q j) (q i)<0:=py h;have a1:=xz (qr (L.getD (q i) default)) (qr (L.getD (q j) default));have a2:=xz (qr (L.getD (q j) default)) (qr (L.getD (q i) default));unfold cmpZ at *;omega
 intro i hi;unfold zy;rw[<-e,f7];have h2:(List.map ((λi=>L.getD i default) ∘ q) (List.range L.length))[i]? = some (L.getD (q i) default):=by
  rw[mw,c8 hi];rfl
 rw[fy (l:=List.map _ _),h2];rfl
theorem ka3(L:List Ls):Weak L.length λx y=>decide (cmpZ L x y<0):=by
 unfold cmpZ;refine⟨λi j hi hj h=>?_,λi j k hi hj hk h1 h2=>?_,λi j k hi hj hk h1 h2=>?_⟩
 ·have a1:=xz (qr (L.getD i default)) (qr (L.getD j default));have:=px h;exact po om
 ·have a1:=@Cw.lt_le _ _ _ jv8 (qr (L.getD i default)) (qr (L.getD j default)) (qr (L.getD k default)) trivial trivial trivial;have h1:=px h1;have h2:=px h2;exact pn (a1 om h2)
 ·have b1:=xz (qr (L.getD j default)) (qr (L.getD i default));have b2:=xz (qr (L.getD k default)) (qr (L.getD j default));have b3:=xz (qr (L.getD i default)) (qr (L.getD k default));have b4:=xz (qr (L.getD i default)) (qr (L.getD j default));have b5:=xz (qr (L.getD j default)) (qr (L.getD k default));have b6:=xz (qr (L.getD k default)) (qr (L.getD i default));have a4:=qz1 (qr (L.getD k default)) (qr (L.getD j default)) (qr (L.getD i default));have h1:=py h1;have h2:=py h2;exact po om
def ug(P:List Ls)(i:Nat):Bool:=i == 0 || qr (P.getD i default) != qr (P.getD (i - 1) default)
def qa1(P:List Ls)(i:Nat):List Ls:=((List.range i).filter (ug P)).map λi=>P.getD i default
theorem ja1(P:List Ls)(i:Nat):qa1 P (i+1)=if ug P i then qa1 P i++[P.getD i default] else qa1 P i:=by
 unfold qa1;rw[List.range_succ,b7];cases h:ug P i <;> simp[h]
theorem jm2(P:List Ls):∀ i,(qa1 P i).length<=i
 |0=>pu 0
 |i+1=>by
  have:=jm2 P i;rw[ja1];split
  ·simp;omega
  ·omega
theorem jm1{P:List Ls}{n:Ls}:∀ {i:Nat},i<=P.length->n ∈ qa1 P i->n ∈ P
 |0,_,h=>by cases h
 |i+1,hi,h=>by
  rw [ja1] at h;have hg:P.getD i default ∈ P:=by
   rw[fy,pp om];exact oz _
  split at h
  ·rcases ow.1 h with h|h
   ·exact jm1 om h
   ·simp only [m9] at h;subst h;exact hg
  ·exact jm1 om h
theorem jm3{P:List Ls}:∀ {i j:Nat},j<i->∃ n ∈ qa1 P i,qr n=qr (P.getD j default)
 |0,_,h=>by omega
 |i+1,j,h=>by
  rw[ja1];by_cases hj:j<i
  ·obtain⟨n,hn,e⟩:=@jm3 P i j hj;refine⟨n,?_,e⟩;split
   ·exact ao _ hn
   ·exact hn
  ·have hj:j=i:=om
   subst hj;cases hk:ug P j with
   |true=>exact⟨P.getD j default,sm,rfl⟩
   |false =>
    unfold ug at hk;simp only [cp,bne_eq_false_iff_eq,oo] at hk;obtain⟨n,hn,e⟩:=@jm3 P j (j - 1) om;exact⟨n,by simpa using hn,by rw[e,hk.2]⟩
def vh(l:List Ls):List Ls:=qa1 (zy (l.filter λn=>decide (qa n))) (l.filter λn=>decide (qa n)).length
theorem jl7{l:List Ls}{n:Ls}(h:n ∈ vh l):n ∈ l/\qa n:=by
 have h:=jm1 (by rw[yj6];exact pu _) h;rw [yj5] at h;obtain⟨h1,h2⟩:=ct.1 h;exact⟨h1,px h2⟩
theorem zy4{l:List Ls}{n:Ls}(h:n ∈ l)(hn:qa n):∃ m ∈ vh l,fold m=fold n:=by
 have h:n ∈ zy (l.filter λn=>decide (qa n)):=(yj5 _ _).2 (ct.2 ⟨h,pn hn⟩);obtain⟨j,hj,e⟩:=mr.1 h;obtain ⟨m,hm,e1⟩:=@jm3 (zy (l.filter λn=>decide (qa n))) _ j (show j<(l.filter λn=>decide (qa n)).length by rw [yj6] at hj;exact hj);refine⟨m,hm,?_⟩;rw[yk2 (jl7 hm).2,yk2 hn,e1,fy,pp hj,<-e];rfl
theorem zy3(l:List Ls):(vh l).length<=l.length:=gn (jm2 _ _) (cx _ _)
def plW(n:Ls):List DV:=[.str n,.sl (qr n).isEmpty (qr n).length 1 (strs (qr n))]
def plV(n:Ls):SV:=.agg ((plW n).map .d)
theorem qz6(n:Ls):(qr n).length<=1000000:=by
 by_cases h:qa n
 ·have:=jc3 h;omega
 ·have e:ja n=none:=by
   cases e:ja n
   ·rfl
   ·exact absurd ((wy n).2 (by rw[e];rfl)) h
  unfold qr fl labN;rw[e];simp
theorem je0(a b:Ls):FnOk Tryz.prog 173 [plV a,plV b] (.d (.int .i64 (jp (qr a) (qr b)))):=by
 refine qi (TT:=TT) (IN:=qd []) qe qg mixed 1000 Tryz.func173 rfl (qb Tryz.func173 (by kernel_rfl) rfl) rfl 8 (by kernel_rfl) ?_;conv=>whnf
 refine oD (xo8 _ _ _ _ (qz6 a) (qz6 b)) rfl rfl ?_;exact rY6
def zcel(L:List Ls)(x:Nat):List DV:=plW (L.getD x default)
def yn(L:List Ls)(n:Nat)(z:Z)(p:Nat->Nat):KB:=.row 218 2 n z (λi=>zcel L (p i))
def zltC(c:Nat->Nat->Int)(x y:Nat):Bool:=decide (c x y<0)
theorem ja6 L (q:Nat->Nat) (j y:Nat):oneF j 0 (zcel L y) (λi=>zcel L (q i))=λi=>zcel L (upd q j y i):=by
 funext i;unfold oneF upd;split
 ·rfl
 ·rfl
theorem yp6{α:Type}(q:Nat->α)(j k:Nat)(h:j<k):upd (upd q j (q k)) k (q j)=swp q j k 1:=by
 funext x;unfold upd swp;(try dsimp only);repeat' split
 all_goals first|rfl|(exfalso;omega)|(congr 1;omega)
theorem yi2(L:List Ls)(q:Nat->Nat)(j k:Nat)(h:j<k):oneF k 0 (zcel L (q j)) (oneF j 0 (zcel L (q k)) (λx=>zcel L (q x)))=λx=>zcel L (swp q j k 1 x):=by
 rw[ja6,ja6,yp6 q j k h]
theorem yc6(L:List Ls)(q:Nat->Nat)(j k:Nat)(h:j<k):oneF j 0 (zcel L (q k)) (oneF k 0 (zcel L (q j)) (λx=>zcel L (q x)))=λx=>zcel L (swp q j k 1 x):=by
 rw[ja6,ja6,<-yp6 q j k h];funext x;unfold upd;repeat' split
 all_goals first|rfl|omega|(congr 1;omega)
theorem jn4(L:List Ls)(n:Nat)(hn:n<1152921504606846976)(z:Z)(p:Nat->Nat)(a b m:Nat)(ha:a+m<=n)(hb:b+m<=n)(hab:a+m<=b):COk Tryz.prog 217 [.all 0,iV a,iV b,iV m,.any] [yn L n z p] (λs k=>s = .tup []/\k=[yn L n z (swp p a b m)]):=by
 refine yq (TT:=TT) (IN:=qd []) qe qg mixed 1000 Tryz.func217 rfl (qb Tryz.func217 (by kernel_rfl) rfl) 33 (by kernel_rfl) ?_;conv=>whnf
 refine .inv Nat (λi=>i<=m) (λi=>[(10,iV i)]) (λi=>[(0,yn L n z (swp p a b i))]) (λi=>m - i) ⟨0,[0],om,?_⟩ ?_
 ·conv=>whnf
  rw[xh7];exact rZ2
 intro i hi;conv=>whnf
 refine⟨λh1=>?_,λh1=>?_⟩
 ·have h1:i<m:=dT h1
  have e1:IntKind.i64.wrap ((a:Int)+(i:Int))=((a+i:Nat):Int):=by rw[qc _ om];omega
  have e2:IntKind.i64.wrap ((b:Int)+(i:Int))=((b+i:Nat):Int):=by rw[qc _ om];omega
  conv=>whnf
  refine⟨?_,?_,?_,?_⟩;rotate_left 2
  ·conv=>whnf
   rw[e1,e2];exact rZ5
  ·conv=>whnf
   refine⟨i+1,[0],om,by show m - (i+1)<m - i;omega,?_⟩;have e3:=w64s i om;rw[e3];conv=>whnf
   repeat'(first|exact ⟨⟩|exact rfl|exact ql _|exact .inr rfl|exact λ_ _=>rfl|exact noI|apply And.intro)
   intro x hx;rw[e1];exact(congrFun (yi2 L (swp p a b i) (a+i) (b+i) om) x).trans (congrArg (λf=>zcel L (f x)) (xr1 p a b i om))
 ·have h1:i=m:=dF h1
  subst h1;conv=>whnf
  refine⟨[0],_,_,rfl,rfl,?_,?_,rfl,rfl⟩
  ·exact rfl
  ·exact rY2
theorem zr5(L:List Ls)(n:Nat)(hn:n<1152921504606846976)(z:Z)(p:Nat->Nat)(a m b:Nat)(ha:a<m)(hb:m<b)(hbn:b<=n):COk Tryz.prog 215 [.all 0,iV a,iV m,iV b,.any] [yn L n z p] (λs k=>s = .tup []/\k=[yn L n z (rot p a m b)]):=by
 refine yq (TT:=TT) (IN:=qd []) qe qg mixed 1000 Tryz.func215 rfl (qb Tryz.func215 (by kernel_rfl) rfl) 53 (by kernel_rfl) ?_;have e1:IntKind.i64.wrap ((m:Int) - (a:Int))=((m - a:Nat):Int):=by rw[qc _ om];omega
 have e2:IntKind.i64.wrap ((b:Int) - (m:Int))=((b - m:Nat):Int):=by rw[qc _ om];omega
 conv=>whnf
 rw[e1,e2];refine .inv (Nat × Nat × (Nat->Nat)) (λs=>0<s.1/\0<s.2.1/\s.1<=m - a/\s.2.1<=b - m/\rot s.2.2 (m - s.1) m (m+s.2.1)=rot p a m b) (λs=>[(10,iV s.1),(11,iV s.2.1)]) (λs=>[(0,yn L n z s.2.2)]) (λs=>s.1+s.2.1) ⟨(m - a,b - m,p),[0],show 0<m - a/\0<b - m/\m - a<=m - a/\b - m<=b - m/\rot p (m - (m - a)) m (m+(b - m))=rot p a m b from⟨om,om,om,om,?_⟩,?_⟩ ?_
 ·rw[show m - (m - a)=a by omega,show m+(b - m)=b by omega]
 ·exact rY2
 intro s hs;obtain⟨i,j,q⟩:=s;obtain⟨h0,h00,him,hjb,hq⟩:=hs;dsimp only at h0 h00 him hjb hq;conv=>whnf
 refine⟨λh1=>?_,λh1=>?_⟩
 ·have h1:¬ i=j:=λe=>by subst e;simp at h1
  conv=>whnf
  refine⟨λh2=>?_,λh2=>?_⟩
  ·have h2:j<i:=by
    have h:(i:Int) > j:=px h2;omega
   have e3:IntKind.i64.wrap ((m:Int) - (i:Int))=((m - i:Nat):Int):=by rw[qc _ om];omega
   conv=>whnf
   rw[e3];refine .rel _ (jn4 L n hn z q (m - i) m j om om om) (λr ks' hR=>?_);obtain⟨rfl,rfl⟩:=hR;have e4:IntKind.i64.wrap ((i:Int) - (j:Int))=((i - j:Nat):Int):=by rw[qc _ om];omega
   conv=>whnf
   rw[e4];refine⟨(i - j,j,swp q (m - i) m j),[0],(show 0<i - j/\0<j/\i - j<=m - a/\j<=b - m/\rot (swp q (m - i) m j) (m - (i - j)) m (m+j)=rot p a m b from⟨om,om,om,om,(xi8 q m i j h2 om).trans hq⟩),by show i - j+j<i+j;omega,?_⟩;exact rY2
  ·have h2:i<j:=by
    have h:¬ ((i:Int) > j):=py h2;omega
   have e3:IntKind.i64.wrap ((m:Int) - (i:Int))=((m - i:Nat):Int):=by rw[qc _ om];omega
   have e5:IntKind.i64.wrap (IntKind.i64.wrap ((m:Int)+(j:Int)) - (i:Int))=((m+j - i:Nat):Int):=by rw[qc ((m:Int)+j) om,qc _ om];omega
   conv=>whnf
   rw[e3,e5];refine .rel _ (jn4 L n hn z q (m - i) (m+j - i) i om om om) (λr ks' hR=>?_);obtain⟨rfl,rfl⟩:=hR;have e4:IntKind.i64.wrap ((j:Int) - (i:Int))=((j - i:Nat):Int):=by rw[qc _ om];omega
   conv=>whnf
   rw[e4];refine⟨(i,j - i,swp q (m - i) (m+j - i) i),[0],(show 0<i/\0<j - i/\i<=m - a/\j - i<=b - m/\rot (swp q (m - i) (m+j - i) i) (m - i) m (m+(j - i))=rot p a m b from⟨om,om,om,om,(zz4 q m i j h2 om).trans hq⟩),by show i+(j - i)<i+j;omega,?_⟩;exact rY2
 ·have h1:i=j:=by simp at h1;omega
  subst h1;have e3:IntKind.i64.wrap ((m:Int) - (i:Int))=((m - i:Nat):Int):=by rw[qc _ om];omega
  conv=>whnf
  rw[e3];refine .rel _ (jn4 L n hn z q (m - i) m i om om om) (λr ks' hR=>?_);obtain⟨rfl,rfl⟩:=hR;rw[xi7 q m i om,hq];conv=>whnf
  refine⟨[0],_,_,rfl,rfl,?_,?_,rfl,rfl⟩
  ·exact rfl
  ·exact rY2
theorem yw7(L:List Ls)(n:Nat)(hn:n<1152921504606846976)(z:Z)(p:Nat->Nat)(hw:Weak n (zltC (cmpZ L)))(hp:Inj n p)(a b:Nat)(hab:a<=b)(hb:b<=n)(hasc:∀ i j,a<=i->i<j->j<b->p i<p j):COk Tryz.prog 209 [.all 0,iV a,iV b,.fn 173 []] [yn L n z p] (λs k=>s = .tup []/\∃ r,Merged (L:=LL (zltC (cmpZ L))) p r n a b/\k=[yn L n z r]):=by
 refine yq (TT:=TT) (IN:=qd []) qe qg mixed 1000 Tryz.func209 rfl (qb Tryz.func209 (by kernel_rfl) rfl) 49 (by kernel_rfl) ?_;have e1:=w64s a om;conv=>whnf
 rw[e1];refine .inv (Nat × (Nat->Nat)) (λs=>a+1<=s.1/\(s.1<=b\/(s.1=a+1/\s.2=p))/\Merged (L:=LL (zltC (cmpZ L))) p s.2 n a s.1) (λs=>[(8,iV s.1)]) (λs=>[(0,yn L n z s.2)]) (λs=>n+1 - s.1) ⟨(a+1,p),[0],show a+1<=a+1/\(a+1<=b\/(a+1=a+1/\p=p))/\Merged (L:=LL (zltC (cmpZ L))) p p n a (a+1) from⟨om,.inr ⟨rfl,rfl⟩,.stay hp (λi j _ _ _=>by omega)⟩,?_⟩ ?_
 ·exact rY2
 intro s hs;obtain⟨i,q⟩:=s;obtain⟨hai,hib,hm⟩:=hs;have hai:a+1<=i:=hai;have hib:i<=b\/(i=a+1/\q=p):=hib;have hm:Merged (L:=LL (zltC (cmpZ L))) p q n a i:=hm;conv=>whnf
 refine⟨λh1=>?_,λh1=>?_⟩
 ·have h1:i<b:=dT h1
  have asc:∀ t,a<=t->t<i->q t<q i:=λt h3 h4=>by
   obtain⟨t',b1,b2,b3⟩:=hm.same.fwd t h3 h4;rw[b3,hm.same.out i om];exact hasc t' i b1 b2 h1
  have next:∀ j,a<=j->j<=i->(j=a\/LL (zltC (cmpZ L)) (q (j - 1)) (q i))->(j=i\/LL (zltC (cmpZ L)) (q i) (q j))->Merged (L:=LL (zltC (cmpZ L))) p (rot q j i (i+1)) n a (i+1):=λj h3 h4 h5 h6=>by
   have:=za5 hw.ord hm.inj (show i<n by omega) h3 h4 hm.rise h5 h6;exact⟨this.inj,(hm.same.wide (pu _) om).trans this.same,this.rise⟩
  have e6:=w64s i om;conv=>whnf
  refine .inv Nat (λj=>a<=j/\j<=i/\(j=i\/LL (zltC (cmpZ L)) (q i) (q j))) (λj=>[(9,iV j)]) (λj=>[(0,yn L n z (rot q j i (i+1)))]) (λj=>j) ⟨i,[0],⟨om,om,.inl rfl⟩,?_⟩ ?_
  ·conv=>whnf
   rw[jr4 q i (i+1) om]
   exact rZ2
  intro j hj;obtain⟨haj,hji,hjL⟩:=hj;conv=>whnf
  refine⟨λh2=>?_,λh2=>?_⟩
  ·have h2:a<j:=dT h2
   have e2:IntKind.i64.wrap ((j:Int) - 1)=((j - 1:Nat):Int):=by rw[qc _ om];omega
   have e3:rot q j i (i+1) j=q i:=by rw[jh3 q om om];congr 1;omega
   have e4:rot q j i (i+1) (j - 1)=q (j - 1):=qk3 q om om om;conv=>whnf
   refine⟨om,?_⟩;conv=>whnf
   rw[e2];refine⟨om,?_⟩;conv=>whnf
   rw[pr,pr,e3,e4];refine .data _ (je0 _ _) rfl rfl ?_;conv=>whnf
   refine⟨λh3=>?_,λh3=>?_⟩
   ·have h3:zltC (cmpZ L) (q i) (q (j - 1))=true:=h3;conv=>whnf
    refine⟨?_,?_,?_,?_⟩;rotate_left 2
    ·conv=>whnf
     rw[e2];exact rZ5
    ·conv=>whnf
     rw[e2];refine⟨j - 1,[0],⟨om,om,.inr (.inl h3)⟩,om,?_⟩;conv=>whnf
     repeat'(first|exact ⟨⟩|exact rfl|exact ql _|exact .inr rfl|exact λ_ _=>rfl|exact noI|apply And.intro)
     intro x hx;rw[pr,pr];have:=yc6 L (rot q j i (i+1)) (j - 1) j om;have e5:=yr3 q i (j - 1) om;rw [show j - 1+1=j by omega] at e5;exact(congrFun this x).trans (congrArg (λf=>zcel L (f x)) e5)
   ·have h3:zltC (cmpZ L) (q i) (q (j - 1))=false:=h3;have hL:LL (zltC (cmpZ L)) (q (j - 1)) (q i):=.inr ⟨h3,asc (j - 1) om om⟩;conv=>whnf
    refine⟨(i+1,rot q j i (i+1)),[0],(show a+1<=i+1/\(i+1<=b\/(i+1=a+1/\rot q j i (i+1)=p))/\Merged (L:=LL (zltC (cmpZ L))) p (rot q j i (i+1)) n a (i+1) from⟨om,.inl om,next j haj hji (.inr hL) hjL⟩),by show n+1 - (i+1)<n+1 - i;omega,?_⟩;conv=>whnf
    rw[e6];exact rZ2
  ·have h2:j=a:=dF h2
   conv=>whnf
   refine⟨(i+1,rot q j i (i+1)),[0],(show a+1<=i+1/\(i+1<=b\/(i+1=a+1/\rot q j i (i+1)=p))/\Merged (L:=LL (zltC (cmpZ L))) p (rot q j i (i+1)) n a (i+1) from⟨om,.inl om,next j haj hji (.inl h2) hjL⟩),by show n+1 - (i+1)<n+1 - i;omega,?_⟩;conv=>whnf
   rw[e6];exact rZ2
 ·have h1:b<=i:=dF h1
  conv=>whnf
  refine⟨[0],_,_,rfl,rfl,?_,?_,rfl,q,?_,rfl⟩
  ·exact rfl
  ·exact rY2
  ·rcases hib with h|h
   ·have:i=b:=om
    rw[<-this];exact hm
   ·rw[h.2];exact .stay hp (λi j _ _ _=>by omega)
theorem xq3(L:List Ls)(n:Nat)(hn:n<1152921504606846976)(z:Z)(p:Nat->Nat)(a m b:Nat)(ha:a<m)(hb:m<b)(hbn:b<=n):COk Tryz.prog 215 [.all 0,iV a,iV m,iV b,.fn 173 []] [yn L n z p] (λs k=>s = .tup []/\k=[yn L n z (rot p a m b)]):=by
 refine COk.anyA (COk.frame (zr5 L n hn z p a m b ha hb hbn) [0] («as»:=[.all 0,iV a,iV m,iV b,.any]) rfl rfl rfl (λs0 k0 h=>?_)) ⟨.inr rfl,.inr rfl,.inr rfl,.inr rfl,.inl rfl,True.intro⟩;obtain⟨rfl,rfl⟩:=h;exact⟨rfl,rfl⟩
theorem jg7(i j:Nat)(h:i+j<9223372036854775808):IntKind.i64.wrap ((IntKind.u64.wrap (IntKind.i64.wrap ((i:Int)+(j:Int)))).fdiv (2 ^ (min (Int.toNat 1) IntKind.u64.bits)))=(((i+j) / 2:Nat):Int):=by
 rw[qc ((i:Int)+(j:Int)) om,IntKind.wrap_u64];rw[show(2:Int) ^ (min (Int.toNat 1) IntKind.u64.bits)=2 from rfl,Int.fdiv_eq_ediv_of_nonneg _ om];rw[qc _ om];omega
theorem yw5(L:List Ls)(n:Nat)(hn:n<1152921504606846976)(z:Z)(hw:Weak n (zltC (cmpZ L))):∀ (k:Nat) (p:Nat->Nat) (a m b:Nat),b - a<k->Inj n p->a<m->m<b->b<=n->Rise (LL (zltC (cmpZ L))) p a m->Rise (LL (zltC (cmpZ L))) p m b->Sep p a m b ->
 COk Tryz.prog 210 [.all 0,iV a,iV m,iV b,.fn 173 []] [yn L n z p] (λs k=>s = .tup []/\∃ r,Merged (L:=LL (zltC (cmpZ L))) p r n a b/\k=[yn L n z r]):=by
 intro k;induction k with
 |zero=>intro p a m b h;omega
 |succ k ih =>
 intro p a m b hk hp ham hmb hbn h1 h2 hs;refine yq (TT:=TT) (IN:=qd []) qe qg mixed 1000 Tryz.func210 rfl (qb Tryz.func210 (by kernel_rfl) rfl) 215 (by kernel_rfl) ?_;have e1:IntKind.i64.wrap ((m:Int) - (a:Int))=((m - a:Nat):Int):=by rw[qc _ om];omega
 have e2:IntKind.i64.wrap ((b:Int) - (m:Int))=((b - m:Nat):Int):=by rw[qc _ om];omega
 conv=>whnf
 rw[e1];refine⟨λc1=>?_,λc1=>?_⟩
 ·have c1:m=a+1:=by simp at c1;omega
  subst c1;conv=>whnf
  refine .inv (Nat × Nat) (λs=>a+1<=s.1/\s.1<=s.2/\s.2<=b/\(s.1=a+1\/LL (zltC (cmpZ L)) (p (s.1 - 1)) (p a))/\(s.2=b\/LL (zltC (cmpZ L)) (p a) (p s.2))) (λs=>[(10,iV s.1),(11,iV s.2)]) (λs=>[]) (λs=>s.2 - s.1) ⟨(a+1,b),[0],⟨show a+1<=a+1 by omega,show a+1<=b by omega,show b<=b by omega,.inl rfl,.inl rfl⟩,?_⟩ ?_
  ·exact rY2
  intro s hs2;obtain⟨q1,q2,q3,q4,q5⟩:=hs2;conv=>whnf
  generalize s.1=i at q1 q2 q4 ⊢;generalize s.2=j at q2 q3 q5 ⊢;refine⟨λh3=>?_,λh3=>?_⟩
  ·have h3:i<j:=dT h3
   conv=>whnf
   refine⟨om,?_⟩;conv=>whnf
   rw[jg7 i j om];have g1:i<=(i+j) / 2:=om
   have g2:(i+j) / 2<j:=om
   generalize (i+j) / 2=h at g1 g2 ⊢;refine⟨om,?_⟩;conv=>whnf
   refine⟨om,?_⟩;conv=>whnf
   rw[pr,pr];refine .data _ (je0 _ _) rfl rfl ?_;conv=>whnf
   refine⟨λh4=>?_,λh4=>?_⟩
   ·have h4:zltC (cmpZ L) (p h) (p a)=true:=h4;conv=>whnf
    rw[show IntKind.i64.wrap ((h:Int)+1)=((h+1:Nat):Int) by rw[qc _ om];omega];refine⟨(h+1,j),[0],⟨show a+1<=h+1 by omega,show h+1<=j by omega,q3,.inr (.inl h4),q5⟩,by show j - (h+1)<j - i;omega,?_⟩;exact rY2
   ·have h4:zltC (cmpZ L) (p h) (p a)=false:=h4;conv=>whnf
    refine⟨(i,h),[0],⟨q1,g1,show h<=b by omega,q4,.inr (.inr ⟨h4,hs a h om om om om⟩)⟩,by show h - i<j - i;omega,?_⟩;exact rY2
  ·have h3:i=j:=dF h3
   subst h3;have hfin:=ka8 hw.ord hp hbn q1 q3 h2 q4 q5;have ei:IntKind.i64.wrap ((i:Int) - 1)=((i - 1:Nat):Int):=by rw[qc _ om];omega
   conv=>whnf
   refine .inv Nat (λk=>a<=k/\k+1<=i) (λk=>[(13,iV k)]) (λk=>[(0,yn L n z (rot p a (a+1) (k+1)))]) (λk=>i - k) ⟨a,[0],⟨om,om⟩,?_⟩ ?_
   ·conv=>whnf
    rw[yx3 p a (a+1) om]
    exact rZ2
   intro k hk2;obtain⟨r1,r2⟩:=hk2;conv=>whnf
   rw[ei];refine⟨λh3=>?_,λh3=>?_⟩
   ·have h3:k<i - 1:=dT h3
    have ek:=w64s k om;conv=>whnf
    refine⟨?_,?_,?_,?_⟩;rotate_left 2
    ·conv=>whnf
     rw[ek];exact rZ5
    ·conv=>whnf
     rw[ek];refine⟨k+1,[0],⟨om,om⟩,om,?_⟩;conv=>whnf
     repeat'(first|exact ⟨⟩|exact rfl|exact ql _|exact .inr rfl|exact λ_ _=>rfl|exact noI|apply And.intro)
     intro x hx;rw[pr,pr];have:=yi2 L (rot p a (a+1) (k+1)) k (k+1) om;exact(congrFun this x).trans (congrArg (λf=>zcel L (f x)) (xx9 p a k om))
   ·have h3:k+1=i:=dF h3
    rw[h3];conv=>whnf
    refine⟨[0],_,_,rfl,rfl,?_,?_,rfl,_,hfin,rfl⟩
    ·exact rfl
    ·exact rY2
 have c1:¬ m=a+1:=by simp at c1;omega
 conv=>whnf
 rw[e2];refine⟨λc2=>?_,λc2=>?_⟩
 ·have c2:b=m+1:=by simp at c2;omega
  subst c2;conv=>whnf
  refine .inv (Nat × Nat) (λs=>a<=s.1/\s.1<=s.2/\s.2<=m/\(s.1=a\/LL (zltC (cmpZ L)) (p (s.1 - 1)) (p m))/\(s.2=m\/LL (zltC (cmpZ L)) (p m) (p s.2))) (λs=>[(14,iV s.1),(15,iV s.2)]) (λs=>[]) (λs=>s.2 - s.1) ⟨(a,m),[0],⟨show a<=a by omega,show a<=m by omega,show m<=m by omega,.inl rfl,.inl rfl⟩,?_⟩ ?_
  ·exact rY2
  intro s hs2;obtain⟨q1,q2,q3,q4,q5⟩:=hs2;conv=>whnf
  generalize s.1=i at q1 q2 q4 ⊢;generalize s.2=j at q2 q3 q5 ⊢;refine⟨λh3=>?_,λh3=>?_⟩
  ·have h3:i<j:=dT h3
   conv=>whnf
   refine⟨om,?_⟩;conv=>whnf
   rw[jg7 i j om];have g1:i<=(i+j) / 2:=om
   have g2:(i+j) / 2<j:=om
   generalize (i+j) / 2=h at g1 g2 ⊢;refine⟨om,?_⟩;conv=>whnf
   refine⟨om,?_⟩;conv=>whnf
   rw[pr,pr];refine .data _ (je0 _ _) rfl rfl ?_;conv=>whnf
   refine⟨λh4=>?_,λh4=>?_⟩
   ·have h4:zltC (cmpZ L) (p m) (p h)=false:=(by have h5:(!(zltC (cmpZ L) (p m) (p h)))=true:=h4;simpa using h5);conv=>whnf
    rw[show IntKind.i64.wrap ((h:Int)+1)=((h+1:Nat):Int) by rw[qc _ om];omega];refine⟨(h+1,j),[0],⟨show a<=h+1 by omega,show h+1<=j by omega,q3,.inr (.inr ⟨h4,hs h m om om om om⟩),q5⟩,by show j - (h+1)<j - i;omega,?_⟩;exact rY2
   ·have h4:zltC (cmpZ L) (p m) (p h)=true:=(by have h5:(!(zltC (cmpZ L) (p m) (p h)))=false:=h4;simpa using h5);conv=>whnf
    refine⟨(i,h),[0],⟨q1,g1,show h<=m by omega,q4,.inr (.inl h4)⟩,by show h - i<j - i;omega,?_⟩;exact rY2
  ·have h3:i=j:=dF h3
   subst h3;have hfin:=za5 hw.ord hp (show m<n by omega) q1 q3 h1 q4 q5;conv=>whnf
   refine .inv Nat (λk=>i<=k/\k<=m) (λk=>[(17,iV k)]) (λk=>[(0,yn L n z (rot p k m (m+1)))]) (λk=>k) ⟨m,[0],⟨om,om⟩,?_⟩ ?_
   ·conv=>whnf
    rw[jr4 p m (m+1) om]
    exact rZ2
   intro k hk2;obtain⟨r1,r2⟩:=hk2;conv=>whnf
   refine⟨λh3=>?_,λh3=>?_⟩
   ·have h3:i<k:=dT h3
    have ek:IntKind.i64.wrap ((k:Int) - 1)=((k - 1:Nat):Int):=by rw[qc _ om];omega
    conv=>whnf
    refine⟨?_,?_,?_,?_⟩;rotate_left 2
    ·conv=>whnf
     rw[ek];exact rZ5
    ·conv=>whnf
     rw[ek];refine⟨k - 1,[0],⟨om,om⟩,om,?_⟩;conv=>whnf
     repeat'(first|exact ⟨⟩|exact rfl|exact ql _|exact .inr rfl|exact λ_ _=>rfl|exact noI|apply And.intro)
     intro x hx;rw[pr,pr];have:=yc6 L (rot p k m (m+1)) (k - 1) k om;have e5:=yr3 p m (k - 1) om;rw [show k - 1+1=k by omega] at e5;exact(congrFun this x).trans (congrArg (λf=>zcel L (f x)) e5)
   ·have h3:k=i:=dF h3
    rw[h3];conv=>whnf
    refine⟨[0],_,_,rfl,rfl,?_,?_,rfl,_,hfin,rfl⟩
    ·exact rfl
    ·exact rY2
 have c2:¬ b=m+1:=by simp at c2;omega
 conv=>whnf
 refine⟨om,?_⟩;conv=>whnf
 rw[jg7 a b om];rw[show IntKind.i64.wrap ((((a+b) / 2:Nat):Int)+(m:Int))=(((a+b) / 2+m:Nat):Int) by rw[qc _ om];omega];refine⟨λc3=>?_,λc3=>?_⟩;have c3:(a+b) / 2<m:=dT c3
 conv=>whnf
 obtain⟨N,hN⟩:∃ N,N=(a+b) / 2+m:=⟨_,rfl⟩;rw[<-hN];obtain⟨s0,hs0⟩:∃ s0,s0=N - b:=⟨_,rfl⟩;obtain⟨r0,hr0⟩:∃ r0,r0=(a+b) / 2:=⟨_,rfl⟩;have f1:s0=a\/N - s0=b:=om
 have f2:r0=m\/N - r0=m:=om
 have f3:a<=s0/\s0<=r0/\r0<=m/\m<=N - r0/\N - s0<=b:=om
 have x1:IntKind.i64.wrap ((N:Int) - (b:Int))=(s0:Int):=by rw[qc _ om];omega
 have x2:IntKind.i64.wrap ((N:Int) - 1)=((N - 1:Nat):Int):=by rw[qc _ om];omega
 rw[x1,x2];rotate_left;have c3:m<=(a+b) / 2:=dF c3
 conv=>whnf
 obtain⟨N,hN⟩:∃ N,N=(a+b) / 2+m:=⟨_,rfl⟩;rw[<-hN];obtain⟨s0,hs0⟩:∃ s0,s0=a:=⟨_,rfl⟩;obtain⟨r0,hr0⟩:∃ r0,r0=m:=⟨_,rfl⟩;have f1:s0=a\/N - s0=b:=om
 have f2:r0=m\/N - r0=m:=om
 have f3:a<=s0/\s0<=r0/\r0<=m/\m<=N - r0/\N - s0<=b:=om
 have x2:IntKind.i64.wrap ((N:Int) - 1)=((N - 1:Nat):Int):=by rw[qc _ om];omega
 rw[x2];all_goals
  refine .inv (Nat × Nat) (λs=>s0<=s.1/\s.1<=s.2/\s.2<=r0/\(s.1=s0\/LL (zltC (cmpZ L)) (p (s.1 - 1)) (p (N - s.1)))/\(s.2=r0\/LL (zltC (cmpZ L)) (p (N - 1 - s.2)) (p s.2))) (λs=>[(20,iV s.1),(21,iV s.2)]) (λs=>[]) (λs=>s.2 - s.1) ⟨(s0,r0),[0],⟨show s0<=s0 by omega,show s0<=r0 by omega,show r0<=r0 by omega,.inl rfl,.inl rfl⟩,?_⟩ ?_
  ·subst hr0;subst hs0;exact rY2
  intro st hst;obtain⟨q1,q2,q3,q4,q5⟩:=hst;conv=>whnf
  generalize st.1=s at q1 q2 q4 ⊢;generalize st.2=j at q2 q3 q5 ⊢;refine⟨λh3=>?_,λh3=>?_⟩
  ·have h3:s<j:=dT h3
   conv=>whnf
   refine⟨om,?_⟩;conv=>whnf
   rw[jg7 s j om];have g1:s<=(s+j) / 2:=om
   have g2:(s+j) / 2<j:=om
   generalize (s+j) / 2=h at g1 g2 ⊢;rw[show IntKind.i64.wrap (((N - 1:Nat):Int) - (h:Int))=((N - 1 - h:Nat):Int) by rw[qc _ om];omega];refine⟨om,?_⟩;conv=>whnf
   refine⟨om,?_⟩;conv=>whnf
   rw[pr,pr];refine .data _ (je0 _ _) rfl rfl ?_;conv=>whnf
   refine⟨λh4=>?_,λh4=>?_⟩
   ·have h4:zltC (cmpZ L) (p (N - 1 - h)) (p h)=false:=(by have h5:(!(zltC (cmpZ L) (p (N - 1 - h)) (p h)))=true:=h4;simpa using h5);conv=>whnf
    rw[show IntKind.i64.wrap ((h:Int)+1)=((h+1:Nat):Int) by rw[qc _ om];omega];refine⟨(h+1,j),[0],⟨show s0<=h+1 by omega,show h+1<=j by omega,q3,.inr (?_:LL (zltC (cmpZ L)) (p (h+1 - 1)) (p (N - (h+1)))),q5⟩,by show j - (h+1)<j - s;omega,?_⟩
    ·rw[show h+1 - 1=h by omega,show N - (h+1)=N - 1 - h by omega];exact .inr ⟨h4,hs h (N - 1 - h) om om om om⟩
    exact rY2
   ·have h4:zltC (cmpZ L) (p (N - 1 - h)) (p h)=true:=(by have h5:(!(zltC (cmpZ L) (p (N - 1 - h)) (p h)))=false:=h4;simpa using h5);conv=>whnf
    refine⟨(s,h),[0],⟨q1,g1,show h<=r0 by omega,q4,.inr (.inl h4)⟩,by show h - s<j - s;omega,?_⟩;exact rY2
  have h3:s=j:=dF h3
  subst h3;have hc:Cut (L:=LL (zltC (cmpZ L))) p a m b s (N - s):=xz5 hw.ord hp hbn h1 h2 om om om om
   (by
    rcases q4 with x|x
    ·rcases f1 with y|y
     ·exact .inl om
     ·exact .inr (.inl om)
    ·exact .inr (.inr x))
   (by
    rcases q5 with x|x
    ·rcases f2 with y|y
     ·exact .inl om
     ·exact .inr (.inl om)
    ·exact .inr (.inr (by rw[show N - s - 1=N - 1 - s by omega];exact x)))
  have hmid:(a+b) / 2=s+(N - s - m):=om
  have cl:=xo5 h1 h2 hs hc hmid;have cr:=xe5 h1 h2 hs hc hmid;have hrot:Inj n (rot p s m (N - s)):=hp.rot om om om;have ee:IntKind.i64.wrap ((N:Int) - (s:Int))=((N - s:Nat):Int):=by rw[qc _ om];omega
  conv=>whnf
  rw[ee];by_cases k1:s<m/\m<N - s;refine brT (pn om) ?_;conv=>whnf
  refine brT (pn om) ?_;conv=>whnf
  refine .rel _ (xq3 L n hn z p s m (N - s) k1.1 k1.2 om) (λr ks' hR=>?_);obtain⟨rfl,rfl⟩:=hR;conv=>whnf
  rotate_left
  have eq:rot p s m (N - s)=p:=by
   rcases ox s m with x|x
   ·rw[show N - s=m by omega];exact yx3 p s m om
   ·rw[show s=m by omega];exact jr4 p m _ om
  rw[show yn L n z p=yn L n z (rot p s m (N - s)) by rw[eq]];by_cases k0:s<m;refine brT (pn om) ?_;conv=>whnf
  refine brF (po om) ?_;conv=>whnf
  rotate_left
  refine brF (po om) ?_;conv=>whnf
  all_goals
   by_cases k2:a<s/\s<(a+b) / 2;refine brT (pn om) ?_;conv=>whnf
   refine brT (pn om) ?_;conv=>whnf
   refine .rel _ (ih (rot p s m (N - s)) a s ((a+b) / 2) om hrot k2.1 k2.2 om cl.1 cl.2.1 cl.2.2) (λr ks' hR=>?_);obtain⟨rfl,r1,hr1,rfl⟩:=hR;have hfin:∀ r2,Merged (L:=LL (zltC (cmpZ L))) r1 r2 n ((a+b) / 2) b->Merged (L:=LL (zltC (cmpZ L))) p r2 n a b:=λr2 h=>ym3 h1 h2 hc hmid hr1 h
   conv=>whnf
   rotate_left
   obtain⟨r1,hr1,er⟩:∃ r1,Merged (L:=LL (zltC (cmpZ L))) (rot p s m (N - s)) r1 n a ((a+b) / 2)/\r1=rot p s m (N - s):=⟨_,.stay hrot (by
    rcases ox a s with x|x
    ·exact cl.1.sub (pu _) om
    ·exact cl.2.1.sub om (pu _)),rfl⟩
   have hfin:∀ r2,Merged (L:=LL (zltC (cmpZ L))) r1 r2 n ((a+b) / 2) b->Merged (L:=LL (zltC (cmpZ L))) p r2 n a b:=λr2 h=>ym3 h1 h2 hc hmid hr1 h
   rw[<-er];clear er;by_cases k0:a<s;refine brT (pn om) ?_;conv=>whnf
   refine brF (po om) ?_;conv=>whnf
   rotate_left
   refine brF (po om) ?_;conv=>whnf
   all_goals
    by_cases k3:(a+b) / 2<N - s/\N - s<b;refine brT (pn om) ?_;conv=>whnf
    refine brT (pn om) ?_;conv=>whnf
    refine .rel _ (ih r1 ((a+b) / 2) (N - s) b om hr1.inj k3.1 k3.2 hbn (cr.1.congr λi x1 x2=>hr1.same.out i om) (cr.2.1.congr λi x1 x2=>hr1.same.out i om) (cr.2.2.congr λi x1 x2=>hr1.same.out i om)) (λr ks' hR=>?_);obtain⟨rfl,r2,hr2,rfl⟩:=hR;conv=>whnf
    rotate_left
    have hr2:Merged (L:=LL (zltC (cmpZ L))) r1 r1 n ((a+b) / 2) b:=.stay hr1.inj (by
     rcases ox ((a+b) / 2) (N - s) with x|x
     ·exact(cr.1.congr λi x1 x2=>hr1.same.out i om).sub (pu _) om
     ·exact(cr.2.1.congr λi x1 x2=>hr1.same.out i om).sub om (pu _))
    by_cases k0:(a+b) / 2<N - s;refine brT (pn om) ?_;conv=>whnf
    refine brF (po om) ?_;conv=>whnf
    rotate_left
    refine brF (po om) ?_;conv=>whnf
    all_goals
     refine⟨[0],_,_,rfl,rfl,?_,?_,rfl,_,hfin _ hr2,rfl⟩
     ·exact rfl
     ·exact rY2
theorem zr4(L:List Ls)(n:Nat)(hn:n<1152921504606846976)(z:Z)(hw:Weak n (zltC (cmpZ L))) :
 COk Tryz.prog 195 [.all 0,iV n,.fn 173 []] [yn L n z id] (λs k=>s = .tup []/\∃ r,Inj n r/\Rise (LL (zltC (cmpZ L))) r 0 n/\k=[yn L n z r]):=by
 refine yq (TT:=TT) (IN:=qd []) qe qg mixed 1000 Tryz.func195 rfl (qb Tryz.func195 (by kernel_rfl) rfl) 60 (by kernel_rfl) ?_;conv=>whnf
 refine .inv (Nat × (Nat->Nat)) (λs=>s.1 * 20<=n/\Fst (LL (zltC (cmpZ L))) 20 n s.1 s.2) (λs=>[(6,iV 20),(7,iV (s.1 * 20)),(8,iV (s.1 * 20+20))]) (λs=>[(0,yn L n z s.2)]) (λs=>n - s.1 * 20) ⟨(0,id),[0],⟨by show 0 * 20<=n;omega,Fst.zero 20 n⟩,?_⟩ ?_
 ·exact rY2
 intro s hs;obtain⟨h1,h2⟩:=hs;conv=>whnf
 generalize s.1=q at h1 h2 ⊢;generalize s.2=p at h2 ⊢;refine⟨λh3=>?_,λh3=>?_⟩
 ·have h3:q * 20+20<=n:=dT h3
  conv=>whnf
  refine .rel _ (yw7 L n hn z p hw h2.inj (q * 20) (q * 20+20) om h3 (λi j x1 x2 x3=>by rw[h2.rest i x1,h2.rest j om];exact x2)) (λr ks' hR=>?_);obtain⟨rfl,r,hr,rfl⟩:=hR;have e1:IntKind.i64.wrap (((q * 20+20:Nat):Int)+((20:Nat):Int))=(((q+1) * 20+20:Nat):Int):=by rw[qc _ om];omega
  have e2:q * 20+20=(q+1) * 20:=om
  conv=>whnf
  rw[e1,e2];refine⟨(q+1,r),[0],⟨by show(q+1) * 20<=n;omega,h2.next h3 om (.inr rfl) hr⟩,by show n - (q+1) * 20<n - q * 20;omega,?_⟩;exact rY2
 ·have h3:n<q * 20+20:=dF h3
  conv=>whnf
  refine .rel _ (yw7 L n hn z p hw h2.inj (q * 20) n h1 (pu _) (λi j x1 x2 x3=>by rw[h2.rest i x1,h2.rest j om];exact x2)) (λr ks' hR=>?_);obtain⟨rfl,r,hr,rfl⟩:=hR;have h4:=h2.next (pu _) om (.inl rfl) hr;conv=>whnf
  refine .inv (Nat × (Nat->Nat)) (λs=>0<s.1/\s.1<=20+2 * n/\Inj n s.2/\Lc s.1 0 n s.2/\Rs (LL (zltC (cmpZ L))) s.1 0 n s.2) (λs=>[(6,iV s.1)]) (λs=>[(0,yn L n z s.2)]) (λs=>n - s.1) ⟨(20,r),[0],⟨show 0<20 by omega,show 20<=20+2 * n by omega,h4.inj,h4.loc,?_⟩,?_⟩ ?_
  ·have:=h4.done;rw [show min ((q+1) * 20) n=n by omega] at this;exact this
  ·exact rY2
  clear h1 h2 h3 h4 hr;intro s hs;obtain⟨h1,h2,h3,h4,h5⟩:=hs;conv=>whnf
  generalize s.1=k at h1 h2 h4 h5 ⊢;generalize s.2=p at h3 h4 h5 ⊢;refine⟨λh6=>?_,λh6=>?_⟩
  ·have h6:k<n:=dT h6
   have e1:IntKind.i64.wrap (2 * (k:Int))=((2 * k:Nat):Int):=by rw[qc _ om];omega
   conv=>whnf
   rw[e1];refine .inv (Nat × (Nat->Nat)) (λs=>s.1<=n/\∃ q,s.1=q * (2 * k)/\Mg (LL (zltC (cmpZ L))) k n q s.2) (λs=>[(7,iV s.1),(8,iV (s.1+2 * k))]) (λs=>[(0,yn L n z s.2)]) (λs=>n - s.1) ⟨(0,p),[0],⟨pv _,0,(Nat.zero_mul _).symm,Mg.begin h3 h4 h5⟩,?_⟩ ?_
   ·conv=>whnf
    rw[o5];exact rZ2
   intro s hs;obtain⟨g1,q,g2,g3⟩:=hs;conv=>whnf
   generalize s.1=a at g1 g2 ⊢;generalize s.2=p at g3 ⊢;refine⟨λh7=>?_,λh7=>?_⟩
   ·have h7:a+2 * k<=n:=dT h7
    have e2:IntKind.i64.wrap ((a:Int)+(k:Int))=((a+k:Nat):Int):=by rw[qc _ om];omega
    have e3:IntKind.i64.wrap (((a+2 * k:Nat):Int)+((2 * k:Nat):Int))=((a+2 * k+2 * k:Nat):Int):=by rw[qc _ om];omega
    conv=>whnf
    rw[e2];refine .rel _ (yw5 L n hn z hw (2 * k+1) p a (a+k) (a+2 * k) om g3.inj om om h7 (by rw[g2];exact g3.left om) (by rw[g2];exact g3.right om om) (by rw[g2];exact g3.sep om om)) (λr ks' hR=>?_);obtain⟨rfl,r,hr,rfl⟩:=hR;have hn2:Mg (LL (zltC (cmpZ L))) k n (q+1) r:=g3.next h1 h7 om om om (by rw[<-g2];exact hr);conv=>whnf
    rw[e1,e3];refine⟨(a+2 * k,r),[0],⟨h7,q+1,by show a+2 * k=(q+1) * (2 * k);rw[b9 q (2 * k),<-g2],hn2⟩,by show n - (a+2 * k)<n - a;omega,?_⟩;exact rY2
   ·have h7:n<a+2 * k:=dF h7
    have e2:IntKind.i64.wrap ((a:Int)+(k:Int))=((a+k:Nat):Int):=by rw[qc _ om];omega
    have e4:IntKind.i64.wrap ((k:Int) * 2)=((2 * k:Nat):Int):=by rw[qc _ om];omega
    conv=>whnf
    rw[e2];refine⟨λh8=>?_,λh8=>?_⟩
    ·have h8:a+k<n:=dT h8
     conv=>whnf
     refine .rel _ (yw5 L n hn z hw (2 * k+1) p a (a+k) n om g3.inj om h8 (pu _) (by rw[g2];exact g3.left om) (by rw[g2];exact g3.right (pu _) om) (by rw[g2];exact g3.sep (pu _) om)) (λr ks' hR=>?_);obtain⟨rfl,r,hr,rfl⟩:=hR;have hn2:Mg (LL (zltC (cmpZ L))) k n (q+1) r:=g3.next h1 (pu _) om om om (by rw[<-g2];exact hr);have ho:=hn2.over h1 (by rw[b9,<-g2];omega);conv=>whnf
     rw[e4];refine⟨(2 * k,r),[0],⟨show 0<2 * k by omega,show 2 * k<=20+2 * n by omega,hn2.inj,ho.1,ho.2⟩,by show n - 2 * k<n - k;omega,?_⟩;exact rY2
    ·have h8:n<=a+k:=dF h8
     have ho:=g3.over h1 (by rw[<-g2];exact h8);conv=>whnf
     rw[e4];refine⟨(2 * k,p),[0],⟨show 0<2 * k by omega,show 2 * k<=20+2 * n by omega,g3.inj,ho.1,ho.2⟩,by show n - 2 * k<n - k;omega,?_⟩;exact rY2
  ·have h6:n<=k:=dF h6
   conv=>whnf
   refine⟨[0],_,_,rfl,rfl,?_,?_,rfl,p,h3,h5.all h6,rfl⟩
   ·exact rfl
   ·exact rY2
theorem xg3(L:List Ls)(n:Nat)(hn:n<1152921504606846976)(z:Z)(hw:Weak n (zltC (cmpZ L))) :
 COk Tryz.prog 172 [.all 0,.fn 173 []] [yn L n z id] (λs k=>s = .tup []/\∃ r,Inj n r/\Rise (LL (zltC (cmpZ L))) r 0 n/\k=[yn L n z r]):=by
 refine yq (TT:=TT) (IN:=qd []) qe qg mixed 1000 Tryz.func172 rfl (qb Tryz.func172 (by kernel_rfl) rfl) 7 (by kernel_rfl) ?_;conv=>whnf
 refine .rel _ (zr4 L n hn z hw) (λr ks' hR=>?_);obtain⟨rfl,r,hr,h2,rfl⟩:=hR;conv=>whnf
 refine⟨[0],_,_,rfl,rfl,?_,?_,rfl,r,hr,h2,rfl⟩
 ·exact rfl
 ·exact rY2
theorem xq6{a b:List Ls}(h:a.length≠b.length):(a == b)=false:=by
 cases e:a == b
 ·rfl
 ·exact absurd (congrArg List.length (eq_of_beq e)) h
def texD(z:Bool)(l:List Ls):DV:=.sl z l.length 1 (strs l)
theorem xx0(y z:Bool)(a b:List Ls)(ha:a.length<4611686018427387904)(hb:b.length<4611686018427387904):FnOk Tryz.prog 175 [.d (texD y a),.d (texD z b)] (.d (.bool (a == b))):=by
 refine qi (TT:=TT) (IN:=qd []) qe qg mixed 1000 Tryz.func175 rfl (qb Tryz.func175 (by kernel_rfl) rfl) rfl 24 (by kernel_rfl) ?_;conv=>whnf
 refine⟨λh1=>?_,λh1=>?_⟩
 ·have h:a.length≠b.length:=by intro e;rw [e] at h1;simp at h1
  rw[xq6 h];conv=>whnf
  first|done|exact rfl
 have hl:a.length=b.length:=by simp at h1;omega
 conv=>whnf
 refine .inv Nat (λi=>i<=a.length/\(a.drop i == b.drop i)=(a == b)) (λi=>[(13,.d (.int .i64 i))]) (λ_=>[]) (λi=>a.length - i) ⟨0,[],⟨pv _,rfl⟩,?_⟩ ?_
 ·exact rY6
 rintro i ⟨hi,hrest⟩
 conv=>whnf
 refine⟨λc5=>?_,λc5=>?_⟩
 ·have c5':i<a.length:=dT c5;conv=>whnf
  refine⟨om,?_⟩;conv=>whnf
  refine⟨om,?_⟩;conv=>whnf
  obtain⟨q,hq⟩:∃ q,a[i]?.getD []=q:=⟨_,rfl⟩;obtain⟨r,hr⟩:∃ r,b[i]?.getD []=r:=⟨_,rfl⟩;rw[pr,hq,hr];have hda:a.drop i=q :: a.drop (i+1):=by
   rw[lu c5',<-hq,pp c5'];rfl
  have hdb:b.drop i=r :: b.drop (i+1):=by
   rw[lu om,<-hr,pp om]
   rfl
  have hst:(q == r && a.drop (i+1) == b.drop (i+1))=(a == b):=by rw[<-hrest,hda,hdb];rfl
  cases he:q == r
  ·rw [he,lx] at hst;rw[<-hst];apply Tr;conv=>whnf
   first|done|exact rfl
  ·rw [he,p9] at hst;apply Fr;conv=>whnf
   have hw1:=w64s i om;refine⟨i+1,[],⟨c5',hst⟩,om,?_⟩;conv=>whnf
   rw[hw1];exact rZ6
 have hia:i=a.length:=dF c5;rw [sy om,sy om] at hrest;rw[<-hrest];conv=>whnf
 exact rfl
def plsZ(l:List Ls):Nat->List DV:=λj=>plW (l.getD j default)
def nmsZ(l:List Ls):List Ls:=l.filter λn=>decide (qa n)
theorem xj9(l:List Ls)(r:Ls):∀ i,i<l.length+1->catF l.length (plsZ l) (qs (plW r) 2) i=plsZ (l++[r]) i:=λi hi=>by
 unfold catF plsZ;split
 ·rename_i h;congr 1;rw[fy,fy,mn h]
 ·have:i=l.length:=om
  subst this;rw[ly,fy,m7 (pu _),ly];rfl
theorem xb8(l:List Ls)(i:Nat)(n:Ls)(h:l[i]? = some n):nmsZ (l.take (i+1))=if qa n then nmsZ (l.take i)++[n] else nmsZ (l.take i):=by
 unfold nmsZ;rw[o3,h];by_cases hn:qa n <;> simp[hn]
theorem xg7(z:Bool)(l:List Ls)(hn:l.length<=100000):FnOk Tryz.prog 140 [.d (.sl z l.length 1 (strs l))] (.d (.sl (vh l).isEmpty (vh l).length 1 (strs (vh l)))):=by
 refine qi (TT:=TT) (IN:=qd []) qe qg mixed 1000 Tryz.func140 rfl (qb Tryz.func140 (by kernel_rfl) rfl) rfl 55 (by kernel_rfl) ?_;conv=>whnf
 refine .nilT 3 218 2 (plsZ []) _ _ rfl ?_;conv=>whnf
 refine .inv Nat (λi=>i<=l.length) (λi=>[(11,iV i),(3,.all 0)]) (λi=>[(0,.row 218 2 (nmsZ (l.take i)).length .iff (plsZ (nmsZ (l.take i))))]) (λi=>l.length - i) ⟨0,[0],pv _,?_⟩ ?_
 ·exact rY2
 intro i hi;conv=>whnf
 have hfl:(nmsZ (l.take i)).length<=i:=gn (cx _ _) (by rw[o4];omega);refine⟨λh1=>?_,λh1=>?_⟩
 ·have h1:i<l.length:=dT h1
  have hw1:=w64s i om;have hli:l[i]? = some (l[i]?.getD []):=by rw[pp h1];rfl
  have hnx:=xb8 l i _ hli;conv=>whnf
  refine⟨om,?_⟩;conv=>whnf
  rw[pr];generalize l[i]?.getD []=n at hli hnx ⊢;refine oD (zo n) rfl rfl ?_;by_cases hnn:qa n
  ·rw [if_pos hnn] at hnx ⊢;conv=>whnf
   apply Tr;conv=>whnf
   refine oD (zz5 n hnn) rfl rfl ?_;conv=>whnf
   refine⟨om,?_⟩;conv=>whnf
   rw[hw1];refine⟨i+1,[2],h1,om,?_⟩;rw[hnx];conv=>whnf
   repeat'(first|exact ⟨⟩|exact rfl|exact ql _|exact .inr rfl|exact λ_ _=>rfl|exact noI|apply And.intro)
   ·simp
   ·exact xj9 _ n
  ·rw [if_neg hnn] at hnx ⊢;conv=>whnf
   apply Fr;conv=>whnf
   rw[hw1];refine⟨i+1,[0],h1,om,?_⟩;rw[hnx];exact rY2
 ·have h1:i=l.length:=dF h1
  subst h1;rw[mu];rw [mu] at hfl;conv=>whnf
  refine .rel _ (xg3 (nmsZ l) (nmsZ l).length om .iff (ka3 (nmsZ l))) (λr ks' hR=>?_);obtain⟨rfl,q,hq,hrise,rfl⟩:=hR;have hqs:=xh9 (nmsZ l) q hq hrise;conv=>whnf
  refine .nilT 6 9 1 (strs []) _ _ rfl ?_;conv=>whnf
  refine .inv Nat (λi=>i<=(nmsZ l).length) (λi=>[(30,iV i),(6,.all 1)]) (λi=>[(1,.row 9 1 (qa1 (zy (nmsZ l)) i).length .iff (strs (qa1 (zy (nmsZ l)) i)))]) (λi=>(nmsZ l).length - i) ⟨0,[0,1],pv _,?_⟩ ?_
  ·exact rY2
  intro i hi;conv=>whnf
  refine⟨λh1=>?_,λh1=>?_⟩
  ·have h1:i<(nmsZ l).length:=dT h1
   have hw1:=w64s i om;have hul:=jm2 (zy (nmsZ l)) i;conv=>whnf
   refine⟨om,?_⟩;conv=>whnf
   rw[pr,hqs i h1];have hnx:=ja1 (zy (nmsZ l)) i;refine⟨λh2=>?_,λh2=>?_⟩
   ·have h2:i=0:=by simpa using h2
    have hk:ug (zy (nmsZ l)) i=true:=by unfold ug;rw[h2];rfl
    rw [hk,if_pos rfl] at hnx;conv=>whnf
    refine⟨om,?_⟩;conv=>whnf
    rw[hw1];refine⟨i+1,[0,4],h1,om,?_⟩;rw[hnx];conv=>whnf
    repeat'(first|exact ⟨⟩|exact rfl|exact ql _|exact .inr rfl|exact λ_ _=>rfl|exact noI|apply And.intro)
    ·simp
    ·exact zh _ _ _ rfl
   ·have h2:i≠0:=by simpa using h2
    have hw2:IntKind.i64.wrap ((i:Int) - 1)=((i - 1:Nat):Int):=by rw[qc _ om];omega
    conv=>whnf
    rw[hw2];refine⟨om,?_⟩;conv=>whnf
    rw[pr,hqs (i - 1) om];refine .data _ (xx0 _ _ _ _ (by have:=qz6 ((zy (nmsZ l)).getD i default);omega) (by have:=qz6 ((zy (nmsZ l)).getD (i - 1) default);omega)) rfl rfl ?_;conv=>whnf
    refine⟨λh3=>?_,λh3=>?_⟩
    ·have hk:ug (zy (nmsZ l)) i=true:=by
      unfold ug;rw[cn];exact .inr (by simpa using h3)
     rw [hk,if_pos rfl] at hnx;conv=>whnf
     refine⟨om,?_⟩;conv=>whnf
     rw[hw1];refine⟨i+1,[0,4],h1,om,?_⟩;rw[hnx];conv=>whnf
     repeat'(first|exact ⟨⟩|exact rfl|exact ql _|exact .inr rfl|exact λ_ _=>rfl|exact noI|apply And.intro)
     ·simp
     ·exact zh _ _ _ rfl
    ·have hk:ug (zy (nmsZ l)) i=false:=by
      unfold ug;rw[cp];exact⟨by simpa using h2,by simpa using h3⟩
     rw [hk,if_neg (by decide)] at hnx;conv=>whnf
     rw[hw1];refine⟨i+1,[0,1],h1,om,?_⟩;rw[hnx];exact rY2
  ·have h1:i=(nmsZ l).length:=dF h1
   subst h1;conv=>whnf
   refine⟨?_,rfl,.inr rfl,λ_ _=>rfl⟩;show(vh l).length.beq 0=_;cases vh l <;> rfl
theorem xk9(a b:Ls):FnOk Tryz.prog 77 [.d (.str a),.d (.str b)] (.d (.bool (qp a b))):=by
 refine qi (TT:=TT) (IN:=qd []) qe qg mixed 1000 Tryz.func77 rfl (qb Tryz.func77 (by kernel_rfl) rfl) rfl 25 (by kernel_rfl) ?_;conv=>whnf
 cases h0:((a.length:Int) == (b.length:Int))
 ·have:qp a b=false:=by
   cases hf:fold a == fold b
   ·unfold qp;rw[hf,l8,l8]
   ·have:=congrArg List.length (eq_of_beq hf);rw [jp7,jp7] at this;rw [this] at h0;simp at h0
  rw[this];apply Fr;conv=>whnf
  repeat(first|(apply Fr;conv=>whnf))
  try exact rfl
 ·apply Tr;conv=>whnf
  refine oD (zo a) rfl rfl ?_;by_cases ha:qa a
  ·rw[if_pos ha];conv=>whnf
   apply Tr;conv=>whnf
   refine oD (zo b) rfl rfl ?_;by_cases hb:qa b
   ·rw[if_pos hb];conv=>whnf
    apply Tr;conv=>whnf
    refine oD (ke a (qy2 ha)) rfl rfl ?_;conv=>whnf
    refine oD (ke b (qy2 hb)) rfl rfl ?_;rw[show qp a b=(fold a == fold b) by unfold qp;rw[pn ha,pn hb];rfl];conv=>whnf
    try exact rfl
   ·rw[if_neg hb,show qp a b=false by unfold qp;rw[po hb,lx,l8]];conv=>whnf
    apply Fr;conv=>whnf
    repeat(first|(apply Fr;conv=>whnf))
    try exact rfl
  ·rw[if_neg ha,show qp a b=false by unfold qp;rw[po ha,lx]];conv=>whnf
   apply Fr;conv=>whnf
   repeat(first|(apply Fr;conv=>whnf))
   try exact rfl
def cutZ(apex:Ls)(r:RR):Bool:=isNs r && !qp r.nm apex
def u5(z:Zo)(i:Nat):List Ls:=((z.rrs.take i).filter (cutZ z.apex)).map (·.nm)
theorem zq7{z:Zo}{i:Nat}{r:RR}(h:z.rrs[i]? = some r):u5 z (i+1)=if cutZ z.apex r then u5 z i++[r.nm] else u5 z i:=by
 unfold u5;rw[o3,h];cases hc:cutZ z.apex r <;> simp[hc]
theorem yh3(z:Zo)(i:Nat):(u5 z i).length<=i:=by
 unfold u5;rw[mq];exact gn (cx _ _) (by rw[o4];omega)
theorem yh4(z:Zo):u5 z z.rrs.length=z.cutL:=by
 unfold u5;rw[mu];rfl
theorem xv5(z:Zo)(S:List ((Ls × Int × Int × Ls) × Nat))(N:List (Ls × Hd))(hl:z.rrs.length<=100000) :
 COk Tryz.prog 108 [.ptr 0 0] (lookK z S N .free) (λs k=>s = .d (.sl (vh z.cutL).isEmpty (vh z.cutL).length 1 (strs (vh z.cutL)))/\k=lookK z S N .free):=by
 refine yq (TT:=TT) (IN:=qd []) qe qg mixed 1000 Tryz.func108 rfl (qb Tryz.func108 (by kernel_rfl) rfl) 37 (by kernel_rfl) ?_;conv=>whnf
 refine .nilT 3 9 1 (strs []) _ _ rfl ?_;conv=>whnf
 refine .inv Nat (λi=>i<=z.rrs.length) (λi=>[(12,iV i),(3,.all 3)]) (λi=>[(3,.row 9 1 (u5 z i).length .iff (strs (u5 z i)))]) (λi=>z.rrs.length - i) ⟨0,[0,1,2,3],pv _,?_⟩ ?_
 ·exact rY4
 intro i hi;conv=>whnf
 refine⟨λh1=>?_,λh1=>?_⟩
 ·have h1:i<z.rrs.length:=dT h1
  have hw1:=w64s i om;obtain⟨r,hr⟩:∃ r,z.rrs.getD i default=r:=⟨_,rfl⟩;have hrl:z.rrs[i]? = some r:=by rw[<-hr,List.getD,pp h1];rfl
  have hnx:=zq7 hrl;have hcl:=yh3 z i;conv=>whnf
  refine⟨om,?_⟩;conv=>whnf
  rw[pr,hr];refine⟨λh2=>?_,λh2=>?_⟩
  ·have h2:isNs r=true:=h2;conv=>whnf
   refine .data _ (xk9 r.nm z.apex) rfl rfl ?_;cases h3:qp r.nm z.apex with
   |true =>
    rw [show cutZ z.apex r=false by unfold cutZ;rw [h2,h3];rfl,if_neg (by decide)] at hnx;conv=>whnf
    apply Fr;conv=>whnf
    rw[hw1];refine⟨i+1,[0,1,2,3],h1,om,?_⟩;rw[hnx];exact rY4
   |false =>
    rw [show cutZ z.apex r=true by unfold cutZ;rw [h2,h3];rfl,if_pos rfl] at hnx;conv=>whnf
    apply Tr;conv=>whnf
    refine⟨om,?_⟩;conv=>whnf
    rw[hw1];refine⟨i+1,[0,1,2,6],h1,om,?_⟩;rw[hnx];conv=>whnf
    repeat'(first|exact ⟨⟩|exact rfl|exact ql _|exact .inr rfl|exact λ_ _=>rfl|exact noI|apply And.intro|exact jn8 _|exact qm2 _|(show _+1=(_++[_]).length;simp;done)|exact zh _ _ _ rfl)
  ·have h2:isNs r=false:=h2;rw [show cutZ z.apex r=false by unfold cutZ;rw [h2];rfl,if_neg (by decide)] at hnx;conv=>whnf
   rw[hw1];refine⟨i+1,[0,1,2,3],h1,om,?_⟩;rw[hnx];exact rY4
 ·have h1:i=z.rrs.length:=dF h1
  subst h1;rw[yh4];have hcl:z.cutL.length<=100000:=by rw[<-yh4];exact gn (yh3 _ _) hl
  conv=>whnf
  refine .one (.frz _ _ [3] (xg7 (Nat.beq z.cutL.length 0) z.cutL hcl) ?_ rfl rfl ?_)
  ·conv=>whnf
   exact⟨rfl,rfl⟩
  conv=>whnf
  refine⟨[0,1,2],_,lookK z S N .free,rfl,rfl,?_,?_,rfl,rfl⟩
  ·exact rfl
  ·exact rY4
theorem xr2{α:Type}{P:List α->Prop}(h0:P [])(h1:∀ l a,P l->P (l++[a])):∀ l,P l:=λl=>by
 rw[<-l.reverse_reverse];induction l.reverse with
 |nil=>exact h0
 |cons a m ih=>rw[List.reverse_cons];exact h1 _ _ ih
def yt(zs:List Zo)(i:Nat):List Ls:=(zs.take i++zs.drop (i+1)).map (·.apex)
def zn(n:Ls):List Ls->Option Ls->Option Ls
 |[],b=>b
 |c :: l,b=>zn n l (if qv n c then (match b with
  |none=>some c
  |some y=>if qu y<qu c then some c else some y) else b)
def v8(zs:List Zo)(i:Nat)(apex:Ls):Option Nat:=match zn apex (yt zs i) none with
 |none=>none
 |some a=>zj zs (fold a)
def qc7(zs:List Zo):Bool:=(List.range zs.length).all λi=>i == 0 || (match v8 zs i (zs.getD i default).apex with
 |none=>false
 |some a=>(zs.getD a default).cutL.any λc=>fold c == fold (zs.getD i default).apex)
def qa2:List Int->Bool
 |[]=>true
 |a :: l=>!l.contains a && qa2 l
def yo:List Ls->Bool
 |[]=>true
 |a :: l=>!l.contains a && yo l
def zi(n:Nat)(hs:List (Int × Bool × List Int)):Bool:=qa2 (hs.map (·.1)) && hs.all λh=>h.2.2.all λat_=>decide (0<=at_) && decide (at_<(n:Int))
def Fo.ok(f:Fo):Bool:=decide (1<=f.zones.length) && (decide (f.zones.length<=64) && (decide (f.hosts.length<=64) && (f.zones.all Zo.ok && (yo (f.zones.map λz=>fold z.apex) && (fold (f.zones.getD 0 default).apex == [0] && (qc7 f.zones && zi f.zones.length f.hosts))))))
theorem zs6{n:Ls}(h:qa n):qp n n=true:=by
 unfold qp;rw[pn h];simp
def Zo.Fit(z:Zo):Prop:=∀ r ∈ z.rrs,r.nm.length<=100000/\r.d.length<=100000
theorem Zo.ok_len{z:Zo}(h:z.ok=true):z.rrs.length<=256:=by
 unfold Zo.ok at h;simp only [p7,lr] at h;exact h.2.1
theorem zc6(z:Zo)(hz:z.Fit)(ks:List KB):COk Tryz.prog 73 [z.V] ks (λs k=>∃ S N,s = .tup [.agg [.d (.str z.apex),.d (rrsD z.z z.rrs),.map (lenB ks),.map (lenB ks+1)],.d (.bool z.ok)]/\k=appB ks [vk S,wg N .free]) :=
 (COk.frameX (xx7 z hz) [] rfl rfl rfl).imp λr k ⟨s0,k0,⟨S,N,h1,h2⟩,h3,h4⟩=>by
  refine⟨S,N,?_,?_⟩
  ·rw[h3,h1];rfl
  ·rw[h4,h2];show appB ks [KB.mapx _ _ _ (mapM _ (aenc z6 intV S)) _,KB.mapx _ _ _ (mapM _ (aenc strK Hd.enc N)) _]=_;rw[jn9,jo6];rfl
theorem zx0(z:Zo)(hz:z.Fit):FnOk Tryz.prog 66 [z.V] (.d (.int .i64 (if z.ok then 0 else 2))):=by
 refine qi (TT:=TT) (IN:=qd []) qe qg mixed 1000 Tryz.func66 rfl (qb Tryz.func66 (by kernel_rfl) rfl) rfl 11 (by kernel_rfl) ?_;conv=>whnf
 refine .rel _ (zc6 z hz _) (λr ks' hR=>?_);obtain⟨S,N,rfl,rfl⟩:=hR;conv=>whnf
 cases h:z.ok with
 |false =>
  apply Tr;conv=>whnf
  exact rfl
 |true =>
  apply Fr;conv=>whnf
  exact rfl
def kc9(l:List Ls):DV:=.sl l.isEmpty l.length 1 (strs l)
def xl(z:Zo):List Ls:=if z.ok then vh z.cutL else []
theorem xg6(z:Zo)(hz:z.Fit):FnOk Tryz.prog 102 [z.V] (.d (kc9 (xl z))):=by
 refine qi (TT:=TT) (IN:=qd []) qe qg mixed 1000 Tryz.func102 rfl (qb Tryz.func102 (by kernel_rfl) rfl) rfl 12 (by kernel_rfl) ?_;conv=>whnf
 refine .rel _ (zc6 z hz _) (λr ks' hR=>?_);obtain⟨S,N,rfl,rfl⟩:=hR;unfold xl;cases h:z.ok with
 |false =>
  rw[if_neg (by decide)];conv=>whnf
  apply Tr;exact rY3
 |true =>
  rw[if_pos rfl];conv=>whnf
  apply Fr;conv=>whnf
  refine .rel _ (COk.frameX (xv5 z S N (by have:=z.ok_len h;omega)) [3,1,2] rfl rfl (by rw[ql2];rfl)) (λx ks' hR=>?_);obtain⟨s0,k0,⟨rfl,rfl⟩,rfl,rfl⟩:=hR;exact rY3
def qp0(n c:Ls)(b:Option Ls):Option Ls:=if qv n c then (match b with
 |none=>some c
 |some y=>if qu y<qu c then some c else some y) else b
theorem jj2(n:Ls):∀ (l:List Ls) (c:Ls) (b:Option Ls),zn n (l++[c]) b=qp0 n c (zn n l b)
 |[],c,b=>rfl
 |x :: l,c,b=>by
  show zn n (l++[c]) _=qp0 n c (zn n l _);exact jj2 n l c _
theorem zw4{n:Ls}{l:List Ls}{i:Nat}{c:Ls}(h:l[i]? = some c):zn n (l.take (i+1)) none=qp0 n c (zn n (l.take i) none):=by
 rw[o3,h];exact jj2 n _ c none
def fewD:Option Ls->Int
 |none=>-1
 |some c=>qu c
def ji1(n:Ls)(l:List Ls):Ls × Int:=if qa n then (match zn n l none with
 |none=>([],3)
 |some c=>(c,0)) else ([],2)
theorem zw3(name:Ls)(z:Bool)(L:List Ls)(hsl:L.length<=100000):FnOk Tryz.prog 137 [.d (.str name),.d (.sl z L.length 1 (strs L))] (.tup [.d (.str (ji1 name L).1),.d (.int .i64 (ji1 name L).2)]):=by
 refine qi (TT:=TT) (IN:=qd []) qe qg mixed 1000 Tryz.func137 rfl (qb Tryz.func137 (by kernel_rfl) rfl) rfl 33 (by kernel_rfl) ?_;conv=>whnf
 refine oD (zo name) rfl rfl ?_;unfold ji1;by_cases hn:qa name;case neg =>
  rw[if_neg hn,if_neg hn];conv=>whnf
  apply Tr;exact rY3
 rw[if_pos hn,if_pos hn];conv=>whnf
 apply Fr;conv=>whnf
 refine .inv Nat (λi=>i<=L.length) (λi=>[(16,iV i),(6,.d (.str ((zn name (L.take i) none).getD []))),(7,.d (.int .i64 (fewD (zn name (L.take i) none))))]) (λi=>[]) (λi=>L.length - i) ⟨0,[],pv _,?_⟩ ?_
 ·exact rY2
 intro i hi;conv=>whnf
 refine⟨λh2=>?_,λh2=>?_⟩
 ·have h2:i<L.length:=dT h2
  have hw1:=w64s i om;have hli:L[i]? = some (L[i]?.getD []):=by rw[pp h2];rfl
  have hnx:=zw4 (n:=name) hli;conv=>whnf
  refine⟨om,?_⟩;conv=>whnf
  rw[pr];generalize L[i]?.getD []=c at hli hnx ⊢;unfold qp0 at hnx;refine oD (yi3 _ _) rfl rfl ?_;cases hw:qv name c with
  |false =>
   rw [hw,if_neg (by decide)] at hnx;conv=>whnf
   apply Tr;conv=>whnf
   rw[hw1];refine⟨i+1,[],h2,om,?_⟩;rw[hnx];exact rY2
  |true =>
   rw [hw,if_pos rfl] at hnx;conv=>whnf
   apply Fr;conv=>whnf
   refine oD (xo6 _) rfl rfl ?_;conv=>whnf
   cases hb:zn name (L.take i) none with
   |none =>
    rw [hb] at hnx;refine brT (pn (by show((qu c:Nat):Int) > -1;omega)) ?_;conv=>whnf
    rw[hw1];refine⟨i+1,[],h2,om,?_⟩;rw[hnx];exact rY2
   |some y =>
    rw [hb] at hnx;simp only at hnx;by_cases hc:qu y<qu c
    ·rw [if_pos hc] at hnx;refine brT (pn (by show((qu c:Nat):Int) > ((qu y:Nat):Int);omega)) ?_;conv=>whnf
     rw[hw1];refine⟨i+1,[],h2,om,?_⟩;rw[hnx];exact rY2
    ·rw [if_neg hc] at hnx;refine brF (po (by show ¬ ((qu c:Nat):Int) > ((qu y:Nat):Int);omega)) ?_;conv=>whnf
     rw[hw1];refine⟨i+1,[],h2,om,?_⟩;rw[hnx];exact rY2
 ·have h2:i=L.length:=dF h2
  subst h2;rw[mu];conv=>whnf
  cases hb:zn name L none with
  |none =>
   apply Tr;exact rY3
  |some c =>
   refine brF (po (by show ¬ ((qu c:Nat):Int)<0;omega)) ?_;exact rY3
def qf3(k:Nat):List Zo->List (Ls × Nat)
 |[]=>[]
 |z :: l=>(fold z.apex,k) :: qf3 (k+1) l
def jz(zs:List Zo):List (Ls × Nat):=qf3 0 zs
theorem jx0:∀ (l m:List Zo) (k:Nat),qf3 k (l++m)=qf3 k l++qf3 (k+l.length) m
 |[],m,k=>rfl
 |z :: l,m,k=>by
  show(fold z.apex,k) :: qf3 (k+1) (l++m)=_;rw[jx0 l m (k+1),show k+1+l.length=k+(z :: l).length by simp;omega]
  rfl
theorem zo1(l:List Zo)(z:Zo):jz (l++[z])=jz l++[(fold z.apex,l.length)]:=by
 unfold jz;rw[jx0,o5];rfl
theorem ya9(n:Ls):∀ (l:List Zo) (k:Nat),aget (qf3 k l) n=(zj l n).map (· + k)
 |[],k=>rfl
 |z :: l,k=>by
  show(if n=fold z.apex then some k else aget (qf3 (k+1) l) n)=_;unfold zj;rw[List.findIdx?_cons];by_cases h:n=fold z.apex
  ·rw[if_pos h,show(fold z.apex == n)=true by simpa using h.symm,if_pos rfl];simp
  ·rw[if_neg h,show(fold z.apex == n)=false by simpa using λe=>h e.symm,if_neg (by decide),ya9 n l (k+1)];unfold zj;rw[Option.map_map];congr 1;funext x;simp only[Function.comp];omega
theorem ql1(l:List Zo)(n:Ls):aget (jz l) n=zj l n:=by
 unfold jz;rw[ya9];cases zj l n <;> rfl
theorem place_none{l:List Zo}{n:Ls}:zj l n=none↔∀ z ∈ l,fold z.apex≠n:=by
 unfold zj;rw[List.findIdx?_eq_none_iff];simp
theorem yf5(l:List Ls)(a:Ls):yo (l++[a])=(yo l && !l.contains a):=by
 induction l with
 |nil=>simp[yo]
 |cons x l ih =>
  show(!(l++[a]).contains x && yo (l++[a]))=((!l.contains x && yo l) && !(x :: l).contains a);rw[ih,my];simp only[List.contains_append,List.contains_cons,List.contains_nil,Bool.or_false,Bool.not_or,p7,dp,oo];constructor
  ·rintro ⟨⟨h1,h2⟩,h3,h4⟩;exact⟨⟨h1,h3⟩,λe=>h2 e.symm,h4⟩
  ·rintro ⟨⟨h1,h3⟩,h2,h4⟩;exact⟨⟨h1,λe=>h2 e.symm⟩,h3,h4⟩
theorem zu0{l:List Ls}{i:Nat}(h:yo (l.take i)=false):yo l=false:=by
 have hl:l=l.take i++l.drop i:=(f9 i l).symm;cases e:yo l with
 |false=>rfl
 |true =>
  exfalso;have:∀ (m n:List Ls),yo (m++n)=true->yo m=true:=by
   intro m n;refine qj0 (P:=λn=>yo (m++n)=true->yo m=true) (λh=>by rwa [m6] at h) (λn r ih h=>?_) n;rw [<-mp,yf5,p7] at h;exact ih h.1
  rw [hl] at e;rw [this _ _ e] at h;cases h
def Zo.enc(z:Zo):List DV:=[.str z.apex,rrsD z.z z.rrs]
def qv2(b:Bool)(l:List Zo):DV:=.sl b l.length 2 (λi=>(l.getD i default).enc)
def qk6(h:Int × Bool × List Int):List DV:=[.int .u32 h.1,.sl h.2.1 h.2.2.length 1 (λj=>[.int .i64 (h.2.2.getD j 0)])]
def qw0(b:Bool)(l:List (Int × Bool × List Int)):DV:=.sl b l.length 2 (λi=>qk6 (l.getD i default))
def Fo.V(f:Fo):SV:=.agg [.d (qv2 f.zz f.zones),.d (qw0 f.hz f.hosts)]
def Fo.Fit(f:Fo):Prop:=∀ z ∈ f.zones,z.apex.length<=100000/\z.Fit
def j9(P:List (Ls × Nat)):KB:=.map [.str] false false (aenc strK intV P)
theorem qr2{σ:Nat->Nat}(P:List (Ls × Nat)):mapK σ (j9 P)=j9 P:=by
 show KB.mapx _ _ _ (mapM _ (aenc strK intV P)) _=_;rw[jd8 (λ_=>rfl)]
 rfl
theorem qr1{ρ:List Nat}(P:List (Ls × Nat)):renM ρ (aenc strK intV P)=aenc strK intV P:=qn2 (λ_=>rfl) P
def vp(zs:List Zo)(i j:Nat):List Ls:=(((zs.take j).zipIdx).filter (λp=>p.2 != i)).map (·.1.apex)
theorem jy0{zs:List Zo}{i j:Nat}{z:Zo}(h:zs[j]? = some z):vp zs i (j+1)=if j≠i then vp zs i j++[z.apex] else vp zs i j:=by
 unfold vp;have hj:j<zs.length:=(p6.1 h).1;rw[o3,h];simp only[Option.toList_some,List.zipIdx_append,b7,du];by_cases hc:j=i
 ·subst hc;simp[o4,so (Nat.le_of_lt hj)]
 ·simp[o4,so (Nat.le_of_lt hj),hc]
theorem zl2(zs:List Zo)(i j:Nat):(vp zs i j).length<=j:=by
 unfold vp;rw[mq];exact gn (cx _ _) (by rw[List.length_zipIdx,o4];omega)
theorem jy9(zs:List Zo){i:Nat}(hi:i<zs.length):vp zs i zs.length=yt zs i:=by
 unfold vp yt;rw[mu];have h:zs=zs.take i++zs[i] :: zs.drop (i+1):=by rw[List.getElem_cons_drop,f9]
 have hl:(zs.take i).length=i:=by rw[o4];omega
 generalize zs.take i=A at h hl ⊢;generalize zs.drop (i+1)=B at h ⊢;generalize zs[i]=x at h;subst h;rw[List.zipIdx_append,b7,List.zipIdx_cons,List.filter_cons,du,du];have e1:(A.zipIdx.filter λp=>p.2 != i).map (·.1.apex)=A.map (·.apex):=by
  rw[List.filter_eq_self.2 (λp hp=>by
   have:=List.snd_lt_of_mem_zipIdx hp;simp;omega)]
  rw[show(λp:Zo × Nat=>p.1.apex)=(λz:Zo=>z.apex) ∘ Prod.fst from rfl,<-f7,List.zipIdx_map_fst]
 have e2:((B.zipIdx (0+A.length+1)).filter λp=>p.2 != i).map (·.1.apex)=B.map (·.apex):=by
  rw[List.filter_eq_self.2 (λp hp=>by
   have:=List.le_snd_of_mem_zipIdx hp;simp;omega)]
  rw[show(λp:Zo × Nat=>p.1.apex)=(λz:Zo=>z.apex) ∘ Prod.fst from rfl,<-f7,List.zipIdx_map_fst]
 rw[e1,if_neg (by simp[hl]),e2]
theorem yy0{K V:Type}[DecidableEq K]{ek:K->List DV}{ev:V->List SV}(hk:∀ a b,jo (ek a) (ek b)=decide (a=b))(k:K)(z:List SV):∀ l:List (K × V),∃ (l1:List (List DV × List SV)) (q:Nat),opnM (aenc ek ev l) (ek k) z=(l1,((aget l k).map ev).getD z,q)/\zg l1 (ek k)=some (((aget l k).map ev).getD z)/\∀ v,putQ l1 q (ev v)=aenc ek ev (aput l k v)
 |[]=>⟨[(ek k,z)],0,rfl,by show(if jo (ek k) (ek k) then some z else _)=_;rw[hk,if_pos sm];rfl,λv=>rfl⟩
 |e :: l=>by
  obtain⟨l1,q,h1,h2,h3⟩:=yy0 hk k z l;by_cases h:k=e.1
  ·refine⟨aenc ek ev (e :: l),0,?_,?_,λv=>?_⟩
   ·show(if jo (ek k) (ek e.1) then _ else _)=_;rw[hk,if_pos (by simpa using h)];simp only[aget,if_pos h]
    rfl
   ·show(if jo (ek k) (ek e.1) then some (ev e.2) else _)=_;rw[hk,if_pos (by simpa using h)];simp only[aget,if_pos h]
    rfl
   ·show(ek e.1,ev v) :: aenc ek ev l=aenc ek ev (aput (e :: l) k v);simp only[aput,if_pos h];rw[<-h];rfl
  ·refine⟨(ek e.1,ev e.2) :: l1,q+1,?_,?_,λv=>?_⟩
   ·show(if jo (ek k) (ek e.1) then _ else ((ek e.1,ev e.2) :: (opnM (aenc ek ev l) (ek k) z).1,(opnM (aenc ek ev l) (ek k) z).2.1,(opnM (aenc ek ev l) (ek k) z).2.2+1))=_;rw[hk,if_neg (by simpa using h),h1];simp only[aget,if_neg h]
   ·show(if jo (ek k) (ek e.1) then some (ev e.2) else zg l1 (ek k))=_;rw[hk,if_neg (by simpa using h),h2];simp only[aget,if_neg h]
   ·show(ek e.1,ev e.2) :: putQ l1 q (ev v)=aenc ek ev (aput (e :: l) k v);rw[h3];simp only[aput,if_neg h]
    rfl
def qh1(p:Nat × Nat):List DV:=[.int .i64 (p.1:Nat),.int .i64 (p.2:Nat)]
theorem jo1(a b:Nat × Nat):jo (qh1 a) (qh1 b)=decide (a=b):=by
 rw[my];obtain⟨a1,a2⟩:=a;obtain⟨b1,b2⟩:=b;simp[qh1,jo,dEq,kEq];omega
def zd0(C:List ((Nat × Nat) × Nat)):KB:=.map [.int .i64,.int .i64] true false (aenc qh1 intV C)
theorem yl2{ρ:List Nat}(C:List ((Nat × Nat) × Nat)):renM ρ (aenc qh1 intV C)=aenc qh1 intV C:=qn2 (λ_=>rfl) C
theorem yo5{n:Ls}:∀ {l:List Ls} {b:Option Ls} {a:Ls},zn n l b=some a->a ∈ l\/b=some a
 |[],b,a,h=>.inr h
 |c :: l,b,a,h=>by
  unfold zn at h;rcases yo5 h with h|h
  ·exact .inl (gt _ h)
  ·split at h
   ·cases b with
    |none=>simp only [gu] at h;subst h;exact .inl (l6 ..)
    |some y =>
     simp only at h;split at h
     ·simp only [gu] at h;subst h;exact .inl (l6 ..)
     ·exact .inr h
   ·exact .inr h
def zb(P:List (Ls × Nat))(apex:Ls)(L:List Ls):Nat × Bool:=match zn apex L none with
 |none=>(0,false)
 |some a=>match aget P (fold a) with
  |none=>(0,false)
  |some k=>(k,true)
theorem rZ7{p:Prop}(h:p:=by repeat'(first|exact ⟨⟩|exact rfl|exact ql _|exact .inr rfl|exact λ_ _=>rfl|exact noI|apply And.intro|exact qr1 _)):p:=h
theorem rY7{p:Prop}(h:p:=by (conv=>whnf);repeat'(first|exact ⟨⟩|exact rfl|exact ql _|exact .inr rfl|exact λ_ _=>rfl|exact noI|apply And.intro|exact qr1 _)):p:=h
theorem zq8(f:Fo)(hl:f.zones.length<=64)(i:Nat)(hi:i<f.zones.length)(apex:Ls)(ha:qa apex)(P:List (Ls × Nat))(hn:∀ z ∈ f.zones,qa z.apex) :
 COk Tryz.prog 103 [f.V,iV i,.d (.str apex),.map 0] [j9 P] (λs k=>∃ b,s = .tup [iV (zb P apex (yt f.zones i)).1,.d b]/\DenTo (.d b) (.d (.bool (zb P apex (yt f.zones i)).2))/\k=[j9 P]):=by
 refine yq (TT:=TT) (IN:=qd []) qe qg mixed 1000 Tryz.func103 rfl (qb Tryz.func103 (by kernel_rfl) rfl) 47 (by kernel_rfl) ?_;conv=>whnf
 refine .nilT 10 9 1 (strs []) _ _ rfl ?_;conv=>whnf
 refine .inv Nat (λj=>j<=f.zones.length) (λj=>[(20,iV j),(10,.all 2)]) (λj=>[(2,.row 9 1 (vp f.zones i j).length .iff (strs (vp f.zones i j)))]) (λj=>f.zones.length - j) ⟨0,[0,1,2],pv _,?_⟩ ?_
 ·exact rY7
 intro j hj;conv=>whnf
 have hol:=zl2 f.zones i j;refine⟨λh2=>?_,λh2=>?_⟩
 ·have h2:j<f.zones.length:=dT h2
  have hw1:=w64s j om;obtain⟨z,hz⟩:∃ z,f.zones.getD j default=z:=⟨_,rfl⟩;have hzl:f.zones[j]? = some z:=by rw[<-hz,List.getD,pp h2];rfl
  have hnx:=jy0 (i:=i) hzl;conv=>whnf
  refine⟨om,?_⟩;conv=>whnf
  rw[pr,hz];refine⟨λh3=>?_,λh3=>?_⟩
  ·have h3:j≠i:=by
    have h:(j:Int)≠(i:Int):=by simpa using h3
    omega
   rw [if_pos h3] at hnx;conv=>whnf
   refine⟨om,?_⟩;conv=>whnf
   rw[hw1];refine⟨j+1,[0,1,5],h2,om,?_⟩;rw[hnx];conv=>whnf
   repeat'(first|exact ⟨⟩|exact rfl|exact ql _|exact .inr rfl|exact λ_ _=>rfl|exact noI|apply And.intro|exact qr1 _|(show _+1=(_++[_]).length;simp;done)|exact zh _ _ _ rfl)
  ·have h3:¬ j≠i:=by
    have h:¬ (j:Int)≠(i:Int):=by simpa using h3
    omega
   rw [if_neg h3] at hnx;conv=>whnf
   rw[hw1];refine⟨j+1,[0,1,2],h2,om,?_⟩;rw[hnx];exact rY7
 ·have h2:j=f.zones.length:=dF h2
  subst h2;rw [jy9 f.zones hi] at hol ⊢;generalize hL:yt f.zones i=L at hol ⊢;have hLn:∀ c ∈ L,qa c:=λc hc=>by
   rw [<-hL] at hc;unfold yt at hc;obtain⟨z,hz,rfl⟩:=gv.1 hc;refine hn z ?_;rcases ow.1 hz with h|h
   ·exact lv h
   ·exact d8 h
  conv=>whnf
  refine .one (.view _ _ [2] (zw3 apex (Nat.beq L.length 0) L om) ?_ rfl rfl ?_)
  ·conv=>whnf
   exact⟨rfl,rfl⟩
  unfold ji1;rw[if_pos ha];cases hd:zn apex L none with
  |none =>
   rw[show zb P apex L=(0,false) by unfold zb;rw[hd]];conv=>whnf
   apply Tr;conv=>whnf
   refine⟨[0],_,[j9 P],rfl,rfl,?_,?_,.ff,rfl,DenTo.ff,rfl⟩
   ·exact rfl
   ·exact rY7
  |some a =>
   conv=>whnf
   apply Fr;conv=>whnf
   refine oD (ke a ?_) rfl rfl ?_
   ·rcases yo5 hd with h|h
    ·have:=(hLn a h).2.1;omega
    ·cases h
   conv=>whnf
   have hf:=xf (ev:=intV) zp P (fold a);refine⟨_,hf,?_⟩;cases hg:aget P (fold a) with
   |none =>
    rw[show zb P apex L=(0,false) by unfold zb;rw[hd];show(match aget P (fold a) with|none=>(0,false)|some k=>(k,true))=_;rw[hg]];conv=>whnf
    refine⟨[0],_,[j9 P],rfl,rfl,?_,?_,.ff,rfl,DenTo.ff,rfl⟩
    ·exact rfl
    ·exact rY7
   |some k =>
    rw[show zb P apex L=(k,true) by unfold zb;rw[hd];show(match aget P (fold a) with|none=>(0,false)|some k=>(k,true))=_;rw[hg]];conv=>whnf
    refine⟨[0],_,[j9 P],rfl,rfl,?_,?_,.tt,rfl,DenTo.tt,rfl⟩
    ·exact rfl
    ·exact rY7
section
def CutI(zs:List Zo)(P:List (Ls × Nat))(a b:Nat):Prop:=∃ c ∈ xl (zs.getD a default),aget P (fold c)=some b
structure HInv(zs:List Zo)(P:List (Ls × Nat))(i:Nat)(L:List Ls)(m:Nat)(C:List ((Nat × Nat) × Nat)):Prop where
 has:∀ a b,(aget C (a,b)).isSome=true↔(a<i/\CutI zs P a b)\/(a=i/\∃ c ∈ L,aget P (fold c)=some b)
 le:∀ k v,aget C k=some v->1<=v/\v<=m
variable{zs:List Zo}{P:List (Ls × Nat)}
theorem HInv.zero:HInv zs P 0 [] 0 []:=⟨λa b=>⟨λh=>(by cases h),λh=>(by rcases h with h|⟨_,c,hc,_⟩;exact absurd h.1 (fw _);cases hc)⟩,λk v h=>by cases h⟩
theorem HInv.next{i m:Nat}{L:List Ls}{C:List ((Nat × Nat) × Nat)}(h:HInv zs P i L m C){m':Nat}(hm:m<=m')(hL:L=xl (zs.getD i default)):HInv zs P (i+1) [] m' C:=by
 refine⟨λa b=>?_,λk v hv=>?_⟩
 ·rw[h.has];constructor
  ·rintro (⟨h1,h2⟩|⟨rfl,c,hc,e⟩)
   ·exact .inl ⟨om,h2⟩
   ·exact .inl ⟨gw _,c,hL ▸ hc,e⟩
  ·rintro (⟨h1,h2⟩|⟨_,c,hc,_⟩)
   ·rcases ox a i with h3|h3
    ·exact .inl ⟨h3,h2⟩
    ·have:a=i:=om
     subst this;obtain⟨c,hc,e⟩:=h2;exact .inr ⟨rfl,c,hL ▸ hc,e⟩
   ·cases hc
 ·have:=h.le k v hv;omega
theorem HInv.skip{i m:Nat}{L:List Ls}{C:List ((Nat × Nat) × Nat)}(h:HInv zs P i L m C){c:Ls}(hc:aget P (fold c)=none):HInv zs P i (L++[c]) (m+1) C:=by
 refine⟨λa b=>?_,λk v hv=>?_⟩
 ·rw[h.has];constructor
  ·rintro (h1|⟨rfl,c',hc',e⟩)
   ·exact .inl h1
   ·exact .inr ⟨rfl,c',ao _ hc',e⟩
  ·rintro (h1|⟨rfl,c',hc',e⟩)
   ·exact .inl h1
   ·rcases ow.1 hc' with h2|h2
    ·exact .inr ⟨rfl,c',h2,e⟩
    ·rw [m9.1 h2,hc] at e;cases e
 ·have:=h.le k v hv;omega
theorem HInv.put{i m:Nat}{L:List Ls}{C:List ((Nat × Nat) × Nat)}(h:HInv zs P i L m C){c:Ls}{b:Nat}(hc:aget P (fold c)=some b){v:Nat}(hv:(aget C (i,b)).getD 0=v):HInv zs P i (L++[c]) (m+1) (aput C (i,b) (v+1)):=by
 refine⟨λa b'=>?_,λk w hw=>?_⟩
 ·rw[jd7];by_cases hk:(a,b')=(i,b)
  ·rw[if_pos hk];obtain⟨rfl,rfl⟩:=gp hk;exact⟨λ_=>.inr ⟨rfl,c,sm,hc⟩,λ_=>rfl⟩
  ·rw[if_neg hk,h.has];constructor
   ·rintro (h1|⟨rfl,c',hc',e⟩)
    ·exact .inl h1
    ·exact .inr ⟨rfl,c',ao _ hc',e⟩
   ·rintro (h1|⟨rfl,c',hc',e⟩)
    ·exact .inl h1
    ·rcases ow.1 hc' with h2|h2
     ·exact .inr ⟨rfl,c',h2,e⟩
     ·rw [m9.1 h2,hc] at e;simp only [gu] at e;exact absurd (by rw[e]) hk
 ·rw [jd7] at hw;split at hw
  ·simp only [gu] at hw;subst hw;cases hg:aget C (i,b) with
   |none=>rw [hg] at hv;simp at hv;omega
   |some x =>
    rw [hg] at hv;simp at hv;have:=h.le _ _ hg;omega
  ·have:=h.le k w hw;omega
theorem yu8{n:Nat}(hP:∀ k v,aget P k=some v->v<n)(apex:Ls)(L:List Ls):(zb P apex L).2=true->(zb P apex L).1<n:=by
 unfold zb;cases zn apex L none with
 |none=>exact λh=>by cases h
 |some a =>
  show(match aget P (fold a) with|none=>(0,false)|some k=>(k,true)).2=true->(match aget P (fold a) with|none=>(0,false)|some k=>(k,true)).1<n;cases hg:aget P (fold a) with
  |none=>exact λh=>by cases h
  |some k=>exact λ_=>hP _ _ hg
theorem zw5(f:Fo)(hl:f.zones.length<=64)(i:Nat)(hi:i<f.zones.length)(apex:Ls)(ha:qa apex)(P:List (Ls × Nat))(hn:∀ z ∈ f.zones,qa z.apex) :
 COk Tryz.prog 103 [f.V,iV i,.d (.str apex),.map 0] [j9 P] (λs k=>s = .tup [iV (zb P apex (yt f.zones i)).1,.d (.bool (zb P apex (yt f.zones i)).2)]/\k=[j9 P]) :=
 COk.resD (zq8 f hl i hi apex ha P hn) λ_ _ ⟨_,h1,h2,h3⟩=>⟨_,h1 ▸ DenTo.tup ⟨DenTo.refl _,h2,trivial⟩,rfl,h3⟩
def ui(zs:List Zo)(P:List (Ls × Nat))(i:Nat):Bool:=i == 0 || ((zb P (zs.getD i default).apex (yt zs i)).2 && (xl (zs.getD (zb P (zs.getD i default).apex (yt zs i)).1 default)).any λc=>decide (aget P (fold c)=some i))
def qh2(zs:List Zo)(P:List (Ls × Nat)):Bool:=(List.range zs.length).all (ui zs P)
theorem yt8{i:Nat}(hi:i<zs.length)(h:ui zs P i=false):qh2 zs P=false:=by
 unfold qh2;rw[dx];exact⟨i,o8.2 hi,by rw[h];decide⟩
theorem rZ8{p:Prop}(h:p:=by repeat'(first|exact ⟨⟩|exact rfl|exact ql _|exact .inr rfl|exact λ_ _=>rfl|exact noI|apply And.intro|exact qr1 _|exact yl2 _)):p:=h
theorem rY8{p:Prop}(h:p:=by (conv=>whnf);repeat'(first|exact ⟨⟩|exact rfl|exact ql _|exact .inr rfl|exact λ_ _=>rfl|exact noI|apply And.intro|exact qr1 _|exact yl2 _)):p:=h
theorem xt8(f:Fo)(hf:f.Fit)(hl:f.zones.length<=64)(P:List (Ls × Nat))(hz:∀ z ∈ f.zones,z.ok=true)(hP:∀ k v,aget P k=some v->v<f.zones.length) :
 COk Tryz.prog 68 [f.V,.map 0] [j9 P] (λs k=>s = .d (.bool (qh2 f.zones P))/\k=[j9 P]):=by
 refine yq (TT:=TT) (IN:=qd []) qe qg mixed 1000 Tryz.func68 rfl (qb Tryz.func68 (by kernel_rfl) rfl) 78 (by kernel_rfl) ?_;conv=>whnf
 refine .inv (Nat × List ((Nat × Nat) × Nat)) (λs=>s.1<=f.zones.length/\HInv f.zones P s.1 [] (s.1 * 256) s.2) (λs=>[(20,iV s.1)]) (λs=>[(2,zd0 s.2)]) (λs=>f.zones.length - s.1) ⟨(0,[]),[0,1,2],⟨pv _,HInv.zero⟩,?_⟩ ?_
 ·exact rY7
 intro s hs;obtain⟨hi,hI⟩:=hs;conv=>whnf
 generalize s.1=i at hi hI ⊢;generalize s.2=C at hI ⊢;refine⟨λh2=>?_,λh2=>?_⟩
 ·have h2:i<f.zones.length:=dT h2
  have hw1:=w64s i om;obtain⟨z,hzd⟩:∃ z,f.zones.getD i default=z:=⟨_,rfl⟩;have hzl:f.zones[i]? = some z:=by rw[<-hzd,List.getD,pp h2];rfl
  have hzm:=ov hzl;conv=>whnf
  refine⟨om,?_⟩;conv=>whnf
  rw[pr,hzd];refine oD (xg6 z (hf z hzm).2) rfl rfl ?_;have hLl:(xl z).length<=256:=by
   unfold xl;split
   ·rename_i hok;have h1:=zy3 z.cutL;have h2:z.cutL.length<=z.rrs.length:=by unfold Zo.cutL;rw[mq];exact cx _ _
    have h3:=z.ok_len hok;omega
   ·exact pv _
  have hLn:∀ c ∈ xl z,qa c:=λc hc=>by
   unfold xl at hc;split at hc
   ·exact(jl7 hc).2
   ·cases hc
  have hLz:xl z=xl (f.zones.getD i default):=by rw[hzd]
  generalize xl z=L at hLl hLn hLz ⊢;conv=>whnf
  refine .inv (Nat × List ((Nat × Nat) × Nat)) (λs=>s.1<=L.length/\HInv f.zones P i (L.take s.1) (i * 256+s.1) s.2) (λs=>[(28,iV s.1)]) (λs=>[(2,zd0 s.2)]) (λs=>L.length - s.1) ⟨(0,C),[0,1,2,3],⟨pv _,hI⟩,?_⟩ ?_
  ·exact rY8
  clear hI;intro s hs;obtain⟨hj,hI⟩:=hs;conv=>whnf
  generalize s.1=j at hj hI ⊢;generalize s.2=D at hI ⊢;refine⟨λh3=>?_,λh3=>?_⟩
  ·have h3:j<L.length:=dT h3
   have hwj:=w64s j om;have hli:L[j]? = some (L[j]?.getD []):=by rw[pp h3];rfl
   conv=>whnf
   refine⟨om,?_⟩;conv=>whnf
   rw[pr];generalize L[j]?.getD []=c at hli ⊢;have hcn:=hLn c (ov hli);have htk:L.take (j+1)=L.take j++[c]:=by rw[o3,hli];rfl
   refine oD (ke c (by have:=hcn.2.1;omega)) rfl rfl ?_;conv=>whnf
   have hfc:=xf (ev:=intV) zp P (fold c);refine⟨_,hfc,?_⟩;cases hg:aget P (fold c) with
   |none =>
    conv=>whnf
    rw[hwj];refine⟨(j+1,D),[0,1,2,3],⟨h3,by rw[htk];exact hI.skip hg⟩,by show _ - (j+1)<_;omega,?_⟩;exact rY8
   |some b =>
    conv=>whnf
    obtain⟨l1,q,ho1,ho2,ho3⟩:=yy0 (ev:=intV) jo1 (i,b) [SV.d (.int .i64 0)] D;have hfs:=xf (ev:=intV) jo1 D (i,b);cases hgc:aget D (i,b) with
    |none =>
     rw [hgc] at hfs ho1 ho2;have hput:putQ l1 q [SV.d (.int .i64 1)]=aenc qh1 intV (aput D (i,b) 1):=ho3 1;have hnext:=hI.put hg (v:=0) (by rw[hgc];rfl);apply Exists.intro;refine⟨?_,?_⟩
     ·conv=>whnf
      repeat'(first|exact ⟨⟩|exact⟨rfl,rfl⟩|refine⟨_,hfs,?_⟩|refine⟨_,ho2,?_⟩|refine⟨_,_,_,ho1,?_⟩|intro s|refine⟨rfl,_,hput,?_⟩|apply And.intro|(conv=>whnf))
     conv=>whnf
     rw[hwj];refine⟨(j+1,aput D (i,b) 1),[0,1,2,3],⟨h3,by rw[htk];exact hnext⟩,by show _ - (j+1)<_;omega,?_⟩;exact rY8
    |some v =>
     rw [hgc] at hfs ho1 ho2;have hvb:=hI.le _ _ hgc;have hwv:=w64s v om;have hput:putQ l1 q [SV.d (.int .i64 (IntKind.i64.wrap ((v:Int)+1)))]=aenc qh1 intV (aput D (i,b) (v+1)):=by rw[hwv];exact ho3 (v+1)
     have hnext:=hI.put hg (v:=v) (by rw[hgc];rfl);apply Exists.intro;refine⟨?_,?_⟩
     ·conv=>whnf
      repeat'(first|exact ⟨⟩|exact⟨rfl,rfl⟩|refine⟨_,hfs,?_⟩|refine⟨_,ho2,?_⟩|refine⟨_,_,_,ho1,?_⟩|intro s|refine⟨rfl,_,hput,?_⟩|apply And.intro|(conv=>whnf))
     conv=>whnf
     rw[hwj];refine⟨(j+1,aput D (i,b) (v+1)),[0,1,2,3],⟨h3,by rw[htk];exact hnext⟩,by show _ - (j+1)<_;omega,?_⟩;exact rY8
  ·have h3:j=L.length:=dF h3
   subst h3;rw [mu] at hI;conv=>whnf
   rw[hw1];refine⟨(i+1,D),[0,1,2],⟨h2,hI.next om hLz⟩,by show _ - (i+1)<_;omega,?_⟩;exact rY8
 ·have h2:i=f.zones.length:=dF h2
  subst h2;conv=>whnf
  refine .inv Nat (λi=>i<=f.zones.length/\∀ k,k<i->ui f.zones P k=true) (λi=>[(53,iV i)]) (λi=>[]) (λi=>f.zones.length - i) ⟨0,[0,1,2],⟨pv _,λk hk=>absurd hk (fw _)⟩,?_⟩ ?_
  ·exact rY8
  intro i hs;obtain⟨hi,hs⟩:=hs;conv=>whnf
  refine⟨λh2=>?_,λh2=>?_⟩
  ·have h2:i<f.zones.length:=dT h2
   have hw1:=w64s i om;obtain⟨z,hzd⟩:∃ z,f.zones.getD i default=z:=⟨_,rfl⟩;have hzl:f.zones[i]? = some z:=by rw[<-hzd,List.getD,pp h2];rfl
   have hzm:=ov hzl;have hnext:ui f.zones P i=true->∀ k,k<i+1->ui f.zones P k=true:=λh k hk=>by
    by_cases e:k=i
    ·subst e;exact h
    ·exact hs k om
   conv=>whnf
   refine⟨om,?_⟩;conv=>whnf
   rw[pr,hzd];refine⟨λh3=>?_,λh3=>?_⟩
   ·have h3:i=0:=by
     have h:(i:Int)=0:=by simpa using h3
     omega
    conv=>whnf
    rw[hw1];refine⟨i+1,[0,1,2],⟨h2,hnext (by subst h3;rfl)⟩,om,?_⟩;exact rY8
   ·have h3:i≠0:=by
     have h:¬ (i:Int)=0:=by simpa using h3
     omega
    have hh:ui f.zones P i=((zb P z.apex (yt f.zones i)).2 && (xl (f.zones.getD (zb P z.apex (yt f.zones i)).1 default)).any λc=>decide (aget P (fold c)=some i)):=by
     unfold ui;rw[hzd,show(i == 0)=false by simpa using h3,c9]
    conv=>whnf
    refine .rel _ (COk.frameX (zw5 f hl i h2 z.apex (Zo.ok_name (hz z hzm)) P (λz hz'=>Zo.ok_name (hz z hz'))) [0] rfl rfl (by show[j9 P]=[mapK _ (j9 P)];rw[qr2])) (λx ks' hR=>?_);obtain⟨s0,k0,⟨rfl,rfl⟩,rfl,rfl⟩:=hR;have hcl:=yu8 hP z.apex (yt f.zones i);generalize zb P z.apex (yt f.zones i)=r at hh hcl ⊢;obtain⟨a,b⟩:=r;rw[show mapB (sig [0] _) [j9 P]=[j9 P] from congrArg (λx=>[x]) (qr2 P)];have hhas:=hI.has a i;cases b with
    |false =>
     conv=>whnf
     apply Tr;conv=>whnf
     rw[yt8 h2 (hh.trans rfl)];refine⟨[0],_,[j9 P],rfl,rfl,?_,?_,rfl,rfl⟩
     ·exact rfl
     ·exact rY7
    |true =>
     have hcl:a<f.zones.length:=hcl rfl;conv=>whnf
     apply Fr;conv=>whnf
     have hfs:=xf (ev:=intV) jo1 C (a,i);refine⟨_,hfs,?_⟩;cases hgc:aget C (a,i) with
     |none =>
      have hb:ui f.zones P i=false:=by
       rw[hh];show((xl (f.zones.getD a default)).any λc=>decide (aget P (fold c)=some i))=false;rw[List.any_eq_false];intro c hc hd;have:=hhas.2 (.inl ⟨hcl,c,hc,by simpa using hd⟩);rw [hgc] at this;cases this
      conv=>whnf
      apply Tr;conv=>whnf
      rw[yt8 h2 hb];refine⟨[0],_,[j9 P],rfl,rfl,?_,?_,rfl,rfl⟩
      ·exact rfl
      ·exact rY7
     |some v =>
      have hb:ui f.zones P i=true:=by
       rw[hh];show((xl (f.zones.getD a default)).any λc=>decide (aget P (fold c)=some i))=true;rcases hhas.1 (by rw[hgc];rfl) with⟨_,c,hc,e⟩|⟨_,c,hc,_⟩
       ·exact ar.2 ⟨c,hc,by simpa using e⟩
       ·cases hc
      have hv1:=(hI.le _ _ hgc).1;conv=>whnf
      refine brF (by rw[oo];omega) ?_;conv=>whnf
      rw[hw1];refine⟨i+1,[0,1,2],⟨h2,hnext hb⟩,om,?_⟩;exact rY8
  ·have h2:i=f.zones.length:=dF h2
   have hb:qh2 f.zones P=true:=by
    unfold qh2;rw[o7];intro k hk;exact hs k (by rw[h2];exact o8.1 hk)
   conv=>whnf
   rw[hb];refine⟨[0],_,[j9 P],rfl,rfl,?_,?_,rfl,rfl⟩
   ·exact rfl
   ·exact rY7
end
def qh8(a:Int):List DV:=[.int .u32 a]
theorem yw1(a b:Int):jo (qh8 a) (qh8 b)=decide (a=b):=by
 rw[my];simp[qh8,jo,dEq,kEq]
def qh7(l:List (Int × Bool × List Int)):List (Int × Nat):=l.map λh=>(h.1,1)
def ka1(S:List (Int × Nat)):KB:=.map [.int .u32] false false (aenc qh8 intV S)
theorem yp4{ρ:List Nat}(C:List (Int × Nat)):renM ρ (aenc qh8 intV C)=aenc qh8 intV C:=qn2 (λ_=>rfl) C
theorem xq1(l:List (Int × Bool × List Int))(a:Int):aget (qh7 l) a=if l.any (λh=>h.1 == a) then some 1 else none:=by
 induction l with
 |nil=>rfl
 |cons r l ih =>
  show(if a=r.1 then some 1 else aget (qh7 l) a)=_;rw[ih,List.any_cons];by_cases h:a=r.1
  ·subst h;simp
  ·have h':(r.1 == a)=false:=by simpa using λe=>h e.symm
   rw[if_neg h,h',c9]
theorem zu1(l:List Int)(a:Int):qa2 (l++[a])=(qa2 l && !l.contains a):=by
 induction l with
 |nil=>simp[qa2]
 |cons x l ih =>
  show(!(l++[a]).contains x && qa2 (l++[a]))=((!l.contains x && qa2 l) && !(x :: l).contains a);rw[ih,my];simp only[List.contains_append,List.contains_cons,List.contains_nil,Bool.or_false,Bool.not_or,p7,dp,oo];constructor
  ·rintro ⟨⟨h1,h2⟩,h3,h4⟩;exact⟨⟨h1,h3⟩,λe=>h2 e.symm,h4⟩
  ·rintro ⟨⟨h1,h3⟩,h2,h4⟩;exact⟨⟨h1,λe=>h2 e.symm⟩,h3,h4⟩
def kh(n:Nat)(a:Int):Bool:=decide (0<=a) && decide (a<(n:Int))
theorem yb5(n:Nat)(l:List (Int × Bool × List Int))(h:Int × Bool × List Int):zi n (l++[h])=(zi n l && (!l.any (λx=>x.1 == h.1) && h.2.2.all (kh n))):=by
 unfold zi;rw[du,bp,List.map_nil,zu1,dn,List.all_cons,List.all_nil,Bool.and_true];have e:(l.map (·.1)).contains h.1=l.any (λx=>x.1 == h.1):=by
  rw[my,List.contains_iff_mem,ar];constructor
  ·intro hm;obtain⟨x,hx,e⟩:=gv.1 hm;exact⟨x,hx,by simpa using e⟩
  ·rintro ⟨x,hx,e⟩
   exact gv.2 ⟨x,hx,by simpa using e⟩
 rw[e];show _=_;unfold kh;cases qa2 (l.map (·.1)) <;> cases (l.any λx=>x.1 == h.1) <;> cases (l.all λh=>h.2.2.all λat_=>decide (0<=at_) && decide (at_<(n:Int))) <;> rfl
theorem zp6(n:Nat)(l m:List (Int × Bool × List Int))(h:zi n l=false):zi n (l++m)=false:=by
 refine qj0 (P:=λm=>zi n (l++m)=false) (by rwa [m6]) (λm r ih=>?_) m;rw[<-mp,yb5,ih];rfl
theorem jl1{n:Nat}{l:List (Int × Bool × List Int)}{i:Nat}(h:zi n (l.take i)=false):zi n l=false:=by
 rw[<-f9 i l];exact zp6 n _ _ h
theorem xf9{n:Nat}{l:List Int}{j:Nat}{a:Int}(h:l[j]? = some a):(l.take (j+1)).all (kh n)=((l.take j).all (kh n) && kh n a):=by
 rw[o3,h,dn];simp
theorem yw0{n:Nat}{l:List Int}{j:Nat}(h:(l.take j).all (kh n)=false):l.all (kh n)=false:=by
 rw [dx] at h ⊢;obtain⟨x,hx,e⟩:=h;exact⟨x,lv hx,e⟩
theorem rZ9{p:Prop}(h:p:=by repeat'(first|exact ⟨⟩|exact rfl|exact ql _|exact .inr rfl|exact λ_ _=>rfl|exact noI|apply And.intro|exact yp4 _)):p:=h
theorem rY9{p:Prop}(h:p:=by (conv=>whnf);repeat'(first|exact ⟨⟩|exact rfl|exact ql _|exact .inr rfl|exact λ_ _=>rfl|exact noI|apply And.intro|exact yp4 _)):p:=h
theorem xd3(f:Fo)(hh:f.hosts.length<=64)(hl:∀ h ∈ f.hosts,h.2.2.length<=9223372036854775807):FnOk Tryz.prog 69 [f.V] (.d (.bool (zi f.zones.length f.hosts))):=by
 refine qi (TT:=TT) (IN:=qd [(105,Tryz.f105,2),(138,Tryz.f138,2),(104,Tryz.f104,2)]) qe (jv (jv (jv qg Tryz.func104 (by kernel_rfl) (by kernel_rfl)) Tryz.func138 (by kernel_rfl) (by kernel_rfl)) Tryz.func105 (by kernel_rfl) (by kernel_rfl)) mixed 1000 Tryz.func69 rfl (qb Tryz.func69 (by kernel_rfl) rfl) rfl 32 (by kernel_rfl) ?_;conv=>whnf
 refine .inv Nat (λi=>i<=f.hosts.length/\zi f.zones.length (f.hosts.take i)=true) (λi=>[(12,iV i)]) (λi=>[(1,ka1 (qh7 (f.hosts.take i)))]) (λi=>f.hosts.length - i) ⟨0,[0,1],⟨pv _,rfl⟩,?_⟩ ?_
 ·exact rY2
 intro i hi;obtain⟨hi,hti⟩:=hi;conv=>whnf
 refine⟨λh2=>?_,λh2=>?_⟩
 ·have h2:i<f.hosts.length:=dT h2
  have hw1:=w64s i om;obtain⟨h,hhd⟩:∃ h,f.hosts.getD i default=h:=⟨_,rfl⟩;have hhl:f.hosts[i]? = some h:=by rw[<-hhd,List.getD,pp h2];rfl
  have hlz:=hl h (ov hhl);have htk:f.hosts.take (i+1)=f.hosts.take i++[h]:=by rw[o3,hhl];rfl
  have hsn:=yb5 f.zones.length (f.hosts.take i) h;rw [hti,p9] at hsn;conv=>whnf
  refine⟨om,?_⟩;conv=>whnf
  rw[pr,hhd];have hfs:=xf (ev:=intV) yw1 (qh7 (f.hosts.take i)) h.1;have hga:=xq1 (f.hosts.take i) h.1;refine⟨_,hfs,?_⟩;cases hany:(f.hosts.take i).any (λx=>x.1 == h.1) with
  |true =>
   rw [hany] at hga hsn;rw[hga];conv=>whnf
   apply Tr;conv=>whnf
   rw[jl1 (i:=i+1) (by rw[htk,hsn];rfl)]
  |false =>
   rw [hany] at hga hsn;rw[hga];conv=>whnf
   apply Fr;conv=>whnf
   have hsn:zi f.zones.length (f.hosts.take (i+1))=h.2.2.all (kh f.zones.length):=by rw[htk,hsn];rfl
   have hput:putM (aenc qh8 intV (qh7 (f.hosts.take i))) [.int .u32 h.1] [.d (.int .i64 1)]=aenc qh8 intV (qh7 (f.hosts.take (i+1))):=by
    have h1:=qf2 (ev:=intV) yw1 (qh7 (f.hosts.take i)) h.1 1;rw [yv8 hga,] at h1;rw[htk];unfold qh7 at h1 ⊢;rw[du];exact h1
   generalize hm:h.2.2=m at hlz hsn ⊢;refine .inv Nat (λj=>j<=m.length/\(m.take j).all (kh f.zones.length)=true) (λj=>[(8,iV j)]) (λj=>[]) (λj=>m.length - j) ⟨0,[0,1,2],⟨pv _,rfl⟩,?_⟩ ?_
   ·exact rY9
   intro j hj;obtain⟨hj,htj⟩:=hj;conv=>whnf
   refine⟨λh3=>?_,λh3=>?_⟩
   ·have h3:j<m.length:=dT h3
    have hwj:=w64s j om;have hmj:m[j]? = some (m.getD j 0):=by rw[List.getD,pp h3];rfl
    have hnx:=xf9 (n:=f.zones.length) hmj;rw [htj,p9] at hnx;conv=>whnf
    refine⟨om,?_⟩;conv=>whnf
    rw[pr];generalize m.getD j 0=a at hmj hnx ⊢;refine⟨λh4=>?_,λh4=>?_⟩
    ·have h4:a<0:=px h4;have hg:kh f.zones.length a=false:=by unfold kh;rw[po (by omega:¬ 0<=a)];rfl
     have hb:zi f.zones.length f.hosts=false:=jl1 (i:=i+1) (by rw[hsn];exact yw0 (j:=j+1) (by rw[hnx,hg]));conv=>whnf
     refine brT (pn om) ?_;conv=>whnf
     rw[hb]
    ·have h4:¬ a<0:=py h4;conv=>whnf
     refine⟨λh5=>?_,λh5=>?_⟩
     ·have h5:a >= (f.zones.length:Int):=px h5;have hg:kh f.zones.length a=false:=by unfold kh;rw[po (by omega:¬ a<(f.zones.length:Int)),l8]
      have hb:zi f.zones.length f.hosts=false:=jl1 (i:=i+1) (by rw[hsn];exact yw0 (j:=j+1) (by rw[hnx,hg]));conv=>whnf
      refine brT (pn om) ?_;conv=>whnf
      rw[hb]
     ·have h5:¬ a >= (f.zones.length:Int):=py h5;have hg:kh f.zones.length a=true:=by unfold kh;rw[pn (by omega:0<=a),pn (by omega:a<(f.zones.length:Int))];rfl
      conv=>whnf
      rw[hwj];refine⟨j+1,[0,1,2],⟨h3,by rw[hnx,hg]⟩,om,?_⟩;exact rY9
   ·have h3:j=m.length:=dF h3
    subst h3;rw [mu] at htj;rw [htj] at hsn;conv=>whnf
    apply Fr;conv=>whnf
    refine⟨_,hfs,?_⟩;rw[hga];conv=>whnf
    refine⟨_,hput,?_⟩;conv=>whnf
    rw[hw1];refine⟨i+1,[0,1],⟨h2,hsn⟩,om,?_⟩;exact rY9
 ·have h2:i=f.hosts.length:=dF h2
  subst h2;rw [mu] at hti;conv=>whnf
  rw[hti]
theorem within_suf{n z:Ls}:qv n z=true↔qa n/\qa z/\fl z <:+ fl n:=by
 unfold qv;simp only[p7,lr,r9]
theorem zc2{n:Ls}(h:qa n)(hn:n≠[0]):∃ l,labN n=l :: labN (upN n):=by
 obtain⟨h1,h2,h3⟩:=y5 h;cases hl:labN n with
 |nil=>rw [hl] at h3;exact absurd h3 hn
 |cons l ls =>
  rw [hl] at h2 h3;have hok:=h2 l sm;have hb:bt n 0=l.length:=by rw[h3];exact v6 l (mk ls) hok
  have hu:upN n=mk ls:=by
   unfold upN;rw[hb,h3];show(UInt8.ofNat l.length :: (l++mk ls)).drop (1+l.length)=_;rw[Nat.add_comm,List.drop_succ_cons,rt]
  have hun:=kz h hn;obtain⟨g1,g2,g3⟩:=y5 hun;have:labN (upN n)=ls:=qv8 g2 (λx hx=>h2 x (by simp[hx])) (by rw[<-g3,hu]);exact⟨l,by rw[this]⟩
theorem jb8{n:Ls}(h:qa n):qu n=(fl n).length:=by
 unfold qu fl;rw[if_pos h,mq]
theorem zv6{a b:Ls}(h:qv b a=true)(hc:qu a=qu b):fold a=fold b:=by
 obtain⟨k2,h2,h3⟩:=within_suf.1 h;rw[u0 h2,u0 k2,h3.eq_of_length (by rw[<-jb8 h2,<-jb8 k2];exact hc)]
theorem yu7{a b:Ls}(ha:qa a)(hb:qa b)(h:fold a=fold b):qu a=qu b:=by
 rw[<-qz0 ha,<-qz0 hb,h]
theorem jx3{n a b:Ls}(ha:qa a)(hb:qa b)(h:fold a=fold b):qv n a=qv n b:=by
 rw[my];exact⟨jw9 hb h.symm,jw9 ha h⟩
theorem ji7{n a b:Ls}(ha:qa a)(hb:qa b)(h:fold a=fold b):qv a n=qv b n:=by
 unfold qv;rw[pn ha,pn hb,yg6 ha hb h]
theorem yc9{n c:Ls}(hc:qa c):qv n (fold c)=qv n c:=jx3 (wi hc) hc (qd9 c)
theorem yi5{n c:Ls}(h:qv n c=true)(hn:n≠[0])(hc:qu c<qu n):qv (upN n) c=true:=by
 obtain⟨h1,h2,h3⟩:=within_suf.1 h;obtain⟨l,hl⟩:=zc2 h1 hn;have hu:=kz h1 hn;refine within_suf.2 ⟨hu,h2,?_⟩;have hf:fl n=fold l :: fl (upN n):=by unfold fl;rw[hl];rfl
 rw [hf] at h3;rcases List.suffix_cons_iff.1 h3 with e|e
 ·exfalso;rw [jb8 h1,jb8 h2,hf,e] at hc;exact absurd hc (cq _)
 ·exact e
theorem yh6:qu [0]=0:=by decide
theorem za1{u:Ls}(hf:fold u=u):fold (upN u)=upN u:=by
 have:fold (u.drop (1+bt u 0))=(fold u).drop (1+bt u 0):=by unfold fold;rw[List.map_drop]
 show fold (u.drop (1+bt u 0))=u.drop (1+bt u 0);rw[this,hf]
theorem yo9{l:List RR}{name top c0:Ls}(hc:0<cntZ isNs l c0)(hn:name≠c0)(ht:qu top<qu c0)(h00:fold c0=c0):∀ (k:Nat) (u:Ls),u.length<=k->qv u c0=true->fold u=u->yx l name top (upsF k u)=true->cntZ anyR l name=cntZ qz l name
 |0,u,hk,hw,_,_=>by have:=(ye hw).1.1;omega
 |k+1,u,hk,hw,hf,h=>by
  have hun:=(ye hw).1;have hcu:=jy4 hw;have h0:u≠[0]:=λe=>by rw [e,yh6] at hcu;omega
  have e1:yx l name top (upsF (k+1) u)=if u=top then true else if u≠name/\0<cntZ isNs l u then cntZ anyR l name == cntZ qz l name else yx l name top (if u=[0] then [] else upsF k (u.drop (1+bt u 0))):=rfl;rw [e1,if_neg (λe=>by rw [e] at hcu;omega),if_neg h0] at h;split at h
  ·simpa using h
  ·rename_i hx;by_cases hcc:qu u=qu c0
   ·have hu:u=c0:=by have:=zv6 hw hcc.symm;rw [hf,h00] at this;exact this.symm
    exact absurd ⟨λe=>hn (by rw[<-e,hu]),by rw[hu];exact hc⟩ hx
   ·have hup:=yi5 hw h0 om;have hbt:=x8 hun h0;exact yo9 hc hn ht h00 k (upN u) (by unfold upN;rw[ou];omega) hup (za1 hf) h
theorem qu9{p:RR->Bool}{l:List RR}{r:RR}(hr:r ∈ l)(hp:p r=true){n:Ls}(hn:fold r.nm=n):0<cntZ p l n:=by
 unfold cntZ;exact List.length_pos_of_mem (ct.2 ⟨hr,by simp[hn,hp]⟩)
theorem ze0{p:RR->Bool}{l:List RR}{r:RR}(hr:r ∈ l)(hp:p r=false){n:Ls}(hn:fold r.nm=n):cntZ p l n<cntZ anyR l n:=by
 have e1:cntZ p l n=((l.filter λr=>fold r.nm == n && anyR r).filter p).length:=by
  unfold cntZ;rw[List.filter_filter];congr 1;apply List.filter_congr;intro x _;simp[anyR,Bool.and_comm]
 rw[e1];unfold cntZ;exact List.length_filter_lt_length_iff_exists.2 ⟨r,ct.2 ⟨hr,by simp[hn,anyR]⟩,by simp[hp]⟩
theorem Zo.cutL_spec{z:Zo}(hz:z.ok=true){c:Ls}(h:c ∈ z.cutL):∃ r ∈ z.rrs,r.nm=c/\r.ty=2/\qv c z.apex=true/\qp c z.apex=false/\qa c/\yz z.apex r=true:=by
 unfold Zo.cutL at h;obtain⟨r,hr,rfl⟩:=gv.1 h;obtain⟨hr,hp⟩:=ct.1 hr;have ht:=z.ok_take hz hr;have ht':=ht;unfold yz at ht';simp only [p7] at ht' hp;exact⟨r,hr,rfl,by simpa[isNs] using hp.1,ht'.2.2.2.2,by simpa using hp.2,(ye ht'.2.2.2.2).1,ht⟩
theorem yl4:∀ {l:List Ls},yo l=true->∀ {i j:Nat} {a:Ls},l[i]? = some a->l[j]? = some a->i=j
 |[],_,_,_,_,h,_=>by cases h
 |x :: l,h,i,j,a,hi,hj=>by
  have h':(!l.contains x && yo l)=true:=h;simp only [p7,dp] at h';have hx:∀ k,l[k]?≠some x:=λk hk=>by
   have:=ov hk;rw [<-List.contains_iff_mem,h'.1] at this;cases this
  cases i with
  |zero =>
   cases j with
   |zero=>rfl
   |succ j =>
    simp at hi hj;subst hi;exact absurd hj (hx j)
  |succ i =>
   cases j with
   |zero =>
    simp at hi hj;subst hj;exact absurd hi (hx i)
   |succ j =>
    simp at hi hj;rw[yl4 h'.2 hi hj]
theorem xw2{zs:List Zo}(h:yo (zs.map λz=>fold z.apex)=true){i j:Nat}{a b:Zo}(hi:zs[i]? = some a)(hj:zs[j]? = some b)(e:fold a.apex=fold b.apex):i=j :=
 yl4 h (a:=fold a.apex) (by rw[mw,hi];rfl) (by rw[mw,hj,e];rfl)
theorem yl0{zs:List Zo}(h:yo (zs.map λz=>fold z.apex)=true){i:Nat}{z:Zo}(hi:zs[i]? = some z)(n:Ls):zj zs n=some i↔fold z.apex=n:=by
 constructor
 ·intro e;obtain⟨y,hy,e1⟩:=ja0 e;rw [hi] at hy;cases hy;exact e1
 ·intro e;cases hp:zj zs n with
  |none=>exact absurd e (place_none.1 hp z (ov hi))
  |some k =>
   obtain⟨y,hy,e1⟩:=ja0 hp;rw[xw2 h hy hi (e1.trans e.symm)]
theorem zq9(zs:List Zo)(i:Nat)(apex:Ls):v8 zs i apex=if (zb (jz zs) apex (yt zs i)).2 then some (zb (jz zs) apex (yt zs i)).1 else none:=by
 unfold v8 zb;cases zn apex (yt zs i) none with
 |none=>rfl
 |some a =>
  show zj zs (fold a)=if (match aget (jz zs) (fold a) with|none=>(0,false)|some k=>(k,true)).2 then some (match aget (jz zs) (fold a) with|none=>(0,false)|some k=>(k,true)).1 else none;rw[ql1];cases zj zs (fold a) <;> rfl
theorem xt9{zs:List Zo}(hz:∀ z ∈ zs,z.ok=true)(ho:yo (zs.map λz=>fold z.apex)=true):qh2 zs (jz zs)=qc7 zs:=by
 have hi:∀ i,i<zs.length->ui zs (jz zs) i=(i == 0 || (match v8 zs i (zs.getD i default).apex with
  |none=>false
  |some a=>(zs.getD a default).cutL.any λc=>fold c == fold (zs.getD i default).apex)):=λi hi=>by
  unfold ui;rw[zq9];have hzi:zs[i]? = some (zs.getD i default):=by rw[fy,pp hi];rfl
  congr 1;have hcl:=yu8 (n:=zs.length) (P:=jz zs) (λk v hv=>by
   rw [ql1] at hv;obtain⟨y,hy,_⟩:=ja0 hv;exact(p6.1 hy).1) (zs.getD i default).apex (yt zs i)
  generalize zb (jz zs) (zs.getD i default).apex (yt zs i)=r at hcl ⊢;obtain⟨a,b⟩:=r;cases b with
  |false=>rfl
  |true =>
   have ha:a<zs.length:=hcl rfl;have hza:zs[a]? = some (zs.getD a default):=by rw[fy,pp ha];rfl
   have hok:=hz _ (ov hza);show((xl (zs.getD a default)).any λc=>decide (aget (jz zs) (fold c)=some i))=(zs.getD a default).cutL.any λc=>fold c == fold (zs.getD i default).apex
   unfold xl;rw[if_pos hok,my,ar,ar];have hp:∀ c,(aget (jz zs) (fold c)=some i)↔fold c=fold (zs.getD i default).apex:=λc=>by
    rw[ql1,yl0 ho hzi];exact eq_comm
   constructor
   ·rintro ⟨c,hc,e⟩
    exact⟨c,(jl7 hc).1,by simpa using(hp c).1 (by simpa using e)⟩
   ·rintro ⟨c,hc,e⟩
    obtain⟨_,_,_,_,_,_,hcn,_⟩:=Zo.cutL_spec hok hc;obtain⟨m,hm,em⟩:=zy4 hc hcn;exact⟨m,hm,by simpa using(hp m).2 (by rw[em];simpa using e)⟩
 unfold qh2 qc7;rw[my,o7,o7];constructor
 ·intro h i hm;exact(hi i (o8.1 hm)).symm.trans (h i hm)
 ·intro h i hm;exact(hi i (o8.1 hm)).trans (h i hm)
def uy(zs:List Zo)(i:Nat):Bool:=(zs.take i).all Zo.ok && (yo ((zs.take i).map λz=>fold z.apex) && (i == 0 || fold (zs.getD 0 default).apex == [0]))
theorem xp8{p:Zo->Bool}{zs:List Zo}{i:Nat}(h:(zs.take i).all p=false):zs.all p=false:=by
 rw [dx] at h ⊢;obtain⟨x,hx,e⟩:=h;exact⟨x,lv hx,e⟩
theorem zs2{f:Fo}{i:Nat}(h:uy f.zones i=false):f.ok=false:=by
 unfold uy at h;unfold Fo.ok;simp only [r8] at h ⊢;rcases h with h|h|h
 ·exact .inr (.inr (.inr (.inl (xp8 h))))
 ·rw [List.map_take] at h;exact .inr (.inr (.inr (.inr (.inl (zu0 h)))))
 ·rw [cp] at h;exact .inr (.inr (.inr (.inr (.inr (.inl h.2)))))
theorem zm5{zs:List Zo}{i:Nat}{z:Zo}(h:zs[i]? = some z)(hs:uy zs i=true):uy zs (i+1)=(z.ok && ((zj (zs.take i) (fold z.apex)).isNone && (i != 0 || fold z.apex == [0]))):=by
 unfold uy at hs ⊢;simp only [p7] at hs;obtain⟨h1,h2,h3⟩:=hs;rw[o3,h];simp only[Option.toList_some,dn,du,bp,List.map_nil,yf5,h1,h2,List.all_cons,List.all_nil,Bool.and_true,p9];have e1:(!((zs.take i).map λz=>fold z.apex).contains (fold z.apex))=(zj (zs.take i) (fold z.apex)).isNone:=by
  rw[my,dp,Option.isNone_iff_eq_none,place_none,<-Bool.not_eq_true,List.contains_iff_mem];constructor
  ·intro hm y hy e;exact hm (gv.2 ⟨y,hy,e⟩)
  ·intro hm hc;obtain⟨y,hy,e⟩:=gv.1 hc;exact hm y hy e
 rw[e1];congr 2;cases i with
 |zero =>
  have:zs.getD 0 default=z:=by rw[fy,h];rfl
  rw[this];rfl
 |succ i =>
  have h3':(fold (zs.getD 0 default).apex == [0])=true:=by
   rw [cn] at h3;exact h3.resolve_left sm
  rw[h3'];rfl
def qn4(f:Fo):SV:=if f.ok then .tup [.map 0,.d (.int .i64 0)] else .tup [.v (.map none),.d (.int .i64 2)]
def qn5(f:Fo):List KB:=if f.ok then [j9 (jz f.zones)] else []
theorem zx8(f:Fo)(hf:f.Fit)(hl:∀ h ∈ f.hosts,h.2.2.length<=9223372036854775807) :
 COk Tryz.prog 40 [f.V] [] (λs k=>s=qn4 f/\k=qn5 f):=by
 refine yq (TT:=TT) (IN:=qd []) qe qg mixed 1000 Tryz.func40 rfl (qb Tryz.func40 (by kernel_rfl) rfl) 72 (by kernel_rfl) ?_;have hno:f.ok=false->qn4 f = .tup [.v (.map none),.d (.int .i64 2)]/\qn5 f=[]:=λh=>by
  unfold qn4 qn5;rw[h];exact⟨rfl,rfl⟩
 conv=>whnf
 refine⟨λh1=>?_,λh1=>?_⟩
 ·have h1:¬ 1<=f.zones.length:=dT h1
  obtain⟨e1,e2⟩:=hno (by unfold Fo.ok;rw[po h1];rfl);rw[e1,e2];conv=>whnf
  refine⟨[],_,[],rfl,rfl,?_,?_,rfl,rfl⟩
  ·exact rfl
  ·exact True.intro
 have h1:1<=f.zones.length:=dF h1
 conv=>whnf
 refine⟨λh2=>?_,λh2=>?_⟩
 ·have h2:¬ f.zones.length<=64:=dT h2
  obtain⟨e1,e2⟩:=hno (by unfold Fo.ok;rw[po h2,lx,l8]);rw[e1,e2];conv=>whnf
  refine⟨[],_,[],rfl,rfl,?_,?_,rfl,rfl⟩
  ·exact rfl
  ·exact True.intro
 have h2:f.zones.length<=64:=dF h2
 conv=>whnf
 refine⟨λh3=>?_,λh3=>?_⟩
 ·have h3:¬ f.hosts.length<=64:=dT h3
  obtain⟨e1,e2⟩:=hno (by unfold Fo.ok;rw[po h3,lx,l8,l8]);rw[e1,e2];conv=>whnf
  refine⟨[],_,[],rfl,rfl,?_,?_,rfl,rfl⟩
  ·exact rfl
  ·exact True.intro
 have h3:f.hosts.length<=64:=dF h3
 have hok:f.ok=(f.zones.all Zo.ok && (yo (f.zones.map λz=>fold z.apex) && (fold (f.zones.getD 0 default).apex == [0] && (qc7 f.zones && zi f.zones.length f.hosts)))):=by
  unfold Fo.ok;rw[pn h1,pn h2,pn h3];rfl
 conv=>whnf
 refine .inv Nat (λi=>i<=f.zones.length/\uy f.zones i=true) (λi=>[(33,iV i)]) (λi=>[(1,j9 (jz (f.zones.take i)))]) (λi=>f.zones.length - i) ⟨0,[0,1],⟨pv _,rfl⟩,?_⟩ ?_
 ·exact rY2
 intro i hi;obtain⟨hi,hti⟩:=hi;conv=>whnf
 refine⟨λh4=>?_,λh4=>?_⟩
 ·have h4:i<f.zones.length:=dT h4
  have hw1:=w64s i om;obtain⟨z,hzd⟩:∃ z,f.zones.getD i default=z:=⟨_,rfl⟩;have hzl:f.zones[i]? = some z:=by rw[<-hzd,List.getD,pp h4];rfl
  have hzf:=hf z (ov hzl);have hnx:=zm5 hzl hti;have htk:f.zones.take (i+1)=f.zones.take i++[z]:=by rw[o3,hzl];rfl
  have hbad:uy f.zones (i+1)=false->f.ok=false:=zs2;conv=>whnf
  refine⟨om,?_⟩;conv=>whnf
  rw[pr,hzd];refine oD (zx0 z hzf.2) rfl rfl ?_;cases hzo:z.ok with
  |false =>
   obtain⟨e1,e2⟩:=hno (hbad (by rw[hnx,hzo];rfl));rw[e1,e2,if_neg (by decide)];conv=>whnf
   apply Tr;conv=>whnf
   refine⟨[],_,[],rfl,rfl,?_,?_,rfl,rfl⟩
   ·exact rfl
   ·exact True.intro
  |true =>
   rw[if_pos rfl];rw [hzo,p9] at hnx;conv=>whnf
   apply Fr;conv=>whnf
   refine oD (ke z.apex (by have:=hzf.1;omega)) rfl rfl ?_;conv=>whnf
   have hfs:=xf (ev:=intV) zp (jz (f.zones.take i)) (fold z.apex);rw [ql1] at hfs;refine⟨_,hfs,?_⟩;cases hp:zj (f.zones.take i) (fold z.apex) with
   |some k =>
    rw [hp] at hnx;obtain⟨e1,e2⟩:=hno (hbad (by rw[hnx];rfl));rw[e1,e2];conv=>whnf
    refine⟨[],_,[],rfl,rfl,?_,?_,rfl,rfl⟩
    ·exact rfl
    ·exact True.intro
   |none =>
    rw [hp] at hnx;have hput:putM (aenc strK intV (jz (f.zones.take i))) [.str (fold z.apex)] [.d (.int .i64 (i:Nat))]=aenc strK intV (jz (f.zones.take (i+1))):=by
     have h1:=qf2 (ev:=intV) zp (jz (f.zones.take i)) (fold z.apex) i;rw [yv8 (by rw [ql1,hp])] at h1;rw[htk,zo1,show(f.zones.take i).length=i by rw[o4];omega];exact h1
    have hgo:uy f.zones (i+1)=true->uy f.zones (i+1)=true:=id;conv=>whnf
    refine⟨λh5=>?_,λh5=>?_⟩
    ·have h5:i=0:=by
      have h:(i:Int)=0:=by simpa using h5
      omega
     conv=>whnf
     refine⟨λh6=>?_,λh6=>?_⟩
     ·have h6:(fold z.apex == [0])=false:=by simpa using h6
      obtain⟨e1,e2⟩:=hno (hbad (by rw[hnx,h6,h5];rfl));rw[e1,e2];conv=>whnf
      refine⟨[],_,[],rfl,rfl,?_,?_,rfl,rfl⟩
      ·exact rfl
      ·exact True.intro
     ·have h6:(fold z.apex == [0])=true:=by simpa using h6
      conv=>whnf
      refine⟨_,hput,?_⟩;conv=>whnf
      rw[hw1];refine⟨i+1,[0,1],⟨h4,by rw[hnx,h6,Bool.or_true];rfl⟩,om,?_⟩;exact rY7
    ·have h5:(i != 0)=true:=by
      have h:¬ (i:Int)=0:=by simpa using h5
      simp;omega
     conv=>whnf
     refine⟨_,hput,?_⟩;conv=>whnf
     rw[hw1];refine⟨i+1,[0,1],⟨h4,by rw[hnx,h5];rfl⟩,om,?_⟩;exact rY7
 ·have h4:i=f.zones.length:=dF h4
  subst h4;unfold uy at hti;rw [mu] at hti ⊢;simp only [p7] at hti;obtain⟨t1,t2,t3⟩:=hti;have t3:(fold (f.zones.getD 0 default).apex == [0])=true:=by
   rw [cn] at t3;exact t3.resolve_left (λe=>by
    have:f.zones.length=0:=by simpa using e
    omega)
  have hz:∀ z ∈ f.zones,z.ok=true:=o7.1 t1;rw [t1,t2,t3,p9,p9,p9,<-xt9 hz t2] at hok;have hP:∀ k v,aget (jz f.zones) k=some v->v<f.zones.length:=λk v hv=>by
   rw [ql1] at hv;obtain⟨y,hy,_⟩:=ja0 hv;exact(p6.1 hy).1
  conv=>whnf
  refine .rel _ (COk.frameX (xt8 f hf h2 (jz f.zones) hz hP) [1] rfl rfl (by show[j9 _]=[mapK _ (j9 _)];rw[qr2])) (λx ks' hR=>?_);obtain⟨s0,k0,⟨rfl,rfl⟩,rfl,rfl⟩:=hR;rw[show mapB (sig [1] _) [j9 (jz f.zones)]=[j9 (jz f.zones)] from congrArg (λx=>[x]) (qr2 _)];cases hh:qh2 f.zones (jz f.zones) with
  |false =>
   obtain⟨e1,e2⟩:=hno (by rw[hok,hh];rfl);rw[e1,e2];conv=>whnf
   apply Tr;conv=>whnf
   refine⟨[],_,[],rfl,rfl,?_,?_,rfl,rfl⟩
   ·exact rfl
   ·exact True.intro
  |true =>
   rw [hh,p9] at hok;conv=>whnf
   apply Fr;conv=>whnf
   refine oD (xd3 f h3 hl) rfl rfl ?_;rw[<-hok];cases hk:f.ok with
   |false =>
    obtain⟨e1,e2⟩:=hno hk;rw[e1,e2];conv=>whnf
    apply Tr;conv=>whnf
    refine⟨[],_,[],rfl,rfl,?_,?_,rfl,rfl⟩
    ·exact rfl
    ·exact True.intro
   |true =>
    have e1:qn4 f = .tup [.map 0,.d (.int .i64 0)]:=by unfold qn4;rw[hk];rfl
    have e2:qn5 f=[j9 (jz f.zones)]:=by unfold qn5;rw[hk];rfl
    rw[e1,e2];conv=>whnf
    apply Fr;conv=>whnf
    refine⟨[1],_,[j9 (jz f.zones)],rfl,rfl,?_,?_,rfl,rfl⟩
    ·exact rfl
    ·exact rY7
def Fo.Len(f:Fo):Prop:=∀ h ∈ f.hosts,h.2.2.length<=9223372036854775807
theorem zx9(f:Fo)(hf:f.Fit)(hl:f.Len)(ks:List KB):COk Tryz.prog 40 [f.V] ks (λs k=>s=(if f.ok then .tup [.map (lenB ks),.d (.int .i64 0)] else .tup [.v (.map none),.d (.int .i64 2)])/\k=(if f.ok then appB ks [j9 (jz f.zones)] else ks)) :=
 (COk.frameX (zx8 f hf hl) [] rfl rfl rfl).imp λr k ⟨s0,k0,⟨h1,h2⟩,h3,h4⟩=>by
  subst h1 h2 h3 h4;unfold qn4 qn5;cases f.ok with
  |true =>
   refine⟨rfl,?_⟩;show appB ks [mapK _ (j9 _)]=_;rw[qr2];rfl
  |false=>exact⟨rfl,by show appB ks []=ks;rw[jf3,m6]⟩
theorem xd2(f:Fo)(hf:f.Fit)(hl:f.Len):FnOk Tryz.prog 14 [f.V] (.d (.int .i64 (if f.ok then 0 else 2))):=by
 refine qi (TT:=TT) (IN:=qd []) qe qg mixed 1000 Tryz.func14 rfl (qb Tryz.func14 (by kernel_rfl) rfl) rfl 10 (by kernel_rfl) ?_;conv=>whnf
 refine .rel _ (zx9 f hf hl _) (λr ks' hR=>?_);obtain⟨rfl,rfl⟩:=hR;cases f.ok with
 |true =>
  rw[if_pos rfl,if_pos rfl,if_pos rfl];conv=>whnf
 |false =>
  rw[if_neg (by decide),if_neg (by decide),if_neg (by decide)];conv=>whnf
def escB(c:UInt8):Ls :=
 if c=46\/c=92 then [92,c] else if 33<=c.toNat/\c.toNat<=126 then [c] else [92,UInt8.ofNat (48+c.toNat / 100),UInt8.ofNat (48+c.toNat / 10 % 10),UInt8.ofNat (48+c.toNat % 10)]
def escL:Ls->Ls
 |[]=>[]
 |c :: l=>escB c++escL l
def txtL:List Ls->Ls
 |[]=>[]
 |l :: ls=>escL l++46 :: txtL ls
def txtN(n:Ls):Ls:=if n=[0] then [46] else txtL (labN n)
def j7(c:UInt8):Bool:=decide (48<=c.toNat/\c.toNat<=57)
def behB:Ls->UInt8 × Nat
 |[]=>(0,0)
 |c :: r=>if j7 c then (match r with
  |d :: e :: _=>if j7 d then (if j7 e then (if 100 * (c.toNat - 48)+10 * (d.toNat - 48)+(e.toNat - 48)<=255 then (UInt8.ofNat (100 * (c.toNat - 48)+10 * (d.toNat - 48)+(e.toNat - 48)),3) else (0,0)) else (0,0)) else (0,0)
  |_=>(0,0)) else (c,1)
def tcut:Nat->Ls->Ls->List Ls->Option (List Ls)
 |0,_,_,_=>none
 |_+1,[],l,ls=>if l=[] then (if ls=[] then none else some ls) else some (ls++[l])
 |m+1,c :: r,l,ls=>if c=46 then (if l=[] then none else tcut m r [] (ls++[l])) else
  if c=92 then (if (behB r).2=0 then none else tcut m (r.drop (behB r).2) (l++[(behB r).1]) ls) else
  if 33<=c.toNat/\c.toNat<=126 then tcut m r (l++[c]) ls else none
theorem ql4:∀ (m m':Nat) (r l:Ls) (ls:List Ls),r.length<m->r.length<m'->tcut m r l ls=tcut m' r l ls
 |0,_,r,_,_,h,_=>absurd h (fw _)
 |_,0,r,_,_,_,h=>absurd h (fw _)
 |m+1,m'+1,[],l,ls,_,_=>rfl
 |m+1,m'+1,c :: r,l,ls,h,h'=>by
  simp only [pw] at h h';have hd:=ou (l:=r) (i:=(behB r).2);simp only[tcut];split
  ·split
   ·rfl
   ·exact ql4 m m' r _ _ om om
  ·split
   ·split
    ·rfl
    ·exact ql4 m m' _ _ _ om om
   ·split
    ·exact ql4 m m' r _ _ om om
    ·rfl
theorem jq5:∀ n,n<256->j7 (UInt8.ofNat (48+n / 100))=true/\j7 (UInt8.ofNat (48+n / 10 % 10))=true/\j7 (UInt8.ofNat (48+n % 10))=true /\
 100 * ((UInt8.ofNat (48+n / 100)).toNat - 48)+10 * ((UInt8.ofNat (48+n / 10 % 10)).toNat - 48)+((UInt8.ofNat (48+n % 10)).toNat - 48)=n:=by decide +kernel
theorem xh4(m:Nat)(c:UInt8)(r l:Ls)(ls:List Ls)(hm:(escB c++r).length<m):tcut m (escB c++r) l ls=tcut m r (l++[c]) ls:=by
 obtain⟨m,rfl⟩:∃ k,m=k+1:=⟨m - 1,om⟩;unfold escB at hm ⊢;split
 ·rename_i h;rw [if_pos h] at hm;simp only [gz,fq,pw] at hm;have hnd:j7 c=false:=by rcases h with rfl|rfl <;> rfl
  have hb:behB (c :: r)=(c,1):=by simp[behB,hnd]
  show tcut (m+1) (92 :: c :: r) l ls=_;simp only[tcut];rw[if_neg (by decide),if_pos trivial,hb];simp only;rw[if_neg (by decide)];exact ql4 _ _ _ _ _ (show r.length<m by omega) (show r.length<m+1 by omega)
 ·rename_i h;rw [if_neg h] at hm;split
  ·rename_i h2;rw [if_pos h2] at hm;simp only [gz,fq,pw] at hm;show tcut (m+1) (c :: r) l ls=_;simp only[tcut];rw[if_neg (λe=>h (.inl e)),if_neg (λe=>h (.inr e)),if_pos h2];exact ql4 _ _ _ _ _ om om
  ·rename_i h2;rw [if_neg h2] at hm;simp only [gz,fq,pw] at hm;obtain⟨d1,d2,d3,d4⟩:=jq5 c.toNat (UInt8.toNat_lt _);have hb:behB (UInt8.ofNat (48+c.toNat / 100) :: UInt8.ofNat (48+c.toNat / 10 % 10) :: UInt8.ofNat (48+c.toNat % 10) :: r)=(c,3):=by
    have:=UInt8.toNat_lt c;simp only[behB,d1,d2,d3,d4,if_true];rw[if_pos om];simp
   show tcut (m+1) (92 :: UInt8.ofNat (48+c.toNat / 100) :: UInt8.ofNat (48+c.toNat / 10 % 10) :: UInt8.ofNat (48+c.toNat % 10) :: r) l ls=_;simp only[tcut];rw[if_neg (by decide),if_pos trivial,hb];simp only;rw[if_neg (by decide)];exact ql4 _ _ _ _ _ (show r.length<m by omega) (show r.length<m+1 by omega)
theorem yq5(m:Nat):∀ (s r l:Ls) (ls:List Ls),(escL s++r).length<m->tcut m (escL s++r) l ls=tcut m r (l++s) ls
 |[],r,l,ls,_=>by simp[escL]
 |c :: s,r,l,ls,h=>by
  simp only [escL,mp] at h ⊢;rw [xh4 m c _ l ls h,yq5 m s r _ ls (by rw [pq] at h;omega)];simp
theorem yq4(m:Nat):∀ (ks ls:List Ls),(∀ l ∈ ks,okL l)->(txtL ks).length<m->tcut m (txtL ks) [] ls=if ls++ks=[] then none else some (ls++ks)
 |[],ls,_,h=>by
  obtain⟨m,rfl⟩:∃ k,m=k+1:=⟨m - 1,om⟩;simp[txtL,tcut]
 |l :: ks,ls,hk,h=>by
  have hl:=hk l sm;have hne:l≠[]:=λe=>by rw [e] at hl;exact absurd hl.1 (by decide)
  simp only [txtL] at h ⊢;rw[yq5 m l _ [] ls h,fq];rw [pq,pw] at h;obtain⟨m,rfl⟩:∃ k,m=k+1:=⟨m - 1,om⟩;simp only[tcut];rw[if_pos trivial,if_neg hne,yq4 m ks _ (λx hx=>hk x (by simp[hx])) om];simp
theorem xo0(c:UInt8):1<=(escB c).length/\(escB c).length<=4:=by
 unfold escB;split
 ·simp
 ·split <;> simp
theorem qm7:∀ l:Ls,l.length<=(escL l).length/\(escL l).length<=4 * l.length
 |[]=>by simp[escL]
 |c :: l=>by
  have:=xo0 c;have:=qm7 l;simp only[escL,pq,pw];omega
theorem qe2:∀ ls:List Ls,(∀ l ∈ ls,okL l)->(txtL ls).length<=4 * (mk ls).length
 |[],_=>by simp[txtL]
 |l :: ls,h=>by
  have h1:=qm7 l;have h2:=qe2 ls λx hx=>h x (by simp[hx])
  have h3:(mk (l :: ls)).length=1+l.length+(mk ls).length:=qy0 l ls;simp only[txtL,pq,pw];omega
def okB(l:Ls):Bool:=decide (1<=l.length/\l.length<=63)
theorem all_ok{ls:List Ls}:ls.all okB=true↔∀ l ∈ ls,okL l:=by
 simp only[o7,okB,lr];exact Iff.rfl
def jb(s:Ls):Ls × Int :=
 if s.length > 2048 then ([],7) else if s=[46] then ([0],0) else match tcut (s.length+1) s [] [] with
  |none=>([],6)
  |some ls=>if ls.all okB=true/\(mk ls).length<=255 then (mk ls,0) else ([],7)
theorem xu6{l:Ls}(h:okL l)(s:Ls):escL l++46 :: s≠[46]:=λe=>by
 have h1:=qm7 l;have h2:=congrArg List.length e;have:=h.1;simp only [pq,pw,mz] at h2;omega
theorem jb1{n:Ls}(h:qa n):jb (txtN n)=(n,0):=by
 obtain⟨h1,h2,h3⟩:=y5 h;unfold txtN;split
 ·rename_i e;rw[e];rfl
 ·rename_i hne;have hl:=qe2 (labN n) h2;rw [<-h3] at hl;have hlen:=qe2 (labN n) h2;have hn0:labN n≠[]:=λe=>by rw [e] at h3;exact hne h3
  have hne2:txtL (labN n)≠[46]:=by
   obtain⟨l,ls,e⟩:=List.exists_cons_of_ne_nil hn0;rw [e] at h2 ⊢;exact xu6 (h2 l sm) _
  unfold jb;rw[if_neg om,if_neg hne2,yq4 _ (labN n) [] h2 om,fq,if_neg hn0];simp only;rw[if_pos ⟨all_ok.2 h2,by rw[<-h3];exact h1⟩,<-h3]
def je(s:Ls):Nat->List DV:=λj=>[.int .u8 (qw s j)]
theorem qi2(a b:Ls)(i:Nat)(h:i<a.length+b.length):catF a.length (je a) (λj=>[.int .u8 (qw b j)]) i=je (a++b) i:=by
 unfold catF je qw;split
 ·rename_i hl;simp[mn hl]
 ·rename_i hl;simp[m7 (show a.length<=i by omega)]
theorem xu(s:Ls):j5 s.length (je s)=s:=by
 apply ay;intro i;unfold j5;rw[mw];by_cases h:i<s.length
 ·rw[c8 h,pp h];simp[je,qw,h]
 ·rw[g8 (by simp;omega),g8 om]
  rfl
theorem yy7:Go.Proofs.Lays.n240 Tryz.prog Try.lays156_ren:=by
 have L:=Try.lays156;exact { mixed:=L.mixed,f240:=L.f240,f276:=L.f276,t0:=L.t0,a0:=L.a0,z0:=L.z0,v0:=L.v0,t4:=L.t4,a4:=L.a4,z4:=L.z4,v4:=L.v4,t9:=L.t9,a9:=L.a9,z9:=L.z9,v9:=L.v9,t20:=L.t20,a20:=L.a20,z20:=L.z20,v20:=L.v20,t70:=L.t70,a70:=L.a70,z70:=L.z70,v70:=L.v70,t72:=L.t72,a72:=L.a72,z72:=L.z72,v72:=L.v72,t164:=L.t164,a164:=L.a164,z164:=L.z164,v164:=L.v164 }
theorem zs4{w:World}{b:Nat}{vs:Array Value}{e:TypeId}{fz:Nat × Nat}(h:w.heap[b]? = some (.cells vs e fz))(off:Nat)(v:Value) :
 w.setCell ⟨b,off,none⟩ v=World.setBlock w b (.cells (vs.setIfInBounds off v) e fz):=by
 unfold World.setCell World.setBlock;congr 1;apply aw;intro j;have hb:b<w.heap.size:=yp h;rw[cw,f5];by_cases e1:b=j
 ·subst e1;rw[if_pos rfl,if_pos rfl,if_pos hb,h];rfl
 ·rw[if_neg e1,if_neg e1]
theorem yp0(s:SV):COk Tryz.prog 51 [.ptr 0 0] [.cells 65 [.v (.pointer none),s]] (λr k=>r = .tup []/\k=[.cells 65 [.ptr 0 0,s]]):=by
 refine⟨qb Tryz.func51 (by kernel_rfl) rfl,λX w β fp vs hM hl hd=>?_⟩
 match vs,hl with
 |[v0],_ =>
  have h0:=hd 0 _ v0 rfl rfl;cases h0 with
  |ptr _ _ L hL =>
   have hb:=hM.at (i:=0) rfl sm hL;cases hb with
   |cells _ _ us hfp hblk hlen hden h1 =>
    have hsz:us.size=2:=by simpa using hlen.symm
    have hu0:us[0]? = some (.pointer none):=by
     have hlt:0<us.size:=om
     have hx:=hden 0 _ us[0] rfl (by simp[hlt]);have hy:us[0] = .pointer none:=by
      generalize us[0]=x at hx;cases hx
      rfl
     rw[mv hlt,hy]
    have hc0:w.cell? ⟨L.b,0,none⟩=some (.pointer none):=by simp[World.cell?,hblk,hu0]
    have hsh:w.shape? L.b=some (65,2):=by simp[World.shape?,hblk,hsz]
    have hfz:w.frozen? ⟨L.b,0,none⟩=false:=by simp[World.frozen?,hblk]
    refine(Any.Builder_copyCheck_fresh yy7 Try.Builder_Extra_156.toX72 L.b w hc0 hsh hfz).mono ?_;rintro e w' ⟨rfl,rfl⟩;have hset:w.setCell ⟨L.b,0,none⟩ (.pointer (some ⟨L.b,0,none⟩))=World.setBlock w L.b (.cells (us.setIfInBounds 0 (.pointer (some ⟨L.b,0,none⟩))) 65 (0,0)):=zs4 hblk _ _;rw[hset];have W:=hM.store (i:=0) (l':=[.ptr 0 0,s]) (vs':=us.setIfInBounds 0 (.pointer (some ⟨L.b,0,none⟩))) rfl hL hfp hblk (by simpa using hlen) (λj s' u hj hu=>by
     rw [f5] at hu;match j with
     |0 =>
      injection hj with hj
      subst hj;rw [if_pos rfl] at hu;split at hu
      ·injection hu with hu
       subst hu;exact .ptr 0 0 L hL
      ·cases hu
     |j+1 =>
      rw [if_neg om] at hu;exact hden (j+1) s' u hj hu) (λj u hu=>by
     rw [f5] at hu;split at hu
     ·split at hu
      ·injection hu with hu
       subst hu;rfl
      ·cases hu
     ·exact h1 j u hu)
    exact ⟨_,.tup [],_,_,_,rfl,⟨rfl,rfl⟩,W,.tup _ _ rfl (λj s' u hj _=>by simp at hj)⟩
theorem yv0(s:SV)(rest:List KB):COk Tryz.prog 51 [.ptr 0 0] (.cells 65 [.ptr 0 0,s] :: rest) (λr k=>r = .tup []/\k = .cells 65 [.ptr 0 0,s] :: rest):=by
 refine⟨qb Tryz.func51 (by kernel_rfl) rfl,λX w β fp vs hM hl hd=>?_⟩
 match vs,hl with
 |[v0],_ =>
  have h0:=hd 0 _ v0 rfl rfl;cases h0 with
  |ptr _ _ L hL =>
   have hb:=hM.at (i:=0) rfl sm hL;cases hb with
   |cells _ _ us hfp hblk hlen hden h1 =>
    have hsz:us.size=2:=by simpa using hlen.symm
    have hu0:us[0]? = some (.pointer (some ⟨L.b,0,none⟩)):=by
     have hlt:0<us.size:=om
     have hx:=hden 0 _ us[0] rfl (by simp[hlt]);have hy:us[0] = .pointer (some ⟨L.b,0,none⟩):=by
      generalize us[0]=x at hx;cases hx with
      |ptr _ _ L' hL' =>
       rw [hL] at hL';cases hL'
       rfl
     rw[mv hlt,hy]
    have hc0:w.cell? ⟨L.b,0,none⟩=some (.pointer (some ⟨L.b,0,none⟩)):=by simp[World.cell?,hblk,hu0]
    refine(Any.Builder_copyCheck_used yy7 Try.Builder_Extra_156.toX72 L.b w hc0).mono ?_;rintro e w' ⟨rfl,rfl⟩;exact ⟨_,.tup [],_,_,_,rfl,⟨rfl,rfl⟩,Went.refl hM,.tup _ _ rfl (λj s' u hj _=>by simp at hj)⟩
theorem pk1{X:Nat->Prop}{w:World}{β:Env}{fp:Nat->Nat->Prop}{k:KB}(h:Mem X w β fp [k]):Mem X w β fp [pk [k]]:=by
 have h0:∀ i b,fp i b->i=0:=λi b hb=>by
  obtain⟨L,hL⟩:=h.kn i b hb;cases i with
  |zero=>rfl
  |succ i=>rw [h.kl (i+1) sm] at hL;cases hL
 refine⟨⟨h.xa,h.xb,h.dis,h.kw,h.kn,λi L k' hk hne hL=>?_⟩,h.kl,h.vo.sub (λi b hb=>⟨i,hb⟩)⟩
 ·cases i with
  |succ i=>simp at hk
  |zero =>
   simp only [bx,gu] at hk;subst hk;exact .obj _ (jq [k]) ⟨β,fp,hL,h.kl,λx=>⟨λe=>⟨0,e⟩,λ⟨j,e⟩=>by rw [h0 j x e] at e;exact e⟩,h.dis,h.kn,λi L k hk hne hL=>h.kb i L k hk hne hL⟩
theorem zd3{P:Program}{f:FuncId}{al:List SV}{k:KB}{R:SV->List KB->Prop}(h:COk P f al [pk [k]] R):COk P f al [k] R :=
 ⟨h.1,λX w β fp vs hM hl hd=>h.2 X w β fp vs (pk1 hM) hl hd⟩
inductive Bst where
 |fresh
 |live (s:Ls)
 |dead
def Bst.fl:Bst->List KB
 | .fresh=>[.cells 65 [.v (.pointer none),nilS]]
 | .live s=>[.cells 65 [.ptr 0 0,.all 1],.row 5 1 s.length .iff (λj=>[.int .u8 (qw s j)])]
 | .dead=>[.cells 65 [.ptr 0 0,.any]]
theorem rZ10{p:Prop}(h:p:=by repeat'(first|exact ⟨⟩|exact rfl|exact λ_=>Iff.rfl|exact λ_ _=>rfl|exact renM_rests _ _|exact(pq ..).symm|exact qi2 _ _|apply And.intro)):p:=h
set_option maxRecDepth 100000 in
theorem xz7(s:Ls)(hs:s.length<=70368744177664):COk Tryz.prog 20 [.ptr 0 0,.d (.str s)] [pk (Bst.fl .fresh)] (λr k=>∃ b1,k=[pk (Bst.fl b1)]/\(r = .tup [.d (.int .i64 s.length),.v .nilIface]/\b1 = .live s)):=by
 refine COk.toThing Bst.fl (qr3 (TT:=TT) (IN:=qd []) qe qg mixed 1000 Tryz.func20 rfl (qb Tryz.func20 (by kernel_rfl) rfl) 17 (by kernel_rfl) rfl ?_ ?_)
 ·rintro r l ⟨w1,_,rfl,_⟩
  rfl
 conv=>whnf
 refine .rel _ (yp0 _) (λx ks' hR=>?_);obtain⟨rfl,rfl⟩:=hR;conv=>whnf
 refine⟨om,?_⟩;conv=>whnf
 refine⟨[0,1],.tup [.d (.int .i64 s.length),.v .nilIface],Bst.fl (.live s),rfl,rfl,rfl,?_,_,rfl,rfl,rfl⟩;exact rZ10
set_option maxRecDepth 100000 in
theorem qw2(b s:Ls)(hs:b.length+s.length<=70368744177664):COk Tryz.prog 20 [.ptr 0 0,.d (.str s)] [pk (Bst.fl (.live b))] (λr k=>∃ b1,k=[pk (Bst.fl b1)]/\(r = .tup [.d (.int .i64 s.length),.v .nilIface]/\b1 = .live (b++s))):=by
 refine COk.toThing Bst.fl (qr3 (TT:=TT) (IN:=qd []) qe qg mixed 1000 Tryz.func20 rfl (qb Tryz.func20 (by kernel_rfl) rfl) 17 (by kernel_rfl) rfl ?_ ?_)
 ·rintro r l ⟨w1,_,rfl,_⟩
  rfl
 conv=>whnf
 refine .rel _ (yv0 _ _) (λx ks' hR=>?_);obtain⟨rfl,rfl⟩:=hR;conv=>whnf
 refine⟨om,?_⟩;conv=>whnf
 refine⟨[0,2],.tup [.d (.int .i64 s.length),.v .nilIface],Bst.fl (.live (b++s)),rfl,rfl,rfl,?_,_,rfl,rfl,rfl⟩;exact rZ10
set_option maxRecDepth 100000 in
theorem jv9(s:Ls)(hs:s.length<=70368744177664):COk Tryz.prog 22 [.ptr 0 0] [pk (Bst.fl (.live s))] (λr k=>∃ b1,k=[pk (Bst.fl b1)]/\(r = .d (.str s)/\b1 = .dead)):=by
 refine COk.toThing Bst.fl (qr3 (TT:=TT) (IN:=qd []) qe qg mixed 1000 Tryz.func22 rfl (qb Tryz.func22 (by kernel_rfl) rfl) 13 (by kernel_rfl) rfl ?_ ?_)
 ·rintro r l ⟨w1,_,rfl,_⟩
  rfl
 cases s with
 |nil =>
  conv=>whnf
  refine⟨rfl,?_⟩;conv=>whnf
  refine⟨[0],.d (.str []),Bst.fl .dead,rfl,rfl,rfl,?_,_,rfl,rfl,rfl⟩;exact rZ10
 |cons a s =>
  conv=>whnf
  refine⟨Nat.succ_le_succ (pv _),?_⟩;conv=>whnf
  have hb:j5 (a :: s).length (λj=>[.int .u8 (qw (a :: s) j)])=a :: s:=xu (a :: s);refine⟨⟨rfl,om,λi _=>⟨((a :: s)[i]?).getD 0,rfl⟩⟩,?_⟩;rw[hb];conv=>whnf
  refine⟨[0],.d (.str (a :: s)),Bst.fl .dead,rfl,rfl,rfl,?_,_,rfl,rfl,rfl⟩;exact rZ10
theorem j8(b:Ls)(c:UInt8)(i:Nat)(h:i<b.length+1):catF b.length (je b) (qs [DV.int IntKind.u8 (c.toNat:Int)] 1) i=je (b++[c]) i:=by
 unfold catF je qw;split
 ·rename_i hl;simp[mn hl]
 ·rename_i hl;have:i=b.length:=om
  subst this;simp[qs]
theorem xw6(c:UInt8):COk Tryz.prog 21 [.ptr 0 0,.d (.int .u8 (c.toNat:Int))] [pk (Bst.fl .fresh)] (λr k=>∃ b1,k=[pk (Bst.fl b1)]/\(r = .v .nilIface/\b1 = .live [c])):=by
 refine COk.toThing Bst.fl (qr3 (TT:=TT) (IN:=qd []) qe qg mixed 1000 Tryz.func21 rfl (qb Tryz.func21 (by kernel_rfl) rfl) 15 (by kernel_rfl) rfl ?_ ?_)
 ·rintro r l ⟨w1,_,rfl,_⟩
  rfl
 conv=>whnf
 refine .rel _ (yp0 _) (λx ks' hR=>?_);obtain⟨rfl,rfl⟩:=hR;conv=>whnf
 refine⟨by decide,?_⟩;conv=>whnf
 refine⟨[0,2],.v .nilIface,Bst.fl (.live [c]),rfl,rfl,rfl,?_,_,rfl,rfl,rfl⟩;repeat'(first|exact ⟨⟩|exact rfl|exact λ_=>Iff.rfl|exact λ_ _=>rfl|exact renM_rests _ _|exact(pq ..).symm|exact qi2 _ _|apply And.intro)
 intro i hi;match i,hi with
 |0,_=>rfl
theorem yv(b:Ls)(c:UInt8)(hs:b.length+1<=70368744177664):COk Tryz.prog 21 [.ptr 0 0,.d (.int .u8 (c.toNat:Int))] [pk (Bst.fl (.live b))] (λr k=>∃ b1,k=[pk (Bst.fl b1)]/\(r = .v .nilIface/\b1 = .live (b++[c]))):=by
 refine COk.toThing Bst.fl (qr3 (TT:=TT) (IN:=qd []) qe qg mixed 1000 Tryz.func21 rfl (qb Tryz.func21 (by kernel_rfl) rfl) 15 (by kernel_rfl) rfl ?_ ?_)
 ·rintro r l ⟨w1,_,rfl,_⟩
  rfl
 conv=>whnf
 refine .rel _ (yv0 _ _) (λx ks' hR=>?_);obtain⟨rfl,rfl⟩:=hR;conv=>whnf
 refine⟨om,?_⟩;conv=>whnf
 refine⟨[0,3],.v .nilIface,Bst.fl (.live (b++[c])),rfl,rfl,rfl,?_,_,rfl,rfl,rfl⟩;repeat'(first|exact ⟨⟩|exact rfl|exact λ_=>Iff.rfl|exact λ_ _=>rfl|exact renM_rests _ _|exact(pq ..).symm|exact qi2 _ _|apply And.intro)
 ·simp
 ·intro i hi;exact(show catF b.length (je b) (qs [DV.int IntKind.u8 ↑c.toNat] 1) i=_ from j8 b c i hi)
theorem js0(c:UInt8):∀ (x y:Ls),(∀ b ∈ x,b≠c)->Lib.indexByte (x++c :: y) c=x.length
 |[],y,_=>by simp[Lib.indexByte]
 |b :: x,y,h=>by
  have hb:(b == c)=false:=by simpa using h b sm
  have ih:=js0 c x y (λd hd=>h d (by simp[hd]));simp only[gz,Lib.indexByte,hb,ih];rw[if_neg (by decide),if_neg sm]
  rfl
theorem jp2(c:UInt8):∀ (x:Ls),(∀ b ∈ x,b≠c)->Lib.indexByte x c = -1
 |[],_=>by simp[Lib.indexByte]
 |b :: x,h=>by
  have hb:(b == c)=false:=by simpa using h b sm
  have ih:=jp2 c x (λd hd=>h d (by simp[hd]));simp only[Lib.indexByte,hb];rw[if_neg (by decide),ih]
  rfl
def cutN:Nat->Ls->List Ls
 |0,s=>[s]
 |k+1,s=>if Lib.indexByte s 32<0 then [s] else s.take (Lib.indexByte s 32).toNat :: cutN k (s.drop ((Lib.indexByte s 32).toNat+1))
theorem jd2(k:Nat)(x y:Ls)(h:∀ b ∈ x,b≠32):cutN (k+1) (x++32 :: y)=x :: cutN k y:=by
 have hi:=js0 32 x y h;simp only[cutN];rw[hi,if_neg om,pr];simp
theorem yo7(k:Nat)(x:Ls)(h:∀ b ∈ x,b≠32):cutN k x=[x]:=by
 cases k with
 |zero=>rfl
 |succ k =>
  simp only[cutN];rw[jp2 32 x h,if_pos (by decide)]
def yi(B:Nat)(s:Ls):Option Nat:=match Lib.parseUintB B s with
 | .ok u=>some u
 |_=>none
theorem za9(n:Nat):∀ c ∈ Lib.decDigits n,48<=c.toNat/\c.toNat<=57:=by
 induction n using Nat.strongRecOn with
 |ind n ih =>
  intro c hc;have hd:∀ k,k<10->48<=(UInt8.ofNat (48+k)).toNat/\(UInt8.ofNat (48+k)).toNat<=57:=by decide
  rw [Lib.decDigits] at hc;split at hc
  ·rename_i h;simp only [m9] at hc;rw[hc];exact hd n h
  ·rename_i h;rcases ow.1 hc with hc|hc
   ·exact ih (n / 10) om c hc
   ·simp only [m9] at hc;rw[hc];exact hd _ om
theorem zd7(n:Nat):Lib.decDigits n≠[]:=by
 rw[Lib.decDigits];split <;> simp
theorem xk8(M:Nat)(hM:M<1844674407370955162):∀ (n:Nat) (r:Ls),n<=M->Lib.parseUintM M 0 (Lib.decDigits n++r)=Lib.parseUintM M n r:=by
 intro n;induction n using Nat.strongRecOn with
 |ind n ih =>
  intro r hn;have hd:∀ k,k<10->48<=(UInt8.ofNat (48+k)).toNat/\(UInt8.ofNat (48+k)).toNat<=57/\(UInt8.ofNat (48+k)).toNat - 48=k:=by decide
  rw[Lib.decDigits];split
  ·rename_i h;obtain⟨h1,h2,h3⟩:=hd n h;simp only[gz,fq,Lib.parseUintM];rw[if_pos ⟨h1,h2⟩,if_neg om,h3,if_neg om];simp
  ·rename_i h;obtain⟨h1,h2,h3⟩:=hd (n % 10) om;rw[mp,ih (n / 10) om _ om];simp only[gz,fq,Lib.parseUintM];rw[if_pos ⟨h1,h2⟩,if_neg om,h3,show n / 10 * 10+n % 10=n by omega,if_neg om]
theorem ja7{B n:Nat}(hB:B<=32)(h:n<2 ^ B):yi B (Lib.decDigits n)=some n:=by
 have hp:2 ^ B<=2 ^ 32:=Nat.pow_le_pow_right (by decide) hB;unfold yi Lib.parseUintB;rw[if_neg (zd7 n)];have:=xk8 (2 ^ B - 1) om n [] om;rw [m6] at this;rw[this];rfl
def hexD:Ls:=[48,49,50,51,52,53,54,55,56,57,97,98,99,100,101,102]
def hexC(n:Nat):UInt8:=hexD.getD n 0
def hexL:Ls->Ls
 |[]=>[]
 |c :: l=>hexC (c.toNat / 16) :: hexC (c.toNat % 16) :: hexL l
def hexT(s:Ls):Ls:=if s=[] then [45] else hexL s
def qb8:Ls->Option Ls
 |[]=>some []
 |[_]=>none
 |a :: b :: r=>if Lib.indexByte hexD a<0\/Lib.indexByte hexD b<0 then none else (qb8 r).map (UInt8.ofNat (16 * (Lib.indexByte hexD a).toNat+(Lib.indexByte hexD b).toNat) :: ·)
def qj5(s:Ls):Option Ls:=if s=[45] then some [] else if s=[]\/s.length % 2≠0\/s.length > 8192 then none else qb8 s
theorem hexI:∀ n,n<16->Lib.indexByte hexD (hexC n)=(n:Int)/\hexC n≠32/\hexC n≠45:=by decide +kernel
theorem yi6:∀ s:Ls,qb8 (hexL s)=some s
 |[]=>rfl
 |c :: s=>by
  have h1:=(hexI (c.toNat / 16) (by have:=c.toNat_lt;omega)).1;have h2:=(hexI (c.toNat % 16) om).1;simp only[hexL,qb8];rw[h1,h2,if_neg om,yi6 s,pr,pr,show 16 * (c.toNat / 16)+c.toNat % 16=c.toNat by omega];simp
theorem qe5:∀ s:Ls,(hexL s).length=2 * s.length
 |[]=>rfl
 |c :: s=>by simp only[hexL,pw,qe5 s];omega
theorem zs1{s:Ls}(h:s.length<=4096):qj5 (hexT s)=some s:=by
 unfold hexT;split
 ·rename_i e;rw[e];rfl
 ·rename_i hne;have hl:=qe5 s;obtain⟨c,r,rfl⟩:=List.exists_cons_of_ne_nil hne;unfold qj5;rw [if_neg (λe=>by have:=congrArg List.length e;simp at this hl;omega),if_neg (by rw [hl];simp [hexL];simp at h;omega)];exact yi6 _
theorem yz3:∀ s:Ls,∀ b ∈ hexL s,b≠32
 |[],b,h=>by cases h
 |c :: s,b,h=>by
  simp only [hexL,pz] at h;rcases h with rfl|rfl|h
  ·exact(hexI _ (by have:=c.toNat_lt;omega)).2.1
  ·exact(hexI _ om).2.1
  ·exact yz3 s b h
theorem yz2(s:Ls):∀ b ∈ hexT s,b≠32:=by
 unfold hexT;split
 ·intro b hb;simp at hb;rw [hb];decide
 ·exact yz3 s
theorem qc0(n:Nat):∀ b ∈ Lib.decDigits n,b≠32:=λb hb e=>by
 have:=za9 n b hb;rw [e] at this;exact absurd this.1 (by decide)
theorem xu7(c:UInt8):∀ b ∈ escB c,b≠32:=by
 have hd:=jq5 c.toNat c.toNat_lt;have hn:∀ x:UInt8,j7 x=true->x≠32:=λx hx e=>by rw [e] at hx;exact absurd hx (by decide)
 unfold escB;split
 ·rename_i h;intro b hb;simp only [pz,List.mem_nil_iff,or_false] at hb;rcases hb with rfl|rfl
  ·decide
  ·rcases h with rfl|rfl <;> decide
 ·split
  ·rename_i h;intro b hb;simp only [m9] at hb;subst hb;rintro rfl;exact absurd h.1 (by decide)
  ·intro b hb;simp only [pz,List.mem_nil_iff,or_false] at hb;rcases hb with rfl|rfl|rfl|rfl
   ·decide
   ·exact hn _ hd.1
   ·exact hn _ hd.2.1
   ·exact hn _ hd.2.2.1
theorem za3:∀ l:Ls,∀ b ∈ escL l,b≠32
 |[],b,h=>by cases h
 |c :: l,b,h=>by
  simp only [escL,ow] at h;exact h.elim (xu7 c b) (za3 l b)
theorem yx0:∀ ls:List Ls,∀ b ∈ txtL ls,b≠32
 |[],b,h=>by cases h
 |l :: ls,b,h=>by
  simp only [txtL,ow,pz] at h;rcases h with h|rfl|h
  ·exact za3 l b h
  ·decide
  ·exact yx0 ls b h
theorem je1(n:Ls):∀ b ∈ txtN n,b≠32:=by
 unfold txtN;split
 ·intro b hb;simp at hb;rw [hb];decide
 ·exact yx0 _
theorem yb6:∀ a b:Ls,hexL (a++b)=hexL a++hexL b
 |[],b=>rfl
 |c :: a,b=>by simp only[gz,hexL,yb6 a b]
theorem ym9{l:Ls}{k:Nat}{c:UInt8}(h:l[k]? = some c):hexL (l.take (k+1))=hexL (l.take k)++[hexC (c.toNat / 16),hexC (c.toNat % 16)]:=by
 rw[o3,h,yb6];simp[hexL]
theorem yh9(b:Ls)(x y:UInt8)(i:Nat)(h:i<b.length+2):catF b.length (je b) (qs [DV.int IntKind.u8 (x.toNat:Int),DV.int IntKind.u8 (y.toNat:Int)] 1) i=je (b++[x,y]) i:=by
 unfold catF je qw;split
 ·rename_i hl;simp[mn hl]
 ·rename_i hl;have:i=b.length\/i=b.length+1:=om
  rcases this with rfl|rfl
  ·simp[qs]
  ·simp[qs]
theorem shr4:∀ n:Nat,n<256->((n:Nat):Int).fdiv (2 ^ min (Int.toNat 4) IntKind.u8.bits)=((n / 16:Nat):Int)/\Go.bits BinOp.and IntKind.u8 ((n:Nat):Int) 15=((n % 16:Nat):Int):=by decide +kernel
theorem yz0(s:Ls)(c:UInt8):FnOk Tryz.prog 170 [.d (.str s),.d (.int .u8 (c.toNat:Int))] (.d (.int .i64 (Lib.indexByte s c))):=by
 refine⟨qb Tryz.func170 (by kernel_rfl) rfl,λM w vs hV hM hl hd=>?_⟩
 match vs,hl with
 |[v0,v1],_ =>
  have h0:=y9 (hd 0 _ v0 rfl rfl);have h1:=jh (hd 1 _ v1 rfl rfl);subst h0 h1;refine(Try.strings_IndexByte ⟨s.toArray⟩ (c.toNat:Int) w).mono ?_;rintro e w' ⟨rfl,rfl⟩;have:(c.toNat:Int).toNat.toUInt8=c:=by rw[pr];exact UInt8.ofNat_toNat
  rw[this];exact⟨_,rfl,Step.refl _ _,.d (.int _ _)⟩
theorem yz4:∀ a:UInt8,Lib.indexByte hexD a<16:=λa=>by
 have:∀ n:Nat,n<256->Lib.indexByte hexD (UInt8.ofNat n)<16:=by decide +kernel
 have:=this a.toNat a.toNat_lt
 rwa [UInt8.ofNat_toNat] at this
theorem kb5:∀ i:Nat,i<16->∀ j:Nat,j<16->IntKind.u8.wrap (Go.bits BinOp.or IntKind.i64 (IntKind.i64.wrap ((i:Int) * 2 ^ min (Int.toNat 4) IntKind.i64.bits)) (j:Int))=((UInt8.ofNat (16 * i+j)).toNat:Int):=by decide +kernel
def zc3(o:Option Ls):SV:=match o with
 |some d=>.tup [.d (.str d),.d (.bool true)]
 |none=>.tup [.d (.str []),.d (.bool false)]
structure UhSt where
 i:Nat
 b:Ls
def RR.line(r:RR):Ls:=txtN r.nm++32 :: (Lib.decDigits r.ttl.toNat++32 :: (Lib.decDigits r.cl.toNat++32 :: (Lib.decDigits r.ty.toNat++32 :: hexT r.d)))
theorem RR.line_cut(r:RR):cutN 5 r.line=[txtN r.nm,Lib.decDigits r.ttl.toNat,Lib.decDigits r.cl.toNat,Lib.decDigits r.ty.toNat,hexT r.d]:=by
 unfold RR.line;rw[jd2 4 _ _ (je1 _),jd2 3 _ _ (qc0 _),jd2 2 _ _ (qc0 _),jd2 1 _ _ (qc0 _),yo7 1 _ (yz2 _)]
def qc9(ws:List Ls):Option RR:=match ws with
 |[w0,w1,w2,w3,w4]=>match yi 32 w1,yi 16 w2,yi 16 w3,qj5 w4 with
  |some t,some c,some y,some d=>if (jb w0).2=0 then some ⟨(jb w0).1,y,c,t,d⟩ else none
  |_,_,_,_=>none
 |_=>none
def za(s:Ls):Option RR:=match qc9 (cutN 5 s) with
 |some r=>if r.check=true/\r.line=s then some r else none
 |none=>none
theorem zo5{s:Ls}{r:RR}(h:za s=some r):r.check=true/\r.line=s:=by
 unfold za at h;split at h
 ·split at h
  ·rename_i h1;cases h;exact h1
  ·cases h
 ·cases h
structure RR.In(r:RR):Prop where
 ty:0<=r.ty/\r.ty<=65535
 cl:0<=r.cl/\r.cl<=65535
 ttl:0<=r.ttl/\r.ttl<=4294967295
theorem ux{r:RR}(h:r.check=true):qa r.nm:=by
 unfold RR.check at h;simp only [p7,lr] at h;exact h.1.1
theorem zt7{r:RR}(h:r.check=true)(hi:r.In)(hd:r.d.length<=4096):za r.line=some r:=by
 have hn:=ux h;have ht:=jb1 hn;unfold za;rw[r.line_cut];have hc:qc9 [txtN r.nm,Lib.decDigits r.ttl.toNat,Lib.decDigits r.cl.toNat,Lib.decDigits r.ty.toNat,hexT r.d]=some r:=by
  unfold qc9;simp only;rw[ja7 (B:=32) (by decide) (by have:=hi.ttl;omega),ja7 (B:=16) (by decide) (by have:=hi.cl;omega),ja7 (B:=16) (by decide) (by have:=hi.ty;omega),zs1 hd,ht];simp only;rw[if_pos trivial];obtain⟨n,y,c,t,d⟩:=r;have h1:=hi.ty;have h2:=hi.cl;have h3:=hi.ttl;simp only at h1 h2 h3;show some (RR.mk n _ _ _ d)=some (RR.mk n y c t d);rw[Int.toNat_of_nonneg h1.1,Int.toNat_of_nonneg h2.1,Int.toNat_of_nonneg h3.1]
 rw[hc];simp only;rw[if_pos ⟨h,trivial⟩]
theorem xm1(s:Ls)(c:UInt8):FnOk Tryz.prog 192 [.d (.str s),.d (.str [c])] (.d (.int .i64 (Lib.indexByte s c))):=by
 refine⟨qb Tryz.func192 (by kernel_rfl) rfl,λM w vs _ hM hl hd=>?_⟩
 match vs,hl with
 |[v0,v1],_ =>
  have h0:=y9 (hd 0 _ v0 rfl rfl);have h1:=y9 (hd 1 _ v1 rfl rfl);subst h0 h1;refine(Try.strings_Index_one ⟨s.toArray⟩ c w).mono ?_;rintro e w' ⟨rfl,rfl⟩;exact⟨_,rfl,Step.refl _ _,.d (.int _ _)⟩
def dig(n:Nat):Ls:=if n<10 then [UInt8.ofNat (48+n)] else if n<100 then [UInt8.ofNat (48+n / 10),UInt8.ofNat (48+n % 10)] else [UInt8.ofNat (48+n / 100),UInt8.ofNat (48+n / 10 % 10),UInt8.ofNat (48+n % 10)]
theorem js5{n:Nat}(h:n<1000):Lib.decDigits n=dig n:=by
 unfold dig;rw[Lib.decDigits];split
 ·rfl
 ·rename_i h1;rw[Lib.decDigits];split
  ·rename_i h2;rw[if_pos om];rfl
  ·rename_i h2;rw[Lib.decDigits,dif_pos om,if_neg om];show[_,_,_]=_;rw[show n / 10 / 10=n / 100 by omega]
theorem yq9(i:Nat)(h:i<100):FnOk Tryz.prog 152 [.d (.int .i64 i)] (.d (.str (dig i))):=by
 refine⟨qb Tryz.func152 (by kernel_rfl) rfl,λM w vs _ hM hl hd=>?_⟩
 match vs,hl with
 |[v0],_ =>
  have h0:=jh (hd 0 _ v0 rfl rfl);subst h0;refine(Try.internal_strconv_small i h w).mono ?_;rintro e w' ⟨rfl,rfl⟩;rw[js5 om];exact⟨_,rfl,Step.refl _ _,.d (.str _)⟩
theorem xx2:(1,zf8 .u64 ((List.range 20).map λi=>((10 ^ i:Nat):Int))) ∈ evs:=by unfold evs;simp only[pz];first|exact .inr (.inr (.inl rfl))|exact .inr (.inr (.inl ⟨rfl,rfl⟩))|simp
theorem xx1 {w : World} {fp : Nat → Nat → Prop} (h : VOk w fp) : Lib.TabIs Tryz.prog w "internal/strconv.uint64pow10" .u64 Lib.pow10Tab := by
 obtain⟨⟨vs,t,fz,e,h1⟩,_⟩:=h _ xx2;unfold Lib.TabIs World.var?
 rw [show Tryz.prog.globalNamed "internal/strconv.uint64pow10" = some 1 by kernel_rfl]
 simp only[dt,e];exact congrArg some h1
theorem zk8{w:World}{b:Nat}{vs:Array Value}{t:TypeId}{fz:Nat × Nat}(h:w.heap[b]? = some (.cells vs t fz))(enc:UInt8->Value)(d:Array UInt8):Sort.putRow enc w b 0 d=World.setBlock w b (.cells (Sort.putCells enc 0 d vs) t fz):=by
 unfold Sort.putRow Sort.mapBlock World.setBlock;congr 1;apply aw;intro j;have hb:b<w.heap.size:=yp h;rw[cw,f5];by_cases e1:b=j
 ·subst e1;rw[if_pos rfl,if_pos rfl,if_pos hb,h];rfl
 ·rw[if_neg e1,if_neg e1]
def z8:SV:=.d (.int .u8 0)
def b8(c:UInt8):SV:=.d (.int .u8 (c.toNat:Int))
theorem xz0(s:Ls)(hs:s.length<=1000000):FnOk Tryz.prog 84 [.d (.str s)] (.d (.str (hexT s))):=by
 refine qi (TT:=TT) (IN:=qd []) qe qg mixed 1000 Tryz.func84 rfl (qb Tryz.func84 (by kernel_rfl) rfl) rfl 31 (by kernel_rfl) ?_;conv=>whnf
 refine⟨λh1=>?_,λh1=>?_⟩
 ·have h1:s=[]:=by simpa using h1
  subst h1;conv=>whnf
  try exact rfl
 have h1:s≠[]:=by simpa using h1
 rw[show hexT s=hexL s from if_neg h1];conv=>whnf
 rw[qc (2 * (s.length:Int)) om];refine⟨om,?_⟩;conv=>whnf
 have hdg:∀ n:Nat,n<16->qw (ByteArray.mk #[48,49,50,51,52,53,54,55,56,57,97,98,99,100,101,102]).data.toList ((n:Nat):Int)=((hexC n).toNat:Int):=by decide
 refine .inv Nat (λi=>i<=s.length) (λi=>[(3,.all 0),(10,.any),(13,iV i)]) (λi=>[(0,.row 5 1 (hexL (s.take i)).length .no (je (hexL (s.take i))))]) (λi=>s.length - i) ⟨0,[0],pv _,?_⟩ ?_
 ·exact rY2
 intro i hi;have hlen:=qe5 (s.take i);rw [o4] at hlen;conv=>whnf
 refine⟨λc0=>?_,λc0=>?_⟩
 ·have c0':i<s.length:=dT c0;have hsk:s[i]? = some s[i]:=pp c0';have hbk:qw s (i:Int)=((s[i].toNat:Nat):Int):=by rw[jl];unfold bt;rw[hsk];rfl
  have hnx:=ym9 hsk;generalize s[i]=c at hsk hbk hnx;have hc:=c.toNat_lt;have hk1:=w64s i om;conv=>whnf
  refine⟨om,?_⟩;conv=>whnf
  rw[hbk];refine⟨by decide,?_⟩;conv=>whnf
  obtain⟨e1,e2⟩:=shr4 c.toNat hc;rw[e1];refine⟨⟨om,by show((c.toNat / 16:Nat):Int)<16;omega⟩,?_⟩;conv=>whnf
  rw[hdg _ om];refine⟨om,?_⟩;conv=>whnf
  rw[hbk,e2];refine⟨⟨om,by show((c.toNat % 16:Nat):Int)<16;omega⟩,?_⟩;conv=>whnf
  rw[hdg _ om];refine⟨om,?_⟩;conv=>whnf
  rw[hk1];refine⟨i+1,[2],c0',by show s.length - (i+1)<s.length - i;omega,?_⟩;rw[hnx];conv=>whnf
  repeat'(first|exact ⟨⟩|exact rfl|exact ql _|exact .inr rfl|exact λ_ _=>rfl|exact noI|apply And.intro)
  all_goals first
   |(show _+2=(_++[_,_]).length;simp)
   |exact(λi hi=>yh9 _ _ _ i hi)
 ·have c0':i=s.length:=dF c0;subst c0';rw[mu];conv=>whnf
  refine⟨λi _=>⟨_,rfl⟩,?_⟩;rw[xu];conv=>whnf
  try exact rfl
theorem xg9(s:Ls):FnOk Tryz.prog 136 [.d (.str s)] (zc3 (qj5 s)):=by
 refine qi (TT:=TT) (IN:=qd []) qe qg mixed 1000 Tryz.func136 rfl (qb Tryz.func136 (by kernel_rfl) rfl) rfl 57 (by kernel_rfl) ?_;conv=>whnf
 refine⟨λh1=>?_,λh1=>?_⟩
 ·have h1:s=[45]:=by simpa using h1
  rw[show qj5 s=some [] from if_pos h1];exact rY6
 have h1:s≠[45]:=by simpa using h1
 have he:qj5 s=if s=[]\/s.length % 2≠0\/s.length > 8192 then none else qb8 s:=if_neg h1;conv=>whnf
 by_cases h2:s=[]
 ·rw[he,if_pos (.inl h2)];subst h2;apply Tr;conv=>whnf
  repeat((first|apply Fr|apply Tr);conv=>whnf)
  exact rZ6
 refine brF (by simpa using h2) ?_;conv=>whnf
 refine⟨by decide,?_⟩;conv=>whnf
 by_cases h3:s.length % 2=0
 case neg =>
  rw[he,if_pos (.inr (.inl h3))];refine brT (by rw[bne_iff_ne];show((s.length:Int)).tmod 2≠0;rw[Int.tmod_eq_emod_of_nonneg om];omega) ?_;conv=>whnf
  repeat((first|apply Fr|apply Tr);conv=>whnf)
  exact rZ6
 refine brF (by rw[bne_eq_false_iff_eq];show((s.length:Int)).tmod 2=0;rw[Int.tmod_eq_emod_of_nonneg om];omega) ?_;conv=>whnf
 by_cases h4:s.length<=8192
 case neg =>
  rw[he,if_pos (.inr (.inr om))];refine brT (pn om) ?_;conv=>whnf
  repeat((first|apply Fr|apply Tr);conv=>whnf)
  exact rZ6
 refine brF (po om) ?_;conv=>whnf
 rw[he,if_neg (λh=>by rcases h with h|h|h;exact h2 h;omega;omega)];clear he;repeat((first|apply Fr|apply Tr);conv=>whnf)
 refine⟨by decide,?_⟩;conv=>whnf
 have hdv:IntKind.i64.wrap ((s.length:Int).tdiv 2)=((s.length / 2:Nat):Int):=by
  rw[Int.tdiv_eq_ediv_of_nonneg om,qc _ om];omega
 rw[hdv];refine⟨om,?_⟩;conv=>whnf
 refine .inv UhSt (λx=>x.i<=s.length/\x.i=2 * x.b.length/\(qb8 (s.drop x.i)).map (x.b ++ ·)=qb8 s) (λx=>[(4,.all 0),(5,iV x.i),(26,.any)]) (λx=>[(0,.row 5 1 x.b.length .no (je x.b))]) (λx=>s.length - x.i) ⟨⟨0,[]⟩,[0],⟨pv _,rfl,sm⟩,?_⟩ ?_
 ·exact rY2
 intro x hx;obtain⟨hk,hm,hrest⟩:=hx;conv=>whnf
 generalize x.i=i at hk hm hrest ⊢;generalize x.b=b at hm hrest ⊢;refine⟨λc0=>?_,λc0=>?_⟩
 ·have c0':i<s.length:=dT c0;have c1':i+1<s.length:=om
  have hs0:s[i]? = some s[i]:=pp c0';have hs1:s[i+1]? = some s[i+1]:=pp c1';have hd0:s.drop i=s[i] :: s[i+1] :: s.drop (i+2):=by rw[lu c0',lu c1']
  have hb0:qw s (i:Int)=((s[i].toNat:Nat):Int):=by rw[jl];unfold bt;rw[hs0];rfl
  have hb1:qw s ((i+1:Nat):Int)=((s[i+1].toNat:Nat):Int):=by rw[jl];unfold bt;rw[hs1];rfl
  generalize s[i]=p at hs0 hd0 hb0;generalize s[i+1]=q at hs1 hd0 hb1;have hk1:=w64s i om;have hk2:IntKind.i64.wrap ((i:Int)+2)=((i+2:Nat):Int):=by rw[qc _ om];omega
  rw [hd0] at hrest;simp only [qb8] at hrest;conv=>whnf
  refine⟨om,?_⟩;conv=>whnf
  rw[hb0];refine .data _ (yz0 hexD p) rfl rfl ?_;conv=>whnf
  rw[hk1];refine⟨om,?_⟩;conv=>whnf
  rw[hb1];refine .data _ (yz0 hexD q) rfl rfl ?_;conv=>whnf
  have hpl:=yz4 p;have hql:=yz4 q;generalize Lib.indexByte hexD p=u at hrest hpl ⊢;generalize Lib.indexByte hexD q=v at hrest hql ⊢;by_cases hu:u<0
  ·rw [if_pos (.inl hu)] at hrest;rw[<-hrest];refine brT (pn hu) ?_;conv=>whnf
   repeat((first|apply Fr|apply Tr);conv=>whnf)
   exact rZ6
  refine brF (po hu) ?_;conv=>whnf
  by_cases hv:v<0
  ·rw [if_pos (.inr hv)] at hrest;rw[<-hrest];refine brT (pn hv) ?_;conv=>whnf
   repeat((first|apply Fr|apply Tr);conv=>whnf)
   exact rZ6
  refine brF (po hv) ?_;conv=>whnf
  repeat((first|apply Fr|apply Tr);conv=>whnf)
  rw [if_neg (λh=>h.elim hu hv)] at hrest;obtain⟨u,rfl⟩:∃ n:Nat,u=n:=⟨u.toNat,om⟩;obtain⟨v,rfl⟩:∃ n:Nat,v=n:=⟨v.toNat,om⟩;simp only [pr] at hrest;refine⟨by decide,?_⟩;conv=>whnf
  rw[kb5 u om v om];refine⟨om,?_⟩;conv=>whnf
  rw[hk2];refine⟨⟨i+2,b++[UInt8.ofNat (16 * u+v)]⟩,[2],⟨by show i+2<=s.length;omega,by show i+2=2 * (b++[_]).length;rw[pq];show i+2=2 * (b.length+1);omega,?_⟩,by show s.length - (i+2)<s.length - i;omega,?_⟩
  ·rw[<-hrest];show(qb8 (s.drop (i+2))).map ((b++[_]) ++ ·)=_;rw[Option.map_map];congr 1;funext z;simp
  conv=>whnf
  repeat'(first|exact ⟨⟩|exact rfl|exact ql _|exact .inr rfl|exact λ_ _=>rfl|exact noI|apply And.intro)
  all_goals first
   |(show b.length+1=(b++[_]).length;simp)
   |exact(λj hj=>j8 b _ j hj)
 ·have c0':i=s.length:=dF c0;rw [c0',f8] at hrest;rw[<-hrest];conv=>whnf
  refine⟨λi _=>⟨_,rfl⟩,?_⟩;rw[xu];conv=>whnf
  show _/\_;simp only[m6]
  exact rZ6
def digC(n k:Nat):List SV:=(List.range k).map λt=>b8 (Lib.dg n (k - 1 - t))
theorem xv4{n k j:Nat}(h:j<k):(digC n k)[j]? = some (b8 (Lib.dg n (k - 1 - j))):=by simp[digC,h]
theorem yv5(n k:Nat)(hk:k<=20)(h:n<10 ^ k)(hn:n<18446744073709551616):COk Tryz.prog 154 [.cs 0 0 k 24,.d (.int .u64 n)] [.cells 204 (List.replicate 24 z8)]
 (λr ks=>r = .tup []/\ks=[.cells 204 (digC n k++List.replicate (24 - k) z8)]):=by
 refine⟨qb Tryz.func154 (by kernel_rfl) rfl,λX w β fp vs hM hl hd=>?_⟩
 match vs,hl with
 |[v0,v1],_ =>
  have h0:=hd 0 _ v0 rfl rfl;have h1:=jh (hd 1 _ v1 rfl rfl);subst h1;cases h0 with
  |cs _ _ _ _ L hL hnc =>
   have hb:=hM.at (i:=0) rfl sm hL;cases hb with
   |cells _ _ us hfp hblk hlen hden h1 =>
    have hsz:us.size=24:=by simpa using hlen.symm
    have hu:∀ j,j<24->us[j]? = some (.int .u8 0):=λj hj=>by
     have hlt:j<us.size:=om
     have hx:=hden j z8 us[j] (by rw[List.getElem?_replicate];simp[hj]) (by simp[hlt]);rw[mv hlt];exact congrArg some (jh hx)
    have hc:∀ j,j<24->w.cell? ⟨L.b,j,none⟩=some (.int .u8 0):=λj hj=>by simp[World.cell?,hblk,hu j hj]
    have hfz:∀ j,w.frozen? ⟨L.b,j,none⟩=false:=λj=>by simp[World.frozen?,hblk]
    have hds0:(Array.replicate k (0:UInt8)).size=k:=by simp
    have hcall:=Try.internal_strconv_formatBase10 L.b 0 24 n (Array.replicate k 0) w (λj hj=>⟨?_,?_⟩) (by rw[hds0];exact h) hn (by rw[hds0];omega)
    rotate_left
    ·rw [hds0] at hj;rw[o5,hc j om];have:(Array.replicate k (0:UInt8))[j]! = 0:=by rw[getElem!_pos _ j (by rw[hds0];exact hj)];simp
     rw[this];rfl
    ·rw[o5];exact hfz j
    rw [hds0] at hcall;refine hcall.mono ?_;rintro e w' ⟨rfl,m,v',dk,rfl,hinv⟩;have hds:dk.size=k:=hinv.size;have hdk:∀ t,t<k->dk[t]! = Lib.dg n (k - 1 - t):=λt ht=>hinv.done t (pv _) ht
    rw[zk8 hblk];have hget:∀ j,(Sort.putCells (λ(b:UInt8)=>Value.int .u8 (b.toNat:Int)) 0 dk us)[j]? = if j<k then some (.int .u8 ((Lib.dg n (k - 1 - j)).toNat:Int)) else us[j]?:=λj=>by
     unfold Sort.putCells;rw[Array.getElem?_mapIdx];by_cases hj:j<k
     ·rw[hu j om,if_pos hj];simp only[l7,hds];rw[if_pos om,rv,hdk j hj]
     ·rw[if_neg hj];cases us[j]? with
      |none=>rfl
      |some x=>simp only[l7,hds];rw[if_neg om]
    have hlC:(digC n k).length=k:=by simp[digC]
    have W:=hM.store (i:=0) (l':=digC n k++List.replicate (24 - k) z8) (vs':=Sort.putCells (λ(b:UInt8)=>Value.int .u8 (b.toNat:Int)) 0 dk us) rfl hL hfp hblk (by simp[Sort.putCells,hsz,hlC];omega) (λj s' u hj hu'=>by
     rw [hget] at hu';by_cases hjk:j<k
     ·rw [if_pos hjk] at hu';rw [mn om,xv4 hjk] at hj;cases hj;cases hu';exact .d (.int _ _)
     ·rw [if_neg hjk] at hu';rw [m7 om,List.getElem?_replicate] at hj;have hs':s'=z8:=by
       split at hj
       ·cases hj;rfl
       ·cases hj
      have hlt:j<24:=by rw[<-hsz];exact(gq.1 hu').1
      rw [hu _ hlt] at hu';cases hu';rw[hs'];exact .d (.int _ _)) (λj u hu'=>by
     rw [hget] at hu';split at hu'
     ·cases hu';rfl
     ·exact h1 j u hu')
    have Q:Step (λ_=>False) (World.setBlock w L.b (.cells (Sort.putCells (λ(b:UInt8)=>Value.int .u8 (b.toNat:Int)) 0 dk us) 204 (0,0))) ((World.setBlock w L.b (.cells (Sort.putCells (λ(b:UInt8)=>Value.int .u8 (b.toNat:Int)) 0 dk us) 204 (0,0))).drewN m):=⟨rfl,rfl,rfl,pu _,λ_ _ _=>rfl,λh=>(show False from h).elim⟩;exact ⟨_,.tup [],_,_,_,rfl,⟨rfl,rfl⟩,W.trans (W.mem.quiet Q),.tup _ _ rfl (λj s' u hj _=>by simp at hj)⟩
theorem yh2(u k:Nat)(h1:10 ^ k<=u)(h2:u<10 ^ (k+1))(h3:u<18446744073709551616):FnOk Tryz.prog 153 [.d (.int .u64 u)] (.d (.int .i64 (k+1:Nat))):=by
 refine⟨qb Tryz.func153 (by kernel_rfl) rfl,λM w vs hV hM hl hd=>?_⟩
 match vs,hl with
 |[v0],_ =>
  have h0:=jh (hd 0 _ v0 rfl rfl);subst h0;have hp:1<=10 ^ k:=Nat.one_le_pow _ _ (by decide);refine(Try.internal_strconv_numDigits u om h3 w (xx1 hV)).mono ?_
  rintro e w' ⟨rfl,rfl⟩
  rw[Lib.nDigits_unique k u h1 h2];exact⟨_,rfl,Step.refl _ _,.d (.int _ _)⟩
theorem za7{n k:Nat}(h1:10 ^ k<=n)(h2:n<10 ^ (k+1)):Lib.decDigits n=(List.range (k+1)).map λt=>Lib.dg n (k - t):=by
 rw[Lib.decDigits_eq,Lib.nDigits_unique k n h1 h2];rfl
theorem ofb8(c:UInt8):UInt8.ofNat (c.toNat:Int).toNat=c:=by rw[pr];exact UInt8.ofNat_toNat
theorem js1(n:Nat)(h:n<10000000000):FnOk Tryz.prog 83 [.d (.int .u64 n),.d (.int .i64 10)] (.d (.str (Lib.decDigits n))):=by
 refine qi (TT:=TT) (IN:=qd [(117,Tryz.f117,2)]) qe (jv qg Tryz.func117 (by kernel_rfl) (by kernel_rfl)) mixed 1000 Tryz.func83 rfl (qb Tryz.func83 (by kernel_rfl) rfl) rfl 6 (by kernel_rfl) ?_;conv=>whnf
 apply Tr;conv=>whnf
 refine⟨λh1=>?_,λh1=>?_⟩
 ·have h1':n<100:=by have:=px h1;omega
  conv=>whnf
  rw[qc (n:Int) om,js5 om];refine oD (yq9 n h1') rfl rfl ?_;conv=>whnf
 have h1':100<=n:=by have:=py h1;omega
 conv=>whnf
 have hk:∃ k,2<=k/\k<=9/\10 ^ k<=n/\n<10 ^ (k+1):=by
  by_cases a3:n<1000
  ·exact⟨2,by decide,by decide,h1',a3⟩
  by_cases a4:n<10000
  ·exact⟨3,by decide,by decide,om,a4⟩
  by_cases a5:n<100000
  ·exact⟨4,by decide,by decide,om,a5⟩
  by_cases a6:n<1000000
  ·exact⟨5,by decide,by decide,om,a6⟩
  by_cases a7:n<10000000
  ·exact⟨6,by decide,by decide,om,a7⟩
  by_cases a8:n<100000000
  ·exact⟨7,by decide,by decide,om,a8⟩
  by_cases a9:n<1000000000
  ·exact⟨8,by decide,by decide,om,a9⟩
  ·exact⟨9,by decide,by decide,om,h⟩
 obtain⟨k,k2,k9,hk1,hk2⟩:=hk;refine oD (yh2 n k hk1 hk2 om) rfl rfl ?_;rw[za7 hk1 hk2];have hb:=yv5 n (k+1) om hk2 om;have hks:k=2\/k=3\/k=4\/k=5\/k=6\/k=7\/k=8\/k=9:=om
 rcases hks with rfl|rfl|rfl|rfl|rfl|rfl|rfl|rfl
 all_goals
  conv=>whnf
  refine⟨by decide,?_⟩;conv=>whnf
  refine .rel _ hb (λx ks' hR=>?_);obtain⟨rfl,rfl⟩:=hR;conv=>whnf
  refine⟨by decide,?_⟩;conv=>whnf
  refine congrArg DV.str ?_;simp only[List.range,List.range.loop,bp,List.map_nil];simp only[w8,ofb8]
theorem ww0(pre:List KB)(c:UInt8):COk Tryz.prog 21 [.ptr pre.length 0,.d (.int .u8 (c.toNat:Int))] (pre++[.cells 65 [.v (.pointer none),nilS]]) (λr k=>r = .v .nilIface/\k=pre++[pk (Bst.fl (.live [c]))]):=by
 have:=(zd3 (xw6 c)).among pre [] (λs k ⟨b1,hk,_⟩=>by rw[hk];exact pu _) rfl;refine COk.imp (this:COk _ _ [.ptr pre.length 0,.d (.int .u8 (c.toNat:Int))] (pre++[.cells 65 [.v (.pointer none),nilS]]) _) λs k ⟨s0,k1,⟨b1,hk1,hr,hb1⟩,hs,hk⟩=>?_
 subst hr hk1 hb1;exact⟨by rw[hs];rfl,by rw[hk];rfl⟩
theorem yw9{q:Ls}(h:q.length<=63):IntKind.u8.wrap (q.length:Int)=((UInt8.ofNat q.length).toNat:Int):=by
 rw[qq5 om,gy];omega
theorem qy1(l:List Ls)(i:Nat):(labs (l.take i)).length<=(labs l).length:=by
 have:labs l=labs (l.take i)++labs (l.drop i):=by rw[<-jj9,f9]
 rw[this,pq];omega
theorem rZ11{p:Prop}(h:p:=by repeat'(first|exact ⟨⟩|exact rfl|exact(λ_ _ _ _ h=>⟨jq _,h⟩)|exact λ_=>Iff.rfl|exact λ_ _=>rfl|apply And.intro)):p:=h
theorem xl1(z:Bool)(l:List Ls)(hl:l≠[])(hs:∀ x ∈ l,okL x)(hm:(mk l).length<=255):FnOk Tryz.prog 132 [.d (.str [0]),.d (.sl z l.length 1 (strs l))] (.tup [.d (.str (mk l)),.d (.int .i64 0)]):=by
 refine qi (TT:=TT) (IN:=qd []) qe qg mixed 1000 Tryz.func132 rfl (qb Tryz.func132 (by kernel_rfl) rfl) rfl 53 (by kernel_rfl) ?_;conv=>whnf
 refine oD (zo [0]) rfl rfl ?_;conv=>whnf
 refine⟨λh=>absurd h (by decide),λ_=>?_⟩;conv=>whnf
 have hml:(labs l).length+1=(mk l).length:=by rw[<-x9,pq];rfl
 have hll:=qy7 l;refine .inv Nat (λi=>i<=l.length) (λi=>[(6,.d (.int .i64 ((labs (l.take i)).length+1:Nat))),(19,.d (.int .i64 i))]) (λ_=>[]) (λi=>l.length - i) ⟨0,[],pv _,?_⟩ ?_
 ·exact rY6
 intro i hi;conv=>whnf
 have htl:=qy1 l i;refine⟨λc1=>?_,λc1=>?_⟩
 ·have c1:(i:Int)<l.length:=px c1;have hil:i<l.length:=om
  obtain⟨q,hq⟩:∃ q,l[i]?.getD []=q:=⟨_,rfl⟩;have hq2:l[i]? = some q:=by rw[<-hq,pp hil];rfl
  have htk:l.take (i+1)=l.take i++[q]:=by rw[o3,hq2];rfl
  have hqo:=hs q (ov hq2);have hql:=hqo.1;have hqm:=hqo.2;have hw1:=w64s i om;conv=>whnf
  refine⟨om,?_⟩;conv=>whnf
  rw[pr,hq];refine brF (by rw[oo];omega) ?_;conv=>whnf
  refine brF (po om) ?_;conv=>whnf
  refine⟨i+1,[],hil,om,?_⟩;conv=>whnf
  have hcat:labs (l.take (i+1))=labs (l.take i)++lab q:=by rw[htk,ql6]
  have hle:=qy1 l (i+1);rw [hcat,pq,xm] at hle;rw[hw1,hcat,pq,xm,qc (1+(q.length:Int)) om,qc _ om,show(((labs (l.take i)).length+1:Nat):Int)+(1+(q.length:Int))=(((labs (l.take i)).length+(1+q.length)+1:Nat):Int) by omega]
  exact rZ6
 ·have c1:¬ (i:Int)<l.length:=py c1;rw[gr om];conv=>whnf
  refine brF (po om) ?_;conv=>whnf
  refine .once ?_;conv=>whnf
  refine brT (pn (by have:=g9.2 hl;omega)) ?_;conv=>whnf
  refine⟨by have:=g9.2 hl;omega,?_⟩;conv=>whnf
  obtain⟨x,xs,rfl⟩:∃ x xs,l=x :: xs:=by
   cases l with
   |nil=>exact absurd rfl hl
   |cons x xs=>exact⟨x,xs,rfl⟩
  have hx:=hs x sm;rw[show(x :: xs)[Int.toNat 0]?.getD []=x from rfl,yw9 hx.2];refine .rel _ (ww0 [] (UInt8.ofNat x.length)) (λy ks' hR=>?_);obtain⟨rfl,rfl⟩:=hR;conv=>whnf
  refine .rel _ (COk.thing Bst.fl (qw2 [UInt8.ofNat x.length] x (by show 1+x.length<=_;have:=hx.2;omega)) [] [] _ rfl rfl) (λy ks' hR=>?_);obtain⟨_,q,⟨rfl,rfl⟩,rfl,rfl⟩:=hR;conv=>whnf
  refine .inv Nat (λj=>j+1<=(x :: xs).length) (λj=>[(41,.d (.int .i64 (j+1:Nat)))]) (λj=>[(0,pk (Bst.fl (.live (labs ((x :: xs).take (j+1))))))]) (λj=>(x :: xs).length - (j+1)) ⟨0,[0],sm,?_⟩ ?_
  ·have e0:labs ((x :: xs).take (0+1))=[UInt8.ofNat x.length]++x:=by
    show lab x++[]=_;rw[m6];rfl
   conv=>whnf
   rw[e0];exact rZ11
  intro j hj;generalize x :: xs=l at hl hs hm hml hll hj ⊢;clear htl hi;conv=>whnf
  have htl:=qy1 l (j+1);refine⟨λc2=>?_,λc2=>?_⟩
  ·have c2:((j+1:Nat):Int)<l.length:=px c2;have hil:j+1<l.length:=om
   obtain⟨q,hq⟩:∃ q,l[j+1]?.getD []=q:=⟨_,rfl⟩;have hq2:l[j+1]? = some q:=by rw[<-hq,pp hil];rfl
   have htk:l.take (j+1+1)=l.take (j+1)++[q]:=by rw[o3,hq2];rfl
   have hqo:=hs q (ov hq2);have hqm:=hqo.2;have hw1:IntKind.i64.wrap (((j+1:Nat):Int)+1)=((j+1+1:Nat):Int):=by rw[qc _ om];omega
   have hcat:labs (l.take (j+1+1))=labs (l.take (j+1))++[UInt8.ofNat q.length]++q:=by rw[htk,ql6,mp];rfl
   conv=>whnf
   refine⟨om,?_⟩;conv=>whnf
   rw[pr,hq,yw9 hqm];refine .rel _ (COk.thing Bst.fl (yv (labs (l.take (j+1))) (UInt8.ofNat q.length) om) [] [] _ rfl rfl) (λy ks' hR=>?_);obtain⟨_,_,⟨rfl,rfl⟩,rfl,rfl⟩:=hR;conv=>whnf
   refine .rel _ (COk.thing Bst.fl (qw2 (labs (l.take (j+1))++[UInt8.ofNat q.length]) q (by rw[pq];show _+1+_<=_;omega)) [] [] _ rfl rfl) (λy ks' hR=>?_);obtain⟨_,_,⟨rfl,rfl⟩,rfl,rfl⟩:=hR;conv=>whnf
   refine⟨j+1,[0],by show j+1+1<=l.length;omega,by show l.length - (j+1+1)<l.length - (j+1);omega,?_⟩;rw[hcat];conv=>whnf
   rw[hw1];exact rZ11
  ·have c2:¬ ((j+1:Nat):Int)<l.length:=py c2;have hj':j+1=l.length:=om
   rw [hj',mu] at *;conv=>whnf
   refine .rel _ (COk.thing Bst.fl (qw2 (labs l) [0] (by show _+1<=_;omega)) [] [] _ rfl rfl) (λy ks' hR=>?_);obtain⟨_,_,⟨rfl,rfl⟩,rfl,rfl⟩:=hR;conv=>whnf
   refine .rel _ (COk.thing Bst.fl (jv9 (labs l++[0]) (by rw[pq];show _+1<=_;omega)) [] [] _ rfl rfl) (λy ks' hR=>?_);obtain⟨_,_,⟨rfl,rfl⟩,rfl,rfl⟩:=hR;rw[x9];conv=>whnf
   repeat'(first|exact ⟨⟩|exact rfl|apply And.intro|(conv=>whnf))
def bK(s:Ls):KB:=match s with
 |[]=>.cells 65 [.v (.pointer none),nilS]
 |c :: r=>pk (Bst.fl (.live (c :: r)))
theorem qo2{s:Ls}(h:s≠[]):bK s=pk (Bst.fl (.live s)):=by
 cases s with
 |nil=>exact absurd rfl h
 |cons c r=>rfl
theorem wbK(s:Ls)(c:UInt8)(hs:s.length+1<=70368744177664):COk Tryz.prog 21 [.ptr 0 0,.d (.int .u8 (c.toNat:Int))] [bK s] (λr k=>r = .v .nilIface/\k=[bK (s++[c])]):=by
 cases s with
 |nil=>exact ww0 [] c
 |cons x s =>
  refine(COk.thing Bst.fl (yv (x :: s) c hs) [] [] _ rfl rfl).imp λr k ⟨s0,a1,⟨h1,h2⟩,h3,h4⟩=>?_
  subst h1 h2;exact⟨by rw[h3];rfl,by rw[h4];rfl⟩
theorem zf0:∀ n:Nat,n<256->IntKind.u8.wrap (48+IntKind.u8.wrap ((n:Int).tdiv 100))=((UInt8.ofNat (48+n / 100)).toNat:Int) /\
 IntKind.u8.wrap (48+(IntKind.u8.wrap ((n:Int).tdiv 10)).tmod 10)=((UInt8.ofNat (48+n / 10 % 10)).toNat:Int) /\
 IntKind.u8.wrap (48+(n:Int).tmod 10)=((UInt8.ofNat (48+n % 10)).toNat:Int):=by decide +kernel
theorem eqc(c d:UInt8):(((c.toNat:Int)) == (d.toNat:Int))=decide (c=d):=by
 rw[my,oy,lr];constructor
 ·intro h;exact UInt8.toNat_inj.1 om
 ·intro h;rw[h]
theorem xq7(s:Ls)(c:UInt8)(hs:s.length+4<=70368744177664):COk Tryz.prog 81 [.ptr 0 0,.d (.int .u8 (c.toNat:Int))] [bK s] (λr k=>r = .tup []/\k=[bK (s++escB c)]):=by
 have hc:=c.toNat_lt;obtain⟨d1,d2,d3⟩:=zf0 c.toNat hc;cases s with
 |nil =>
  refine yq (TT:=TT) (IN:=qd []) qe qg mixed 1000 Tryz.func81 rfl (qb Tryz.func81 (by kernel_rfl) rfl) 42 (by kernel_rfl) ?_;conv=>whnf
  rw[show(((c.toNat:Int)) == 46)=decide (c=46) from eqc c 46];by_cases h46:c=46
  ·have he:escB c=[92,c]:=if_pos (.inl h46);rw[he];refine brT (pn h46) ?_;conv=>whnf
   repeat((first|apply Fr|apply Tr);conv=>whnf)
   refine .rel _ (ww0 [] 92) (λx ks' hR=>?_);obtain⟨rfl,rfl⟩:=hR;conv=>whnf
   refine .rel _ (COk.thing Bst.fl (yv [92] c sm) [] [] _ rfl rfl) (λy ks' hR=>?_);obtain⟨_,_,⟨rfl,rfl⟩,rfl,rfl⟩:=hR;conv=>whnf
   refine⟨[0],.tup [],[pk (Bst.fl (.live ([92]++[c])))],rfl,rfl,?_,?_,rfl,?_⟩
   ·(conv=>whnf);exact rZ6
   ·exact rZ11
   ·rfl
  refine brF (po h46) ?_;conv=>whnf
  rw[show(((c.toNat:Int)) == 92)=decide (c=92) from eqc c 92];by_cases h92:c=92
  ·have he:escB c=[92,c]:=if_pos (.inr h92);rw[he];refine brT (pn h92) ?_;conv=>whnf
   repeat((first|apply Fr|apply Tr);conv=>whnf)
   refine .rel _ (ww0 [] 92) (λx ks' hR=>?_);obtain⟨rfl,rfl⟩:=hR;conv=>whnf
   refine .rel _ (COk.thing Bst.fl (yv [92] c sm) [] [] _ rfl rfl) (λy ks' hR=>?_);obtain⟨_,_,⟨rfl,rfl⟩,rfl,rfl⟩:=hR;conv=>whnf
   refine⟨[0],.tup [],[pk (Bst.fl (.live ([92]++[c])))],rfl,rfl,?_,?_,rfl,?_⟩
   ·(conv=>whnf);exact rZ6
   ·exact rZ11
   ·rfl
  refine brF (po h92) ?_;conv=>whnf
  repeat((first|apply Fr|apply Tr);conv=>whnf)
  by_cases h33:33<=c.toNat/\c.toNat<=126
  ·have he:escB c=[c]:=by unfold escB;rw[if_neg (λh=>h.elim h46 h92),if_pos h33]
   rw[he];refine brT (pn om) ?_;conv=>whnf
   refine brT (pn om) ?_;conv=>whnf
   repeat((first|apply Fr|apply Tr);conv=>whnf)
   refine .rel _ (ww0 [] c) (λx ks' hR=>?_);obtain⟨rfl,rfl⟩:=hR;conv=>whnf
   refine⟨[0],.tup [],[pk (Bst.fl (.live ([c])))],rfl,rfl,?_,?_,rfl,?_⟩
   ·(conv=>whnf);exact rZ6
   ·exact rZ11
   ·rfl
  ·have he:escB c=[92,UInt8.ofNat (48+c.toNat / 100),UInt8.ofNat (48+c.toNat / 10 % 10),UInt8.ofNat (48+c.toNat % 10)]:=by unfold escB;rw[if_neg (λh=>h.elim h46 h92),if_neg h33]
   rw[he];by_cases h33':33<=c.toNat
   ·refine brT (pn om) ?_;conv=>whnf
    refine brF (po om) ?_;conv=>whnf
    repeat((first|apply Fr|apply Tr);conv=>whnf)
    refine .rel _ (ww0 [] 92) (λx ks' hR=>?_);obtain⟨rfl,rfl⟩:=hR;conv=>whnf
    refine⟨by decide,?_⟩;conv=>whnf
    rw[d1];refine .rel _ (COk.thing Bst.fl (yv [92] (UInt8.ofNat (48+c.toNat / 100)) sm) [] [] _ rfl rfl) (λy ks' hR=>?_);obtain⟨_,_,⟨rfl,rfl⟩,rfl,rfl⟩:=hR;conv=>whnf
    refine⟨by decide,?_⟩;conv=>whnf
    refine⟨by decide,?_⟩;conv=>whnf
    rw[d2];refine .rel _ (COk.thing Bst.fl (yv ([92]++[(UInt8.ofNat (48+c.toNat / 100))]) (UInt8.ofNat (48+c.toNat / 10 % 10)) sm) [] [] _ rfl rfl) (λy ks' hR=>?_);obtain⟨_,_,⟨rfl,rfl⟩,rfl,rfl⟩:=hR;conv=>whnf
    refine⟨by decide,?_⟩;conv=>whnf
    rw[d3];refine .rel _ (COk.thing Bst.fl (yv ([92]++[(UInt8.ofNat (48+c.toNat / 100))]++[(UInt8.ofNat (48+c.toNat / 10 % 10))]) (UInt8.ofNat (48+c.toNat % 10)) sm) [] [] _ rfl rfl) (λy ks' hR=>?_);obtain⟨_,_,⟨rfl,rfl⟩,rfl,rfl⟩:=hR;conv=>whnf
    refine⟨[0],.tup [],[pk (Bst.fl (.live ([92]++[(UInt8.ofNat (48+c.toNat / 100))]++[(UInt8.ofNat (48+c.toNat / 10 % 10))]++[(UInt8.ofNat (48+c.toNat % 10))])))],rfl,rfl,?_,?_,rfl,?_⟩
    ·(conv=>whnf);exact rZ6
    ·exact rZ11
    ·rfl
   ·refine brF (po om) ?_;conv=>whnf
    repeat((first|apply Fr|apply Tr);conv=>whnf)
    refine .rel _ (ww0 [] 92) (λx ks' hR=>?_);obtain⟨rfl,rfl⟩:=hR;conv=>whnf
    refine⟨by decide,?_⟩;conv=>whnf
    rw[d1];refine .rel _ (COk.thing Bst.fl (yv [92] (UInt8.ofNat (48+c.toNat / 100)) sm) [] [] _ rfl rfl) (λy ks' hR=>?_);obtain⟨_,_,⟨rfl,rfl⟩,rfl,rfl⟩:=hR;conv=>whnf
    refine⟨by decide,?_⟩;conv=>whnf
    refine⟨by decide,?_⟩;conv=>whnf
    rw[d2];refine .rel _ (COk.thing Bst.fl (yv ([92]++[(UInt8.ofNat (48+c.toNat / 100))]) (UInt8.ofNat (48+c.toNat / 10 % 10)) sm) [] [] _ rfl rfl) (λy ks' hR=>?_);obtain⟨_,_,⟨rfl,rfl⟩,rfl,rfl⟩:=hR;conv=>whnf
    refine⟨by decide,?_⟩;conv=>whnf
    rw[d3];refine .rel _ (COk.thing Bst.fl (yv ([92]++[(UInt8.ofNat (48+c.toNat / 100))]++[(UInt8.ofNat (48+c.toNat / 10 % 10))]) (UInt8.ofNat (48+c.toNat % 10)) sm) [] [] _ rfl rfl) (λy ks' hR=>?_);obtain⟨_,_,⟨rfl,rfl⟩,rfl,rfl⟩:=hR;conv=>whnf
    refine⟨[0],.tup [],[pk (Bst.fl (.live ([92]++[(UInt8.ofNat (48+c.toNat / 100))]++[(UInt8.ofNat (48+c.toNat / 10 % 10))]++[(UInt8.ofNat (48+c.toNat % 10))])))],rfl,rfl,?_,?_,rfl,?_⟩
    ·(conv=>whnf);exact rZ6
    ·exact rZ11
    ·rfl
 |cons x s =>
  refine yq (TT:=TT) (IN:=qd []) qe qg mixed 1000 Tryz.func81 rfl (qb Tryz.func81 (by kernel_rfl) rfl) 42 (by kernel_rfl) ?_;conv=>whnf
  rw[show(((c.toNat:Int)) == 46)=decide (c=46) from eqc c 46];by_cases h46:c=46
  ·have he:escB c=[92,c]:=if_pos (.inl h46);rw[he];refine brT (pn h46) ?_;conv=>whnf
   repeat((first|apply Fr|apply Tr);conv=>whnf)
   refine .rel _ (COk.thing Bst.fl (yv (x :: s) 92 (by simp at hs ⊢;omega)) [] [] _ rfl rfl) (λy ks' hR=>?_);obtain⟨_,_,⟨rfl,rfl⟩,rfl,rfl⟩:=hR;conv=>whnf
   refine .rel _ (COk.thing Bst.fl (yv ((x :: s)++[92]) c (by simp at hs ⊢;omega)) [] [] _ rfl rfl) (λy ks' hR=>?_);obtain⟨_,_,⟨rfl,rfl⟩,rfl,rfl⟩:=hR;conv=>whnf
   refine⟨[0],.tup [],[pk (Bst.fl (.live ((x :: s)++[92]++[c])))],rfl,rfl,?_,?_,rfl,?_⟩
   ·(conv=>whnf);exact rZ6
   ·exact rZ11
   ·rw[qo2 sm];try simp only[gz,mp,fq]
  refine brF (po h46) ?_;conv=>whnf
  rw[show(((c.toNat:Int)) == 92)=decide (c=92) from eqc c 92];by_cases h92:c=92
  ·have he:escB c=[92,c]:=if_pos (.inr h92);rw[he];refine brT (pn h92) ?_;conv=>whnf
   repeat((first|apply Fr|apply Tr);conv=>whnf)
   refine .rel _ (COk.thing Bst.fl (yv (x :: s) 92 (by simp at hs ⊢;omega)) [] [] _ rfl rfl) (λy ks' hR=>?_);obtain⟨_,_,⟨rfl,rfl⟩,rfl,rfl⟩:=hR;conv=>whnf
   refine .rel _ (COk.thing Bst.fl (yv ((x :: s)++[92]) c (by simp at hs ⊢;omega)) [] [] _ rfl rfl) (λy ks' hR=>?_);obtain⟨_,_,⟨rfl,rfl⟩,rfl,rfl⟩:=hR;conv=>whnf
   refine⟨[0],.tup [],[pk (Bst.fl (.live ((x :: s)++[92]++[c])))],rfl,rfl,?_,?_,rfl,?_⟩
   ·(conv=>whnf);exact rZ6
   ·exact rZ11
   ·rw[qo2 sm];try simp only[gz,mp,fq]
  refine brF (po h92) ?_;conv=>whnf
  repeat((first|apply Fr|apply Tr);conv=>whnf)
  by_cases h33:33<=c.toNat/\c.toNat<=126
  ·have he:escB c=[c]:=by unfold escB;rw[if_neg (λh=>h.elim h46 h92),if_pos h33]
   rw[he];refine brT (pn om) ?_;conv=>whnf
   refine brT (pn om) ?_;conv=>whnf
   repeat((first|apply Fr|apply Tr);conv=>whnf)
   refine .rel _ (COk.thing Bst.fl (yv (x :: s) c (by simp at hs ⊢;omega)) [] [] _ rfl rfl) (λy ks' hR=>?_);obtain⟨_,_,⟨rfl,rfl⟩,rfl,rfl⟩:=hR;conv=>whnf
   refine⟨[0],.tup [],[pk (Bst.fl (.live ((x :: s)++[c])))],rfl,rfl,?_,?_,rfl,?_⟩
   ·(conv=>whnf);exact rZ6
   ·exact rZ11
   ·rw[qo2 sm];try simp only[gz,mp,fq]
  ·have he:escB c=[92,UInt8.ofNat (48+c.toNat / 100),UInt8.ofNat (48+c.toNat / 10 % 10),UInt8.ofNat (48+c.toNat % 10)]:=by unfold escB;rw[if_neg (λh=>h.elim h46 h92),if_neg h33]
   rw[he];by_cases h33':33<=c.toNat
   ·refine brT (pn om) ?_;conv=>whnf
    refine brF (po om) ?_;conv=>whnf
    repeat((first|apply Fr|apply Tr);conv=>whnf)
    refine .rel _ (COk.thing Bst.fl (yv (x :: s) 92 (by simp at hs ⊢;omega)) [] [] _ rfl rfl) (λy ks' hR=>?_);obtain⟨_,_,⟨rfl,rfl⟩,rfl,rfl⟩:=hR;conv=>whnf
    refine⟨by decide,?_⟩;conv=>whnf
    rw[d1];refine .rel _ (COk.thing Bst.fl (yv ((x :: s)++[92]) (UInt8.ofNat (48+c.toNat / 100)) (by simp at hs ⊢;omega)) [] [] _ rfl rfl) (λy ks' hR=>?_);obtain⟨_,_,⟨rfl,rfl⟩,rfl,rfl⟩:=hR;conv=>whnf
    refine⟨by decide,?_⟩;conv=>whnf
    refine⟨by decide,?_⟩;conv=>whnf
    rw[d2];refine .rel _ (COk.thing Bst.fl (yv ((x :: s)++[92]++[(UInt8.ofNat (48+c.toNat / 100))]) (UInt8.ofNat (48+c.toNat / 10 % 10)) (by simp at hs ⊢;omega)) [] [] _ rfl rfl) (λy ks' hR=>?_);obtain⟨_,_,⟨rfl,rfl⟩,rfl,rfl⟩:=hR;conv=>whnf
    refine⟨by decide,?_⟩;conv=>whnf
    rw[d3];refine .rel _ (COk.thing Bst.fl (yv ((x :: s)++[92]++[(UInt8.ofNat (48+c.toNat / 100))]++[(UInt8.ofNat (48+c.toNat / 10 % 10))]) (UInt8.ofNat (48+c.toNat % 10)) (by simp at hs ⊢;omega)) [] [] _ rfl rfl) (λy ks' hR=>?_);obtain⟨_,_,⟨rfl,rfl⟩,rfl,rfl⟩:=hR;conv=>whnf
    refine⟨[0],.tup [],[pk (Bst.fl (.live ((x :: s)++[92]++[(UInt8.ofNat (48+c.toNat / 100))]++[(UInt8.ofNat (48+c.toNat / 10 % 10))]++[(UInt8.ofNat (48+c.toNat % 10))])))],rfl,rfl,?_,?_,rfl,?_⟩
    ·(conv=>whnf);exact rZ6
    ·exact rZ11
    ·rw[qo2 sm];try simp only[gz,mp,fq]
   ·refine brF (po om) ?_;conv=>whnf
    repeat((first|apply Fr|apply Tr);conv=>whnf)
    refine .rel _ (COk.thing Bst.fl (yv (x :: s) 92 (by simp at hs ⊢;omega)) [] [] _ rfl rfl) (λy ks' hR=>?_);obtain⟨_,_,⟨rfl,rfl⟩,rfl,rfl⟩:=hR;conv=>whnf
    refine⟨by decide,?_⟩;conv=>whnf
    rw[d1];refine .rel _ (COk.thing Bst.fl (yv ((x :: s)++[92]) (UInt8.ofNat (48+c.toNat / 100)) (by simp at hs ⊢;omega)) [] [] _ rfl rfl) (λy ks' hR=>?_);obtain⟨_,_,⟨rfl,rfl⟩,rfl,rfl⟩:=hR;conv=>whnf
    refine⟨by decide,?_⟩;conv=>whnf
    refine⟨by decide,?_⟩;conv=>whnf
    rw[d2];refine .rel _ (COk.thing Bst.fl (yv ((x :: s)++[92]++[(UInt8.ofNat (48+c.toNat / 100))]) (UInt8.ofNat (48+c.toNat / 10 % 10)) (by simp at hs ⊢;omega)) [] [] _ rfl rfl) (λy ks' hR=>?_);obtain⟨_,_,⟨rfl,rfl⟩,rfl,rfl⟩:=hR;conv=>whnf
    refine⟨by decide,?_⟩;conv=>whnf
    rw[d3];refine .rel _ (COk.thing Bst.fl (yv ((x :: s)++[92]++[(UInt8.ofNat (48+c.toNat / 100))]++[(UInt8.ofNat (48+c.toNat / 10 % 10))]) (UInt8.ofNat (48+c.toNat % 10)) (by simp at hs ⊢;omega)) [] [] _ rfl rfl) (λy ks' hR=>?_);obtain⟨_,_,⟨rfl,rfl⟩,rfl,rfl⟩:=hR;conv=>whnf
    refine⟨[0],.tup [],[pk (Bst.fl (.live ((x :: s)++[92]++[(UInt8.ofNat (48+c.toNat / 100))]++[(UInt8.ofNat (48+c.toNat / 10 % 10))]++[(UInt8.ofNat (48+c.toNat % 10))])))],rfl,rfl,?_,?_,rfl,?_⟩
    ·(conv=>whnf);exact rZ6
    ·exact rZ11
    ·rw[qo2 sm];try simp only[gz,mp,fq]
theorem jg5(σ:Nat->Nat)(s:Ls):mapB σ [bK s]=[bK s]:=by cases s <;> rfl
theorem xq8(s:Ls)(c:UInt8)(rest:List KB)(hs:s.length+4<=70368744177664):COk Tryz.prog 81 [.ptr 0 0,.d (.int .u8 (c.toNat:Int))] (bK s :: rest) (λr k=>r = .tup []/\k=bK (s++escB c) :: rest):=by
 have h:=(xq7 s c hs).among [] rest (λr k h=>by rw[h.2];exact pu _) rfl;rw [jg5] at h;refine h.imp λr k ⟨s0,k1,⟨h1,h2⟩,h3,h4⟩=>?_
 subst h1 h2;refine⟨h3,?_⟩;rw[h4];show[]++(mapB _ [bK (s++escB c)]++(rest++mapB _ []))=_;rw[jg5];show _ :: (rest++[])=_;rw[m6]
theorem ka5(s:Ls)(c:UInt8)(rest:List KB)(hs:s.length+1<=70368744177664):COk Tryz.prog 21 [.ptr 0 0,.d (.int .u8 (c.toNat:Int))] (bK s :: rest) (λr k=>r = .v .nilIface/\k=bK (s++[c]) :: rest):=by
 have h:=(wbK s c hs).among [] rest (λr k h=>by rw[h.2];exact pu _) rfl;rw [jg5] at h;refine h.imp λr k ⟨s0,k1,⟨h1,h2⟩,h3,h4⟩=>?_
 subst h1 h2;refine⟨h3,?_⟩;rw[h4];show[]++(mapB _ [bK (s++[c])]++(rest++mapB _ []))=_;rw[jg5];show _ :: (rest++[])=_;rw[m6]
theorem yb9:∀ a b:Ls,escL (a++b)=escL a++escL b
 |[],b=>rfl
 |c :: a,b=>by simp only[gz,escL,yb9 a b,mp]
theorem yo0{l:Ls}{k:Nat}{c:UInt8}(h:l[k]? = some c):escL (l.take (k+1))=escL (l.take k)++escB c:=by
 rw[o3,h,yb9];simp[escL]
theorem jz7:∀ a b:List Ls,txtL (a++b)=txtL a++txtL b
 |[],b=>rfl
 |c :: a,b=>by simp only[gz,txtL,jz7 a b,mp]
theorem yi8{l:List Ls}{k:Nat}{c:Ls}(h:l[k]? = some c):txtL (l.take (k+1))=txtL (l.take k)++escL c++[46]:=by
 rw[o3,h,jz7];simp[txtL]
def ve(n:Ls):Ls × Int:=if qa n then (txtN n,0) else ([],2)
theorem rZ12{p:Prop}(h:p:=by repeat'(first|exact ⟨⟩|exact rfl|exact ql _|exact .inr rfl|exact(λ_ _ _ _ h=>⟨jq _,h⟩)|exact λ_=>Iff.rfl|exact λ_ _=>rfl|exact noI|apply And.intro)):p:=h
theorem yr9(n:Ls):FnOk Tryz.prog 48 [.d (.str n)] (.tup [.d (.str (ve n).1),.d (.int .i64 (ve n).2)]):=by
 refine qi (TT:=TT) (IN:=qd [(70,Tryz.f70,1),(106,Tryz.f106,2),(107,Tryz.f107,1),(139,Tryz.f139,2)]) qe (jv (jv (jv (jv qg Tryz.func139 (by kernel_rfl) (by kernel_rfl)) Tryz.func107 (by kernel_rfl) (by kernel_rfl)) Tryz.func106 (by kernel_rfl) (by kernel_rfl)) Tryz.func70 (by kernel_rfl) (by kernel_rfl)) mixed 1000 Tryz.func48 rfl (qb Tryz.func48 (by kernel_rfl) rfl) rfl 26 (by kernel_rfl) ?_;conv=>whnf
 refine oD (zo n) rfl rfl ?_;by_cases hn:qa n;case neg =>
  rw[if_neg hn,show ve n=([],2) from if_neg hn];conv=>whnf
  apply Tr;exact rY6
 rw[if_pos hn,show ve n=(txtN n,0) from if_pos hn];conv=>whnf
 apply Fr;conv=>whnf
 refine⟨λhz=>?_,λhz=>?_⟩
 ·have hz:n=[0]:=by simpa using hz
  subst hz;exact rY6
 have hz:n≠[0]:=by simpa using hz
 rw[show txtN n=txtL (labN n) from if_neg hz];conv=>whnf
 refine oD (zo n) rfl rfl ?_;rw[if_pos hn];conv=>whnf
 apply Fr;conv=>whnf
 obtain⟨hn1,hn2,hn3⟩:=y5 hn;have hend:∀ i,qj (labN n) i<n.length:=λi=>by have:=jf9 (labN n) i;rw [<-hn3] at this;exact this
 have hbt:∀ i l,(labN n)[i]? = some l->bt n (qj (labN n) i)=l.length:=λi l h=>by
  have:=jg3 hn2 h;rw [<-hn3] at this;exact this
 have hbe:bt n (qj (labN n) (labN n).length)=0:=by
  have:=jg4 (labN n);rw [<-hn3] at this;exact this
 have hll:=jr7 (labN n);rw [<-hn3] at hll;have hlab:∀ i l,(labN n)[i]? = some l->(n.drop (qj (labN n) i+1)).take l.length=l:=λi l h=>by
  have:=yt2 h;rw [<-hn3] at this;exact this
 have htl:=qe2 (labN n) hn2;rw [<-hn3] at htl;generalize labN n=ls at hn2 hn3 hend hbt hbe hll hlab htl;refine .inv Nat (λi=>i<=ls.length) (λi=>[(3,iV (qj ls i))]) (λi=>[(0,bK (txtL (ls.take i))),(4,.cells 3 [iV (qj ls i)])]) (λi=>ls.length - i) ⟨0,[0,1,2,3,4,5,6],pv _,?_⟩ ?_
 ·exact rY2
 intro i hi;have hsl:(txtL (ls.take i)).length<=1020:=by
  have h1:=qe2 (ls.take i) (λl h=>hn2 l (lv h));have h2:(mk (ls.take i)).length=qj ls i+1:=by rw[<-x9,pq];rfl
  have:=hend i;omega
 show qa3 _ _ _ _ [(0,bK (txtL (ls.take i))),(4,.cells 3 [iV (qj ls i)])] _;obtain⟨s,hs⟩:∃ s,s=txtL (ls.take i):=⟨_,rfl⟩;rw [<-hs] at hsl ⊢;have e0:∀ (t l:Ls),t++escL (l.take 0)=t:=λt l=>by simp[escL]
 obtain⟨S,hS⟩:∃ S,S=s:=⟨_,rfl⟩;have hSl:S.length<=1020:=by rw[hS];exact hsl
 have hSt:S=txtL (ls.take i):=by rw[hS,hs]
 clear hs hsl;cases s;all_goals
  have hp:=hend i;conv=>whnf
  refine brT (pn om) ?_;conv=>whnf
  refine⟨om,?_⟩;conv=>whnf
  rw[jl,qc (bt n (qj ls i):Int) (by have:=vm n (qj ls i);omega)];rcases ox i ls.length with hlt|hge
  ·have hli:ls[i]? = some ls[i]:=pp hlt;have hb:=hbt i _ hli;have hok:=hn2 _ (oz hlt);have hps:=qr0 hli;have hp2:=hend (i+1);rw[hb];generalize ls[i]=l at hli hb hok hps;obtain⟨ho1,ho2⟩:=hok;refine brF (by rw[oo];omega) ?_;conv=>whnf
   refine brF (po om) ?_;conv=>whnf
   have e1:IntKind.i64.wrap ((n.length:Int) - (qj ls i:Int))=((n.length - qj ls i:Nat):Int):=by rw[qc _ om];omega
   rw[e1];refine brF (po om) ?_;conv=>whnf
   have e2:IntKind.i64.wrap ((qj ls i:Int)+IntKind.i64.wrap (1+(l.length:Int)))=((qj ls (i+1):Nat):Int):=by rw[qc (1+(l.length:Int)) om,qc _ om];omega
   rw[e2];have e3:IntKind.i64.wrap ((qj ls i:Int)+1)=((qj ls i+1:Nat):Int):=by rw[qc _ om];omega
   rw[e3];refine⟨om,?_⟩;conv=>whnf
   have hsub:sub n ((qj ls i+1:Nat):Int) ((qj ls (i+1):Nat):Int)=l:=by
    unfold sub;rw[pr,pr];rw[show qj ls (i+1) - (qj ls i+1)=l.length by omega];exact hlab i l hli
   rw[hsub];refine .inv Nat (λk=>k<=l.length) (λk=>[(17,iV k)]) (λk=>[(0,bK (S++escL (l.take k)))]) (λk=>l.length - k) ⟨0,[0,1,2,3,4,5,6],pv _,?_⟩ ?_
   ·conv=>whnf
    rw[e0,hS];exact rZ12
   intro k hk;have hel:=qm7 (l.take k);rw [o4] at hel;show qa3 _ _ _ _ [(0,bK (S++escL (l.take k)))] _;obtain⟨T,hT⟩:∃ T,T=S++escL (l.take k):=⟨_,rfl⟩;have hTl:T.length<=1300:=by rw[hT,pq];omega
   have ht:∀ c,l[k]? = some c->∀ rest,COk Tryz.prog 81 [.ptr 0 0,.d (.int .u8 (c.toNat:Int))] (bK T :: rest) (λr q=>r = .tup []/\q=bK (S++escL (l.take (k+1))) :: rest):=λc hc rest=>by
    have:=xq8 T c rest om;rw [hT] at this;rw[hT,yo0 hc,<-mp];exact this
   have hw:=λrest=>ka5 T 46 rest om
   rw[<-hT];cases T;all_goals
    conv=>whnf
    refine⟨λc1=>?_,λc1=>?_⟩
    ·have c1:k<l.length:=dT c1
     have hlk:l[k]? = some l[k]:=pp c1;conv=>whnf
     refine⟨om,?_⟩;conv=>whnf
     rw[show qw l (k:Int)=((l[k].toNat:Nat):Int) by rw[jl];unfold bt;rw[hlk];rfl];refine .rel _ (ht l[k] hlk _) (λx ks' hR=>?_);obtain⟨rfl,rfl⟩:=hR;obtain⟨c2,t2,h2⟩:∃ c2 t2,S++escL (l.take (k+1))=c2 :: t2:=by
      have h1:=qm7 (l.take (k+1));rw [o4] at h1;cases h3:S++escL (l.take (k+1)) with
      |nil=>have:=congrArg List.length h3;rw [pq,mz] at this;omega
      |cons c t=>exact⟨c,t,rfl⟩
     rw[h2];conv=>whnf
     have hw1:=w64s k om;rw[hw1];refine⟨k+1,[0,1,2,3,4,5,6],c1,by show l.length - (k+1)<l.length - k;omega,?_⟩;conv=>whnf
     rw[h2];exact rZ12
    ·have c1:k=l.length:=dF c1
     subst c1;rw [mu] at hT;conv=>whnf
     refine .rel _ (hw _) (λx ks' hR=>?_);obtain⟨rfl,rfl⟩:=hR;have hnx:=yi8 hli;rw [<-hSt,<-hT] at hnx;conv=>whnf
     refine⟨i+1,[0,1,2,3,4,5,6],hlt,by show ls.length - (i+1)<ls.length - i;omega,?_⟩;conv=>whnf
     rw[hnx];exact rZ12
  ·have hil:i=ls.length:=om
   subst hil;rw[hbe];conv=>whnf
   apply Tr;conv=>whnf
   rw [mu] at hSt;have hne:S≠[]:=λe=>by
    rw [hSt] at e;cases ls with
    |nil=>exact hz hn3
    |cons a b=>simp [txtL] at e
   first
    |exact absurd hS hne
    |(
     rw [hS] at hSl;refine .rel _ (COk.thing Bst.fl (jv9 _ (gn hSl (by decide))) [] _ _ rfl rfl) (λy ks' hR=>?_);obtain⟨_,_,⟨rfl,rfl⟩,rfl,rfl⟩:=hR;conv=>whnf
     rw[<-hSt,hS];repeat'(first|exact ⟨⟩|exact rfl|exact λ_=>Iff.rfl|exact λ_ _=>rfl|exact renM_ent rfl _|apply And.intro))
def RR.lineV(r:RR):Ls × Int:=if r.check then (r.line,0) else ([],2)
theorem vu(n:Nat)(h:n<10000000000):(Lib.decDigits n).length<=10:=by
 have hs:∀ k,n<10 ^ (k+1)->(Lib.decDigits n).length<=k+1:=by
  intro k;induction k generalizing n with
  |zero=>intro h;rw[Lib.decDigits,dif_pos om];simp
  |succ k ih =>
   intro hk;rw[Lib.decDigits];split
   ·simp
   ·rw[pq];have:=ih (n / 10) om (by rw [Nat.pow_succ] at hk;omega);simp only[pw,mz];omega
 exact hs 9 h
theorem qs7{n:Ls}(h:qa n):(txtN n).length<=1020:=by
 obtain⟨h1,h2,h3⟩:=y5 h;unfold txtN;split
 ·simp
 ·have:=qe2 (labN n) h2;rw [<-h3] at this;omega
theorem yt6(s:Ls):(hexT s).length<=2 * s.length+1:=by
 unfold hexT;split
 ·simp
 ·have:=qe5 s;omega
theorem ql9{r:RR}(h:r.check=true):r.d.length<=4096:=by
 unfold RR.check jf at h;simp only [p7,lr] at h;exact h.1.2.1
theorem qm5{r:RR}(hck:r.check=true)(h:r.In):r.line.length<=9300:=by
 have h0:=qs7 (ux hck);have h1:=vu r.ttl.toNat (by have:=h.ttl;omega);have h2:=vu r.cl.toNat (by have:=h.cl;omega);have h3:=vu r.ty.toNat (by have:=h.ty;omega);have h4:=yt6 r.d;have h5:=ql9 hck;unfold RR.line;simp only[pq,pw];omega
theorem yy5(r:RR)(h:r.In):FnOk Tryz.prog 49 [r.V] (.tup [.d (.str r.lineV.1),.d (.int .i64 r.lineV.2)]):=by
 refine qi (TT:=TT) (IN:=qd []) qe qg mixed 1000 Tryz.func49 rfl (qb Tryz.func49 (by kernel_rfl) rfl) rfl 36 (by kernel_rfl) ?_;conv=>whnf
 refine oD (ya2 r) rfl rfl ?_;cases hck:r.check with
 |false =>
  rw[show r.lineV=([],2) by unfold RR.lineV;rw[hck];rfl];conv=>whnf
  repeat((first|apply Fr|apply Tr);conv=>whnf)
  exact rZ6
 |true =>
  rw[show r.lineV=(r.line,0) by unfold RR.lineV;rw[hck];rfl];conv=>whnf
  repeat((first|apply Fr|apply Tr);conv=>whnf)
  refine oD (yr9 r.nm) rfl rfl ?_;rw[show ve r.nm=(txtN r.nm,0) from if_pos (ux hck)];conv=>whnf
  repeat((first|apply Fr|apply Tr);conv=>whnf)
  have h1:=h.ty;have h2:=h.cl;have h3:=h.ttl;have e1:IntKind.u64.wrap r.ttl=((r.ttl.toNat:Nat):Int):=by rw[IntKind.wrap_u64];omega
  have e2:IntKind.u64.wrap r.cl=((r.cl.toNat:Nat):Int):=by rw[IntKind.wrap_u64];omega
  have e3:IntKind.u64.wrap r.ty=((r.ty.toNat:Nat):Int):=by rw[IntKind.wrap_u64];omega
  have hd:=ql9 hck;rw[e1];refine .data _ (js1 r.ttl.toNat om) rfl rfl ?_;conv=>whnf
  rw[e2];refine .data _ (js1 r.cl.toNat om) rfl rfl ?_;conv=>whnf
  rw[e3];refine .data _ (js1 r.ty.toNat om) rfl rfl ?_;conv=>whnf
  refine .data _ (xz0 r.d om) rfl rfl ?_;conv=>whnf
  have hj:Lib.join [txtN r.nm,Lib.decDigits r.ttl.toNat,Lib.decDigits r.cl.toNat,Lib.decDigits r.ty.toNat,hexT r.d] [32]=r.line:=by
   unfold RR.line Lib.join;simp[List.intercalate]
  have hll:=qm5 hck h;refine .one (.look (r:=.d (.str r.line)) ?_ rfl ?_)
  ·conv=>whnf
   have:=yy9 false [txtN r.nm,Lib.decDigits r.ttl.toNat,Lib.decDigits r.cl.toNat,Lib.decDigits r.ty.toNat,hexT r.d] [32] (by show 5<=_;omega) (by rw[hj];omega);rw [hj] at this;exact⟨this.conv ⟨DS.rows λi hi=>(match i,hi with
    |0,_=>DSL.refl _
    |1,_=>DSL.refl _
    |2,_=>DSL.refl _
    |3,_=>DSL.refl _
    |4,_=>DSL.refl _),DS.refl _,trivial⟩,rfl⟩
  exact rY6
def padL(N:Nat)(l:List Ls):List Ls:=l++List.replicate (N - l.length) []
theorem jo2(N:Nat)(l:List Ls)(x:Ls)(h:l.length<N)(j:Nat):oneF l.length 0 [.str x] (strs (padL N l)) j=strs (padL N (l++[x])) j:=by
 unfold oneF strs padL;by_cases e:j=l.length
 ·subst e;simp[putD]
 ·rw[if_neg e];congr 2;by_cases h1:j<l.length
  ·rw[mn h1,mn (by simp;omega),mn h1]
  ·rw[m7 om,m7 (by simp;omega),List.getElem?_replicate,List.getElem?_replicate];simp only[pq,pw,mz];split <;> split <;> first|rfl|omega
theorem zd5(c:UInt8):∀ s:Ls,Lib.indexByte s c<s.length/\-1<=Lib.indexByte s c
 |[]=>by simp[Lib.indexByte]
 |b :: s=>by
  have ih:=zd5 c s;simp only[Lib.indexByte,pw];split
  ·omega
  ·split <;> omega
structure SnSt where
 d:List Ls
 r:Ls
theorem zy1(s:Ls)(hs:s.length<=1000000):FnOk Tryz.prog 135 [.d (.str s),.d (.str [32]),.d (.int .i64 6)] (.d (.sl false (cutN 5 s).length 1 (strs (cutN 5 s)))):=by
 refine qi (TT:=TT) (IN:=qd [(169,Tryz.f169,4)]) qe (jv qg Tryz.func169 (by kernel_rfl) (by kernel_rfl)) mixed 1000 Tryz.func135 rfl (qb Tryz.func135 (by kernel_rfl) rfl) rfl 8 (by kernel_rfl) ?_;conv=>whnf
 repeat((first|apply Fr|apply Tr);conv=>whnf)
 obtain⟨N,hN,hN1,hN2,hN3⟩:∃ N:Nat,(if IntKind.i64.wrap ((s.length:Int)+1)<6 then IntKind.i64.wrap ((s.length:Int)+1) else 6)=(N:Int)/\1<=N/\N<=6/\(N=6\/N=s.length+1):=by
  rw[qc ((s.length:Int)+1) om];by_cases h:s.length+1<6
  ·exact⟨s.length+1,by rw[if_pos om];omega,om,om,.inr rfl⟩
  ·exact⟨6,by rw[if_neg om];rfl,om,om,.inl rfl⟩
 rw[hN];refine⟨om,?_⟩;conv=>whnf
 have hN4:IntKind.i64.wrap ((N:Int) - 1)=((N - 1:Nat):Int):=by rw[qc _ om];omega
 rw[hN4];have hp0:∀ j,strs (padL N []) j=[.str []]:=λj=>by
  unfold strs padL;simp only[fq,mz,rv,List.getElem?_replicate];split <;> rfl
 refine .inv SnSt (λx=>x.d.length+x.r.length<=s.length/\x.d.length+1<=N/\x.d++cutN (5 - x.d.length) x.r=cutN 5 s) (λx=>[(0,.d (.str x.r)),(10,iV x.d.length)]) (λx=>[(0,.row 9 1 N .no (strs (padL N x.d)))]) (λx=>x.r.length) ⟨⟨[],s⟩,[0],⟨by show 0+s.length<=_;omega,hN1,rfl⟩,?_⟩ ?_
 ·conv=>whnf
  repeat'(first|exact ⟨⟩|exact rfl|exact ql _|exact .inr rfl|exact λ_ _=>rfl|exact noI|apply And.intro)
  exact λi _=>(hp0 i).symm
 intro x hx;obtain⟨hk,hm,hrest⟩:=hx;conv=>whnf
 generalize x.d=d at hk hm hrest ⊢;generalize x.r=r at hk hrest ⊢;generalize cutN 5 s=Y at hrest ⊢;have hd1:IntKind.i64.wrap ((d.length:Int)+1)=((d.length+1:Nat):Int):=by rw[qc _ om];omega
 refine⟨λc0=>?_,λc0=>?_⟩
 ·have c0':d.length<N - 1:=dT c0;obtain⟨k,hk5⟩:∃ k,5 - d.length=k+1:=⟨4 - d.length,om⟩;conv=>whnf
  refine oD (xm1 r 32) rfl rfl ?_;conv=>whnf
  obtain⟨i1,i2⟩:=zd5 32 r;rw [hk5] at hrest;simp only [cutN] at hrest;generalize Lib.indexByte r 32=m at hrest i1 i2 ⊢;by_cases hm0:m<0
  ·rw [if_pos hm0] at hrest;refine brT (pn hm0) ?_;conv=>whnf
   have hlast:[r]=[r]:=rfl;have hu:Y=d++[r]:=by rw[<-hrest,hlast]
   refine⟨om,?_⟩;conv=>whnf
   rw[hd1];refine⟨om,?_⟩;conv=>whnf
   refine⟨by show 0+(((d.length+1:Nat):Int) - 0).toNat<=N;omega,rfl,by rw[hu,pq];show(((d.length+1:Nat):Int) - 0).toNat=d.length+1;omega,.inr rfl,λj hj=>?_⟩;have hj:j<(((d.length+1:Nat):Int) - 0).toNat:=hj;show oneF (d.length:Int).toNat 0 [DV.str r] (strs (padL N d)) (0+j)=strs Y j;rw[pr,jo2 N d r om,hu,o5];unfold strs padL;rw[mn (by simp;omega)]
  ·rw [if_neg hm0] at hrest;obtain⟨m,rfl⟩:∃ n:Nat,m=n:=⟨m.toNat,om⟩;rw [pr] at hrest;refine brF (po hm0) ?_;conv=>whnf
   rw[show IntKind.i64.wrap ((m:Int)+0)=(m:Int) by rw[qc _ om];omega];refine⟨om,?_⟩;conv=>whnf
   refine⟨om,?_⟩;conv=>whnf
   rw[show IntKind.i64.wrap ((m:Int)+(([32]:Ls).length:Int))=((m+1:Nat):Int) by show IntKind.i64.wrap ((m:Int)+1)=_;rw[qc _ om];omega];refine⟨om,?_⟩;conv=>whnf
   rw[hd1,qb3,show sub r 0 (m:Int)=r.take m by unfold sub;simp];refine⟨⟨d++[r.take m],r.drop (m+1)⟩,[0],⟨by show(d++[_]).length+(r.drop (m+1)).length<=_;rw[pq,ou];show d.length+1+_<=_;omega,by show(d++[_]).length+1<=N;rw[pq];show d.length+1+1<=N;omega,?_⟩,by show(r.drop (m+1)).length<r.length;rw[ou];omega,?_⟩
   ·rw[<-hrest];show(d++[r.take m])++cutN (5 - (d++[r.take m]).length) (r.drop (m+1))=_;rw[pq,show 5 - (d.length+[r.take m].length)=k by show 5 - (d.length+1)=k;omega,mp]
    rfl
   conv=>whnf
   repeat'(first|exact ⟨⟩|exact rfl|exact ql _|exact .inr rfl|exact λ_ _=>rfl|exact noI|apply And.intro)
   all_goals first
    |exact congrArg (λn:Nat=>SV.d (DV.int IntKind.i64 (n:Int))) (show d.length+1=(d++[r.take m]).length by simp)
    |(
     intro i _;rw[pr];exact jo2 N d _ om i)
 ·have c0':d.length=N - 1:=dF c0;have hlast:cutN (5 - d.length) r=[r]:=by
   rcases hN3 with h|h
   ·rw[show 5 - d.length=0 by omega];rfl
   ·have:r=[]:=sx.1 om;subst this;exact yo7 _ _ (λb hb=>by cases hb)
  conv=>whnf
  have hu:Y=d++[r]:=by rw[<-hrest,hlast]
  refine⟨om,?_⟩;conv=>whnf
  rw[hd1];refine⟨om,?_⟩;conv=>whnf
  refine⟨by show 0+(((d.length+1:Nat):Int) - 0).toNat<=N;omega,rfl,by rw[hu,pq];show(((d.length+1:Nat):Int) - 0).toNat=d.length+1;omega,.inr rfl,λj hj=>?_⟩;have hj:j<(((d.length+1:Nat):Int) - 0).toNat:=hj;show oneF (d.length:Int).toNat 0 [DV.str r] (strs (padL N d)) (0+j)=strs Y j;rw[pr,jo2 N d r om,hu,o5];unfold strs padL;rw[mn (by simp;omega)]
theorem qo9{w:World}{fp:Nat->Nat->Prop}(h:VOk w fp)(g:Nat)(hg:g=2\/g=3):∃ t x,w.cell? ⟨g,0,none⟩=some (.iface t x):=by
 have hin:(g,jv1) ∈ evs:=by
  rcases hg with rfl|rfl
  ·exact .head _
  ·exact .tail _ (.head _)
 obtain⟨⟨vs,t,fz,e,t',x,rfl⟩,_⟩:=h _ hin;refine⟨t',x,?_⟩;simp at e;simp[World.cell?,e]
theorem yh8(w:World)(s:Ls):Step (λ_=>False) w (Lib.bytesWorld w 5 ⟨s.toArray⟩):=by
 exact⟨rfl,rfl,rfl,by rw[Lib.bytesWorld_size];omega,λb hb _=>Lib.bytesWorld_at_old w _ _ b hb,λh=>(show False from h).elim⟩
def qk1(B:Nat)(s:Ls):Nat:=match Lib.parseUintB B s with
 | .ok u=>u
 | .range=>2 ^ B - 1
 |_=>0
theorem jc0{B:Nat}{s:Ls}{u:Nat}(h:yi B s=some u):qk1 B s=u:=by
 unfold yi at h;unfold qk1;split at h
 ·cases h;rename_i h1;rw[h1]
 ·cases h
theorem yf3(s:Ls)(hs:s.length<=1000000):FnOk Tryz.prog 99 [.d (.str s),.d (.int .i64 10),.d (.int .i64 16)] (.tup [.d (.int .u64 (qk1 16 s:Nat)),.err (yi 16 s).isNone]):=by
 refine⟨qb Tryz.func99 (by kernel_rfl) rfl,λM w vs hV hM hl hd=>?_⟩
 match vs,hl with
 |[v0,v1,v2],_ =>
  have h0:=y9 (hd 0 _ v0 rfl rfl);have h1:=jh (hd 1 _ v1 rfl rfl);have h2:=jh (hd 2 _ v2 rfl rfl);subst h0 h1 h2;have hsz:(⟨s.toArray⟩:ByteArray).size=s.length:=rfl;unfold yi qk1;cases hp:Lib.parseUintB 16 s
  ·rename_i u;refine(Try.strconv_ParseUint_10_at16_ok ⟨s.toArray⟩ (by rw[hsz];omega) u hp w).mono ?_
   rintro e w' ⟨rfl,hw⟩
   refine⟨_,rfl,?_,.tup _ [.int .u64 u,.nilIface] rfl (λj t v ht hv=>?_)⟩
   ·rcases hw with rfl|rfl
    ·exact Step.refl _ _
    ·exact yh8 w s
   ·match j with
    |0=>cases ht;cases hv;exact .d (.int _ _)
    |1=>cases ht;cases hv;exact .err _ _ (λh=>by cases h) (λ_=>rfl)
  ·obtain⟨t,x,hc⟩:=qo9 hV 2 (.inl rfl);refine(Try.strconv_ParseUint_10_at16_syntax ⟨s.toArray⟩ (by rw[hsz];omega) hp _ w hc (.inr ⟨t,x,rfl⟩)).mono ?_
   rintro e w' ⟨N,rfl,_,_,hb⟩
   refine⟨_,rfl,Step.of_below _ hb,.tup _ [.int .u64 0,.iface _ _] rfl (λj t v ht hv=>?_)⟩
   match j with
   |0=>cases ht;cases hv;exact .d (.int _ _)
   |1=>cases ht;cases hv;exact .err _ _ (λ_=>⟨_,_,rfl⟩) (λh=>by cases h)
  ·obtain⟨t,x,hc⟩:=qo9 hV 3 (.inr rfl);refine(Try.strconv_ParseUint_10_at16_range ⟨s.toArray⟩ (by rw[hsz];omega) hp _ w hc (.inr ⟨t,x,rfl⟩)).mono ?_
   rintro e w' ⟨N,rfl,_,_,hb⟩
   refine⟨_,rfl,Step.of_below _ hb,.tup _ [.int .u64 _,.iface _ _] rfl (λj t v ht hv=>?_)⟩
   match j with
   |0=>cases ht;cases hv;exact .d (.int _ _)
   |1=>cases ht;cases hv;exact .err _ _ (λ_=>⟨_,_,rfl⟩) (λh=>by cases h)
theorem yf2(s:Ls)(hs:s.length<=1000000):FnOk Tryz.prog 99 [.d (.str s),.d (.int .i64 10),.d (.int .i64 32)] (.tup [.d (.int .u64 (qk1 32 s:Nat)),.err (yi 32 s).isNone]):=by
 refine⟨qb Tryz.func99 (by kernel_rfl) rfl,λM w vs hV hM hl hd=>?_⟩
 match vs,hl with
 |[v0,v1,v2],_ =>
  have h0:=y9 (hd 0 _ v0 rfl rfl);have h1:=jh (hd 1 _ v1 rfl rfl);have h2:=jh (hd 2 _ v2 rfl rfl);subst h0 h1 h2;have hsz:(⟨s.toArray⟩:ByteArray).size=s.length:=rfl;unfold yi qk1;cases hp:Lib.parseUintB 32 s
  ·rename_i u;refine(Try.strconv_ParseUint_10_at32_ok ⟨s.toArray⟩ (by rw[hsz];omega) u hp w).mono ?_
   rintro e w' ⟨rfl,hw⟩
   refine⟨_,rfl,?_,.tup _ [.int .u64 u,.nilIface] rfl (λj t v ht hv=>?_)⟩
   ·rcases hw with rfl|rfl
    ·exact Step.refl _ _
    ·exact yh8 w s
   ·match j with
    |0=>cases ht;cases hv;exact .d (.int _ _)
    |1=>cases ht;cases hv;exact .err _ _ (λh=>by cases h) (λ_=>rfl)
  ·obtain⟨t,x,hc⟩:=qo9 hV 2 (.inl rfl);refine(Try.strconv_ParseUint_10_at32_syntax ⟨s.toArray⟩ (by rw[hsz];omega) hp _ w hc (.inr ⟨t,x,rfl⟩)).mono ?_
   rintro e w' ⟨N,rfl,_,_,hb⟩
   refine⟨_,rfl,Step.of_below _ hb,.tup _ [.int .u64 0,.iface _ _] rfl (λj t v ht hv=>?_)⟩
   match j with
   |0=>cases ht;cases hv;exact .d (.int _ _)
   |1=>cases ht;cases hv;exact .err _ _ (λ_=>⟨_,_,rfl⟩) (λh=>by cases h)
  ·obtain⟨t,x,hc⟩:=qo9 hV 3 (.inr rfl);refine(Try.strconv_ParseUint_10_at32_range ⟨s.toArray⟩ (by rw[hsz];omega) hp _ w hc (.inr ⟨t,x,rfl⟩)).mono ?_
   rintro e w' ⟨N,rfl,_,_,hb⟩
   refine⟨_,rfl,Step.of_below _ hb,.tup _ [.int .u64 _,.iface _ _] rfl (λj t v ht hv=>?_)⟩
   match j with
   |0=>cases ht;cases hv;exact .d (.int _ _)
   |1=>cases ht;cases hv;exact .err _ _ (λ_=>⟨_,_,rfl⟩) (λh=>by cases h)
end Go.Proofs.YtoefgnnkajhmiaaGreatDoor
