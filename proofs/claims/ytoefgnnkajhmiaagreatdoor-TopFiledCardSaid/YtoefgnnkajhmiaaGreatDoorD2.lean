/-
  Part of the proof: lemmas about the functions that the row calls, and about the steps of a run. Conditions: those ahead of each lemma.
-/
import Derived.Test.YtoefgnnkajhmiaaGreatDoorD1
import Derived.Test.YtoefgnnkajhmiaaGreatDoorN4
import Derived.Test.YtoefgnnkajhmiaaGreatDoorN1
set_option linter.unusedVariables false
set_option linter.unusedSimpArgs false
set_option maxRecDepth 100000
set_option maxHeartbeats 64000000
namespace Go.Proofs.YtoefgnnkajhmiaaGreatDoor
open Go Go.Eng
structure Cw{α:Type}(P:α->Prop)(c:α->α->Int):Prop where
 anti:∀ a b,P a->P b->(c a b<0↔0<c b a)
 trans:∀ a b d,P a->P b->P d->c a b<=0->c b d<=0->c a d<=0
theorem Cw.lt_le{α:Type}{P:α->Prop}{c:α->α->Int}(h:Cw P c){a b d:α}(ha:P a)(hb:P b)(hd:P d)(h1:c a b<=0)(h2:c b d<0):c a d<0:=by
 have a1:=h.anti a d ha hd;have a2:=h.anti b d hb hd;have a3:=h.anti d a hd ha;have:=h.trans d a b hd ha hb;have a4:=h.anti d b hd hb;omega
theorem Cw.le_lt{α:Type}{P:α->Prop}{c:α->α->Int}(h:Cw P c){a b d:α}(ha:P a)(hb:P b)(hd:P d)(h1:c a b<0)(h2:c b d<=0):c a d<0:=by
 have a1:=h.anti a d ha hd;have a2:=h.anti a b ha hb;have a3:=h.anti d a hd ha;have:=h.trans b d a hb hd ha;have a4:=h.anti b a hb ha;omega
theorem Cw.sgn{α:Type}{P:α->Prop}{c c':α->α->Int}(h:Cw P c)(hs:∀ a b,P a->P b->(c' a b<0↔c a b<0)/\(c' a b=0↔c a b=0)):Cw P c' where
 anti a b ha hb:=by
  have:=h.anti a b ha hb;have:=hs a b ha hb;have:=hs b a hb ha;omega
 trans a b d ha hb hd:=by
  have:=h.trans a b d ha hb hd;have:=hs a b ha hb;have:=hs b d hb hd;have:=hs a d ha hd;omega
theorem cw_bytes:Cw (fun _=>True) Lib.compareBytes where
 anti a b _ _:=by
  have h1:=qj4 a b;have h2:=qj4 b a;have h3:=qu5 b a;constructor
  ·intro h;have e1:=h1.1 h;have e2:=qu6 a b e1;have:¬ Lib.compareBytes b a<0:=fun h=>by rw [h2.1 h] at e2;cases e2
   have:¬ Lib.compareBytes b a=0:=fun h=>by rw [h3.1 h,wu] at e1;cases e1
   omega
  ·intro h;apply h1.2;cases e:Op.bytesLess a b
   ·have:Op.bytesLess b a=false:=by
     cases e2:Op.bytesLess b a
     ·rfl
     ·have:=h2.2 e2;omega
    have:=h3.2 (qf4 b a this e);omega
   ·rfl
 trans a b d _ _ _ h1 h2:=by
  have c1:=qj4 d a;have hle:∀ x y:List UInt8,Lib.compareBytes x y<=0->Op.bytesLess y x=false:=fun x y h=>by
   cases e:Op.bytesLess y x
   ·rfl
   ·rcases Int.lt_or_eq_of_le h with h|h
    ·have:=qu6 x y ((qj4 x y).1 h);rw [this] at e;cases e
    ·rw [(qu5 x y).1 h,wu] at e;cases e
  have e:=jm7 d b a (hle b d h2) (hle a b h1);cases e2:Op.bytesLess a d
  ·have:=(qu5 a d).2 (qf4 a d e2 e);omega
  ·have:=(qj4 a d).2 e2;omega
theorem xp6(a b:List UInt8):(cmpS a b<0↔Lib.compareBytes a b<0)/\(cmpS a b=0↔Lib.compareBytes a b=0):=by
 have h1:=qj4 a b;have h2:=qu5 a b;unfold cmpS;rw[h1,h2];cases e:Op.bytesLess a b
 ·simp only[d6,if_false];split <;> simp_all
 ·have:¬ a=b:=fun h=>by rw [h,wu] at e;cases e
  simp[this]
theorem cw_S:Cw (fun _=>True) cmpS:=cw_bytes.sgn fun a b _ _=>xp6 a b
theorem x9:∀ l m:List (List UInt8),ye l m<0↔0<ye m l
 |[],[]=>by simp[ye]
 |[],_ :: _=>by simp[ye]
 |_ :: _,[]=>by simp[ye]
 |a :: l,b :: m=>by
  have ih:=x9 l m;have h1:=cw_S.anti a b trivial trivial;have h2:=cw_S.anti b a trivial trivial;simp only[ye];split <;> split <;> omega
theorem qy2:∀ l m n:List (List UInt8),ye l m<=0->ye m n<=0->ye l n<=0
 |[],_,[]=>by simp[ye]
 |[],_,_ :: _=>by simp[ye]
 |_ :: _,[],_=>by simp[ye]
 |_ :: _,_ :: _,[]=>by simp[ye]
 |a :: l,b :: m,c :: n=>by
  have ih:=qy2 l m n;have t1:=cw_S.trans a b c trivial trivial trivial;have t3:=@Cw.lt_le _ _ _ cw_S a b c trivial trivial trivial;have t4:=@Cw.le_lt _ _ _ cw_S a b c trivial trivial trivial;simp only[ye];split <;> split <;> split <;> omega
theorem ju0:Cw (fun _=>True) ye:=⟨fun a b _ _=>x9 a b,fun a b d _ _ _=>qy2 a b d⟩
theorem yh6{n:List UInt8}(h:qb n):fold n=mk (qq n).reverse:=by
 unfold qq;rw[r8];exact qa6 h
theorem yc6{α:Type}[DecidableEq α]:∀ {l m:List α},l.Nodup->m.Nodup->(∀ x,x ∈ l↔x ∈ m)->l.Perm m
 |[],m,_,_,h=>by
  have:m=[]:=az.2 fun x hx=>by have:=(h x).2 hx;cases this
  rw[this]
 |a :: l,m,h1,h2,h=>by
  rw [List.nodup_cons] at h1;have ha:a ∈ m:=(h a).1 (by simp);refine .trans (.cons a ?_) (List.perm_cons_erase ha).symm;refine yc6 h1.2 (h2.erase a) fun x=>?_
  rw[h2.mem_erase_iff];constructor
  ·intro hx;exact⟨fun e=>h1.1 (e ▸ hx),(h x).1 (by simp[hx])⟩
  ·rintro ⟨hx1,hx2⟩
   rcases pv.1 ((h x).2 hx2) with e|hx
   ·exact absurd e hx1
   ·exact hx
theorem xg8{n:Nat}{q:Nat->Nat}(hq:Inj n q):((List.range n).map q).Perm (List.range n):=by
 refine yc6 ?_ List.nodup_range fun x=>?_
 ·unfold List.Nodup;rw[List.pairwise_map];refine(List.nodup_range (n:=n)).imp_of_mem fun {a b} ha hb hab e=>?_
  exact hab (hq.un a b (lr.1 ha) (lr.1 hb) e)
 ·rw[lz,lr];constructor
  ·rintro ⟨i,hi,rfl⟩
   exact hq.lt i (lr.1 hi)
  ·intro hx;obtain⟨i,hi,e⟩:=hq.surj x hx;exact⟨i,lr.2 hi,e⟩
def cmpZ(L:List (List UInt8))(x y:Nat):Int:=ye (qq (L.getD x default)) (qq (L.getD y default))
def leZ(L:List (List UInt8))(i j:Nat):Bool:=decide (cmpZ L i j<0) || (decide (cmpZ L i j=0) && decide (i<=j))
theorem qu2(L:List (List UInt8))(i j:Nat):leZ L i j=true↔cmpZ L i j<0\/(cmpZ L i j=0/\i<=j):=by
 unfold leZ;simp
theorem zy2(L:List (List UInt8))(a b c:Nat)(h1:leZ L a b=true)(h2:leZ L b c=true):leZ L a c=true:=by
 rw [qu2] at *;unfold cmpZ at *;have t1:=qy2 (qq (L.getD a default)) (qq (L.getD b default)) (qq (L.getD c default));have t2:=@Cw.lt_le _ _ _ ju0 (qq (L.getD a default)) (qq (L.getD b default)) (qq (L.getD c default)) trivial trivial trivial;have t3:=@Cw.le_lt _ _ _ ju0 (qq (L.getD a default)) (qq (L.getD b default)) (qq (L.getD c default)) trivial trivial trivial;omega
theorem zy3(L:List (List UInt8))(a b:Nat):(leZ L a b || leZ L b a)=true:=by
 rw[cq,qu2,qu2];unfold cmpZ;have a1:=x9 (qq (L.getD a default)) (qq (L.getD b default));have a2:=x9 (qq (L.getD b default)) (qq (L.getD a default));omega
theorem xg4(L:List (List UInt8))(a b:Nat)(h1:leZ L a b=true)(h2:leZ L b a=true):a=b:=by
 rw [qu2] at *;unfold cmpZ at *;have a1:=x9 (qq (L.getD a default)) (qq (L.getD b default));have a2:=x9 (qq (L.getD b default)) (qq (L.getD a default));omega
theorem yo6{α:Type}{le:α->α->Prop}(anti:∀ a b,le a b->le b a->a=b):∀ {l m:List α},l.Perm m->l.Pairwise le->m.Pairwise le->l=m
 |[],m,hp,_,_=>by rw[List.nil_perm.1 hp]
 |a :: l,[],hp,_,_=>by have:=hp.length_eq;simp at this
 |a :: l,b :: m,hp,h1,h2=>by
  have hab:a=b:=by
   rw [fy] at h1 h2;have ha:a ∈ b :: m:=hp.mem_iff.1 (by simp);have hb:b ∈ a :: l:=hp.mem_iff.2 (by simp);rcases pv.1 ha with e|ha
   ·exact e
   rcases pv.1 hb with e|hb
   ·exact e.symm
   exact anti a b (h1.1 b hb) (h2.1 a ha)
  subst hab;rw [fy] at h1 h2;rw[yo6 anti hp.cons_inv h1.2 h2.2]
def qv9(L:List (List UInt8)):List Nat:=(List.range L.length).mergeSort (leZ L)
theorem qy6(L:List (List UInt8)):(qv9 L).Perm (List.range L.length):=List.mergeSort_perm _ _
theorem zu1(L:List (List UInt8)):(qv9 L).length=L.length:=by rw[(qy6 L).length_eq,bn]
theorem xd6(L:List (List UInt8)):(qv9 L).Pairwise fun a b=>leZ L a b=true:=List.pairwise_mergeSort (zy2 L) (zy3 L) _
def xf(L:List (List UInt8)):List (List UInt8):=(qv9 L).map fun i=>L.getD i default
theorem yg6(L:List (List UInt8)):(xf L).length=L.length:=by unfold xf;rw[mn,zu1]
theorem yg5(L:List (List UInt8))(n:List UInt8):n ∈ xf L↔n ∈ L:=by
 unfold xf;rw[lz];constructor
 ·rintro ⟨i,hi,rfl⟩
  have hi:=lr.1 ((qy6 L).mem_iff.1 hi);rw[gr,pp hi];exact d5 hi
 ·intro h;obtain⟨i,hi,rfl⟩:=o9.1 h;refine⟨i,(qy6 L).mem_iff.2 (lr.2 hi),?_⟩;rw[gr,pp hi];rfl
theorem xd5(L:List (List UInt8))(q:Nat->Nat)(hq:Inj L.length q)(hr:Rise (LL fun x y=>decide (cmpZ L x y<0)) q 0 L.length):∀ i,i<L.length->L.getD (q i) default=(xf L).getD i default:=by
 have e:(List.range L.length).map q=qv9 L:=by
  refine yo6 (le:=fun a b=>leZ L a b=true) (xg4 L) ((xg8 hq).trans (qy6 L).symm) ?_ (xd6 L);rw[List.pairwise_map,List.pairwise_iff_getElem];intro i j hi hj hij;rw[List.getElem_range,List.getElem_range];simp only [bn] at hi hj;rw[qu2];rcases hr i j (pz _) hij hj with h|⟨h,h2⟩
  ·exact .inl (pu h)
  ·have h:¬ cmpZ L (q j) (q i)<0:=pw h;have a1:=x9 (qq (L.getD (q i) default)) (qq (L.getD (q j) default));have a2:=x9 (qq (L.getD (q j) default)) (qq (L.getD (q i) default));unfold cmpZ at *;omega
 intro i hi;unfold xf;rw[<-e,dy];have h2:(List.map ((fun i=>L.getD i default) ∘ q) (List.range L.length))[i]? = some (L.getD (q i) default):=by
  rw[o4,co hi];rfl
 rw[gr (l:=List.map _ _),h2];rfl
theorem xt9(L:List (List UInt8)):Weak L.length fun x y=>decide (cmpZ L x y<0):=by
 unfold cmpZ;refine⟨fun i j hi hj h=>?_,fun i j k hi hj hk h1 h2=>?_,fun i j k hi hj hk h1 h2=>?_⟩
 ·have a1:=x9 (qq (L.getD i default)) (qq (L.getD j default));have:=pu h;exact po (by omega)
 ·have a1:=@Cw.lt_le _ _ _ ju0 (qq (L.getD i default)) (qq (L.getD j default)) (qq (L.getD k default)) trivial trivial trivial;have h1:=pu h1;have h2:=pu h2;exact pn (a1 (by omega) h2)
 ·have b1:=x9 (qq (L.getD j default)) (qq (L.getD i default));have b2:=x9 (qq (L.getD k default)) (qq (L.getD j default));have b3:=x9 (qq (L.getD i default)) (qq (L.getD k default));have b4:=x9 (qq (L.getD i default)) (qq (L.getD j default));have b5:=x9 (qq (L.getD j default)) (qq (L.getD k default));have b6:=x9 (qq (L.getD k default)) (qq (L.getD i default));have a4:=qy2 (qq (L.getD k default)) (qq (L.getD j default)) (qq (L.getD i default));have h1:=pw h1;have h2:=pw h2;exact po (by omega)
def v8(P:List (List UInt8))(i:Nat):Bool:=i == 0 || qq (P.getD i default) != qq (P.getD (i - 1) default)
def u3(P:List (List UInt8))(i:Nat):List (List UInt8):=((List.range i).filter (v8 P)).map fun i=>P.getD i default
theorem qy9(P:List (List UInt8))(i:Nat):u3 P (i+1)=if v8 P i then u3 P i++[P.getD i default] else u3 P i:=by
 unfold u3;rw[List.range_succ,d8];cases h:v8 P i <;> simp[h]
theorem jl7(P:List (List UInt8)):∀ i,(u3 P i).length<=i
 |0=>pr 0
 |i+1=>by
  have:=jl7 P i;rw[qy9];split
  ·simp;omega
  ·omega
theorem jl6{P:List (List UInt8)}{n:List UInt8}:∀ {i:Nat},i<=P.length->n ∈ u3 P i->n ∈ P
 |0,_,h=>by cases h
 |i+1,hi,h=>by
  rw [qy9] at h;have hg:P.getD i default ∈ P:=by
   rw[gr,pp (by omega)];exact d5 _
  split at h
  ·rcases o3.1 h with h|h
   ·exact jl6 (by omega) h
   ·simp only [lv] at h;subst h;exact hg
  ·exact jl6 (by omega) h
theorem jl8{P:List (List UInt8)}:∀ {i j:Nat},j<i->∃ n ∈ u3 P i,qq n=qq (P.getD j default)
 |0,_,h=>by omega
 |i+1,j,h=>by
  rw[qy9];by_cases hj:j<i
  ·obtain⟨n,hn,e⟩:=@jl8 P i j hj;refine⟨n,?_,e⟩;split
   ·exact aw _ hn
   ·exact hn
  ·have hj:j=i:=by omega
   subst hj;cases hk:v8 P j with
   |true=>exact⟨P.getD j default,by simp,rfl⟩
   |false =>
    unfold v8 at hk;simp only [au,bne_eq_false_iff_eq,mq] at hk;obtain⟨n,hn,e⟩:=@jl8 P j (j - 1) (by omega);exact⟨n,by simpa using hn,by rw[e,hk.2]⟩
def zd(l:List (List UInt8)):List (List UInt8):=u3 (xf (l.filter fun n=>decide (qb n))) (l.filter fun n=>decide (qb n)).length
theorem up{l:List (List UInt8)}{n:List UInt8}(h:n ∈ zd l):n ∈ l/\qb n:=by
 have h:=jl6 (by rw[yg6];exact pr _) h;rw [yg5] at h;obtain⟨h1,h2⟩:=cn.1 h;exact⟨h1,pu h2⟩
theorem jl2{l:List (List UInt8)}{n:List UInt8}(h:n ∈ l)(hn:qb n):∃ m ∈ zd l,fold m=fold n:=by
 have h:n ∈ xf (l.filter fun n=>decide (qb n)):=(yg5 _ _).2 (cn.2 ⟨h,pn hn⟩);obtain⟨j,hj,e⟩:=o9.1 h;obtain ⟨m,hm,e1⟩:=@jl8 (xf (l.filter fun n=>decide (qb n))) _ j (show j<(l.filter fun n=>decide (qb n)).length by rw [yg6] at hj;exact hj);refine⟨m,hm,?_⟩;rw[yh6 (up hm).2,yh6 hn,e1,gr,pp hj,<-e];rfl
theorem yg7(l:List (List UInt8)):(zd l).length<=l.length:=l9 (jl7 _ _) (d9 _ _)
def plW(n:List UInt8):List DV:=[.str n,.sl (qq n).isEmpty (qq n).length 1 (strs (qq n))]
def plV(n:List UInt8):SV:=.agg ((plW n).map .d)
theorem qy7(n:List UInt8):(qq n).length<=1000000:=by
 by_cases h:qb n
 ·have:=xe1 h;omega
 ·have e:qd7 n=none:=by
   cases e:qd7 n
   ·rfl
   ·exact absurd ((jw1 n).2 (by rw[e];rfl)) h
  unfold qq fl labN;rw[e];simp
theorem jd0(a b:List UInt8):FnOk Tryz.prog 173 [plV a,plV b] (.d (.int .i64 (ye (qq a) (qq b)))):=by
 refine qu (TT:=TT) (IN:=qe []) qg qh mixed 1000 Tryz.func173 rfl (qd Tryz.func173 (by kernel_rfl) rfl) rfl 8 (by kernel_rfl) ?_;conv=>whnf
 refine oD (xj2 _ _ _ _ (qy7 a) (qy7 b)) rfl rfl ?_;conv=>whnf
 repeat'(first|exact ⟨⟩|exact rfl|exact fun _=>Iff.rfl|exact fun _ _=>rfl|exact renM_ent rfl _|apply And.intro)
def zcel(L:List (List UInt8))(x:Nat):List DV:=plW (L.getD x default)
def yh(L:List (List UInt8))(n:Nat)(z:Z)(p:Nat->Nat):KB:=.row 218 2 n z (fun i=>zcel L (p i))
def zltC(c:Nat->Nat->Int)(x y:Nat):Bool:=decide (c x y<0)
theorem qz4 L (q:Nat->Nat) (j y:Nat):oneF j 0 (zcel L y) (fun i=>zcel L (q i))=fun i=>zcel L (upd q j y i):=by
 funext i;unfold oneF upd;split
 ·rfl
 ·rfl
theorem ym4{α:Type}(q:Nat->α)(j k:Nat)(h:j<k):upd (upd q j (q k)) k (q j)=swp q j k 1:=by
 funext x;unfold upd swp;(try dsimp only);repeat' split
 all_goals first|rfl|(exfalso;omega)|(congr 1;omega)
theorem yf3(L:List (List UInt8))(q:Nat->Nat)(j k:Nat)(h:j<k):oneF k 0 (zcel L (q j)) (oneF j 0 (zcel L (q k)) (fun x=>zcel L (q x)))=fun x=>zcel L (swp q j k 1 x):=by
 rw[qz4,qz4,ym4 q j k h]
theorem yb2(L:List (List UInt8))(q:Nat->Nat)(j k:Nat)(h:j<k):oneF j 0 (zcel L (q k)) (oneF k 0 (zcel L (q j)) (fun x=>zcel L (q x)))=fun x=>zcel L (swp q j k 1 x):=by
 rw[qz4,qz4,<-ym4 q j k h];funext x;unfold upd;repeat' split
 all_goals first|rfl|omega|(congr 1;omega)
theorem jn0(L:List (List UInt8))(n:Nat)(hn:n<1152921504606846976)(z:Z)(p:Nat->Nat)(a b m:Nat)(ha:a+m<=n)(hb:b+m<=n)(hab:a+m<=b):COk Tryz.prog 217 [.all 0,iV a,iV b,iV m,.any] [yh L n z p] (fun s k=>s = .tup []/\k=[yh L n z (swp p a b m)]):=by
 refine jn (TT:=TT) (IN:=qe []) qg qh mixed 1000 Tryz.func217 rfl (qd Tryz.func217 (by kernel_rfl) rfl) 33 (by kernel_rfl) ?_;conv=>whnf
 refine .inv Nat (fun i=>i<=m) (fun i=>[(10,iV i)]) (fun i=>[(0,yh L n z (swp p a b i))]) (fun i=>m - i) ⟨0,[0],by omega,?_⟩ ?_
 ·conv=>whnf
  rw[yn1];exact rZ2
 intro i hi;conv=>whnf
 refine⟨fun h1=>?_,fun h1=>?_⟩
 ·have h1:i<m:=by
   have h:(i:Int)<m:=pu h1;omega
  have e1:IntKind.i64.wrap ((a:Int)+(i:Int))=((a+i:Nat):Int):=by rw[qa _ (by omega)];omega
  have e2:IntKind.i64.wrap ((b:Int)+(i:Int))=((b+i:Nat):Int):=by rw[qa _ (by omega)];omega
  conv=>whnf
  refine⟨?_,?_,?_,?_⟩;rotate_left 2
  ·conv=>whnf
   rw[e1,e2];exact rZ3
  ·conv=>whnf
   refine⟨i+1,[0],by omega,by show m - (i+1)<m - i;omega,?_⟩;have e3:=w64s i (by omega);rw[e3];conv=>whnf
   repeat'(first|exact ⟨⟩|exact rfl|exact jd _|exact .inr rfl|exact fun _ _=>rfl|exact noI|apply And.intro)
   intro x hx;rw[e1];exact(congrFun (yf3 L (swp p a b i) (a+i) (b+i) (by omega)) x).trans (congrArg (fun f=>zcel L (f x)) (yu1 p a b i (by omega)))
 ·have h1:i=m:=by
   have h:¬ ((i:Int)<m):=pw h1;omega
  subst h1;conv=>whnf
  refine⟨[0],_,_,rfl,rfl,?_,?_,rfl,rfl⟩
  ·exact rfl
  ·conv=>whnf
   exact rZ2
theorem zm5(L:List (List UInt8))(n:Nat)(hn:n<1152921504606846976)(z:Z)(p:Nat->Nat)(a m b:Nat)(ha:a<m)(hb:m<b)(hbn:b<=n):COk Tryz.prog 215 [.all 0,iV a,iV m,iV b,.any] [yh L n z p] (fun s k=>s = .tup []/\k=[yh L n z (rot p a m b)]):=by
 refine jn (TT:=TT) (IN:=qe []) qg qh mixed 1000 Tryz.func215 rfl (qd Tryz.func215 (by kernel_rfl) rfl) 53 (by kernel_rfl) ?_;have e1:IntKind.i64.wrap ((m:Int) - (a:Int))=((m - a:Nat):Int):=by rw[qa _ (by omega)];omega
 have e2:IntKind.i64.wrap ((b:Int) - (m:Int))=((b - m:Nat):Int):=by rw[qa _ (by omega)];omega
 conv=>whnf
 rw[e1,e2];refine .inv (Nat × Nat × (Nat->Nat)) (fun s=>0<s.1/\0<s.2.1/\s.1<=m - a/\s.2.1<=b - m/\rot s.2.2 (m - s.1) m (m+s.2.1)=rot p a m b) (fun s=>[(10,iV s.1),(11,iV s.2.1)]) (fun s=>[(0,yh L n z s.2.2)]) (fun s=>s.1+s.2.1) ⟨(m - a,b - m,p),[0],show 0<m - a/\0<b - m/\m - a<=m - a/\b - m<=b - m/\rot p (m - (m - a)) m (m+(b - m))=rot p a m b from⟨by omega,by omega,by omega,by omega,?_⟩,?_⟩ ?_
 ·rw[show m - (m - a)=a by omega,show m+(b - m)=b by omega]
 ·conv=>whnf
  exact rZ2
 intro s hs;obtain⟨i,j,q⟩:=s;obtain⟨h0,h00,him,hjb,hq⟩:=hs;dsimp only at h0 h00 him hjb hq;conv=>whnf
 refine⟨fun h1=>?_,fun h1=>?_⟩
 ·have h1:¬ i=j:=fun e=>by subst e;simp at h1
  conv=>whnf
  refine⟨fun h2=>?_,fun h2=>?_⟩
  ·have h2:j<i:=by
    have h:(i:Int) > j:=pu h2;omega
   have e3:IntKind.i64.wrap ((m:Int) - (i:Int))=((m - i:Nat):Int):=by rw[qa _ (by omega)];omega
   conv=>whnf
   rw[e3];refine .rel _ (jn0 L n hn z q (m - i) m j (by omega) (by omega) (by omega)) (fun r ks' hR=>?_);obtain⟨rfl,rfl⟩:=hR;have e4:IntKind.i64.wrap ((i:Int) - (j:Int))=((i - j:Nat):Int):=by rw[qa _ (by omega)];omega
   conv=>whnf
   rw[e4];refine⟨(i - j,j,swp q (m - i) m j),[0],(show 0<i - j/\0<j/\i - j<=m - a/\j<=b - m/\rot (swp q (m - i) m j) (m - (i - j)) m (m+j)=rot p a m b from⟨by omega,by omega,by omega,by omega,(yn8 q m i j h2 (by omega)).trans hq⟩),by show i - j+j<i+j;omega,?_⟩;conv=>whnf
   exact rZ2
  ·have h2:i<j:=by
    have h:¬ ((i:Int) > j):=pw h2;omega
   have e3:IntKind.i64.wrap ((m:Int) - (i:Int))=((m - i:Nat):Int):=by rw[qa _ (by omega)];omega
   have e5:IntKind.i64.wrap (IntKind.i64.wrap ((m:Int)+(j:Int)) - (i:Int))=((m+j - i:Nat):Int):=by rw[qa ((m:Int)+j) (by omega),qa _ (by omega)];omega
   conv=>whnf
   rw[e3,e5];refine .rel _ (jn0 L n hn z q (m - i) (m+j - i) i (by omega) (by omega) (by omega)) (fun r ks' hR=>?_);obtain⟨rfl,rfl⟩:=hR;have e4:IntKind.i64.wrap ((j:Int) - (i:Int))=((j - i:Nat):Int):=by rw[qa _ (by omega)];omega
   conv=>whnf
   rw[e4];refine⟨(i,j - i,swp q (m - i) (m+j - i) i),[0],(show 0<i/\0<j - i/\i<=m - a/\j - i<=b - m/\rot (swp q (m - i) (m+j - i) i) (m - i) m (m+(j - i))=rot p a m b from⟨by omega,by omega,by omega,by omega,(yh2 q m i j h2 (by omega)).trans hq⟩),by show i+(j - i)<i+j;omega,?_⟩;conv=>whnf
   exact rZ2
 ·have h1:i=j:=by simp at h1;omega
  subst h1;have e3:IntKind.i64.wrap ((m:Int) - (i:Int))=((m - i:Nat):Int):=by rw[qa _ (by omega)];omega
  conv=>whnf
  rw[e3];refine .rel _ (jn0 L n hn z q (m - i) m i (by omega) (by omega) (by omega)) (fun r ks' hR=>?_);obtain⟨rfl,rfl⟩:=hR;rw[yn7 q m i (by omega),hq];conv=>whnf
  refine⟨[0],_,_,rfl,rfl,?_,?_,rfl,rfl⟩
  ·exact rfl
  ·conv=>whnf
   exact rZ2
theorem yt3(L:List (List UInt8))(n:Nat)(hn:n<1152921504606846976)(z:Z)(p:Nat->Nat)(hw:Weak n (zltC (cmpZ L)))(hp:Inj n p)(a b:Nat)(hab:a<=b)(hb:b<=n)(hasc:∀ i j,a<=i->i<j->j<b->p i<p j):COk Tryz.prog 209 [.all 0,iV a,iV b,.fn 173 []] [yh L n z p] (fun s k=>s = .tup []/\∃ r,Merged (L:=LL (zltC (cmpZ L))) p r n a b/\k=[yh L n z r]):=by
 refine jn (TT:=TT) (IN:=qe []) qg qh mixed 1000 Tryz.func209 rfl (qd Tryz.func209 (by kernel_rfl) rfl) 49 (by kernel_rfl) ?_;have e1:=w64s a (by omega);conv=>whnf
 rw[e1];refine .inv (Nat × (Nat->Nat)) (fun s=>a+1<=s.1/\(s.1<=b\/(s.1=a+1/\s.2=p))/\Merged (L:=LL (zltC (cmpZ L))) p s.2 n a s.1) (fun s=>[(8,iV s.1)]) (fun s=>[(0,yh L n z s.2)]) (fun s=>n+1 - s.1) ⟨(a+1,p),[0],show a+1<=a+1/\(a+1<=b\/(a+1=a+1/\p=p))/\Merged (L:=LL (zltC (cmpZ L))) p p n a (a+1) from⟨by omega,.inr ⟨rfl,rfl⟩,.stay hp (fun i j _ _ _=>by omega)⟩,?_⟩ ?_
 ·conv=>whnf
  exact rZ2
 intro s hs;obtain⟨i,q⟩:=s;obtain⟨hai,hib,hm⟩:=hs;have hai:a+1<=i:=hai;have hib:i<=b\/(i=a+1/\q=p):=hib;have hm:Merged (L:=LL (zltC (cmpZ L))) p q n a i:=hm;conv=>whnf
 refine⟨fun h1=>?_,fun h1=>?_⟩
 ·have h1:i<b:=by
   have h:(i:Int)<b:=pu h1;omega
  have asc:∀ t,a<=t->t<i->q t<q i:=fun t h3 h4=>by
   obtain⟨t',b1,b2,b3⟩:=hm.same.fwd t h3 h4;rw[b3,hm.same.out i (by omega)];exact hasc t' i b1 b2 h1
  have next:∀ j,a<=j->j<=i->(j=a\/LL (zltC (cmpZ L)) (q (j - 1)) (q i))->(j=i\/LL (zltC (cmpZ L)) (q i) (q j))->Merged (L:=LL (zltC (cmpZ L))) p (rot q j i (i+1)) n a (i+1):=fun j h3 h4 h5 h6=>by
   have:=jd9 hw.ord hm.inj (show i<n by omega) h3 h4 hm.rise h5 h6;exact⟨this.inj,(hm.same.wide (pr _) (by omega)).trans this.same,this.rise⟩
  have e6:=w64s i (by omega);conv=>whnf
  refine .inv Nat (fun j=>a<=j/\j<=i/\(j=i\/LL (zltC (cmpZ L)) (q i) (q j))) (fun j=>[(9,iV j)]) (fun j=>[(0,yh L n z (rot q j i (i+1)))]) (fun j=>j) ⟨i,[0],⟨by omega,by omega,.inl rfl⟩,?_⟩ ?_
  ·conv=>whnf
   rw[qm8 q i (i+1) (by omega)]
   exact rZ2
  intro j hj;obtain⟨haj,hji,hjL⟩:=hj;conv=>whnf
  refine⟨fun h2=>?_,fun h2=>?_⟩
  ·have h2:a<j:=by
    have h:(j:Int) > a:=pu h2;omega
   have e2:IntKind.i64.wrap ((j:Int) - 1)=((j - 1:Nat):Int):=by rw[qa _ (by omega)];omega
   have e3:rot q j i (i+1) j=q i:=by rw[qw1 q (by omega) (by omega)];congr 1;omega
   have e4:rot q j i (i+1) (j - 1)=q (j - 1):=qf8 q (by omega) (by omega) (by omega);conv=>whnf
   refine⟨by omega,?_⟩;conv=>whnf
   rw[e2];refine⟨by omega,?_⟩;conv=>whnf
   rw[px,px,e3,e4];refine .data _ (jd0 _ _) rfl rfl ?_;conv=>whnf
   refine⟨fun h3=>?_,fun h3=>?_⟩
   ·have h3:zltC (cmpZ L) (q i) (q (j - 1))=true:=h3;conv=>whnf
    refine⟨?_,?_,?_,?_⟩;rotate_left 2
    ·conv=>whnf
     rw[e2];exact rZ3
    ·conv=>whnf
     rw[e2];refine⟨j - 1,[0],⟨by omega,by omega,.inr (.inl h3)⟩,by omega,?_⟩;conv=>whnf
     repeat'(first|exact ⟨⟩|exact rfl|exact jd _|exact .inr rfl|exact fun _ _=>rfl|exact noI|apply And.intro)
     intro x hx;rw[px,px];have:=yb2 L (rot q j i (i+1)) (j - 1) j (by omega);have e5:=jb2 q i (j - 1) (by omega);rw [show j - 1+1=j by omega] at e5;exact(congrFun this x).trans (congrArg (fun f=>zcel L (f x)) e5)
   ·have h3:zltC (cmpZ L) (q i) (q (j - 1))=false:=h3;have hL:LL (zltC (cmpZ L)) (q (j - 1)) (q i):=.inr ⟨h3,asc (j - 1) (by omega) (by omega)⟩;conv=>whnf
    refine⟨(i+1,rot q j i (i+1)),[0],(show a+1<=i+1/\(i+1<=b\/(i+1=a+1/\rot q j i (i+1)=p))/\Merged (L:=LL (zltC (cmpZ L))) p (rot q j i (i+1)) n a (i+1) from⟨by omega,.inl (by omega),next j haj hji (.inr hL) hjL⟩),by show n+1 - (i+1)<n+1 - i;omega,?_⟩;conv=>whnf
    rw[e6];exact rZ2
  ·have h2:j=a:=by
    have h:¬ ((j:Int) > a):=pw h2;omega
   conv=>whnf
   refine⟨(i+1,rot q j i (i+1)),[0],(show a+1<=i+1/\(i+1<=b\/(i+1=a+1/\rot q j i (i+1)=p))/\Merged (L:=LL (zltC (cmpZ L))) p (rot q j i (i+1)) n a (i+1) from⟨by omega,.inl (by omega),next j haj hji (.inl h2) hjL⟩),by show n+1 - (i+1)<n+1 - i;omega,?_⟩;conv=>whnf
   rw[e6];exact rZ2
 ·have h1:b<=i:=by
   have h:¬ ((i:Int)<b):=pw h1;omega
  conv=>whnf
  refine⟨[0],_,_,rfl,rfl,?_,?_,rfl,q,?_,rfl⟩
  ·exact rfl
  ·conv=>whnf
   exact rZ2
  ·rcases hib with h|h
   ·have:i=b:=by omega
    rw[<-this];exact hm
   ·rw[h.2];exact .stay hp (fun i j _ _ _=>by omega)
theorem xk6(L:List (List UInt8))(n:Nat)(hn:n<1152921504606846976)(z:Z)(p:Nat->Nat)(a m b:Nat)(ha:a<m)(hb:m<b)(hbn:b<=n):COk Tryz.prog 215 [.all 0,iV a,iV m,iV b,.fn 173 []] [yh L n z p] (fun s k=>s = .tup []/\k=[yh L n z (rot p a m b)]):=by
 refine COk.anyA (COk.frame (zm5 L n hn z p a m b ha hb hbn) [0] («as»:=[.all 0,iV a,iV m,iV b,.any]) rfl rfl rfl (fun s0 k0 h=>?_)) ⟨.inr rfl,.inr rfl,.inr rfl,.inr rfl,.inl rfl,True.intro⟩;obtain⟨rfl,rfl⟩:=h;exact⟨rfl,rfl⟩
theorem jf6(i j:Nat)(h:i+j<9223372036854775808):IntKind.i64.wrap ((IntKind.u64.wrap (IntKind.i64.wrap ((i:Int)+(j:Int)))).fdiv (2 ^ (min (Int.toNat 1) IntKind.u64.bits)))=(((i+j) / 2:Nat):Int):=by
 rw[qa ((i:Int)+(j:Int)) (by omega),IntKind.wrap_u64];rw[show(2:Int) ^ (min (Int.toNat 1) IntKind.u64.bits)=2 from rfl,Int.fdiv_eq_ediv_of_nonneg _ (by omega)];rw[qa _ (by omega)];omega
theorem yt1(L:List (List UInt8))(n:Nat)(hn:n<1152921504606846976)(z:Z)(hw:Weak n (zltC (cmpZ L))):∀ (k:Nat) (p:Nat->Nat) (a m b:Nat),b - a<k->Inj n p->a<m->m<b->b<=n->Rise (LL (zltC (cmpZ L))) p a m->Rise (LL (zltC (cmpZ L))) p m b->Sep p a m b ->
 COk Tryz.prog 210 [.all 0,iV a,iV m,iV b,.fn 173 []] [yh L n z p] (fun s k=>s = .tup []/\∃ r,Merged (L:=LL (zltC (cmpZ L))) p r n a b/\k=[yh L n z r]):=by
 intro k;induction k with
 |zero=>intro p a m b h;omega
 |succ k ih =>
 intro p a m b hk hp ham hmb hbn h1 h2 hs;refine jn (TT:=TT) (IN:=qe []) qg qh mixed 1000 Tryz.func210 rfl (qd Tryz.func210 (by kernel_rfl) rfl) 215 (by kernel_rfl) ?_;have e1:IntKind.i64.wrap ((m:Int) - (a:Int))=((m - a:Nat):Int):=by rw[qa _ (by omega)];omega
 have e2:IntKind.i64.wrap ((b:Int) - (m:Int))=((b - m:Nat):Int):=by rw[qa _ (by omega)];omega
 conv=>whnf
 rw[e1];refine⟨fun c1=>?_,fun c1=>?_⟩
 ·have c1:m=a+1:=by simp at c1;omega
  subst c1;conv=>whnf
  refine .inv (Nat × Nat) (fun s=>a+1<=s.1/\s.1<=s.2/\s.2<=b/\(s.1=a+1\/LL (zltC (cmpZ L)) (p (s.1 - 1)) (p a))/\(s.2=b\/LL (zltC (cmpZ L)) (p a) (p s.2))) (fun s=>[(10,iV s.1),(11,iV s.2)]) (fun s=>[]) (fun s=>s.2 - s.1) ⟨(a+1,b),[0],⟨show a+1<=a+1 by omega,show a+1<=b by omega,show b<=b by omega,.inl rfl,.inl rfl⟩,?_⟩ ?_
  ·conv=>whnf
   exact rZ2
  intro s hs2;obtain⟨q1,q2,q3,q4,q5⟩:=hs2;conv=>whnf
  generalize s.1=i at q1 q2 q4 ⊢;generalize s.2=j at q2 q3 q5 ⊢;refine⟨fun h3=>?_,fun h3=>?_⟩
  ·have h3:i<j:=by
    have h:(i:Int)<j:=pu h3;omega
   conv=>whnf
   refine⟨by omega,?_⟩;conv=>whnf
   rw[jf6 i j (by omega)];have g1:i<=(i+j) / 2:=by omega
   have g2:(i+j) / 2<j:=by omega
   generalize (i+j) / 2=h at g1 g2 ⊢;refine⟨by omega,?_⟩;conv=>whnf
   refine⟨by omega,?_⟩;conv=>whnf
   rw[px,px];refine .data _ (jd0 _ _) rfl rfl ?_;conv=>whnf
   refine⟨fun h4=>?_,fun h4=>?_⟩
   ·have h4:zltC (cmpZ L) (p h) (p a)=true:=h4;conv=>whnf
    rw[show IntKind.i64.wrap ((h:Int)+1)=((h+1:Nat):Int) by rw[qa _ (by omega)];omega];refine⟨(h+1,j),[0],⟨show a+1<=h+1 by omega,show h+1<=j by omega,q3,.inr (.inl h4),q5⟩,by show j - (h+1)<j - i;omega,?_⟩;conv=>whnf
    exact rZ2
   ·have h4:zltC (cmpZ L) (p h) (p a)=false:=h4;conv=>whnf
    refine⟨(i,h),[0],⟨q1,g1,show h<=b by omega,q4,.inr (.inr ⟨h4,hs a h (by omega) (by omega) (by omega) (by omega)⟩)⟩,by show h - i<j - i;omega,?_⟩;conv=>whnf
    exact rZ2
  ·have h3:i=j:=by
    have h:¬ (i:Int)<j:=pw h3;omega
   subst h3;have hfin:=za1 hw.ord hp hbn q1 q3 h2 q4 q5;have ei:IntKind.i64.wrap ((i:Int) - 1)=((i - 1:Nat):Int):=by rw[qa _ (by omega)];omega
   conv=>whnf
   refine .inv Nat (fun k=>a<=k/\k+1<=i) (fun k=>[(13,iV k)]) (fun k=>[(0,yh L n z (rot p a (a+1) (k+1)))]) (fun k=>i - k) ⟨a,[0],⟨by omega,by omega⟩,?_⟩ ?_
   ·conv=>whnf
    rw[jd2 p a (a+1) (by omega)]
    exact rZ2
   intro k hk2;obtain⟨r1,r2⟩:=hk2;conv=>whnf
   rw[ei];refine⟨fun h3=>?_,fun h3=>?_⟩
   ·have h3:k<i - 1:=by
     have h:(k:Int)<((i - 1:Nat):Int):=pu h3;omega
    have ek:=w64s k (by omega);conv=>whnf
    refine⟨?_,?_,?_,?_⟩;rotate_left 2
    ·conv=>whnf
     rw[ek];exact rZ3
    ·conv=>whnf
     rw[ek];refine⟨k+1,[0],⟨by omega,by omega⟩,by omega,?_⟩;conv=>whnf
     repeat'(first|exact ⟨⟩|exact rfl|exact jd _|exact .inr rfl|exact fun _ _=>rfl|exact noI|apply And.intro)
     intro x hx;rw[px,px];have:=yf3 L (rot p a (a+1) (k+1)) k (k+1) (by omega);exact(congrFun this x).trans (congrArg (fun f=>zcel L (f x)) (yx9 p a k (by omega)))
   ·have h3:k+1=i:=by
     have h:¬ (k:Int)<((i - 1:Nat):Int):=pw h3;omega
    rw[h3];conv=>whnf
    refine⟨[0],_,_,rfl,rfl,?_,?_,rfl,_,hfin,rfl⟩
    ·exact rfl
    ·conv=>whnf
     exact rZ2
 have c1:¬ m=a+1:=by simp at c1;omega
 conv=>whnf
 rw[e2];refine⟨fun c2=>?_,fun c2=>?_⟩
 ·have c2:b=m+1:=by simp at c2;omega
  subst c2;conv=>whnf
  refine .inv (Nat × Nat) (fun s=>a<=s.1/\s.1<=s.2/\s.2<=m/\(s.1=a\/LL (zltC (cmpZ L)) (p (s.1 - 1)) (p m))/\(s.2=m\/LL (zltC (cmpZ L)) (p m) (p s.2))) (fun s=>[(14,iV s.1),(15,iV s.2)]) (fun s=>[]) (fun s=>s.2 - s.1) ⟨(a,m),[0],⟨show a<=a by omega,show a<=m by omega,show m<=m by omega,.inl rfl,.inl rfl⟩,?_⟩ ?_
  ·conv=>whnf
   exact rZ2
  intro s hs2;obtain⟨q1,q2,q3,q4,q5⟩:=hs2;conv=>whnf
  generalize s.1=i at q1 q2 q4 ⊢;generalize s.2=j at q2 q3 q5 ⊢;refine⟨fun h3=>?_,fun h3=>?_⟩
  ·have h3:i<j:=by
    have h:(i:Int)<j:=pu h3;omega
   conv=>whnf
   refine⟨by omega,?_⟩;conv=>whnf
   rw[jf6 i j (by omega)];have g1:i<=(i+j) / 2:=by omega
   have g2:(i+j) / 2<j:=by omega
   generalize (i+j) / 2=h at g1 g2 ⊢;refine⟨by omega,?_⟩;conv=>whnf
   refine⟨by omega,?_⟩;conv=>whnf
   rw[px,px];refine .data _ (jd0 _ _) rfl rfl ?_;conv=>whnf
   refine⟨fun h4=>?_,fun h4=>?_⟩
   ·have h4:zltC (cmpZ L) (p m) (p h)=false:=(by have h5:(!(zltC (cmpZ L) (p m) (p h)))=true:=h4;simpa using h5);conv=>whnf
    rw[show IntKind.i64.wrap ((h:Int)+1)=((h+1:Nat):Int) by rw[qa _ (by omega)];omega];refine⟨(h+1,j),[0],⟨show a<=h+1 by omega,show h+1<=j by omega,q3,.inr (.inr ⟨h4,hs h m (by omega) (by omega) (by omega) (by omega)⟩),q5⟩,by show j - (h+1)<j - i;omega,?_⟩;conv=>whnf
    exact rZ2
   ·have h4:zltC (cmpZ L) (p m) (p h)=true:=(by have h5:(!(zltC (cmpZ L) (p m) (p h)))=false:=h4;simpa using h5);conv=>whnf
    refine⟨(i,h),[0],⟨q1,g1,show h<=m by omega,q4,.inr (.inl h4)⟩,by show h - i<j - i;omega,?_⟩;conv=>whnf
    exact rZ2
  ·have h3:i=j:=by
    have h:¬ (i:Int)<j:=pw h3;omega
   subst h3;have hfin:=jd9 hw.ord hp (show m<n by omega) q1 q3 h1 q4 q5;conv=>whnf
   refine .inv Nat (fun k=>i<=k/\k<=m) (fun k=>[(17,iV k)]) (fun k=>[(0,yh L n z (rot p k m (m+1)))]) (fun k=>k) ⟨m,[0],⟨by omega,by omega⟩,?_⟩ ?_
   ·conv=>whnf
    rw[qm8 p m (m+1) (by omega)]
    exact rZ2
   intro k hk2;obtain⟨r1,r2⟩:=hk2;conv=>whnf
   refine⟨fun h3=>?_,fun h3=>?_⟩
   ·have h3:i<k:=by
     have h:(k:Int) > (i:Int):=pu h3;omega
    have ek:IntKind.i64.wrap ((k:Int) - 1)=((k - 1:Nat):Int):=by rw[qa _ (by omega)];omega
    conv=>whnf
    refine⟨?_,?_,?_,?_⟩;rotate_left 2
    ·conv=>whnf
     rw[ek];exact rZ3
    ·conv=>whnf
     rw[ek];refine⟨k - 1,[0],⟨by omega,by omega⟩,by omega,?_⟩;conv=>whnf
     repeat'(first|exact ⟨⟩|exact rfl|exact jd _|exact .inr rfl|exact fun _ _=>rfl|exact noI|apply And.intro)
     intro x hx;rw[px,px];have:=yb2 L (rot p k m (m+1)) (k - 1) k (by omega);have e5:=jb2 p m (k - 1) (by omega);rw [show k - 1+1=k by omega] at e5;exact(congrFun this x).trans (congrArg (fun f=>zcel L (f x)) e5)
   ·have h3:k=i:=by
     have h:¬ (k:Int) > (i:Int):=pw h3;omega
    rw[h3];conv=>whnf
    refine⟨[0],_,_,rfl,rfl,?_,?_,rfl,_,hfin,rfl⟩
    ·exact rfl
    ·conv=>whnf
     exact rZ2
 have c2:¬ b=m+1:=by simp at c2;omega
 conv=>whnf
 refine⟨by omega,?_⟩;conv=>whnf
 rw[jf6 a b (by omega)];rw[show IntKind.i64.wrap ((((a+b) / 2:Nat):Int)+(m:Int))=(((a+b) / 2+m:Nat):Int) by rw[qa _ (by omega)];omega];refine⟨fun c3=>?_,fun c3=>?_⟩;have c3:(a+b) / 2<m:=by
  have h:(m:Int) > (((a+b) / 2:Nat):Int):=pu c3;omega
 conv=>whnf
 obtain⟨N,hN⟩:∃ N,N=(a+b) / 2+m:=⟨_,rfl⟩;rw[<-hN];obtain⟨s0,hs0⟩:∃ s0,s0=N - b:=⟨_,rfl⟩;obtain⟨r0,hr0⟩:∃ r0,r0=(a+b) / 2:=⟨_,rfl⟩;have f1:s0=a\/N - s0=b:=by omega
 have f2:r0=m\/N - r0=m:=by omega
 have f3:a<=s0/\s0<=r0/\r0<=m/\m<=N - r0/\N - s0<=b:=by omega
 have x1:IntKind.i64.wrap ((N:Int) - (b:Int))=(s0:Int):=by rw[qa _ (by omega)];omega
 have x2:IntKind.i64.wrap ((N:Int) - 1)=((N - 1:Nat):Int):=by rw[qa _ (by omega)];omega
 rw[x1,x2];rotate_left;have c3:m<=(a+b) / 2:=by
  have h:¬ (m:Int) > (((a+b) / 2:Nat):Int):=pw c3;omega
 conv=>whnf
 obtain⟨N,hN⟩:∃ N,N=(a+b) / 2+m:=⟨_,rfl⟩;rw[<-hN];obtain⟨s0,hs0⟩:∃ s0,s0=a:=⟨_,rfl⟩;obtain⟨r0,hr0⟩:∃ r0,r0=m:=⟨_,rfl⟩;have f1:s0=a\/N - s0=b:=by omega
 have f2:r0=m\/N - r0=m:=by omega
 have f3:a<=s0/\s0<=r0/\r0<=m/\m<=N - r0/\N - s0<=b:=by omega
 have x2:IntKind.i64.wrap ((N:Int) - 1)=((N - 1:Nat):Int):=by rw[qa _ (by omega)];omega
 rw[x2];all_goals
  refine .inv (Nat × Nat) (fun s=>s0<=s.1/\s.1<=s.2/\s.2<=r0/\(s.1=s0\/LL (zltC (cmpZ L)) (p (s.1 - 1)) (p (N - s.1)))/\(s.2=r0\/LL (zltC (cmpZ L)) (p (N - 1 - s.2)) (p s.2))) (fun s=>[(20,iV s.1),(21,iV s.2)]) (fun s=>[]) (fun s=>s.2 - s.1) ⟨(s0,r0),[0],⟨show s0<=s0 by omega,show s0<=r0 by omega,show r0<=r0 by omega,.inl rfl,.inl rfl⟩,?_⟩ ?_
  ·subst hr0;subst hs0;conv=>whnf
   exact rZ2
  intro st hst;obtain⟨q1,q2,q3,q4,q5⟩:=hst;conv=>whnf
  generalize st.1=s at q1 q2 q4 ⊢;generalize st.2=j at q2 q3 q5 ⊢;refine⟨fun h3=>?_,fun h3=>?_⟩
  ·have h3:s<j:=by
    have h:(s:Int)<j:=pu h3;omega
   conv=>whnf
   refine⟨by omega,?_⟩;conv=>whnf
   rw[jf6 s j (by omega)];have g1:s<=(s+j) / 2:=by omega
   have g2:(s+j) / 2<j:=by omega
   generalize (s+j) / 2=h at g1 g2 ⊢;rw[show IntKind.i64.wrap (((N - 1:Nat):Int) - (h:Int))=((N - 1 - h:Nat):Int) by rw[qa _ (by omega)];omega];refine⟨by omega,?_⟩;conv=>whnf
   refine⟨by omega,?_⟩;conv=>whnf
   rw[px,px];refine .data _ (jd0 _ _) rfl rfl ?_;conv=>whnf
   refine⟨fun h4=>?_,fun h4=>?_⟩
   ·have h4:zltC (cmpZ L) (p (N - 1 - h)) (p h)=false:=(by have h5:(!(zltC (cmpZ L) (p (N - 1 - h)) (p h)))=true:=h4;simpa using h5);conv=>whnf
    rw[show IntKind.i64.wrap ((h:Int)+1)=((h+1:Nat):Int) by rw[qa _ (by omega)];omega];refine⟨(h+1,j),[0],⟨show s0<=h+1 by omega,show h+1<=j by omega,q3,.inr (?_:LL (zltC (cmpZ L)) (p (h+1 - 1)) (p (N - (h+1)))),q5⟩,by show j - (h+1)<j - s;omega,?_⟩
    ·rw[show h+1 - 1=h by omega,show N - (h+1)=N - 1 - h by omega];exact .inr ⟨h4,hs h (N - 1 - h) (by omega) (by omega) (by omega) (by omega)⟩
    conv=>whnf
    exact rZ2
   ·have h4:zltC (cmpZ L) (p (N - 1 - h)) (p h)=true:=(by have h5:(!(zltC (cmpZ L) (p (N - 1 - h)) (p h)))=false:=h4;simpa using h5);conv=>whnf
    refine⟨(s,h),[0],⟨q1,g1,show h<=r0 by omega,q4,.inr (.inl h4)⟩,by show h - s<j - s;omega,?_⟩;conv=>whnf
    exact rZ2
  have h3:s=j:=by
   have h:¬ (s:Int)<j:=pw h3;omega
  subst h3;have hc:Cut (L:=LL (zltC (cmpZ L))) p a m b s (N - s):=yz4 hw.ord hp hbn h1 h2 (by omega) (by omega) (by omega) (by omega)
   (by
    rcases q4 with x|x
    ·rcases f1 with y|y
     ·exact .inl (by omega)
     ·exact .inr (.inl (by omega))
    ·exact .inr (.inr x))
   (by
    rcases q5 with x|x
    ·rcases f2 with y|y
     ·exact .inl (by omega)
     ·exact .inr (.inl (by omega))
    ·exact .inr (.inr (by rw[show N - s - 1=N - 1 - s by omega];exact x)))
  have hmid:(a+b) / 2=s+(N - s - m):=by omega
  have cl:=yr3 h1 h2 hs hc hmid;have cr:=yl6 h1 h2 hs hc hmid;have hrot:Inj n (rot p s m (N - s)):=hp.rot (by omega) (by omega) (by omega);have ee:IntKind.i64.wrap ((N:Int) - (s:Int))=((N - s:Nat):Int):=by rw[qa _ (by omega)];omega
  conv=>whnf
  rw[ee];by_cases k1:s<m/\m<N - s;refine brT (pn (by omega)) ?_;conv=>whnf
  refine brT (pn (by omega)) ?_;conv=>whnf
  refine .rel _ (xk6 L n hn z p s m (N - s) k1.1 k1.2 (by omega)) (fun r ks' hR=>?_);obtain⟨rfl,rfl⟩:=hR;conv=>whnf
  rotate_left
  have eq:rot p s m (N - s)=p:=by
   rcases oo s m with x|x
   ·rw[show N - s=m by omega];exact jd2 p s m (by omega)
   ·rw[show s=m by omega];exact qm8 p m _ (by omega)
  rw[show yh L n z p=yh L n z (rot p s m (N - s)) by rw[eq]];by_cases k0:s<m;refine brT (pn (by omega)) ?_;conv=>whnf
  refine brF (po (by omega)) ?_;conv=>whnf
  rotate_left
  refine brF (po (by omega)) ?_;conv=>whnf
  all_goals
   by_cases k2:a<s/\s<(a+b) / 2;refine brT (pn (by omega)) ?_;conv=>whnf
   refine brT (pn (by omega)) ?_;conv=>whnf
   refine .rel _ (ih (rot p s m (N - s)) a s ((a+b) / 2) (by omega) hrot k2.1 k2.2 (by omega) cl.1 cl.2.1 cl.2.2) (fun r ks' hR=>?_);obtain⟨rfl,r1,hr1,rfl⟩:=hR;have hfin:∀ r2,Merged (L:=LL (zltC (cmpZ L))) r1 r2 n ((a+b) / 2) b->Merged (L:=LL (zltC (cmpZ L))) p r2 n a b:=fun r2 h=>qz9 h1 h2 hc hmid hr1 h
   conv=>whnf
   rotate_left
   obtain⟨r1,hr1,er⟩:∃ r1,Merged (L:=LL (zltC (cmpZ L))) (rot p s m (N - s)) r1 n a ((a+b) / 2)/\r1=rot p s m (N - s):=⟨_,.stay hrot (by
    rcases oo a s with x|x
    ·exact cl.1.sub (pr _) (by omega)
    ·exact cl.2.1.sub (by omega) (pr _)),rfl⟩
   have hfin:∀ r2,Merged (L:=LL (zltC (cmpZ L))) r1 r2 n ((a+b) / 2) b->Merged (L:=LL (zltC (cmpZ L))) p r2 n a b:=fun r2 h=>qz9 h1 h2 hc hmid hr1 h
   rw[<-er];clear er;by_cases k0:a<s;refine brT (pn (by omega)) ?_;conv=>whnf
   refine brF (po (by omega)) ?_;conv=>whnf
   rotate_left
   refine brF (po (by omega)) ?_;conv=>whnf
   all_goals
    by_cases k3:(a+b) / 2<N - s/\N - s<b;refine brT (pn (by omega)) ?_;conv=>whnf
    refine brT (pn (by omega)) ?_;conv=>whnf
    refine .rel _ (ih r1 ((a+b) / 2) (N - s) b (by omega) hr1.inj k3.1 k3.2 hbn (cr.1.congr fun i x1 x2=>hr1.same.out i (by omega)) (cr.2.1.congr fun i x1 x2=>hr1.same.out i (by omega)) (cr.2.2.congr fun i x1 x2=>hr1.same.out i (by omega))) (fun r ks' hR=>?_);obtain⟨rfl,r2,hr2,rfl⟩:=hR;conv=>whnf
    rotate_left
    have hr2:Merged (L:=LL (zltC (cmpZ L))) r1 r1 n ((a+b) / 2) b:=.stay hr1.inj (by
     rcases oo ((a+b) / 2) (N - s) with x|x
     ·exact(cr.1.congr fun i x1 x2=>hr1.same.out i (by omega)).sub (pr _) (by omega)
     ·exact(cr.2.1.congr fun i x1 x2=>hr1.same.out i (by omega)).sub (by omega) (pr _))
    by_cases k0:(a+b) / 2<N - s;refine brT (pn (by omega)) ?_;conv=>whnf
    refine brF (po (by omega)) ?_;conv=>whnf
    rotate_left
    refine brF (po (by omega)) ?_;conv=>whnf
    all_goals
     refine⟨[0],_,_,rfl,rfl,?_,?_,rfl,_,hfin _ hr2,rfl⟩
     ·exact rfl
     ·conv=>whnf
      exact rZ2
theorem zm4(L:List (List UInt8))(n:Nat)(hn:n<1152921504606846976)(z:Z)(hw:Weak n (zltC (cmpZ L))) :
 COk Tryz.prog 195 [.all 0,iV n,.fn 173 []] [yh L n z id] (fun s k=>s = .tup []/\∃ r,Inj n r/\Rise (LL (zltC (cmpZ L))) r 0 n/\k=[yh L n z r]):=by
 refine jn (TT:=TT) (IN:=qe []) qg qh mixed 1000 Tryz.func195 rfl (qd Tryz.func195 (by kernel_rfl) rfl) 60 (by kernel_rfl) ?_;conv=>whnf
 refine .inv (Nat × (Nat->Nat)) (fun s=>s.1 * 20<=n/\Fst (LL (zltC (cmpZ L))) 20 n s.1 s.2) (fun s=>[(6,iV 20),(7,iV (s.1 * 20)),(8,iV (s.1 * 20+20))]) (fun s=>[(0,yh L n z s.2)]) (fun s=>n - s.1 * 20) ⟨(0,id),[0],⟨by show 0 * 20<=n;omega,Fst.zero 20 n⟩,?_⟩ ?_
 ·conv=>whnf
  exact rZ2
 intro s hs;obtain⟨h1,h2⟩:=hs;conv=>whnf
 generalize s.1=q at h1 h2 ⊢;generalize s.2=p at h2 ⊢;refine⟨fun h3=>?_,fun h3=>?_⟩
 ·have h3:q * 20+20<=n:=by
   have h:((q * 20+20:Nat):Int)<=n:=pu h3;omega
  conv=>whnf
  refine .rel _ (yt3 L n hn z p hw h2.inj (q * 20) (q * 20+20) (by omega) h3 (fun i j x1 x2 x3=>by rw[h2.rest i x1,h2.rest j (by omega)];exact x2)) (fun r ks' hR=>?_);obtain⟨rfl,r,hr,rfl⟩:=hR;have e1:IntKind.i64.wrap (((q * 20+20:Nat):Int)+((20:Nat):Int))=(((q+1) * 20+20:Nat):Int):=by rw[qa _ (by omega)];omega
  have e2:q * 20+20=(q+1) * 20:=by omega
  conv=>whnf
  rw[e1,e2];refine⟨(q+1,r),[0],⟨by show(q+1) * 20<=n;omega,h2.next h3 (by omega) (.inr rfl) hr⟩,by show n - (q+1) * 20<n - q * 20;omega,?_⟩;conv=>whnf
  exact rZ2
 ·have h3:n<q * 20+20:=by
   have h:¬ ((q * 20+20:Nat):Int)<=n:=pw h3;omega
  conv=>whnf
  refine .rel _ (yt3 L n hn z p hw h2.inj (q * 20) n h1 (pr _) (fun i j x1 x2 x3=>by rw[h2.rest i x1,h2.rest j (by omega)];exact x2)) (fun r ks' hR=>?_);obtain⟨rfl,r,hr,rfl⟩:=hR;have h4:=h2.next (pr _) (by omega) (.inl rfl) hr;conv=>whnf
  refine .inv (Nat × (Nat->Nat)) (fun s=>0<s.1/\s.1<=20+2 * n/\Inj n s.2/\Lc s.1 0 n s.2/\Rs (LL (zltC (cmpZ L))) s.1 0 n s.2) (fun s=>[(6,iV s.1)]) (fun s=>[(0,yh L n z s.2)]) (fun s=>n - s.1) ⟨(20,r),[0],⟨show 0<20 by omega,show 20<=20+2 * n by omega,h4.inj,h4.loc,?_⟩,?_⟩ ?_
  ·have:=h4.done;rw [show min ((q+1) * 20) n=n by omega] at this;exact this
  ·conv=>whnf
   exact rZ2
  clear h1 h2 h3 h4 hr;intro s hs;obtain⟨h1,h2,h3,h4,h5⟩:=hs;conv=>whnf
  generalize s.1=k at h1 h2 h4 h5 ⊢;generalize s.2=p at h3 h4 h5 ⊢;refine⟨fun h6=>?_,fun h6=>?_⟩
  ·have h6:k<n:=by
    have h:(k:Int)<n:=pu h6;omega
   have e1:IntKind.i64.wrap (2 * (k:Int))=((2 * k:Nat):Int):=by rw[qa _ (by omega)];omega
   conv=>whnf
   rw[e1];refine .inv (Nat × (Nat->Nat)) (fun s=>s.1<=n/\∃ q,s.1=q * (2 * k)/\Mg (LL (zltC (cmpZ L))) k n q s.2) (fun s=>[(7,iV s.1),(8,iV (s.1+2 * k))]) (fun s=>[(0,yh L n z s.2)]) (fun s=>n - s.1) ⟨(0,p),[0],⟨pz _,0,(Nat.zero_mul _).symm,Mg.begin h3 h4 h5⟩,?_⟩ ?_
   ·conv=>whnf
    rw[ox];exact rZ2
   intro s hs;obtain⟨g1,q,g2,g3⟩:=hs;conv=>whnf
   generalize s.1=a at g1 g2 ⊢;generalize s.2=p at g3 ⊢;refine⟨fun h7=>?_,fun h7=>?_⟩
   ·have h7:a+2 * k<=n:=by
     have h:((a+2 * k:Nat):Int)<=n:=pu h7;omega
    have e2:IntKind.i64.wrap ((a:Int)+(k:Int))=((a+k:Nat):Int):=by rw[qa _ (by omega)];omega
    have e3:IntKind.i64.wrap (((a+2 * k:Nat):Int)+((2 * k:Nat):Int))=((a+2 * k+2 * k:Nat):Int):=by rw[qa _ (by omega)];omega
    conv=>whnf
    rw[e2];refine .rel _ (yt1 L n hn z hw (2 * k+1) p a (a+k) (a+2 * k) (by omega) g3.inj (by omega) (by omega) h7 (by rw[g2];exact g3.left (by omega)) (by rw[g2];exact g3.right (by omega) (by omega)) (by rw[g2];exact g3.sep (by omega) (by omega))) (fun r ks' hR=>?_);obtain⟨rfl,r,hr,rfl⟩:=hR;have hn2:Mg (LL (zltC (cmpZ L))) k n (q+1) r:=g3.next h1 h7 (by omega) (by omega) (by omega) (by rw[<-g2];exact hr);conv=>whnf
    rw[e1,e3];refine⟨(a+2 * k,r),[0],⟨h7,q+1,by show a+2 * k=(q+1) * (2 * k);rw[c8 q (2 * k),<-g2],hn2⟩,by show n - (a+2 * k)<n - a;omega,?_⟩;conv=>whnf
    exact rZ2
   ·have h7:n<a+2 * k:=by
     have h:¬ ((a+2 * k:Nat):Int)<=n:=pw h7;omega
    have e2:IntKind.i64.wrap ((a:Int)+(k:Int))=((a+k:Nat):Int):=by rw[qa _ (by omega)];omega
    have e4:IntKind.i64.wrap ((k:Int) * 2)=((2 * k:Nat):Int):=by rw[qa _ (by omega)];omega
    conv=>whnf
    rw[e2];refine⟨fun h8=>?_,fun h8=>?_⟩
    ·have h8:a+k<n:=by
      have h:((a+k:Nat):Int)<n:=pu h8;omega
     conv=>whnf
     refine .rel _ (yt1 L n hn z hw (2 * k+1) p a (a+k) n (by omega) g3.inj (by omega) h8 (pr _) (by rw[g2];exact g3.left (by omega)) (by rw[g2];exact g3.right (pr _) (by omega)) (by rw[g2];exact g3.sep (pr _) (by omega))) (fun r ks' hR=>?_);obtain⟨rfl,r,hr,rfl⟩:=hR;have hn2:Mg (LL (zltC (cmpZ L))) k n (q+1) r:=g3.next h1 (pr _) (by omega) (by omega) (by omega) (by rw[<-g2];exact hr);have ho:=hn2.over h1 (by rw[c8,<-g2];omega);conv=>whnf
     rw[e4];refine⟨(2 * k,r),[0],⟨show 0<2 * k by omega,show 2 * k<=20+2 * n by omega,hn2.inj,ho.1,ho.2⟩,by show n - 2 * k<n - k;omega,?_⟩;conv=>whnf
     exact rZ2
    ·have h8:n<=a+k:=by
      have h:¬ ((a+k:Nat):Int)<n:=pw h8;omega
     have ho:=g3.over h1 (by rw[<-g2];exact h8);conv=>whnf
     rw[e4];refine⟨(2 * k,p),[0],⟨show 0<2 * k by omega,show 2 * k<=20+2 * n by omega,g3.inj,ho.1,ho.2⟩,by show n - 2 * k<n - k;omega,?_⟩;conv=>whnf
     exact rZ2
  ·have h6:n<=k:=by
    have h:¬ (k:Int)<n:=pw h6;omega
   conv=>whnf
   refine⟨[0],_,_,rfl,rfl,?_,?_,rfl,p,h3,h5.all h6,rfl⟩
   ·exact rfl
   ·conv=>whnf
    exact rZ2
theorem xb8(L:List (List UInt8))(n:Nat)(hn:n<1152921504606846976)(z:Z)(hw:Weak n (zltC (cmpZ L))) :
 COk Tryz.prog 172 [.all 0,.fn 173 []] [yh L n z id] (fun s k=>s = .tup []/\∃ r,Inj n r/\Rise (LL (zltC (cmpZ L))) r 0 n/\k=[yh L n z r]):=by
 refine jn (TT:=TT) (IN:=qe []) qg qh mixed 1000 Tryz.func172 rfl (qd Tryz.func172 (by kernel_rfl) rfl) 7 (by kernel_rfl) ?_;conv=>whnf
 refine .rel _ (zm4 L n hn z hw) (fun r ks' hR=>?_);obtain⟨rfl,r,hr,h2,rfl⟩:=hR;conv=>whnf
 refine⟨[0],_,_,rfl,rfl,?_,?_,rfl,r,hr,h2,rfl⟩
 ·exact rfl
 ·conv=>whnf
  exact rZ2
def cCap:List SV:=[.ptr 1 0]
def vn(nf:Nat)(zf:Z)(fo:Nat->List DV):List KB:=[.cells 47 [.all 2],.row 9 1 nf zf fo]
def ltC(c:Nat->Nat->Int)(x y:Nat):Bool:=decide (c x y<0)
def qw9(g:FuncId)(c:Nat->Nat->Int)(n:Nat)(z:Z)(nf:Nat)(zf:Z)(fo:Nat->List DV):Prop :=
 ∀ (q:Nat->Nat) (x y:Nat),x<n->y<n->COk Tryz.prog g (iV x :: iV y :: cCap) (rowP n z q :: vn nf zf fo) (fun s k=>s = .d (.int .i64 (c x y))/\k=rowP n z q :: vn nf zf fo)
theorem yy8(n:Nat)(hn:n<1152921504606846976)(z:Z)(p:Nat->Nat)(c:Nat->Nat->Int)(g:FuncId)(nf:Nat)(zf:Z)(fo:Nat->List DV)(hg:qw9 g c n z nf zf fo)(hw:Weak n (ltC c))(hp:Inj n p)(a b:Nat)(hab:a<=b)(hb:b<=n)(hasc:∀ i j,a<=i->i<j->j<b->p i<p j):COk Tryz.prog 200 [.all 0,iV a,iV b,.fn g cCap] (rowP n z p :: vn nf zf fo) (fun s k=>s = .tup []/\∃ r,Merged (L:=LL (ltC c)) p r n a b/\k=rowP n z r :: vn nf zf fo):=by
 refine jn (TT:=TT) (IN:=qe []) qg qh mixed 1000 Tryz.func200 rfl (qd Tryz.func200 (by kernel_rfl) rfl) 49 (by kernel_rfl) ?_;have e1:=w64s a (by omega);conv=>whnf
 rw[e1];refine .inv (Nat × (Nat->Nat)) (fun s=>a+1<=s.1/\(s.1<=b\/(s.1=a+1/\s.2=p))/\Merged (L:=LL (ltC c)) p s.2 n a s.1) (fun s=>[(8,iV s.1)]) (fun s=>[(0,rowP n z s.2)]) (fun s=>n+1 - s.1) ⟨(a+1,p),[0,1,2],show a+1<=a+1/\(a+1<=b\/(a+1=a+1/\p=p))/\Merged (L:=LL (ltC c)) p p n a (a+1) from⟨by omega,.inr ⟨rfl,rfl⟩,.stay hp (fun i j _ _ _=>by omega)⟩,?_⟩ ?_
 ·conv=>whnf
  exact rZ2
 intro s hs;obtain⟨i,q⟩:=s;obtain⟨hai,hib,hm⟩:=hs;have hai:a+1<=i:=hai;have hib:i<=b\/(i=a+1/\q=p):=hib;have hm:Merged (L:=LL (ltC c)) p q n a i:=hm;conv=>whnf
 refine⟨fun h1=>?_,fun h1=>?_⟩
 ·have h1:i<b:=by
   have h:(i:Int)<b:=pu h1;omega
  have asc:∀ t,a<=t->t<i->q t<q i:=fun t h3 h4=>by
   obtain⟨t',b1,b2,b3⟩:=hm.same.fwd t h3 h4;rw[b3,hm.same.out i (by omega)];exact hasc t' i b1 b2 h1
  have next:∀ j,a<=j->j<=i->(j=a\/LL (ltC c) (q (j - 1)) (q i))->(j=i\/LL (ltC c) (q i) (q j))->Merged (L:=LL (ltC c)) p (rot q j i (i+1)) n a (i+1):=fun j h3 h4 h5 h6=>by
   have:=jd9 hw.ord hm.inj (show i<n by omega) h3 h4 hm.rise h5 h6;exact⟨this.inj,(hm.same.wide (pr _) (by omega)).trans this.same,this.rise⟩
  have e6:=w64s i (by omega);conv=>whnf
  refine .inv Nat (fun j=>a<=j/\j<=i/\(j=i\/LL (ltC c) (q i) (q j))) (fun j=>[(9,iV j)]) (fun j=>[(0,rowP n z (rot q j i (i+1)))]) (fun j=>j) ⟨i,[0,1,2],⟨by omega,by omega,.inl rfl⟩,?_⟩ ?_
  ·conv=>whnf
   rw[qm8 q i (i+1) (by omega)]
   exact rZ2
  intro j hj;obtain⟨haj,hji,hjL⟩:=hj;conv=>whnf
  refine⟨fun h2=>?_,fun h2=>?_⟩
  ·have h2:a<j:=by
    have h:(j:Int) > a:=pu h2;omega
   have e2:IntKind.i64.wrap ((j:Int) - 1)=((j - 1:Nat):Int):=by rw[qa _ (by omega)];omega
   have e3:rot q j i (i+1) j=q i:=by rw[qw1 q (by omega) (by omega)];congr 1;omega
   have e4:rot q j i (i+1) (j - 1)=q (j - 1):=qf8 q (by omega) (by omega) (by omega);conv=>whnf
   refine⟨by omega,?_⟩;conv=>whnf
   rw[e2];refine⟨by omega,?_⟩;conv=>whnf
   rw[px,px,e3,e4];refine .mem _ _ (hg _ _ _ (hm.inj.lt i (by omega)) (hm.inj.lt (j - 1) (by omega))) ?_;conv=>whnf
   refine⟨fun h3=>?_,fun h3=>?_⟩
   ·have h3:ltC c (q i) (q (j - 1))=true:=h3;conv=>whnf
    refine⟨?_,?_,?_,?_⟩;rotate_left 2
    ·conv=>whnf
     rw[e2];exact rZ3
    ·conv=>whnf
     rw[e2];refine⟨j - 1,[0,1,2],⟨by omega,by omega,.inr (.inl h3)⟩,by omega,?_⟩;conv=>whnf
     repeat'(first|exact ⟨⟩|exact rfl|exact jd _|exact .inr rfl|exact fun _ _=>rfl|exact noI|apply And.intro)
     intro x hx;rw[px,px];have:=yi1 (rot q j i (i+1)) (j - 1) j (by omega);have e5:=jb2 q i (j - 1) (by omega);rw [show j - 1+1=j by omega] at e5;exact(congrFun this x).trans (congrArg (fun f=>cel (f x)) e5)
   ·have h3:ltC c (q i) (q (j - 1))=false:=h3;have hL:LL (ltC c) (q (j - 1)) (q i):=.inr ⟨h3,asc (j - 1) (by omega) (by omega)⟩;conv=>whnf
    refine⟨(i+1,rot q j i (i+1)),[0,1,2],(show a+1<=i+1/\(i+1<=b\/(i+1=a+1/\rot q j i (i+1)=p))/\Merged (L:=LL (ltC c)) p (rot q j i (i+1)) n a (i+1) from⟨by omega,.inl (by omega),next j haj hji (.inr hL) hjL⟩),by show n+1 - (i+1)<n+1 - i;omega,?_⟩;conv=>whnf
    rw[e6];exact rZ2
  ·have h2:j=a:=by
    have h:¬ ((j:Int) > a):=pw h2;omega
   conv=>whnf
   refine⟨(i+1,rot q j i (i+1)),[0,1,2],(show a+1<=i+1/\(i+1<=b\/(i+1=a+1/\rot q j i (i+1)=p))/\Merged (L:=LL (ltC c)) p (rot q j i (i+1)) n a (i+1) from⟨by omega,.inl (by omega),next j haj hji (.inl h2) hjL⟩),by show n+1 - (i+1)<n+1 - i;omega,?_⟩;conv=>whnf
   rw[e6];exact rZ2
 ·have h1:b<=i:=by
   have h:¬ ((i:Int)<b):=pw h1;omega
  conv=>whnf
  refine⟨[0,1,2],_,_,rfl,rfl,?_,?_,rfl,q,?_,rfl⟩
  ·exact rfl
  ·conv=>whnf
   exact rZ2
  ·rcases hib with h|h
   ·have:i=b:=by omega
    rw[<-this];exact hm
   ·rw[h.2];exact .stay hp (fun i j _ _ _=>by omega)
theorem xr8(n:Nat)(hn:n<1152921504606846976)(z:Z)(p:Nat->Nat)(a m b:Nat)(ha:a<m)(hb:m<b)(hbn:b<=n)(g:FuncId)(nf:Nat)(zf:Z)(fo:Nat->List DV):COk Tryz.prog 212 [.all 0,iV a,iV m,iV b,.fn g cCap] (rowP n z p :: vn nf zf fo) (fun s k=>s = .tup []/\k=rowP n z (rot p a m b) :: vn nf zf fo):=by
 refine COk.anyA (COk.frame (zv0 n hn z p a m b ha hb hbn) [0] («as»:=[.all 0,iV a,iV m,iV b,.any]) rfl rfl rfl (fun s0 k0 h=>?_)) ⟨.inr rfl,.inr rfl,.inr rfl,.inr rfl,.inl rfl,True.intro⟩;obtain⟨rfl,rfl⟩:=h;exact⟨rfl,rfl⟩
theorem half(i j:Nat)(h:i+j<9223372036854775808):IntKind.i64.wrap ((IntKind.u64.wrap (IntKind.i64.wrap ((i:Int)+(j:Int)))).fdiv (2 ^ (min (Int.toNat 1) IntKind.u64.bits)))=(((i+j) / 2:Nat):Int):=by
 rw[qa ((i:Int)+(j:Int)) (by omega),IntKind.wrap_u64];rw[show(2:Int) ^ (min (Int.toNat 1) IntKind.u64.bits)=2 from rfl,Int.fdiv_eq_ediv_of_nonneg _ (by omega)];rw[qa _ (by omega)];omega
theorem yx7(n:Nat)(hn:n<1152921504606846976)(z:Z)(c:Nat->Nat->Int)(g:FuncId)(nf:Nat)(zf:Z)(fo:Nat->List DV)(hg:qw9 g c n z nf zf fo)(hw:Weak n (ltC c)):∀ (k:Nat) (p:Nat->Nat) (a m b:Nat),b - a<k->Inj n p->a<m->m<b->b<=n->Rise (LL (ltC c)) p a m->Rise (LL (ltC c)) p m b->Sep p a m b ->
 COk Tryz.prog 201 [.all 0,iV a,iV m,iV b,.fn g cCap] (rowP n z p :: vn nf zf fo) (fun s k=>s = .tup []/\∃ r,Merged (L:=LL (ltC c)) p r n a b/\k=rowP n z r :: vn nf zf fo):=by
 intro k;induction k with
 |zero=>intro p a m b h;omega
 |succ k ih =>
 intro p a m b hk hp ham hmb hbn h1 h2 hs;refine jn (TT:=TT) (IN:=qe []) qg qh mixed 1000 Tryz.func201 rfl (qd Tryz.func201 (by kernel_rfl) rfl) 215 (by kernel_rfl) ?_;have e1:IntKind.i64.wrap ((m:Int) - (a:Int))=((m - a:Nat):Int):=by rw[qa _ (by omega)];omega
 have e2:IntKind.i64.wrap ((b:Int) - (m:Int))=((b - m:Nat):Int):=by rw[qa _ (by omega)];omega
 conv=>whnf
 rw[e1];refine⟨fun c1=>?_,fun c1=>?_⟩
 ·have c1:m=a+1:=by simp at c1;omega
  subst c1;conv=>whnf
  refine .inv (Nat × Nat) (fun s=>a+1<=s.1/\s.1<=s.2/\s.2<=b/\(s.1=a+1\/LL (ltC c) (p (s.1 - 1)) (p a))/\(s.2=b\/LL (ltC c) (p a) (p s.2))) (fun s=>[(10,iV s.1),(11,iV s.2)]) (fun s=>[]) (fun s=>s.2 - s.1) ⟨(a+1,b),[0,1,2],⟨show a+1<=a+1 by omega,show a+1<=b by omega,show b<=b by omega,.inl rfl,.inl rfl⟩,?_⟩ ?_
  ·conv=>whnf
   exact rZ2
  intro s hs2;obtain⟨q1,q2,q3,q4,q5⟩:=hs2;conv=>whnf
  generalize s.1=i at q1 q2 q4 ⊢;generalize s.2=j at q2 q3 q5 ⊢;refine⟨fun h3=>?_,fun h3=>?_⟩
  ·have h3:i<j:=by
    have h:(i:Int)<j:=pu h3;omega
   conv=>whnf
   refine⟨by omega,?_⟩;conv=>whnf
   rw[half i j (by omega)];have g1:i<=(i+j) / 2:=by omega
   have g2:(i+j) / 2<j:=by omega
   generalize (i+j) / 2=h at g1 g2 ⊢;refine⟨by omega,?_⟩;conv=>whnf
   refine⟨by omega,?_⟩;conv=>whnf
   rw[px,px];refine .mem _ _ (hg _ _ _ (hp.lt h (by omega)) (hp.lt a (by omega))) ?_;conv=>whnf
   refine⟨fun h4=>?_,fun h4=>?_⟩
   ·have h4:ltC c (p h) (p a)=true:=h4;conv=>whnf
    rw[show IntKind.i64.wrap ((h:Int)+1)=((h+1:Nat):Int) by rw[qa _ (by omega)];omega];refine⟨(h+1,j),[0,1,2],⟨show a+1<=h+1 by omega,show h+1<=j by omega,q3,.inr (.inl h4),q5⟩,by show j - (h+1)<j - i;omega,?_⟩;conv=>whnf
    exact rZ2
   ·have h4:ltC c (p h) (p a)=false:=h4;conv=>whnf
    refine⟨(i,h),[0,1,2],⟨q1,g1,show h<=b by omega,q4,.inr (.inr ⟨h4,hs a h (by omega) (by omega) (by omega) (by omega)⟩)⟩,by show h - i<j - i;omega,?_⟩;conv=>whnf
    exact rZ2
  ·have h3:i=j:=by
    have h:¬ (i:Int)<j:=pw h3;omega
   subst h3;have hfin:=za1 hw.ord hp hbn q1 q3 h2 q4 q5;have ei:IntKind.i64.wrap ((i:Int) - 1)=((i - 1:Nat):Int):=by rw[qa _ (by omega)];omega
   conv=>whnf
   refine .inv Nat (fun k=>a<=k/\k+1<=i) (fun k=>[(13,iV k)]) (fun k=>[(0,rowP n z (rot p a (a+1) (k+1)))]) (fun k=>i - k) ⟨a,[0,1,2],⟨by omega,by omega⟩,?_⟩ ?_
   ·conv=>whnf
    rw[jd2 p a (a+1) (by omega)]
    exact rZ2
   intro k hk2;obtain⟨r1,r2⟩:=hk2;conv=>whnf
   rw[ei];refine⟨fun h3=>?_,fun h3=>?_⟩
   ·have h3:k<i - 1:=by
     have h:(k:Int)<((i - 1:Nat):Int):=pu h3;omega
    have ek:=w64s k (by omega);conv=>whnf
    refine⟨?_,?_,?_,?_⟩;rotate_left 2
    ·conv=>whnf
     rw[ek];exact rZ3
    ·conv=>whnf
     rw[ek];refine⟨k+1,[0,1,2],⟨by omega,by omega⟩,by omega,?_⟩;conv=>whnf
     repeat'(first|exact ⟨⟩|exact rfl|exact jd _|exact .inr rfl|exact fun _ _=>rfl|exact noI|apply And.intro)
     intro x hx;rw[px,px];have:=yo1 (rot p a (a+1) (k+1)) k (k+1) (by omega);exact(congrFun this x).trans (congrArg (fun f=>cel (f x)) (yx9 p a k (by omega)))
   ·have h3:k+1=i:=by
     have h:¬ (k:Int)<((i - 1:Nat):Int):=pw h3;omega
    rw[h3];conv=>whnf
    refine⟨[0,1,2],_,_,rfl,rfl,?_,?_,rfl,_,hfin,rfl⟩
    ·exact rfl
    ·conv=>whnf
     exact rZ2
 have c1:¬ m=a+1:=by simp at c1;omega
 conv=>whnf
 rw[e2];refine⟨fun c2=>?_,fun c2=>?_⟩
 ·have c2:b=m+1:=by simp at c2;omega
  subst c2;conv=>whnf
  refine .inv (Nat × Nat) (fun s=>a<=s.1/\s.1<=s.2/\s.2<=m/\(s.1=a\/LL (ltC c) (p (s.1 - 1)) (p m))/\(s.2=m\/LL (ltC c) (p m) (p s.2))) (fun s=>[(14,iV s.1),(15,iV s.2)]) (fun s=>[]) (fun s=>s.2 - s.1) ⟨(a,m),[0,1,2],⟨show a<=a by omega,show a<=m by omega,show m<=m by omega,.inl rfl,.inl rfl⟩,?_⟩ ?_
  ·conv=>whnf
   exact rZ2
  intro s hs2;obtain⟨q1,q2,q3,q4,q5⟩:=hs2;conv=>whnf
  generalize s.1=i at q1 q2 q4 ⊢;generalize s.2=j at q2 q3 q5 ⊢;refine⟨fun h3=>?_,fun h3=>?_⟩
  ·have h3:i<j:=by
    have h:(i:Int)<j:=pu h3;omega
   conv=>whnf
   refine⟨by omega,?_⟩;conv=>whnf
   rw[half i j (by omega)];have g1:i<=(i+j) / 2:=by omega
   have g2:(i+j) / 2<j:=by omega
   generalize (i+j) / 2=h at g1 g2 ⊢;refine⟨by omega,?_⟩;conv=>whnf
   refine⟨by omega,?_⟩;conv=>whnf
   rw[px,px];refine .mem _ _ (hg _ _ _ (hp.lt m (by omega)) (hp.lt h (by omega))) ?_;conv=>whnf
   refine⟨fun h4=>?_,fun h4=>?_⟩
   ·have h4:ltC c (p m) (p h)=false:=by
     have h5:(!(ltC c (p m) (p h)))=true:=h4;simpa using h5
    conv=>whnf
    rw[show IntKind.i64.wrap ((h:Int)+1)=((h+1:Nat):Int) by rw[qa _ (by omega)];omega];refine⟨(h+1,j),[0,1,2],⟨show a<=h+1 by omega,show h+1<=j by omega,q3,.inr (.inr ⟨h4,hs h m (by omega) (by omega) (by omega) (by omega)⟩),q5⟩,by show j - (h+1)<j - i;omega,?_⟩;conv=>whnf
    exact rZ2
   ·have h4:ltC c (p m) (p h)=true:=by
     have h5:(!(ltC c (p m) (p h)))=false:=h4;simpa using h5
    conv=>whnf
    refine⟨(i,h),[0,1,2],⟨q1,g1,show h<=m by omega,q4,.inr (.inl h4)⟩,by show h - i<j - i;omega,?_⟩;conv=>whnf
    exact rZ2
  ·have h3:i=j:=by
    have h:¬ (i:Int)<j:=pw h3;omega
   subst h3;have hfin:=jd9 hw.ord hp (show m<n by omega) q1 q3 h1 q4 q5;conv=>whnf
   refine .inv Nat (fun k=>i<=k/\k<=m) (fun k=>[(17,iV k)]) (fun k=>[(0,rowP n z (rot p k m (m+1)))]) (fun k=>k) ⟨m,[0,1,2],⟨by omega,by omega⟩,?_⟩ ?_
   ·conv=>whnf
    rw[qm8 p m (m+1) (by omega)]
    exact rZ2
   intro k hk2;obtain⟨r1,r2⟩:=hk2;conv=>whnf
   refine⟨fun h3=>?_,fun h3=>?_⟩
   ·have h3:i<k:=by
     have h:(k:Int) > (i:Int):=pu h3;omega
    have ek:IntKind.i64.wrap ((k:Int) - 1)=((k - 1:Nat):Int):=by rw[qa _ (by omega)];omega
    conv=>whnf
    refine⟨?_,?_,?_,?_⟩;rotate_left 2
    ·conv=>whnf
     rw[ek];exact rZ3
    ·conv=>whnf
     rw[ek];refine⟨k - 1,[0,1,2],⟨by omega,by omega⟩,by omega,?_⟩;conv=>whnf
     repeat'(first|exact ⟨⟩|exact rfl|exact jd _|exact .inr rfl|exact fun _ _=>rfl|exact noI|apply And.intro)
     intro x hx;rw[px,px];have:=yi1 (rot p k m (m+1)) (k - 1) k (by omega);have e5:=jb2 p m (k - 1) (by omega);rw [show k - 1+1=k by omega] at e5;exact(congrFun this x).trans (congrArg (fun f=>cel (f x)) e5)
   ·have h3:k=i:=by
     have h:¬ (k:Int) > (i:Int):=pw h3;omega
    rw[h3];conv=>whnf
    refine⟨[0,1,2],_,_,rfl,rfl,?_,?_,rfl,_,hfin,rfl⟩
    ·exact rfl
    ·conv=>whnf
     exact rZ2
 have c2:¬ b=m+1:=by simp at c2;omega
 conv=>whnf
 refine⟨by omega,?_⟩;conv=>whnf
 rw[half a b (by omega)];rw[show IntKind.i64.wrap ((((a+b) / 2:Nat):Int)+(m:Int))=(((a+b) / 2+m:Nat):Int) by rw[qa _ (by omega)];omega];refine⟨fun c3=>?_,fun c3=>?_⟩;have c3:(a+b) / 2<m:=by
  have h:(m:Int) > (((a+b) / 2:Nat):Int):=pu c3;omega
 conv=>whnf
 obtain⟨N,hN⟩:∃ N,N=(a+b) / 2+m:=⟨_,rfl⟩;rw[<-hN];obtain⟨s0,hs0⟩:∃ s0,s0=N - b:=⟨_,rfl⟩;obtain⟨r0,hr0⟩:∃ r0,r0=(a+b) / 2:=⟨_,rfl⟩;have f1:s0=a\/N - s0=b:=by omega
 have f2:r0=m\/N - r0=m:=by omega
 have f3:a<=s0/\s0<=r0/\r0<=m/\m<=N - r0/\N - s0<=b:=by omega
 have x1:IntKind.i64.wrap ((N:Int) - (b:Int))=(s0:Int):=by rw[qa _ (by omega)];omega
 have x2:IntKind.i64.wrap ((N:Int) - 1)=((N - 1:Nat):Int):=by rw[qa _ (by omega)];omega
 rw[x1,x2];rotate_left;have c3:m<=(a+b) / 2:=by
  have h:¬ (m:Int) > (((a+b) / 2:Nat):Int):=pw c3;omega
 conv=>whnf
 obtain⟨N,hN⟩:∃ N,N=(a+b) / 2+m:=⟨_,rfl⟩;rw[<-hN];obtain⟨s0,hs0⟩:∃ s0,s0=a:=⟨_,rfl⟩;obtain⟨r0,hr0⟩:∃ r0,r0=m:=⟨_,rfl⟩;have f1:s0=a\/N - s0=b:=by omega
 have f2:r0=m\/N - r0=m:=by omega
 have f3:a<=s0/\s0<=r0/\r0<=m/\m<=N - r0/\N - s0<=b:=by omega
 have x2:IntKind.i64.wrap ((N:Int) - 1)=((N - 1:Nat):Int):=by rw[qa _ (by omega)];omega
 rw[x2];all_goals
  refine .inv (Nat × Nat) (fun s=>s0<=s.1/\s.1<=s.2/\s.2<=r0/\(s.1=s0\/LL (ltC c) (p (s.1 - 1)) (p (N - s.1)))/\(s.2=r0\/LL (ltC c) (p (N - 1 - s.2)) (p s.2))) (fun s=>[(20,iV s.1),(21,iV s.2)]) (fun s=>[]) (fun s=>s.2 - s.1) ⟨(s0,r0),[0,1,2],⟨show s0<=s0 by omega,show s0<=r0 by omega,show r0<=r0 by omega,.inl rfl,.inl rfl⟩,?_⟩ ?_
  ·subst hr0;subst hs0;conv=>whnf
   exact rZ2
  intro st hst;obtain⟨q1,q2,q3,q4,q5⟩:=hst;conv=>whnf
  generalize st.1=s at q1 q2 q4 ⊢;generalize st.2=j at q2 q3 q5 ⊢;refine⟨fun h3=>?_,fun h3=>?_⟩
  ·have h3:s<j:=by
    have h:(s:Int)<j:=pu h3;omega
   conv=>whnf
   refine⟨by omega,?_⟩;conv=>whnf
   rw[half s j (by omega)];have g1:s<=(s+j) / 2:=by omega
   have g2:(s+j) / 2<j:=by omega
   generalize (s+j) / 2=h at g1 g2 ⊢;rw[show IntKind.i64.wrap (((N - 1:Nat):Int) - (h:Int))=((N - 1 - h:Nat):Int) by rw[qa _ (by omega)];omega];refine⟨by omega,?_⟩;conv=>whnf
   refine⟨by omega,?_⟩;conv=>whnf
   rw[px,px];refine .mem _ _ (hg _ _ _ (hp.lt (N - 1 - h) (by omega)) (hp.lt h (by omega))) ?_;conv=>whnf
   refine⟨fun h4=>?_,fun h4=>?_⟩
   ·have h4:ltC c (p (N - 1 - h)) (p h)=false:=by
     have h5:(!(ltC c (p (N - 1 - h)) (p h)))=true:=h4;simpa using h5
    conv=>whnf
    rw[show IntKind.i64.wrap ((h:Int)+1)=((h+1:Nat):Int) by rw[qa _ (by omega)];omega];refine⟨(h+1,j),[0,1,2],⟨show s0<=h+1 by omega,show h+1<=j by omega,q3,.inr (?_:LL (ltC c) (p (h+1 - 1)) (p (N - (h+1)))),q5⟩,by show j - (h+1)<j - s;omega,?_⟩
    ·rw[show h+1 - 1=h by omega,show N - (h+1)=N - 1 - h by omega];exact .inr ⟨h4,hs h (N - 1 - h) (by omega) (by omega) (by omega) (by omega)⟩
    conv=>whnf
    exact rZ2
   ·have h4:ltC c (p (N - 1 - h)) (p h)=true:=by
     have h5:(!(ltC c (p (N - 1 - h)) (p h)))=false:=h4;simpa using h5
    conv=>whnf
    refine⟨(s,h),[0,1,2],⟨q1,g1,show h<=r0 by omega,q4,.inr (.inl h4)⟩,by show h - s<j - s;omega,?_⟩;conv=>whnf
    exact rZ2
  have h3:s=j:=by
   have h:¬ (s:Int)<j:=pw h3;omega
  subst h3;have hc:Cut (L:=LL (ltC c)) p a m b s (N - s):=yz4 hw.ord hp hbn h1 h2 (by omega) (by omega) (by omega) (by omega)
   (by
    rcases q4 with x|x
    ·rcases f1 with y|y
     ·exact .inl (by omega)
     ·exact .inr (.inl (by omega))
    ·exact .inr (.inr x))
   (by
    rcases q5 with x|x
    ·rcases f2 with y|y
     ·exact .inl (by omega)
     ·exact .inr (.inl (by omega))
    ·exact .inr (.inr (by rw[show N - s - 1=N - 1 - s by omega];exact x)))
  have hmid:(a+b) / 2=s+(N - s - m):=by omega
  have cl:=yr3 h1 h2 hs hc hmid;have cr:=yl6 h1 h2 hs hc hmid;have hrot:Inj n (rot p s m (N - s)):=hp.rot (by omega) (by omega) (by omega);have ee:IntKind.i64.wrap ((N:Int) - (s:Int))=((N - s:Nat):Int):=by rw[qa _ (by omega)];omega
  conv=>whnf
  rw[ee];by_cases k1:s<m/\m<N - s;refine brT (pn (by omega)) ?_;conv=>whnf
  refine brT (pn (by omega)) ?_;conv=>whnf
  refine .rel _ (xr8 n hn z p s m (N - s) k1.1 k1.2 (by omega) g nf zf fo) (fun r ks' hR=>?_);obtain⟨rfl,rfl⟩:=hR;conv=>whnf
  rotate_left
  have eq:rot p s m (N - s)=p:=by
   rcases oo s m with x|x
   ·rw[show N - s=m by omega];exact jd2 p s m (by omega)
   ·rw[show s=m by omega];exact qm8 p m _ (by omega)
  rw[show rowP n z p=rowP n z (rot p s m (N - s)) by rw[eq]];by_cases k0:s<m;refine brT (pn (by omega)) ?_;conv=>whnf
  refine brF (po (by omega)) ?_;conv=>whnf
  rotate_left
  refine brF (po (by omega)) ?_;conv=>whnf
  all_goals
   by_cases k2:a<s/\s<(a+b) / 2;refine brT (pn (by omega)) ?_;conv=>whnf
   refine brT (pn (by omega)) ?_;conv=>whnf
   refine .rel _ (ih (rot p s m (N - s)) a s ((a+b) / 2) (by omega) hrot k2.1 k2.2 (by omega) cl.1 cl.2.1 cl.2.2) (fun r ks' hR=>?_);obtain⟨rfl,r1,hr1,rfl⟩:=hR;have hfin:∀ r2,Merged (L:=LL (ltC c)) r1 r2 n ((a+b) / 2) b->Merged (L:=LL (ltC c)) p r2 n a b:=fun r2 h=>qz9 h1 h2 hc hmid hr1 h
   conv=>whnf
   rotate_left
   obtain⟨r1,hr1,er⟩:∃ r1,Merged (L:=LL (ltC c)) (rot p s m (N - s)) r1 n a ((a+b) / 2)/\r1=rot p s m (N - s):=⟨_,.stay hrot (by
    rcases oo a s with x|x
    ·exact cl.1.sub (pr _) (by omega)
    ·exact cl.2.1.sub (by omega) (pr _)),rfl⟩
   have hfin:∀ r2,Merged (L:=LL (ltC c)) r1 r2 n ((a+b) / 2) b->Merged (L:=LL (ltC c)) p r2 n a b:=fun r2 h=>qz9 h1 h2 hc hmid hr1 h
   rw[<-er];clear er;by_cases k0:a<s;refine brT (pn (by omega)) ?_;conv=>whnf
   refine brF (po (by omega)) ?_;conv=>whnf
   rotate_left
   refine brF (po (by omega)) ?_;conv=>whnf
   all_goals
    by_cases k3:(a+b) / 2<N - s/\N - s<b;refine brT (pn (by omega)) ?_;conv=>whnf
    refine brT (pn (by omega)) ?_;conv=>whnf
    refine .rel _ (ih r1 ((a+b) / 2) (N - s) b (by omega) hr1.inj k3.1 k3.2 hbn (cr.1.congr fun i x1 x2=>hr1.same.out i (by omega)) (cr.2.1.congr fun i x1 x2=>hr1.same.out i (by omega)) (cr.2.2.congr fun i x1 x2=>hr1.same.out i (by omega))) (fun r ks' hR=>?_);obtain⟨rfl,r2,hr2,rfl⟩:=hR;conv=>whnf
    rotate_left
    have hr2:Merged (L:=LL (ltC c)) r1 r1 n ((a+b) / 2) b:=.stay hr1.inj (by
     rcases oo ((a+b) / 2) (N - s) with x|x
     ·exact(cr.1.congr fun i x1 x2=>hr1.same.out i (by omega)).sub (pr _) (by omega)
     ·exact(cr.2.1.congr fun i x1 x2=>hr1.same.out i (by omega)).sub (by omega) (pr _))
    by_cases k0:(a+b) / 2<N - s;refine brT (pn (by omega)) ?_;conv=>whnf
    refine brF (po (by omega)) ?_;conv=>whnf
    rotate_left
    refine brF (po (by omega)) ?_;conv=>whnf
    all_goals
     refine⟨[0,1,2],_,_,rfl,rfl,?_,?_,rfl,_,hfin _ hr2,rfl⟩
     ·exact rfl
     ·conv=>whnf
      exact rZ2
theorem zt7(n:Nat)(hn:n<1152921504606846976)(z:Z)(c:Nat->Nat->Int)(g:FuncId)(nf:Nat)(zf:Z)(fo:Nat->List DV)(hg:qw9 g c n z nf zf fo)(hw:Weak n (ltC c)) :
 COk Tryz.prog 178 [.all 0,iV n,.fn g cCap] (rowP n z id :: vn nf zf fo) (fun s k=>s = .tup []/\∃ r,Inj n r/\Rise (LL (ltC c)) r 0 n/\k=rowP n z r :: vn nf zf fo):=by
 refine jn (TT:=TT) (IN:=qe []) qg qh mixed 1000 Tryz.func178 rfl (qd Tryz.func178 (by kernel_rfl) rfl) 60 (by kernel_rfl) ?_;conv=>whnf
 refine .inv (Nat × (Nat->Nat)) (fun s=>s.1 * 20<=n/\Fst (LL (ltC c)) 20 n s.1 s.2) (fun s=>[(6,iV 20),(7,iV (s.1 * 20)),(8,iV (s.1 * 20+20))]) (fun s=>[(0,rowP n z s.2)]) (fun s=>n - s.1 * 20) ⟨(0,id),[0,1,2],⟨by show 0 * 20<=n;omega,Fst.zero 20 n⟩,?_⟩ ?_
 ·conv=>whnf
  exact rZ2
 intro s hs;obtain⟨h1,h2⟩:=hs;conv=>whnf
 generalize s.1=q at h1 h2 ⊢;generalize s.2=p at h2 ⊢;refine⟨fun h3=>?_,fun h3=>?_⟩
 ·have h3:q * 20+20<=n:=by
   have h:((q * 20+20:Nat):Int)<=n:=pu h3;omega
  conv=>whnf
  refine .rel _ (yy8 n hn z p c g nf zf fo hg hw h2.inj (q * 20) (q * 20+20) (by omega) h3 (fun i j x1 x2 x3=>by rw[h2.rest i x1,h2.rest j (by omega)];exact x2)) (fun r ks' hR=>?_);obtain⟨rfl,r,hr,rfl⟩:=hR;have e1:IntKind.i64.wrap (((q * 20+20:Nat):Int)+((20:Nat):Int))=(((q+1) * 20+20:Nat):Int):=by rw[qa _ (by omega)];omega
  have e2:q * 20+20=(q+1) * 20:=by omega
  conv=>whnf
  rw[e1,e2];refine⟨(q+1,r),[0,1,2],⟨by show(q+1) * 20<=n;omega,h2.next h3 (by omega) (.inr rfl) hr⟩,by show n - (q+1) * 20<n - q * 20;omega,?_⟩;conv=>whnf
  exact rZ2
 ·have h3:n<q * 20+20:=by
   have h:¬ ((q * 20+20:Nat):Int)<=n:=pw h3;omega
  conv=>whnf
  refine .rel _ (yy8 n hn z p c g nf zf fo hg hw h2.inj (q * 20) n h1 (pr _) (fun i j x1 x2 x3=>by rw[h2.rest i x1,h2.rest j (by omega)];exact x2)) (fun r ks' hR=>?_);obtain⟨rfl,r,hr,rfl⟩:=hR;have h4:=h2.next (pr _) (by omega) (.inl rfl) hr;conv=>whnf
  refine .inv (Nat × (Nat->Nat)) (fun s=>0<s.1/\s.1<=20+2 * n/\Inj n s.2/\Lc s.1 0 n s.2/\Rs (LL (ltC c)) s.1 0 n s.2) (fun s=>[(6,iV s.1)]) (fun s=>[(0,rowP n z s.2)]) (fun s=>n - s.1) ⟨(20,r),[0,1,2],⟨show 0<20 by omega,show 20<=20+2 * n by omega,h4.inj,h4.loc,?_⟩,?_⟩ ?_
  ·have:=h4.done;rw [show min ((q+1) * 20) n=n by omega] at this;exact this
  ·conv=>whnf
   exact rZ2
  clear h1 h2 h3 h4 hr;intro s hs;obtain⟨h1,h2,h3,h4,h5⟩:=hs;conv=>whnf
  generalize s.1=k at h1 h2 h4 h5 ⊢;generalize s.2=p at h3 h4 h5 ⊢;refine⟨fun h6=>?_,fun h6=>?_⟩
  ·have h6:k<n:=by
    have h:(k:Int)<n:=pu h6;omega
   have e1:IntKind.i64.wrap (2 * (k:Int))=((2 * k:Nat):Int):=by rw[qa _ (by omega)];omega
   conv=>whnf
   rw[e1];refine .inv (Nat × (Nat->Nat)) (fun s=>s.1<=n/\∃ q,s.1=q * (2 * k)/\Mg (LL (ltC c)) k n q s.2) (fun s=>[(7,iV s.1),(8,iV (s.1+2 * k))]) (fun s=>[(0,rowP n z s.2)]) (fun s=>n - s.1) ⟨(0,p),[0,1,2],⟨pz _,0,(Nat.zero_mul _).symm,Mg.begin h3 h4 h5⟩,?_⟩ ?_
   ·conv=>whnf
    rw[ox];exact rZ2
   intro s hs;obtain⟨g1,q,g2,g3⟩:=hs;conv=>whnf
   generalize s.1=a at g1 g2 ⊢;generalize s.2=p at g3 ⊢;refine⟨fun h7=>?_,fun h7=>?_⟩
   ·have h7:a+2 * k<=n:=by
     have h:((a+2 * k:Nat):Int)<=n:=pu h7;omega
    have e2:IntKind.i64.wrap ((a:Int)+(k:Int))=((a+k:Nat):Int):=by rw[qa _ (by omega)];omega
    have e3:IntKind.i64.wrap (((a+2 * k:Nat):Int)+((2 * k:Nat):Int))=((a+2 * k+2 * k:Nat):Int):=by rw[qa _ (by omega)];omega
    conv=>whnf
    rw[e2];refine .rel _ (yx7 n hn z c g nf zf fo hg hw (2 * k+1) p a (a+k) (a+2 * k) (by omega) g3.inj (by omega) (by omega) h7 (by rw[g2];exact g3.left (by omega)) (by rw[g2];exact g3.right (by omega) (by omega)) (by rw[g2];exact g3.sep (by omega) (by omega))) (fun r ks' hR=>?_);obtain⟨rfl,r,hr,rfl⟩:=hR;have hn2:Mg (LL (ltC c)) k n (q+1) r:=g3.next h1 h7 (by omega) (by omega) (by omega) (by rw[<-g2];exact hr);conv=>whnf
    rw[e1,e3];refine⟨(a+2 * k,r),[0,1,2],⟨h7,q+1,by show a+2 * k=(q+1) * (2 * k);rw[c8 q (2 * k),<-g2],hn2⟩,by show n - (a+2 * k)<n - a;omega,?_⟩;conv=>whnf
    exact rZ2
   ·have h7:n<a+2 * k:=by
     have h:¬ ((a+2 * k:Nat):Int)<=n:=pw h7;omega
    have e2:IntKind.i64.wrap ((a:Int)+(k:Int))=((a+k:Nat):Int):=by rw[qa _ (by omega)];omega
    have e4:IntKind.i64.wrap ((k:Int) * 2)=((2 * k:Nat):Int):=by rw[qa _ (by omega)];omega
    conv=>whnf
    rw[e2];refine⟨fun h8=>?_,fun h8=>?_⟩
    ·have h8:a+k<n:=by
      have h:((a+k:Nat):Int)<n:=pu h8;omega
     conv=>whnf
     refine .rel _ (yx7 n hn z c g nf zf fo hg hw (2 * k+1) p a (a+k) n (by omega) g3.inj (by omega) h8 (pr _) (by rw[g2];exact g3.left (by omega)) (by rw[g2];exact g3.right (pr _) (by omega)) (by rw[g2];exact g3.sep (pr _) (by omega))) (fun r ks' hR=>?_);obtain⟨rfl,r,hr,rfl⟩:=hR;have hn2:Mg (LL (ltC c)) k n (q+1) r:=g3.next h1 (pr _) (by omega) (by omega) (by omega) (by rw[<-g2];exact hr);have ho:=hn2.over h1 (by rw[c8,<-g2];omega);conv=>whnf
     rw[e4];refine⟨(2 * k,r),[0,1,2],⟨show 0<2 * k by omega,show 2 * k<=20+2 * n by omega,hn2.inj,ho.1,ho.2⟩,by show n - 2 * k<n - k;omega,?_⟩;conv=>whnf
     exact rZ2
    ·have h8:n<=a+k:=by
      have h:¬ ((a+k:Nat):Int)<n:=pw h8;omega
     have ho:=g3.over h1 (by rw[<-g2];exact h8);conv=>whnf
     rw[e4];refine⟨(2 * k,p),[0,1,2],⟨show 0<2 * k by omega,show 2 * k<=20+2 * n by omega,g3.inj,ho.1,ho.2⟩,by show n - 2 * k<n - k;omega,?_⟩;conv=>whnf
     exact rZ2
  ·have h6:n<=k:=by
    have h:¬ (k:Int)<n:=pw h6;omega
   conv=>whnf
   refine⟨[0,1,2],_,_,rfl,rfl,?_,?_,rfl,p,h3,h5.all h6,rfl⟩
   ·exact rfl
   ·conv=>whnf
    exact rZ2
theorem xl5(n:Nat)(hn:n<1152921504606846976)(z:Z)(c:Nat->Nat->Int)(g:FuncId)(nf:Nat)(zf:Z)(fo:Nat->List DV)(hg:qw9 g c n z nf zf fo)(hw:Weak n (ltC c)) :
 COk Tryz.prog 146 [.all 0,.fn g cCap] (rowP n z id :: vn nf zf fo) (fun s k=>s = .tup []/\∃ r,Inj n r/\Rise (LL (ltC c)) r 0 n/\k=rowP n z r :: vn nf zf fo):=by
 refine jn (TT:=TT) (IN:=qe []) qg qh mixed 1000 Tryz.func146 rfl (qd Tryz.func146 (by kernel_rfl) rfl) 7 (by kernel_rfl) ?_;conv=>whnf
 refine .rel _ (zt7 n hn z c g nf zf fo hg hw) (fun r ks' hR=>?_);obtain⟨rfl,r,hr,h2,rfl⟩:=hR;conv=>whnf
 refine⟨[0,1,2],_,_,rfl,rfl,?_,?_,rfl,r,hr,h2,rfl⟩
 ·exact rfl
 ·conv=>whnf
  exact rZ2
def eCap:List SV:=[.ptr 1 0]
def jg8(nf:Nat)(zf:Z)(fo:Nat->List DV):List KB:=[.cells 196 [.fn 144 [.ptr 2 0]],.cells 47 [.all 3],.row 9 1 nf zf fo]
def EqOk(g:FuncId)(F:Nat->List UInt8)(n:Nat)(z:Z)(nf:Nat)(zf:Z)(fo:Nat->List DV):Prop :=
 ∀ (q:Nat->Nat) (x y:Nat),x<n->y<n->COk Tryz.prog g (iV x :: iV y :: eCap) (rowP n z q :: jg8 nf zf fo) (fun s k=>s = .d (.bool (decide (F x=F y)))/\k=rowP n z q :: jg8 nf zf fo)
def over(K:List Nat)(p:Nat->Nat):Nat->Nat:=fun i=>if i<K.length then K.getD i 0 else p i
theorem jb6{F:Nat->List UInt8}{p:Nat->Nat}:∀ k,(∀ i,0<i->i<k->F (p i)≠F (p (i - 1)))->kept F p k=(List.range k).map p
 |0=>fun _=>rfl
 |k+1=>fun h=>by
  unfold kept;rw[jb6 k (fun i h1 h2=>h i h1 (by omega)),List.range_succ,dw];rw[if_pos]
  ·rfl
  ·rcases fq k with e|e
   ·exact .inl e
   ·exact .inr (h k e (by omega))
theorem xf4{p:Nat->Nat}(k:Nat):over ((List.range k).map p) p=p:=by
 funext i;unfold over;rw[mn,bn];split
 ·rename_i h;simp[List.getD,co h]
 ·rfl
theorem xf3{F:Nat->List UInt8}{p:Nat->Nat}{m:Nat}(hne:F (p m)≠F (p (m - 1))):upd (over (kept F p m) p) (kept F p m).length (p m)=over (kept F p (m+1)) p:=by
 have e:kept F p (m+1)=kept F p m++[p m]:=by
  conv=>lhs;unfold kept
  rw[if_pos (.inr hne)]
 rw[e];funext i;unfold upd over;simp only[py,ou,gv];by_cases h1:i=(kept F p m).length
 ·rw[if_pos h1,if_pos (by omega),h1];simp[List.getD]
 ·rw[if_neg h1];by_cases h2:i<(kept F p m).length
  ·rw[if_pos h2,if_pos (by omega)];simp[List.getD,ot h2]
  ·rw[if_neg h2,if_neg (by omega)]
theorem yj7{F:Nat->List UInt8}{p:Nat->Nat}{m:Nat}(h0:0<m)(he:F (p m)=F (p (m - 1))):kept F p (m+1)=kept F p m:=by
 conv=>lhs;unfold kept
 rw[if_neg];rintro (h|h)
 ·omega
 ·exact h he
theorem zr6(n:Nat)(hn:n<1152921504606846976)(z:Z)(F:Nat->List UInt8)(g:FuncId)(nf:Nat)(zf:Z)(fo:Nat->List DV)(hg:EqOk g F n z nf zf fo)(p:Nat->Nat)(hp:Inj n p) :
 COk Tryz.prog 147 [.all 0,.fn g eCap] (rowP n z p :: jg8 nf zf fo) (fun s k=>((s = .all 0/\(kept F p n).length=n)\/s = .row 0 0 (kept F p n).length)/\∃ q,(∀ i,i<(kept F p n).length->q i=(kept F p n).getD i 0)/\k=rowP n z q :: jg8 nf zf fo):=by
 refine jn (TT:=TT) (IN:=qe []) qg qh mixed 1000 Tryz.func147 rfl (qd Tryz.func147 (by kernel_rfl) rfl) 64 (by kernel_rfl) ?_;conv=>whnf
 refine⟨fun h2=>?_,fun h2=>?_⟩
 ·have h2:n<2:=by
   have h:(n:Int)<2:=pu h2;omega
  have hk:kept F p n=(List.range n).map p:=jb6 n (fun i x1 x2=>by omega);conv=>whnf
  refine⟨[0,1,2,3],_,_,rfl,rfl,?_,?_,.inl ⟨rfl,by rw[hk];simp⟩,p,fun i hi=>?_,rfl⟩
  ·exact rfl
  ·conv=>whnf
   exact rZ2
  ·rw [hk] at hi ⊢;simp at hi;simp[List.getD,co hi]
 have h2:2<=n:=by
  have h:¬ (n:Int)<2:=pw h2;omega
 conv=>whnf
 refine .inv Nat (fun k=>1<=k/\k<=n/\∀ i,0<i->i<k->F (p i)≠F (p (i - 1))) (fun k=>[(5,iV k)]) (fun k=>[]) (fun k=>n - k) ⟨1,[0,1,2,3],⟨by omega,by omega,fun i h1 h2=>by omega⟩,?_⟩ ?_
 ·conv=>whnf
  exact rZ2
 intro k hk;obtain⟨k1,k2,k3⟩:=hk;conv=>whnf
 refine⟨fun h3=>?_,fun h3=>?_⟩
 ·have h3:k<n:=by
   have h:(k:Int)<n:=pu h3;omega
  have e1:IntKind.i64.wrap ((k:Int) - 1)=((k - 1:Nat):Int):=by rw[qa _ (by omega)];omega
  have e2:=w64s k (by omega);conv=>whnf
  refine⟨by omega,?_⟩;conv=>whnf
  rw[e1];refine⟨by omega,?_⟩;conv=>whnf
  rw[px,px];refine .mem _ _ (hg _ _ _ (hp.lt k h3) (hp.lt (k - 1) (by omega))) ?_;conv=>whnf
  refine⟨fun h4=>?_,fun h4=>?_⟩
  ·have h4:F (p k)=F (p (k - 1)):=pu h4;have hk0:kept F p (k+1)=(List.range k).map p:=by rw[yj7 k1 h4,jb6 k k3]
   conv=>whnf
   refine⟨by omega,?_⟩;conv=>whnf
   refine .inv Nat (fun j=>1<=j/\k+j<=n/\(kept F p (k+j)).length<k+j) (fun j=>[(5,iV (kept F p (k+j)).length),(7,iV j)]) (fun j=>[(0,rowP n z (over (kept F p (k+j)) p))]) (fun j=>n - j) ⟨1,[0,1,2,3],⟨by omega,by omega,by rw[hk0];simp⟩,?_⟩ ?_
   ·rw[hk0,xf4];conv=>whnf
    rw[mn,bn];exact rZ2
   intro j hj;obtain⟨j1,j2,j3⟩:=hj;conv=>whnf
   refine⟨fun h5=>?_,fun h5=>?_⟩
   ·have e3:IntKind.i64.wrap ((j:Int) - 1)=((j - 1:Nat):Int):=by rw[qa _ (by omega)];omega
    have e4:=w64s j (by omega);have h5:k+j<n:=by
     have h:(j:Int)<(((n:Int) - k).toNat:Nat):=pu h5;omega
    have r1:over (kept F p (k+j)) p (k+j)=p (k+j):=by unfold over;rw[if_neg (by omega)]
    have r2:over (kept F p (k+j)) p (k+(j - 1))=p (k+j - 1):=by unfold over;rw[if_neg (by omega),show k+(j - 1)=k+j - 1 by omega]
    conv=>whnf
    refine⟨by omega,?_⟩;conv=>whnf
    rw[e3];refine⟨by omega,?_⟩;conv=>whnf
    rw[px,px,px,r1,r2];refine .mem _ _ (hg _ _ _ (hp.lt (k+j) (by omega)) (hp.lt (k+j - 1) (by omega))) ?_;conv=>whnf
    refine⟨fun h6=>?_,fun h6=>?_⟩
    ·have h6:F (p (k+j))≠F (p (k+j - 1)):=by
      have h7:(!(decide (F (p (k+j))=F (p (k+j - 1)))))=true:=h6;simpa using h7
     have r3:over (kept F p (k+j)) p (k+j)=p (k+j):=r1;have h8:(kept F p (k+(j+1))).length=(kept F p (k+j)).length+1:=by
      show(kept F p (k+j+1)).length=_;conv=>lhs;unfold kept
      rw[if_pos (.inr h6)];simp
     have e5:IntKind.i64.wrap (((kept F p (k+j)).length:Int)+1)=(((kept F p (k+j)).length+1:Nat):Int):=by rw[qa _ (by omega)];omega
     conv=>whnf
     refine⟨by omega,?_⟩;conv=>whnf
     rw[px,r1];refine⟨by omega,?_⟩;conv=>whnf
     rw[e4,e5];refine⟨j+1,[0,1,2,3],⟨by omega,by omega,?_⟩,by omega,?_⟩
     ·rw[h8];omega
     rw[h8];conv=>whnf
     repeat'(first|exact ⟨⟩|exact rfl|exact jd _|exact .inr rfl|exact fun _ _=>rfl|exact noI|apply And.intro)
     intro x hx;rw[px];have h9:=qs2 (over (kept F p (k+j)) p) (kept F p (k+j)).length (p (k+j));rw [xf3 h6] at h9;exact congrFun h9 x
    ·have h6:F (p (k+j))=F (p (k+j - 1)):=by
      have h7:(!(decide (F (p (k+j))=F (p (k+j - 1)))))=false:=h6;simpa using h7
     have h7:=yj7 (by omega) h6;conv=>whnf
     rw[e4];refine⟨j+1,[0,1,2,3],⟨by omega,by omega,?_⟩,by omega,?_⟩
     ·show(kept F p (k+j+1)).length<k+j+1;rw[h7];omega
     rw[show kept F p (k+(j+1))=kept F p (k+j) from h7];conv=>whnf
     exact rZ2
   ·have h5:k+j=n:=by
     have h:¬ (j:Int)<(((n:Int) - k).toNat:Nat):=pw h5;omega
    rw [h5] at j3 ⊢;conv=>whnf
    refine⟨by omega,?_⟩;conv=>whnf
    refine⟨by omega,?_⟩;conv=>whnf
    refine⟨by omega,?_⟩;conv=>whnf
    rw[px];refine⟨[0,1,2,3],_,_,rfl,rfl,?_,?_,.inr rfl,fun i=>if i<(kept F p n).length then (kept F p n).getD i 0 else 0,fun i hi=>if_pos hi,rfl⟩
    ·exact rfl
    ·conv=>whnf
     repeat'(first|exact ⟨⟩|exact rfl|exact jd _|exact .inr rfl|exact fun _ _=>rfl|exact noI|apply And.intro)
     intro x hx;unfold midF over
     dsimp only
     by_cases hxk:x<(kept F p n).length
     ·rw[if_neg (by omega),if_pos hxk,if_pos hxk]
     ·rw[if_pos (by omega),if_neg hxk];rfl
  ·have h4:F (p k)≠F (p (k - 1)):=pw h4;conv=>whnf
   rw[e2];refine⟨k+1,[0,1,2,3],⟨by omega,by omega,fun i x1 x2=>?_⟩,by omega,?_⟩
   ·rcases oo i k with x|x
    ·exact k3 i x1 x
    ·rw[show i=k by omega];exact h4
   conv=>whnf
   exact rZ2
 ·have h3:k=n:=by
   have h:¬ (k:Int)<n:=pw h3;omega
  subst h3;have hk:=jb6 k k3;conv=>whnf
  refine⟨[0,1,2,3],_,_,rfl,rfl,?_,?_,.inl ⟨rfl,by rw[hk];simp⟩,p,fun i hi=>?_,rfl⟩
  ·exact rfl
  ·conv=>whnf
   exact rZ2
  ·rw [hk] at hi ⊢;simp at hi;simp[List.getD,co hi]
theorem yg1(a b:List UInt8):FnOk Tryz.prog 145 [.d (.str a),.d (.str b)] (.d (.int .i64 (Lib.compareBytes a b))):=by
 refine⟨qd Tryz.func145 (by kernel_rfl) rfl,fun M w vs _ hM hl hd=>?_⟩
 match vs,hl with
 |[v0,v1],_ =>
  have h0:=yk (hd 0 _ v0 rfl rfl);have h1:=yk (hd 1 _ v1 rfl rfl);subst h0 h1;refine(Try.strings_Compare ⟨a.toArray⟩ ⟨b.toArray⟩ w).mono ?_;rintro e w' ⟨rfl,rfl⟩;exact⟨_,rfl,Step.refl _ _,.d (by simpa using Rd.int _ _)⟩
def fT(fl:List (List UInt8))(i:Nat):List UInt8:=fl[i]?.getD []
theorem xp8(fl:List (List UInt8))(z zf:Z):qw9 144 (fun x y=>Lib.compareBytes (fT fl x) (fT fl y)) fl.length z fl.length zf (strs fl):=by
 intro q x y hx hy;refine jn (TT:=TT) (IN:=qe []) qg qh mixed 1000 Tryz.func144 rfl (qd Tryz.func144 (by kernel_rfl) rfl) 12 (by kernel_rfl) ?_;conv=>whnf
 refine⟨by omega,?_⟩;conv=>whnf
 refine⟨by omega,?_⟩;conv=>whnf
 rw[px,px];refine .data _ (yg1 _ _) rfl rfl ?_;conv=>whnf
 refine⟨[0,1,2],_,_,rfl,rfl,?_,?_,rfl,rfl⟩
 ·exact rfl
 ·conv=>whnf
  exact rZ2
theorem xp7(fl:List (List UInt8))(z zf:Z):EqOk 148 (fT fl) fl.length z fl.length zf (strs fl):=by
 intro q x y hx hy;refine jn (TT:=TT) (IN:=qe [(144,Tryz.f144,3)]) qg (jh qh Tryz.func144 (by kernel_rfl) (by kernel_rfl)) mixed 1000 Tryz.func148 rfl (qd Tryz.func148 (by kernel_rfl) rfl) 8 (by kernel_rfl) ?_;conv=>whnf
 refine⟨by omega,?_⟩;conv=>whnf
 refine⟨by omega,?_⟩;conv=>whnf
 rw[px,px];refine .data _ (yg1 _ _) rfl rfl ?_;conv=>whnf
 rw[show(Lib.compareBytes (fl[x]?.getD []) (fl[y]?.getD []) == 0)=decide (fT fl x=fT fl y) by
  unfold fT;rw[ly,mw,decide_eq_true_iff];exact qu5 _ _]
 refine⟨[0,1,2,3],_,_,rfl,rfl,?_,?_,rfl,rfl⟩
 ·exact rfl
 ·conv=>whnf
  exact rZ2
def xz(a:Int)(l:List RR):Int:=l.foldl (fun a r=>if r.ttl<a then r.ttl else a) a
def vg(t:Int)(l:List RR):List (List UInt8):=(qs9 (qy t) (l.map (·.d))).take 64
def xo(l:List RR)(K:List Nat):List (List UInt8):=K.map fun i=>(l.getD i default).d
def j6(t:Int)(l:List RR):List (List UInt8):=l.map fun r=>qy t r.d
theorem yd5{F G:Nat->List UInt8}{p:Nat->Nat}:∀ n,(∀ i,i<n->F (p i)=G (p i))->kept F p n=kept G p n
 |0=>fun _=>rfl
 |n+1=>fun h=>by
  unfold kept;rw[yd5 n (fun i hi=>h i (by omega)),h n (by omega),h (n - 1) (by omega)]
theorem xa5{t:Int}{l:List RR}{p:Nat->Nat}(hp:Inj l.length p)(hr:Rise (LL (ltF (fT (j6 t l)))) p 0 l.length):xo l (kept (fT (j6 t l)) p l.length)=qs9 (qy t) (l.map (·.d)):=by
 have hF:∀ i,i<l.length->fT (j6 t l) i=qy t ((l.map (·.d))[i]?.getD []):=fun i hi=>by
  simp[fT,j6,o4,pp hi]
 have hxl:(l.map (·.d)).length=l.length:=by simp
 have h1:=zk4 (F:=qy t) (xs:=l.map (·.d)) (p:=p) (hxl ▸ hp) (by
  rw[hxl];intro i j hi hij hj;have:=hr i j hi hij hj;unfold LL ltF at this ⊢;rw [hF _ (hp.lt i (by omega)),hF _ (hp.lt j hj)] at this;exact this)
 have h2:=yk7 (qy t) (l.map (·.d));rw[h1.uniq h2 |>.symm];rw[hxl,<-yd5 (F:=fT (j6 t l)) (G:=fun i=>qy t ((l.map (·.d))[i]?.getD [])) l.length (fun i hi=>hF _ (hp.lt i hi))];unfold xo;apply List.map_congr_left;intro a ha;obtain⟨i,hi,e,_⟩:=(ja2 hp hr l.length (pr _)).2.1 a ha;have:=hp.lt i hi;rw[e];simp[List.getD,o4,pp this]
theorem ye5{l:List RR}{K:List Nat}{j:Nat}(h:j<K.length):xo l (K.take (j+1))=xo l (K.take j)++[(l.getD (K.getD j 0) default).d]:=by
 have e:K.take (j+1)=K.take j++[K.getD j 0]:=by
  rw[mp,List.getD,pp h];rfl
 rw[e];unfold xo;rw[dw];rfl
theorem xj4(nm:List UInt8)(t:Int)(z:Bool)(l:List RR)(h0:0<l.length)(hn:l.length<=100000):FnOk Tryz.prog 114 [.d (.str nm),.d (.int .u16 t),.d (rrsD z l)] (setV nm t (xz (l.getD 0 default).ttl l) false (vg t l)):=by
 refine qu (TT:=TT) (IN:=qe []) qg qh mixed 1000 Tryz.func114 rfl (qd Tryz.func114 (by kernel_rfl) rfl) rfl 79 (by kernel_rfl) ?_;conv=>whnf
 refine⟨by omega,?_⟩;conv=>whnf
 refine⟨⟨by omega,by omega,by show(l.length:Int) * 16<=_;omega,by omega⟩,?_⟩;conv=>whnf
 refine⟨⟨by omega,by omega,by show(l.length:Int) * 8<=_;omega,by omega⟩,?_⟩;conv=>whnf
 refine .inv Nat (fun i=>i<=l.length) (fun i=>[(30,iV i),(9,.all 4),(24,.any),(27,.any)]) (fun i=>[(1,.cells 49 [.d (.str nm),.d (.int .u16 t),.d (.int .u32 (xz (l.getD 0 default).ttl (l.take i))),nilS]),(2,.row 9 1 i .no (strs (j6 t (l.take i)))),(4,rowP i .no id)]) (fun i=>l.length - i) ⟨0,[0,1,2,3,4],pz _,?_⟩ ?_
 ·conv=>whnf
  exact rZ2
 intro i hi;conv=>whnf
 refine⟨fun h1=>?_,fun h1=>?_⟩
 ·have h1:i<l.length:=by
   have h:(i:Int)<l.length:=pu h1;omega
  obtain⟨r,hr⟩:∃ r,l.getD i default=r:=⟨_,rfl⟩;conv=>whnf
  refine⟨by omega,?_⟩;conv=>whnf
  refine .data _ (qr9 t _) rfl rfl ?_;conv=>whnf
  refine⟨by omega,?_⟩;conv=>whnf
  refine⟨by omega,?_⟩;conv=>whnf
  rw[show IntKind.i64.wrap ((i:Int)+1)=((i+1:Nat):Int) by rw[qa _ (by omega)];omega];rw[px,hr];refine⟨i+1,[0,1,7,3,9],h1,by omega,?_⟩;have htk:l.take (i+1)=l.take i++[r]:=by rw[mp,<-hr,List.getD,pp h1];rfl
  have hmin:xz (l.getD 0 default).ttl (l.take (i+1))=(if r.ttl<xz (l.getD 0 default).ttl (l.take i) then r.ttl else xz (l.getD 0 default).ttl (l.take i)):=by
   rw[htk];unfold xz;rw[List.foldl_append];rfl
  have hfo:j6 t (l.take (i+1))=j6 t (l.take i)++[qy t r.d]:=by rw[htk];simp[j6]
  have hfl:(j6 t (l.take i)).length=i:=by simp[j6];omega
  rw[hmin,hfo];conv=>whnf
  repeat'(first|exact ⟨⟩|exact rfl|exact jd _|exact .inr rfl|exact fun _ _=>rfl|exact noI|apply And.intro)
  ·intro x hx;have:=wg (j6 t (l.take i)) (qy t r.d) (qx [DV.str (qy t r.d)] 1) rfl x (by omega);rw [hfl] at this;exact this
  ·intro x hx;show catF i (fun i=>cel i) _ x=cel x;unfold catF;by_cases hxi:x<i
   ·rw[if_pos hxi]
   ·have:x=i:=by omega
    subst this;rw[if_neg hxi,gq];rfl
 ·have h1:i=l.length:=by
   have h:¬ (i:Int)<l.length:=pw h1;omega
  subst h1;rw[mr];have hfl:(j6 t l).length=l.length:=by simp[j6]
  have hw:=xg1 l.length (fT (j6 t l));have hlt:ltC (fun x y=>Lib.compareBytes (fT (j6 t l) x) (fT (j6 t l) y))=ltF (fT (j6 t l)):=by
   funext x y;unfold ltC ltF;rw[ly,decide_eq_true_iff];exact qj4 _ _
  have hc1:=xp8 (j6 t l) .no .no;have hc2:=xp7 (j6 t l) .no .no;rw [hfl] at hc1 hc2;have hsort:=xl5 l.length (by omega) .no _ _ _ _ _ hc1 (by rw[hlt];exact hw);rw [hlt] at hsort;conv=>whnf
  refine .rel _ (COk.frameX hsort [4,3,2] rfl rfl rfl) (fun r ks' hR=>?_);obtain⟨_,_,⟨rfl,p,hp,hrise,rfl⟩,rfl,hk0⟩:=hR;have hk:ks'=[.cells 49 [.d (.str []),.d (.int .u16 0),.d (.int .u32 0),nilS],.cells 49 [.d (.str nm),.d (.int .u16 t),.d (.int .u32 (xz (l.getD 0 default).ttl l)),nilS],.row 9 1 l.length .no (strs (j6 t l)),.cells 47 [.all 2],rowP l.length .no p,.cells 196 [.fn 144 [.ptr 3 0]]]:=hk0;clear hk0;subst hk;conv=>whnf
  refine .rel _ (COk.frameX (zr6 l.length (by omega) .no _ _ _ _ _ hc2 p hp) [4,5,3,2] rfl rfl rfl) (fun r ks' hR=>?_);obtain⟨_,_,⟨hres,q,hq,rfl⟩,hr,hk0⟩:=hR;have hk:ks'=[.cells 49 [.d (.str []),.d (.int .u16 0),.d (.int .u32 0),nilS],.cells 49 [.d (.str nm),.d (.int .u16 t),.d (.int .u32 (xz (l.getD 0 default).ttl l)),nilS],.row 9 1 l.length .no (strs (j6 t l)),.cells 47 [.all 2],rowP l.length .no q,.cells 196 [.fn 144 [.ptr 3 0]]]:=hk0;clear hk0;subst hk;have hkl:=yv3 (fT (j6 t l)) p l.length;have hKlt:∀ j,j<(kept (fT (j6 t l)) p l.length).length->(kept (fT (j6 t l)) p l.length).getD j 0<l.length:=fun j hj=>by
   have hs:=(ja2 hp hrise l.length (pr _)).2.1 _ (d5 hj);obtain⟨i,hi,e,_⟩:=hs;rw[List.getD,pp hj];show(kept (fT (j6 t l)) p l.length)[j]<l.length;rw[e];exact hp.lt i hi
  have hlaw:=xa5 hp hrise;have hpos:=yq0 (fT (j6 t l)) p l.length h0;generalize hK:kept (fT (j6 t l)) p l.length=K at hres hq hkl hKlt hlaw hpos;have hlaw2:xo l (K.take 64)=vg t l:=by unfold vg;rw[<-hlaw];unfold xo;rw[List.map_take]
  have hr2:(r = .all 4/\K.length=l.length)\/r = .row 4 0 K.length:=by
   rcases hres with⟨e,h⟩|e
   ·subst e;exact .inl ⟨hr,h⟩
   ·subst e;exact .inr hr
  clear hr hres hc1 hc2 hsort;rcases hr2 with⟨rfl,hres⟩|rfl
  ·conv=>whnf
   have em:(if (64:Int)<(l.length:Int) then (64:Int) else (l.length:Int))=((min K.length 64:Nat):Int):=by split <;> omega
   rw[em];refine⟨by omega,?_⟩;conv=>whnf
   refine .nilC 1 3 9 1 (strs []) _ _ _ _ rfl rfl ?_;conv=>whnf
   refine .inv Nat (fun j=>j<=min K.length 64) (fun j=>[(66,iV j)]) (fun j=>[(1,.cells 49 [.d (.str nm),.d (.int .u16 t),.d (.int .u32 (xz (l.getD 0 default).ttl l)),.all 6]),(6,.row 9 1 j .iff (strs (xo l (K.take j))))]) (fun j=>min K.length 64 - j) ⟨0,[0,1,2,3,4,5,6],pz _,?_⟩ ?_
   ·conv=>whnf
    exact rZ2
   intro j hj;conv=>whnf
   refine⟨fun h1=>?_,fun h1=>?_⟩
   ·have h1:j<min K.length 64:=by
     have h:(j:Int)<((min K.length 64:Nat):Int):=pu h1;omega
    have hqj:=hq j (by omega);have hlt:=hKlt j (by omega);rw [<-hqj] at hlt;conv=>whnf
    refine⟨by omega,?_⟩;conv=>whnf
    first
     |rw[show 0+Int.toNat 0+(j:Int).toNat=j by simp]
     |rw[show Int.toNat 0+(j:Int).toNat=j by simp]
    generalize q j=v at hlt hqj ⊢;refine⟨by omega,?_⟩;conv=>whnf
    refine⟨by omega,?_⟩;conv=>whnf
    rw[show IntKind.i64.wrap ((j:Int)+1)=((j+1:Nat):Int) by rw[qa _ (by omega)];omega];rw[px,hqj];have hdt:=ye5 (l:=l) (K:=K) (j:=j) (by omega);have hdl:(xo l (K.take j)).length=j:=by unfold xo;simp;omega
    refine⟨j+1,[0,1,2,3,4,5,8],h1,by omega,?_⟩;rw[hdt];conv=>whnf
    repeat'(first|exact ⟨⟩|exact rfl|exact jd _|exact .inr rfl|exact fun _ _=>rfl|exact noI|apply And.intro)
    intro x hx;have:=wg (xo l (K.take j)) ((l.getD (K.getD j 0) default).d) (qx [DV.str (l.getD (K.getD j 0) default).d] 1) rfl x (by omega);rw [hdl] at this;exact this
   ·have h1:j=min K.length 64:=by
     have h:¬ (j:Int)<((min K.length 64:Nat):Int):=pw h1;omega
    have htk:K.take j=K.take 64:=by
     rw[h1];rcases Nat.le_total K.length 64 with x|x
     ·rw[ay x,mr,dn x]
     ·rw[Nat.min_eq_right x]
    rw[htk,hlaw2];have hbl:(vg t l).length=j:=by rw[<-hlaw2];unfold xo;simp;omega
    have hj0:0<j:=by omega
    rw [<-hbl] at hj0 ⊢;conv=>whnf
    repeat'(first|exact ⟨⟩|exact rfl|exact .inr rfl|exact .inl rfl|exact fun _ _=>rfl|exact noI|apply And.intro)
    ·generalize (vg t l).length=k at hj0;cases k with
     |zero=>omega
     |succ k=>rfl
    try exact .inr rfl
    try exact fun _ _=>rfl
  ·conv=>whnf
   have em:(if (64:Int)<(K.length:Int) then (64:Int) else (K.length:Int))=((min K.length 64:Nat):Int):=by split <;> omega
   rw[em];refine⟨by omega,?_⟩;conv=>whnf
   refine .nilC 1 3 9 1 (strs []) _ _ _ _ rfl rfl ?_;conv=>whnf
   refine .inv Nat (fun j=>j<=min K.length 64) (fun j=>[(66,iV j)]) (fun j=>[(1,.cells 49 [.d (.str nm),.d (.int .u16 t),.d (.int .u32 (xz (l.getD 0 default).ttl l)),.all 6]),(6,.row 9 1 j .iff (strs (xo l (K.take j))))]) (fun j=>min K.length 64 - j) ⟨0,[0,1,2,3,4,5,6],pz _,?_⟩ ?_
   ·conv=>whnf
    exact rZ2
   intro j hj;conv=>whnf
   refine⟨fun h1=>?_,fun h1=>?_⟩
   ·have h1:j<min K.length 64:=by
     have h:(j:Int)<((min K.length 64:Nat):Int):=pu h1;omega
    have hqj:=hq j (by omega);have hlt:=hKlt j (by omega);rw [<-hqj] at hlt;conv=>whnf
    refine⟨by omega,?_⟩;conv=>whnf
    first
     |rw[show 0+Int.toNat 0+(j:Int).toNat=j by simp]
     |rw[show Int.toNat 0+(j:Int).toNat=j by simp]
    generalize q j=v at hlt hqj ⊢;refine⟨by omega,?_⟩;conv=>whnf
    refine⟨by omega,?_⟩;conv=>whnf
    rw[show IntKind.i64.wrap ((j:Int)+1)=((j+1:Nat):Int) by rw[qa _ (by omega)];omega];rw[px,hqj];have hdt:=ye5 (l:=l) (K:=K) (j:=j) (by omega);have hdl:(xo l (K.take j)).length=j:=by unfold xo;simp;omega
    refine⟨j+1,[0,1,2,3,4,5,8],h1,by omega,?_⟩;rw[hdt];conv=>whnf
    repeat'(first|exact ⟨⟩|exact rfl|exact jd _|exact .inr rfl|exact fun _ _=>rfl|exact noI|apply And.intro)
    intro x hx;have:=wg (xo l (K.take j)) ((l.getD (K.getD j 0) default).d) (qx [DV.str (l.getD (K.getD j 0) default).d] 1) rfl x (by omega);rw [hdl] at this;exact this
   ·have h1:j=min K.length 64:=by
     have h:¬ (j:Int)<((min K.length 64:Nat):Int):=pw h1;omega
    have htk:K.take j=K.take 64:=by
     rw[h1];rcases Nat.le_total K.length 64 with x|x
     ·rw[ay x,mr,dn x]
     ·rw[Nat.min_eq_right x]
    rw[htk,hlaw2];have hbl:(vg t l).length=j:=by rw[<-hlaw2];unfold xo;simp;omega
    have hj0:0<j:=by omega
    rw [<-hbl] at hj0 ⊢;conv=>whnf
    repeat'(first|exact ⟨⟩|exact rfl|exact .inr rfl|exact .inl rfl|exact fun _ _=>rfl|exact noI|apply And.intro)
    ·generalize (vg t l).length=k at hj0;cases k with
     |zero=>omega
     |succ k=>rfl
    try exact .inr rfl
    try exact fun _ _=>rfl
def yv(r:RR):Bool:=r.cl == 1 && r.check
def yy0(z:Bool)(l:List RR):SV:=.fn 143 [.dptr [rrsD z l] 0]
theorem zt8(z:Bool)(l:List RR):FnOk Tryz.prog 113 [.d (rrsD z l)] (yy0 z l):=by
 refine COk.clos (t:=56) ?_;refine jn (TT:=TT) (IN:=qe []) qg qh mixed 1000 Tryz.func113 rfl (qd Tryz.func113 (by kernel_rfl) rfl) 3 (by kernel_rfl) ?_;conv=>whnf
 refine⟨[0],.fn 143 [.ptr 0 0],[.cells 56 [.d (rrsD z l)]],rfl,rfl,rfl,?_,rfl,rfl⟩;exact rZ6
def rrs(l:List RR):Nat->List DV:=fun i=>(l.getD i default).enc
theorem zr7(z:Bool)(l:List RR)(hn:l.length<=100000):FnOk Tryz.prog 112 [yy0 z l] (.d (rrsD (l.filter yv).isEmpty (l.filter yv))):=by
 refine qu (TT:=TT) (IN:=qe [(142,Tryz.f142,2),(143,Tryz.f143,2)]) qg (jh (jh qh Tryz.func143 (by kernel_rfl) (by kernel_rfl)) Tryz.func142 (by kernel_rfl) (by kernel_rfl)) mixed 1000 Tryz.func112 rfl (qd Tryz.func112 (by kernel_rfl) rfl) rfl 4 (by kernel_rfl) ?_;conv=>whnf
 refine .nilC 0 0 62 5 (rrs []) _ _ _ _ rfl rfl ?_;conv=>whnf
 refine .inv Nat (fun i=>i<=l.length) (fun i=>[(7,iV i)]) (fun i=>[(2,.row 62 5 ((l.take i).filter yv).length .iff (rrs ((l.take i).filter yv)))]) (fun i=>l.length - i) ⟨0,[0,1,2],pz _,?_⟩ ?_
 ·conv=>whnf
  exact rZ2
 intro i hi;conv=>whnf
 refine⟨fun h1=>?_,fun h1=>?_⟩
 ·have h1:i<l.length:=by
   have h:(i:Int)<l.length:=pu h1;omega
  obtain⟨r,hr⟩:∃ r,l.getD i default=r:=⟨_,rfl⟩;have htk:l.take (i+1)=l.take i++[r]:=by rw[mp,<-hr,List.getD,pp h1];rfl
  have hw1:=w64s i (by omega);conv=>whnf
  refine⟨by omega,?_⟩;conv=>whnf
  rw[px,hr];refine⟨fun h2=>?_,fun h2=>?_⟩
  ·have hb:yv r=false:=by unfold yv;rw[show(r.cl == 1)=false by simpa using h2];rfl
   have hf:(l.take (i+1)).filter yv=(l.take i).filter yv:=by rw[htk,d8];simp[hb]
   conv=>whnf
   rw[hw1];refine⟨i+1,[0,1,2],h1,by omega,?_⟩;rw[hf];conv=>whnf
   exact rZ2
  ·have hcl:(r.cl == 1)=true:=by simpa using h2
   conv=>whnf
   refine oD (ji9 r) rfl rfl ?_;conv=>whnf
   cases hck:r.check with
   |false =>
    have hb:yv r=false:=by unfold yv;rw[hck,gu]
    have hf:(l.take (i+1)).filter yv=(l.take i).filter yv:=by rw[htk,d8];simp[hb]
    refine brT rfl ?_;conv=>whnf
    rw[hw1];refine⟨i+1,[0,1,2],h1,by omega,?_⟩;rw[hf];conv=>whnf
    exact rZ2
   |true =>
    have hb:yv r=true:=by unfold yv;rw[hck,hcl];rfl
    have hf:(l.take (i+1)).filter yv=(l.take i).filter yv++[r]:=by rw[htk,d8];simp[hb]
    have hll:((l.take i).filter yv).length<=100000:=l9 (d9 _ _) (by simp;omega);refine brF rfl ?_;conv=>whnf
    refine⟨by omega,?_⟩;conv=>whnf
    rw[hw1];refine⟨i+1,[0,1,6],h1,by omega,?_⟩;rw[hf];conv=>whnf
    repeat'(first|exact ⟨⟩|exact rfl|exact jd _|exact .inr rfl|exact fun _ _=>rfl|exact noI|apply And.intro)
    ·rw[py];rfl
    ·exact fun x hx=>yx8 _ r x hx
 ·have h1:i=l.length:=by
   have h:¬ (i:Int)<l.length:=pw h1;omega
  subst h1;rw[mr];conv=>whnf
  refine⟨?_,rfl,.inr rfl,fun _ _=>rfl⟩;cases l.filter yv <;> rfl
structure St where
 nm:List UInt8
 ty:Int
 ttl:Int
 z:Bool
 data:List (List UInt8)
def St.no:St:=⟨[],0,0,true,[]⟩
instance:Inhabited St:=⟨St.no⟩
def St.V(s:St):SV:=setV s.nm s.ty s.ttl s.z s.data
def ya(nm:List UInt8)(t:Int)(r:RR):Bool:=r.ty == t && (r.nm.length == nm.length && fold r.nm == fold nm)
def yx(nm:List UInt8)(t:Int)(l:List RR):List RR:=(l.filter (ya nm t)).filter yv
def qv6(nm:List UInt8)(t:Int)(l:List RR):St:=⟨nm,t,xz (l.getD 0 default).ttl l,false,vg t l⟩
def q9(nm:List UInt8)(t:Int)(l:List RR):St × Int:=if qb nm then (if (yx nm t l).isEmpty then (St.no,3) else (qv6 nm t (yx nm t l),0)) else (St.no,3)
theorem yw1(nm:List UInt8)(t:Int)(z:Bool)(l:List RR)(hn:l.length<=100000)(hnm:nm.length<=100000)(hl:∀ r ∈ l,r.nm.length<=100000):FnOk Tryz.prog 74 [.d (.str nm),.d (.int .u16 t),.d (rrsD z l)] (.tup [(q9 nm t l).1.V,.d (.int .i64 (q9 nm t l).2)]):=by
 refine qu (TT:=TT) (IN:=qe [(111,Tryz.f111,4)]) qg (jh qh Tryz.func111 (by kernel_rfl) (by kernel_rfl)) mixed 1000 Tryz.func74 rfl (qd Tryz.func74 (by kernel_rfl) rfl) rfl 42 (by kernel_rfl) ?_;conv=>whnf
 refine oD (yq nm) rfl rfl ?_;by_cases hnn:qb nm
 ·rw[if_pos hnn];have hsp:q9 nm t l=if (yx nm t l).isEmpty then (St.no,3) else (qv6 nm t (yx nm t l),0):=if_pos hnn;rw[hsp];conv=>whnf
  refine brF rfl ?_;conv=>whnf
  refine oD (xc nm (by omega)) rfl rfl ?_;conv=>whnf
  refine .nilT 10 62 5 (rrs []) _ _ rfl ?_;conv=>whnf
  refine .inv Nat (fun i=>i<=l.length) (fun i=>[(22,iV i),(10,.all 4)]) (fun i=>[(4,.row 62 5 ((l.take i).filter (ya nm t)).length .iff (rrs ((l.take i).filter (ya nm t))))]) (fun i=>l.length - i) ⟨0,[0,1,2,3,4],pz _,?_⟩ ?_
  ·conv=>whnf
   exact rZ2
  intro i hi;conv=>whnf
  refine⟨fun h1=>?_,fun h1=>?_⟩
  ·have h1:i<l.length:=by
    have h:(i:Int)<l.length:=pu h1;omega
   obtain⟨r,hr⟩:∃ r,l.getD i default=r:=⟨_,rfl⟩;have hrl:l[i]? = some r:=by rw[<-hr,List.getD,pp h1];rfl
   have hrn:=hl r (ov hrl);have htk:l.take (i+1)=l.take i++[r]:=by rw[mp,hrl];rfl
   have hw1:=w64s i (by omega);conv=>whnf
   refine⟨by omega,?_⟩;conv=>whnf
   rw[px,hr];refine⟨fun h2=>?_,fun h2=>?_⟩
   ·conv=>whnf
    refine⟨fun h3=>?_,fun h3=>?_⟩
    ·conv=>whnf
     refine .data _ (xc r.nm (by omega)) rfl rfl ?_;conv=>whnf
     refine⟨fun h4=>?_,fun h4=>?_⟩
     ·have hb:ya nm t r=true:=by
       unfold ya;rw [jg5] at h3;rw [h2,h3,h4];rfl
      have hf:(l.take (i+1)).filter (ya nm t)=(l.take i).filter (ya nm t)++[r]:=by rw[htk,d8];simp[hb]
      have hll:((l.take i).filter (ya nm t)).length<=100000:=l9 (d9 _ _) (by simp;omega);conv=>whnf
      refine⟨by omega,?_⟩;conv=>whnf
      rw[hw1];refine⟨i+1,[0,1,2,3,8],h1,by omega,?_⟩;rw[hf];conv=>whnf
      repeat'(first|exact ⟨⟩|exact rfl|exact jd _|exact .inr rfl|exact fun _ _=>rfl|exact noI|apply And.intro)
      ·rw[py];rfl
      ·exact fun x hx=>yx8 _ r x hx
     ·have hb:ya nm t r=false:=by
       unfold ya;rw[h4,gu,gu]
      have hf:(l.take (i+1)).filter (ya nm t)=(l.take i).filter (ya nm t):=by rw[htk,d8];simp[hb]
      conv=>whnf
      repeat(first|(refine brF rfl ?_;conv=>whnf))
      rw[hw1];refine⟨i+1,[0,1,2,3,4],h1,by omega,?_⟩;rw[hf];conv=>whnf
      exact rZ2
    ·have hb:ya nm t r=false:=by
      unfold ya;rw [jg5] at h3;rw [h3,fx,gu]
     have hf:(l.take (i+1)).filter (ya nm t)=(l.take i).filter (ya nm t):=by rw[htk,d8];simp[hb]
     conv=>whnf
     repeat(first|(refine brF rfl ?_;conv=>whnf))
     rw[hw1];refine⟨i+1,[0,1,2,3,4],h1,by omega,?_⟩;rw[hf];conv=>whnf
     exact rZ2
   ·have hb:ya nm t r=false:=by
     unfold ya;rw[h2,fx]
    have hf:(l.take (i+1)).filter (ya nm t)=(l.take i).filter (ya nm t):=by rw[htk,d8];simp[hb]
    conv=>whnf
    repeat(first|(refine brF rfl ?_;conv=>whnf))
    rw[hw1];refine⟨i+1,[0,1,2,3,4],h1,by omega,?_⟩;rw[hf];conv=>whnf
    exact rZ2
  ·have h1:i=l.length:=by
    have h:¬ (i:Int)<l.length:=pw h1;omega
   subst h1;rw[mr];have hfl:(l.filter (ya nm t)).length<=100000:=l9 (d9 _ _) hn;have hpl:(yx nm t l).length<=100000:=l9 (d9 _ _) hfl;conv=>whnf
   refine .one (.frz _ _ [4] (zt8 (Nat.beq (l.filter (ya nm t)).length 0) (l.filter (ya nm t))) ?_ rfl rfl ?_)
   ·conv=>whnf
    exact⟨rfl,rfl⟩
   conv=>whnf
   refine oD (zr7 _ (l.filter (ya nm t)) hfl) rfl rfl ?_;rw[show(l.filter (ya nm t)).filter yv=yx nm t l from rfl];generalize yx nm t l=m at hpl ⊢;cases m with
   |nil =>
    conv=>whnf
    refine brT rfl ?_;conv=>whnf
    exact rZ4
   |cons r m =>
    conv=>whnf
    refine brF rfl ?_;conv=>whnf
    refine oD (xj4 nm t false (r :: m) (by simp) hpl) rfl rfl ?_;conv=>whnf
    exact rZ4
 ·rw[if_neg hnn];have hsp:q9 nm t l=(St.no,3):=if_neg hnn;rw[hsp];conv=>whnf
  refine brT rfl ?_;conv=>whnf
  exact rZ4
theorem yu0{a b:List (List UInt8)}(h:a.length≠b.length):(a == b)=false:=by
 cases e:a == b
 ·rfl
 ·exact absurd (congrArg List.length (eq_of_beq e)) h
def texD(z:Bool)(l:List (List UInt8)):DV:=.sl z l.length 1 (strs l)
theorem xq9(y z:Bool)(a b:List (List UInt8))(ha:a.length<4611686018427387904)(hb:b.length<4611686018427387904):FnOk Tryz.prog 175 [.d (texD y a),.d (texD z b)] (.d (.bool (a == b))):=by
 refine qu (TT:=TT) (IN:=qe []) qg qh mixed 1000 Tryz.func175 rfl (qd Tryz.func175 (by kernel_rfl) rfl) rfl 24 (by kernel_rfl) ?_;conv=>whnf
 refine⟨fun h1=>?_,fun h1=>?_⟩
 ·have h:a.length≠b.length:=by intro e;rw [e] at h1;simp at h1
  rw[yu0 h];conv=>whnf
  first|done|exact rfl
 have hl:a.length=b.length:=by simp at h1;omega
 conv=>whnf
 refine .inv Nat (fun i=>i<=a.length/\(a.drop i == b.drop i)=(a == b)) (fun i=>[(13,.d (.int .i64 i))]) (fun _=>[]) (fun i=>a.length - i) ⟨0,[],⟨pz _,rfl⟩,?_⟩ ?_
 ·conv=>whnf
  exact rZ6
 rintro i ⟨hi,hrest⟩
 conv=>whnf
 refine⟨fun c5=>?_,fun c5=>?_⟩
 ·have c5':i<a.length:=(by have h:(i:Int)<a.length:=pu c5;omega);conv=>whnf
  refine⟨by omega,?_⟩;conv=>whnf
  refine⟨by omega,?_⟩;conv=>whnf
  obtain⟨q,hq⟩:∃ q,a[i]?.getD []=q:=⟨_,rfl⟩;obtain⟨r,hr⟩:∃ r,b[i]?.getD []=r:=⟨_,rfl⟩;rw[px,hq,hr];have hda:a.drop i=q :: a.drop (i+1):=by
   rw[l6 c5',<-hq,pp c5'];rfl
  have hdb:b.drop i=r :: b.drop (i+1):=by
   rw[l6 (by omega),<-hr,pp (by omega)]
   rfl
  have hst:(q == r && a.drop (i+1) == b.drop (i+1))=(a == b):=by rw[<-hrest,hda,hdb];rfl
  cases he:q == r
  ·rw [he,fx] at hst;rw[<-hst];refine brT rfl ?_;conv=>whnf
   first|done|exact rfl
  ·rw [he,l7] at hst;refine brF rfl ?_;conv=>whnf
   have hw1:=w64s i (by omega);refine⟨i+1,[],⟨c5',hst⟩,by omega,?_⟩;conv=>whnf
   rw[hw1];exact rZ6
 have hia:i=a.length:=(by have h:¬ (i:Int)<a.length:=pw c5;omega);rw [r9 (by omega),r9 (by omega)] at hrest;rw[<-hrest];conv=>whnf
 exact rfl
def St.ok(s:St):Bool:=k7 s.nm s.ty s.ttl s.data
def plsZ(l:List (List UInt8)):Nat->List DV:=fun j=>plW (l.getD j default)
def nmsZ(l:List (List UInt8)):List (List UInt8):=l.filter fun n=>decide (qb n)
theorem xe9(l:List (List UInt8))(r:List UInt8):∀ i,i<l.length+1->catF l.length (plsZ l) (qx (plW r) 2) i=plsZ (l++[r]) i:=fun i hi=>by
 unfold catF plsZ;split
 ·rename_i h;congr 1;rw[gr,gr,ot h]
 ·have:i=l.length:=by omega
  subst this;rw[gq,gr,o5 (pr _),gq];rfl
theorem zx2(l:List (List UInt8))(i:Nat)(n:List UInt8)(h:l[i]? = some n):nmsZ (l.take (i+1))=if qb n then nmsZ (l.take i)++[n] else nmsZ (l.take i):=by
 unfold nmsZ;rw[mp,h];by_cases hn:qb n <;> simp[hn]
theorem xc2(z:Bool)(l:List (List UInt8))(hn:l.length<=100000):FnOk Tryz.prog 140 [.d (.sl z l.length 1 (strs l))] (.d (.sl (zd l).isEmpty (zd l).length 1 (strs (zd l)))):=by
 refine qu (TT:=TT) (IN:=qe []) qg qh mixed 1000 Tryz.func140 rfl (qd Tryz.func140 (by kernel_rfl) rfl) rfl 55 (by kernel_rfl) ?_;conv=>whnf
 refine .nilT 3 218 2 (plsZ []) _ _ rfl ?_;conv=>whnf
 refine .inv Nat (fun i=>i<=l.length) (fun i=>[(11,iV i),(3,.all 0)]) (fun i=>[(0,.row 218 2 (nmsZ (l.take i)).length .iff (plsZ (nmsZ (l.take i))))]) (fun i=>l.length - i) ⟨0,[0],pz _,?_⟩ ?_
 ·conv=>whnf
  exact rZ2
 intro i hi;conv=>whnf
 have hfl:(nmsZ (l.take i)).length<=i:=l9 (d9 _ _) (by rw[lu];omega);refine⟨fun h1=>?_,fun h1=>?_⟩
 ·have h1:i<l.length:=by
   have h:(i:Int)<l.length:=pu h1;omega
  have hw1:=w64s i (by omega);have hli:l[i]? = some (l[i]?.getD []):=by rw[pp h1];rfl
  have hnx:=zx2 l i _ hli;conv=>whnf
  refine⟨by omega,?_⟩;conv=>whnf
  rw[px];generalize l[i]?.getD []=n at hli hnx ⊢;refine oD (yq n) rfl rfl ?_;by_cases hnn:qb n
  ·rw [if_pos hnn] at hnx ⊢;conv=>whnf
   refine brT rfl ?_;conv=>whnf
   refine oD (zv1 n hnn) rfl rfl ?_;conv=>whnf
   refine⟨by omega,?_⟩;conv=>whnf
   rw[hw1];refine⟨i+1,[2],h1,by omega,?_⟩;rw[hnx];conv=>whnf
   repeat'(first|exact ⟨⟩|exact rfl|exact jd _|exact .inr rfl|exact fun _ _=>rfl|exact noI|apply And.intro)
   ·simp
   ·exact xe9 _ n
  ·rw [if_neg hnn] at hnx ⊢;conv=>whnf
   refine brF rfl ?_;conv=>whnf
   rw[hw1];refine⟨i+1,[0],h1,by omega,?_⟩;rw[hnx];conv=>whnf
   exact rZ2
 ·have h1:i=l.length:=by
   have h:¬ (i:Int)<l.length:=pw h1;omega
  subst h1;rw[mr];rw [mr] at hfl;conv=>whnf
  refine .rel _ (xb8 (nmsZ l) (nmsZ l).length (by omega) .iff (xt9 (nmsZ l))) (fun r ks' hR=>?_);obtain⟨rfl,q,hq,hrise,rfl⟩:=hR;have hqs:=xd5 (nmsZ l) q hq hrise;conv=>whnf
  refine .nilT 6 9 1 (strs []) _ _ rfl ?_;conv=>whnf
  refine .inv Nat (fun i=>i<=(nmsZ l).length) (fun i=>[(30,iV i),(6,.all 1)]) (fun i=>[(1,.row 9 1 (u3 (xf (nmsZ l)) i).length .iff (strs (u3 (xf (nmsZ l)) i)))]) (fun i=>(nmsZ l).length - i) ⟨0,[0,1],pz _,?_⟩ ?_
  ·conv=>whnf
   exact rZ2
  intro i hi;conv=>whnf
  refine⟨fun h1=>?_,fun h1=>?_⟩
  ·have h1:i<(nmsZ l).length:=by
    have h:(i:Int)<(nmsZ l).length:=pu h1;omega
   have hw1:=w64s i (by omega);have hul:=jl7 (xf (nmsZ l)) i;conv=>whnf
   refine⟨by omega,?_⟩;conv=>whnf
   rw[px,hqs i h1];have hnx:=qy9 (xf (nmsZ l)) i;refine⟨fun h2=>?_,fun h2=>?_⟩
   ·have h2:i=0:=by simpa using h2
    have hk:v8 (xf (nmsZ l)) i=true:=by unfold v8;rw[h2];rfl
    rw [hk,if_pos rfl] at hnx;conv=>whnf
    refine⟨by omega,?_⟩;conv=>whnf
    rw[hw1];refine⟨i+1,[0,4],h1,by omega,?_⟩;rw[hnx];conv=>whnf
    repeat'(first|exact ⟨⟩|exact rfl|exact jd _|exact .inr rfl|exact fun _ _=>rfl|exact noI|apply And.intro)
    ·simp
    ·exact wg _ _ _ rfl
   ·have h2:i≠0:=by simpa using h2
    have hw2:IntKind.i64.wrap ((i:Int) - 1)=((i - 1:Nat):Int):=by rw[qa _ (by omega)];omega
    conv=>whnf
    rw[hw2];refine⟨by omega,?_⟩;conv=>whnf
    rw[px,hqs (i - 1) (by omega)];refine .data _ (xq9 _ _ _ _ (by have:=qy7 ((xf (nmsZ l)).getD i default);omega) (by have:=qy7 ((xf (nmsZ l)).getD (i - 1) default);omega)) rfl rfl ?_;conv=>whnf
    refine⟨fun h3=>?_,fun h3=>?_⟩
    ·have hk:v8 (xf (nmsZ l)) i=true:=by
      unfold v8;rw[cq];exact .inr (by simpa using h3)
     rw [hk,if_pos rfl] at hnx;conv=>whnf
     refine⟨by omega,?_⟩;conv=>whnf
     rw[hw1];refine⟨i+1,[0,4],h1,by omega,?_⟩;rw[hnx];conv=>whnf
     repeat'(first|exact ⟨⟩|exact rfl|exact jd _|exact .inr rfl|exact fun _ _=>rfl|exact noI|apply And.intro)
     ·simp
     ·exact wg _ _ _ rfl
    ·have hk:v8 (xf (nmsZ l)) i=false:=by
      unfold v8;rw[au];exact⟨by simpa using h2,by simpa using h3⟩
     rw [hk,if_neg (by decide)] at hnx;conv=>whnf
     rw[hw1];refine⟨i+1,[0,1],h1,by omega,?_⟩;rw[hnx];conv=>whnf
     exact rZ2
  ·have h1:i=(nmsZ l).length:=by
    have h:¬ (i:Int)<(nmsZ l).length:=pw h1;omega
   subst h1;conv=>whnf
   refine⟨?_,rfl,.inr rfl,fun _ _=>rfl⟩;show(zd l).length.beq 0=_;cases zd l <;> rfl
theorem yp8(a b:List UInt8):FnOk Tryz.prog 77 [.d (.str a),.d (.str b)] (.d (.bool (zg a b))):=by
 refine qu (TT:=TT) (IN:=qe []) qg qh mixed 1000 Tryz.func77 rfl (qd Tryz.func77 (by kernel_rfl) rfl) rfl 25 (by kernel_rfl) ?_;conv=>whnf
 cases h0:((a.length:Int) == (b.length:Int))
 ·have:zg a b=false:=by
   cases hf:fold a == fold b
   ·unfold zg;rw[hf,gu,gu]
   ·have:=congrArg List.length (eq_of_beq hf);rw [yq9,yq9] at this;rw [this] at h0;simp at h0
  rw[this];refine brF rfl ?_;conv=>whnf
  repeat(first|(refine brF rfl ?_;conv=>whnf))
  try exact rfl
 ·refine brT rfl ?_;conv=>whnf
  refine oD (yq a) rfl rfl ?_;by_cases ha:qb a
  ·rw[if_pos ha];conv=>whnf
   refine brT rfl ?_;conv=>whnf
   refine oD (yq b) rfl rfl ?_;by_cases hb:qb b
   ·rw[if_pos hb];conv=>whnf
    refine brT rfl ?_;conv=>whnf
    refine oD (xc a (jx0 ha)) rfl rfl ?_;conv=>whnf
    refine oD (xc b (jx0 hb)) rfl rfl ?_;rw[show zg a b=(fold a == fold b) by unfold zg;rw[pn ha,pn hb];rfl];conv=>whnf
    try exact rfl
   ·rw[if_neg hb,show zg a b=false by unfold zg;rw[po hb,fx,gu]];conv=>whnf
    refine brF rfl ?_;conv=>whnf
    repeat(first|(refine brF rfl ?_;conv=>whnf))
    try exact rfl
  ·rw[if_neg ha,show zg a b=false by unfold zg;rw[po ha,fx]];conv=>whnf
   refine brF rfl ?_;conv=>whnf
   repeat(first|(refine brF rfl ?_;conv=>whnf))
   try exact rfl
def cutZ(apex:List UInt8)(r:RR):Bool:=isNs r && !zg r.nm apex
def uw(z:Zo)(i:Nat):List (List UInt8):=((z.rrs.take i).filter (cutZ z.apex)).map (·.nm)
theorem zl6{z:Zo}{i:Nat}{r:RR}(h:z.rrs[i]? = some r):uw z (i+1)=if cutZ z.apex r then uw z i++[r.nm] else uw z i:=by
 unfold uw;rw[mp,h];cases hc:cutZ z.apex r <;> simp[hc]
theorem ye6(z:Zo)(i:Nat):(uw z i).length<=i:=by
 unfold uw;rw[mn];exact l9 (d9 _ _) (by rw[lu];omega)
theorem ye7(z:Zo):uw z z.rrs.length=z.cutL:=by
 unfold uw;rw[mr];rfl
theorem yw7(z:Zo)(S:List ((List UInt8 × Int × Int × List UInt8) × Nat))(N:List (List UInt8 × Hd))(hl:z.rrs.length<=100000) :
 COk Tryz.prog 108 [.ptr 0 0] (lookK z S N .free) (fun s k=>s = .d (.sl (zd z.cutL).isEmpty (zd z.cutL).length 1 (strs (zd z.cutL)))/\k=lookK z S N .free):=by
 refine jn (TT:=TT) (IN:=qe []) qg qh mixed 1000 Tryz.func108 rfl (qd Tryz.func108 (by kernel_rfl) rfl) 37 (by kernel_rfl) ?_;conv=>whnf
 refine .nilT 3 9 1 (strs []) _ _ rfl ?_;conv=>whnf
 refine .inv Nat (fun i=>i<=z.rrs.length) (fun i=>[(12,iV i),(3,.all 3)]) (fun i=>[(3,.row 9 1 (uw z i).length .iff (strs (uw z i)))]) (fun i=>z.rrs.length - i) ⟨0,[0,1,2,3],pz _,?_⟩ ?_
 ·conv=>whnf
  exact rZ5
 intro i hi;conv=>whnf
 refine⟨fun h1=>?_,fun h1=>?_⟩
 ·have h1:i<z.rrs.length:=by
   have h:(i:Int)<z.rrs.length:=pu h1;omega
  have hw1:=w64s i (by omega);obtain⟨r,hr⟩:∃ r,z.rrs.getD i default=r:=⟨_,rfl⟩;have hrl:z.rrs[i]? = some r:=by rw[<-hr,List.getD,pp h1];rfl
  have hnx:=zl6 hrl;have hcl:=ye6 z i;conv=>whnf
  refine⟨by omega,?_⟩;conv=>whnf
  rw[px,hr];refine⟨fun h2=>?_,fun h2=>?_⟩
  ·have h2:isNs r=true:=h2;conv=>whnf
   refine .data _ (yp8 r.nm z.apex) rfl rfl ?_;cases h3:zg r.nm z.apex with
   |true =>
    rw [show cutZ z.apex r=false by unfold cutZ;rw [h2,h3];rfl,if_neg (by decide)] at hnx;conv=>whnf
    refine brF rfl ?_;conv=>whnf
    rw[hw1];refine⟨i+1,[0,1,2,3],h1,by omega,?_⟩;rw[hnx];conv=>whnf
    exact rZ5
   |false =>
    rw [show cutZ z.apex r=true by unfold cutZ;rw [h2,h3];rfl,if_pos rfl] at hnx;conv=>whnf
    refine brT rfl ?_;conv=>whnf
    refine⟨by omega,?_⟩;conv=>whnf
    rw[hw1];refine⟨i+1,[0,1,2,6],h1,by omega,?_⟩;rw[hnx];conv=>whnf
    repeat'(first|exact ⟨⟩|exact rfl|exact jd _|exact .inr rfl|exact fun _ _=>rfl|exact noI|apply And.intro|exact yn4 _|exact qs3 _|(show _+1=(_++[_]).length;simp;done)|exact wg _ _ _ rfl)
  ·have h2:isNs r=false:=h2;rw [show cutZ z.apex r=false by unfold cutZ;rw [h2];rfl,if_neg (by decide)] at hnx;conv=>whnf
   rw[hw1];refine⟨i+1,[0,1,2,3],h1,by omega,?_⟩;rw[hnx];conv=>whnf
   exact rZ5
 ·have h1:i=z.rrs.length:=by
   have h:¬ (i:Int)<z.rrs.length:=pw h1;omega
  subst h1;rw[ye7];have hcl:z.cutL.length<=100000:=by rw[<-ye7];exact l9 (ye6 _ _) hl
  conv=>whnf
  refine .one (.frz _ _ [3] (xc2 (Nat.beq z.cutL.length 0) z.cutL hcl) ?_ rfl rfl ?_)
  ·conv=>whnf
   exact⟨rfl,rfl⟩
  conv=>whnf
  refine⟨[0,1,2],_,lookK z S N .free,rfl,rfl,?_,?_,rfl,rfl⟩
  ·exact rfl
  ·conv=>whnf
   exact rZ5
def qu7(name c:List UInt8)(b:Option (List UInt8)):Option (List UInt8):=if qt name c then (match b with
 |none=>some c
 |some y=>if qo c<qo y then some c else some y) else b
def xq(name:List UInt8)(l:List (List UInt8)):Option (List UInt8):=l.foldl (fun b c=>qu7 name c b) none
theorem yf1(name:List UInt8)(l:List (List UInt8))(c:List UInt8):xq name (l++[c])=qu7 name c (xq name l):=by
 unfold xq;rw[List.foldl_append];rfl
theorem xl6{α:Type}{P:List α->Prop}(h0:P [])(h1:∀ l a,P l->P (l++[a])):∀ l,P l:=fun l=>by
 rw[<-l.reverse_reverse];induction l.reverse with
 |nil=>exact h0
 |cons a m ih=>rw[List.reverse_cons];exact h1 _ _ ih
theorem jk5(name:List UInt8)(l:List (List UInt8)):match xq name l with
 |none=>∀ c ∈ l,qt name c=false
 |some b=>b ∈ l/\qt name b=true/\∀ c ∈ l,qt name c=true->qo b<=qo c:=by
 refine xl6 (P:=fun l=>match xq name l with
  |none=>∀ c ∈ l,qt name c=false
  |some b=>b ∈ l/\qt name b=true/\∀ c ∈ l,qt name c=true->qo b<=qo c) ?_ ?_ l
 ·exact fun c h=>by cases h
 ·intro l c ih;rw[yf1];unfold qu7;cases hw:qt name c with
  |false =>
   rw[if_neg (by decide)];cases hb:xq name l with
   |none =>
    rw [hb] at ih;intro x hx;rcases o3.1 hx with hx|hx
    ·exact ih x hx
    ·rw[lv.1 hx];exact hw
   |some b =>
    rw [hb] at ih;refine⟨aw _ ih.1,ih.2.1,fun x hx hxw=>?_⟩;rcases o3.1 hx with hx|hx
    ·exact ih.2.2 x hx hxw
    ·rw [lv.1 hx,hw] at hxw;cases hxw
  |true =>
   rw[if_pos rfl];cases hb:xq name l with
   |none =>
    rw [hb] at ih;refine⟨by simp,hw,fun x hx hxw=>?_⟩;rcases o3.1 hx with hx|hx
    ·rw [ih x hx] at hxw;cases hxw
    ·rw[lv.1 hx];exact pr _
   |some b =>
    rw [hb] at ih;simp only;by_cases hc:qo c<qo b
    ·rw[if_pos hc];refine⟨by simp,hw,fun x hx hxw=>?_⟩;rcases o3.1 hx with hx|hx
     ·have:=ih.2.2 x hx hxw;omega
     ·rw[lv.1 hx];exact pr _
    ·rw[if_neg hc];refine⟨aw _ ih.1,ih.2.1,fun x hx hxw=>?_⟩;rcases o3.1 hx with hx|hx
     ·exact ih.2.2 x hx hxw
     ·rw[lv.1 hx];omega
theorem zm9{n a b:List UInt8}(ha:qt n a=true)(hb:qt n b=true)(h:qo a=qo b):fold a=fold b:=by
 have na:=vp ha;have nb:=vp hb;unfold qt at ha hb;simp only [p8,r7] at ha hb;unfold qo at h;rw [if_pos na.2,if_pos nb.2] at h;have hl:(fl a).length=(fl b).length:=by unfold fl;rw[mn,mn];exact h
 have e:fl a=fl b:=by
  obtain⟨s,hs⟩:=ha.2.2;obtain⟨t,ht⟩:=hb.2.2;have:=hs.trans ht.symm;exact(List.append_inj_right' this hl)
 rw[qa6 na.2,qa6 nb.2,e]
theorem topCut_none{name:List UInt8}:∀ {l:List (List UInt8)},vf name l=none↔∀ c ∈ l,qt name c=false
 |[]=>⟨fun _ c h=>(by cases h),fun _=>rfl⟩
 |c :: l=>by
  unfold vf;cases hw:qt name c with
  |true =>
   rw[if_pos rfl];refine⟨fun h=>?_,fun h=>?_⟩
   ·split at h
    ·cases h
    ·split at h <;> cases h
   ·have:=h c (mz ..);rw [hw] at this;cases this
  |false =>
   rw[if_neg (by decide),topCut_none];exact⟨fun h x hx=>by
    rcases pv.1 hx with rfl|hx
    ·exact hw
    ·exact h x hx,fun h x hx=>h x (m8 _ hx)⟩
theorem zh5{a b:List UInt8}(ha:qb a)(hb:qb b)(h:fold a=fold b):qo a=qo b:=by
 rw[<-uk ha,<-uk hb,h]
theorem xj5{name:List UInt8}{l:List (List UInt8)}(hl:∀ c ∈ l,qb c):(xq name (zd l)).map fold=vf name l:=by
 have hs:=jk5 name (zd l);cases hb:xq name (zd l) with
 |none =>
  rw [hb] at hs;refine(topCut_none.2 fun c hc=>?_).symm;obtain⟨m,hm,e⟩:=jl2 hc (hl c hc);cases hw:qt name c
  ·rfl
  ·have:=qx0 (up hm).2 e hw;rw [hs m hm] at this;cases this
 |some b =>
  rw [hb] at hs;obtain⟨h1,h2,h3⟩:=hs;cases ht:vf name l with
  |none =>
   have:=topCut_none.1 ht b (up h1).1;rw [h2] at this;cases this
  |some t =>
   obtain⟨⟨c,hc,e,hw⟩,hmin⟩:=qx7 ht;obtain⟨m,hm,em⟩:=jl2 hc (hl c hc);have hmw:=qx0 (up hm).2 em hw;have a1:=h3 m hm hmw;have a2:=hmin b (up h1).1 h2;have a3:=zh5 (up hm).2 (hl c hc) em;have a4:qo t=qo c:=by rw[<-e];exact uk (hl c hc)
   rw[<-e];exact congrArg some (zm9 h2 hw (by omega))
def jg6(r:RR):Bool:=yv r && r.ty != 41
def St.enc(s:St):List DV:=[.str s.nm,.int .u16 s.ty,.int .u32 s.ttl,.sl s.z s.data.length 1 (strs s.data)]
def stsD(z:Bool)(l:List St):DV:=.sl z l.length 4 (fun i=>(l.getD i default).enc)
theorem xr2(l:List St)(q:St)(j:Nat)(hj:j<l.length+1):catF l.length (fun j=>(l.getD j default).enc) (qx q.enc 4) j=((l++[q]).getD j default).enc:=by
 show(if j<l.length then (l.getD j default).enc else qx q.enc 4 (j - l.length))=_;by_cases h:j<l.length
 ·rw[if_pos h,List.getD,List.getD,ot h]
 ·have:j=l.length:=by omega
  subst this;rw[if_neg h,gq,List.getD,o5 (pr _),gq];rfl
theorem zs0(t:Int)(l:List RR):(vg t l).length<=64:=by unfold vg;simp;omega
theorem yh4{t:Int}:∀ (D:List (List UInt8)) (b:Bool) (last:List UInt8),(∀ d ∈ D,kf t d=true)->D.Pairwise (fun x y=>Op.bytesLess (qy t x) (qy t y)=true)->(b=true->∀ d ∈ D,Op.bytesLess last (qy t d)=true)->k8 t b last D=true
 |[],_,_=>fun _ _ _=>rfl
 |d :: D,b,last=>fun h1 h2 h3=>by
  obtain⟨h4,h5⟩:=fy.1 h2;have ih:=yh4 D true (qy t d) (fun x hx=>h1 x (by simp[hx])) h5 (fun _ x hx=>h4 x hx);unfold k8;rw[h1 d (by simp),ih];cases b with
  |false=>rfl
  |true =>
   have h6:=h3 rfl d (by simp);rw [qu6 _ _ h6,show (qy t d == last)=false from Bool.eq_false_iff.2 (fun e=>by rw [eq_of_beq e,wu] at h6;cases h6)]
   rfl
theorem yh3{t:Int}:∀ (D:List (List UInt8)) (b:Bool) (last:List UInt8),k8 t b last D=true->(∀ d ∈ D,kf t d=true)/\D.Pairwise (fun x y=>Op.bytesLess (qy t x) (qy t y)=true)/\(b=true->∀ d ∈ D,Op.bytesLess last (qy t d)=true)
 |[],_,_=>fun _=>⟨fun _ h=>(by cases h),.nil,fun _ _ h=>(by cases h)⟩
 |d :: D,b,last=>fun h=>by
  unfold k8 at h;simp only [p8] at h;obtain⟨⟨h1,h2⟩,h3⟩:=h;obtain⟨a1,a2,a3⟩:=yh3 D true (qy t d) h3;have hd:b=true->Op.bytesLess last (qy t d)=true:=fun hb=>by
   rw [hb] at h2;simp only [l7,c6,au] at h2;cases e:Op.bytesLess last (qy t d)
   ·have:=qf4 _ _ h2.1 e;rw [this] at h2;simp at h2
   ·rfl
  refine⟨fun x hx=>?_,fy.2 ⟨fun x hx=>a3 rfl x hx,a2⟩,fun hb x hx=>?_⟩
  ·rcases pv.1 hx with rfl|hx
   ·exact h1
   ·exact a1 x hx
  ·rcases pv.1 hx with rfl|hx
   ·exact hd hb
   ·exact qi8 _ _ _ (hd hb) (a3 rfl x hx)
theorem St.ok_iff(s:St):s.ok=true↔qb s.nm/\s.ttl<=2147483647/\(0<s.data.length/\s.data.length<=64)/\(∀ d ∈ s.data,kf s.ty d=true)/\s.data.Pairwise (fun x y=>Op.bytesLess (qy s.ty x) (qy s.ty y)=true):=by
 unfold St.ok k7;simp only[p8,lx];constructor
 ·rintro ⟨⟨⟨h1,h2⟩,h3⟩,h4⟩
  obtain⟨a1,a2,_⟩:=yh3 _ _ _ h4;exact⟨h1,h2,h3,a1,a2⟩
 ·rintro ⟨h1,h2,h3,h4,h5⟩
  exact⟨⟨⟨h1,h2⟩,h3⟩,yh4 _ _ _ h4 h5 (fun h=>by cases h)⟩
theorem yp2:∀ (l:List RR) (a:Int),xz a l<=a/\∀ r ∈ l,xz a l<=r.ttl
 |[],a=>⟨Int.le_refl _,fun _ h=>(by cases h)⟩
 |r :: l,a=>by
  have ih:=yp2 l (if r.ttl<a then r.ttl else a);have e:xz a (r :: l)=xz (if r.ttl<a then r.ttl else a) l:=rfl;rw[e];refine⟨?_,fun x hx=>?_⟩
  ·have:=ih.1;split at this <;> omega
  ·rcases pv.1 hx with rfl|hx
   ·have:=ih.1;split at this <;> omega
   ·exact ih.2 x hx
theorem yd8{r:RR}(h:jg6 r=true):r.cl=1/\r.check=true/\r.ty≠41/\qb r.nm/\kf r.ty r.d=true/\r.ttl<=2147483647:=by
 unfold jg6 yv at h;simp only [p8,bne_iff_ne,ne_eq,mw] at h;obtain⟨⟨h1,h2⟩,h3⟩:=h;have hc:=h2;unfold RR.check at hc;simp only [p8,lx,cq,mw] at hc;exact⟨h1,h2,h3,hc.1.1,hc.1.2,hc.2.resolve_right h3⟩
theorem zf6(t:Int)(rs:List RR):Firsts (qy t) (rs.map (·.d)) (qs9 (qy t) (rs.map (·.d))):=yk7 _ _
theorem ze1{α:Type}{R:α->α->Prop}{l:List α}(n:Nat)(h:l.Pairwise R):(l.take n).Pairwise R:=h.sublist (List.take_sublist n l)
theorem jk2{nm:List UInt8}{t:Int}{l:List RR}(h:(q9 nm t l).2=0)(ht:t≠41):(q9 nm t l).1.ok=true/\(q9 nm t l).1.nm=nm/\(q9 nm t l).1.ty=t/\qb nm:=by
 by_cases hn:qb nm
 case neg =>
  rw [show q9 nm t l=(St.no,3) from if_neg hn] at h;exact absurd h (by decide)
 have e:q9 nm t l=if (yx nm t l).isEmpty then (St.no,3) else (qv6 nm t (yx nm t l),0):=if_pos hn;rw [e] at h ⊢;cases hp:(yx nm t l).isEmpty with
 |true=>rw [hp] at h;exact absurd (show (3:Int)=0 from h) (by decide)
 |false =>
  have hne:yx nm t l≠[]:=fun e=>by rw [e] at hp;cases hp
  have hall:∀ r ∈ yx nm t l,jg6 r=true/\r.ty=t:=fun r hr=>by
   unfold yx at hr;obtain⟨h1,h2⟩:=cn.1 hr;obtain⟨_,h3⟩:=cn.1 h1;unfold ya at h3;simp only [p8,mw] at h3;refine⟨?_,h3.1⟩;unfold jg6;rw[h2,h3.1];simpa using ht
  generalize yx nm t l=P at hne hall ⊢;have hF:=zf6 t P;have hm:P.getD 0 default ∈ P:=by
   cases P with
   |nil=>exact absurd rfl hne
   |cons a P=>simp
  refine⟨(St.ok_iff _).2 ⟨hn,?_,⟨?_,zs0 _ _⟩,fun d hd=>?_,?_⟩,rfl,rfl,hn⟩
  ·have h1:=(yp2 P (P.getD 0 default).ttl).1;have h2:=(yd8 (hall _ hm).1).2.2.2.2.2;show xz (P.getD 0 default).ttl P<=2147483647;omega
  ·show 0<(vg t P).length;have:=hF.len (by simpa using hne);unfold vg;rw[lu];omega
  ·have hd:d ∈ qs9 (qy t) (P.map (·.d)):=gt hd;obtain⟨i,hi⟩:=hF.from hd;obtain⟨r,hr,rfl⟩:=lz.1 (ov hi);have:=(yd8 (hall r hr).1).2.2.2.2.1;show kf t r.d=true;rw[<-(hall r hr).2];exact this
  ·exact ze1 64 hF.rise
def yi(zs:List Zo)(i:Nat):List (List UInt8):=(zs.take i++zs.drop (i+1)).map (·.apex)
def zn(n:List UInt8):List (List UInt8)->Option (List UInt8)->Option (List UInt8)
 |[],b=>b
 |c :: l,b=>zn n l (if qt n c then (match b with
  |none=>some c
  |some y=>if qo y<qo c then some c else some y) else b)
def qb2(zs:List Zo)(i:Nat)(apex:List UInt8):Option Nat:=match zn apex (yi zs i) none with
 |none=>none
 |some a=>j8 zs (fold a)
def qg4(zs:List Zo):Bool:=(List.range zs.length).all fun i=>i == 0 || (match qb2 zs i (zs.getD i default).apex with
 |none=>false
 |some a=>(zs.getD a default).cutL.any fun c=>fold c == fold (zs.getD i default).apex)
def qg2:List Int->Bool
 |[]=>true
 |a :: l=>!l.contains a && qg2 l
def y5:List (List UInt8)->Bool
 |[]=>true
 |a :: l=>!l.contains a && y5 l
def zi(n:Nat)(hs:List (Int × Bool × List Int)):Bool:=qg2 (hs.map (·.1)) && hs.all fun h=>h.2.2.all fun at_=>decide (0<=at_) && decide (at_<(n:Int))
def Fo.ok(f:Fo):Bool:=decide (1<=f.zones.length) && (decide (f.zones.length<=64) && (decide (f.hosts.length<=64) && (f.zones.all Zo.ok && (y5 (f.zones.map fun z=>fold z.apex) && (fold (f.zones.getD 0 default).apex == [0] && (qg4 f.zones && zi f.zones.length f.hosts))))))
structure Ver where
 chain:List St
 ans:St
 code:Int
 why:Int
def vw(z:Zo)(name:List UInt8):Bool:=qt name z.apex && z.rrs.any fun r=>qt r.nm name
def ofF(zs:List Zo)(ty:Int):Nat->List UInt8->List St->Ver
 |0,_,_=>⟨[],St.no,0,9⟩
 |k+1,name,chain=>if qb name then (match yz zs name 300 0 with
  |none=>⟨[],St.no,0,12⟩
  |some at_=>if (q9 name ty (zs.getD at_ default).rrs).2=0 then ⟨chain,(q9 name ty (zs.getD at_ default).rrs).1,0,0⟩
   else if ty=5\/(q9 name 5 (zs.getD at_ default).rrs).2≠0\/(q9 name 5 (zs.getD at_ default).rrs).1.data.length=0 then ⟨chain,St.no,if vw (zs.getD at_ default) name then 0 else 3,0⟩
   else if chain.length >= 8 then ⟨[],St.no,0,9⟩
   else ofF zs ty k ((q9 name 5 (zs.getD at_ default).rrs).1.data.headD []) (chain++[(q9 name 5 (zs.getD at_ default).rrs).1])) else ⟨[],St.no,0,2⟩
theorem zo0{n:List UInt8}(h:qb n):zg n n=true:=by
 unfold zg;rw[pn h];simp
theorem xo6{nm:List UInt8}{t:Int}{l:List RR}(h:(q9 nm t l).2=0):∃ r ∈ l,r.ty=t:=by
 by_cases hn:qb nm
 case neg =>
  rw [show q9 nm t l=(St.no,3) from if_neg hn] at h;exact absurd h (by decide)
 have e:q9 nm t l=if (yx nm t l).isEmpty then (St.no,3) else (qv6 nm t (yx nm t l),0):=if_pos hn;rw [e] at h;cases hp:yx nm t l with
 |nil=>rw [hp] at h;exact absurd (show (3:Int)=0 from h) (by decide)
 |cons r P =>
  have hr:r ∈ yx nm t l:=by rw[hp];exact mz ..
  unfold yx at hr;obtain⟨h1,_⟩:=cn.1 hr;obtain⟨h2,h3⟩:=cn.1 h1;unfold ya at h3;simp only [p8,mw] at h3;exact⟨r,h2,h3.1⟩
theorem xk7{zs:List Zo}(hz:∀ z ∈ zs,z.ok=true){nm:List UInt8}{t:Int}{i:Nat}(h:(q9 nm t (zs.getD i default).rrs).2=0):t≠41:=by
 obtain⟨r,hr,e⟩:=xo6 h;by_cases hi:i<zs.length
 ·have hg:zs.getD i default=zs[i]:=by rw[gr,pp hi];rfl
  rw [hg] at hr;have:=Zo.ok_take (hz _ (d5 hi)) hr;unfold zb at this;simp only [p8,bne_iff_ne] at this;rw[<-e];exact this.2.1
 ·have hg:zs.getD i default=default:=by rw[gr,gp (Nat.not_lt.1 hi)];rfl
  rw [hg] at hr;cases hr
def Zo.Fit(z:Zo):Prop:=∀ r ∈ z.rrs,r.nm.length<=100000/\r.d.length<=100000
theorem Zo.ok_len{z:Zo}(h:z.ok=true):z.rrs.length<=256:=by
 unfold Zo.ok at h;simp only [p8,lx] at h;exact h.2.1
theorem qv1(z:Zo)(hz:z.Fit)(ks:List KB):COk Tryz.prog 73 [z.V] ks (fun s k=>∃ S N,s = .tup [.agg [.d (.str z.apex),.d (rrsD z.z z.rrs),.map (lenB ks),.map (lenB ks+1)],.d (.bool z.ok)]/\k=appB ks [vi S,we N .free]) :=
 (COk.frameX (xr6 z hz) [] rfl rfl rfl).imp fun r k ⟨s0,k0,⟨S,N,h1,h2⟩,h3,h4⟩=>by
  refine⟨S,N,?_,?_⟩
  ·rw[h3,h1];rfl
  ·rw[h4,h2];show appB ks [KB.mapx _ _ _ (mapM _ (aenc xg intV S)) _,KB.mapx _ _ _ (mapM _ (aenc strK Hd.enc N)) _]=_;rw[jn4,jn9];rfl
theorem zs7(z:Zo)(hz:z.Fit):FnOk Tryz.prog 66 [z.V] (.d (.int .i64 (if z.ok then 0 else 2))):=by
 refine qu (TT:=TT) (IN:=qe []) qg qh mixed 1000 Tryz.func66 rfl (qd Tryz.func66 (by kernel_rfl) rfl) rfl 11 (by kernel_rfl) ?_;conv=>whnf
 refine .rel _ (qv1 z hz _) (fun r ks' hR=>?_);obtain⟨S,N,rfl,rfl⟩:=hR;conv=>whnf
 cases h:z.ok with
 |false =>
  refine brT rfl ?_;conv=>whnf
  exact rfl
 |true =>
  refine brF rfl ?_;conv=>whnf
  exact rfl
def xv5(l:List (List UInt8)):DV:=.sl l.isEmpty l.length 1 (strs l)
def xp(z:Zo):List (List UInt8):=if z.ok then zd z.cutL else []
theorem xc1(z:Zo)(hz:z.Fit):FnOk Tryz.prog 102 [z.V] (.d (xv5 (xp z))):=by
 refine qu (TT:=TT) (IN:=qe []) qg qh mixed 1000 Tryz.func102 rfl (qd Tryz.func102 (by kernel_rfl) rfl) rfl 12 (by kernel_rfl) ?_;conv=>whnf
 refine .rel _ (qv1 z hz _) (fun r ks' hR=>?_);obtain⟨S,N,rfl,rfl⟩:=hR;unfold xp;cases h:z.ok with
 |false =>
  rw[if_neg (by decide)];conv=>whnf
  refine brT rfl ?_;conv=>whnf
  exact rZ4
 |true =>
  rw[if_pos rfl];conv=>whnf
  refine brF rfl ?_;conv=>whnf
  refine .rel _ (COk.frameX (yw7 z S N (by have:=z.ok_len h;omega)) [3,1,2] rfl rfl (by rw[qd2];rfl)) (fun x ks' hR=>?_);obtain⟨s0,k0,⟨rfl,rfl⟩,rfl,rfl⟩:=hR;conv=>whnf
  exact rZ4
def getZ(z:Zo)(name:List UInt8)(t:Int):St × Int:=if z.ok then q9 name t z.rrs else (St.no,2)
theorem yt4(z:Zo)(hz:z.Fit)(name:List UInt8)(t:Int)(hn:name.length<=100000):FnOk Tryz.prog 43 [z.V,.d (.str name),.d (.int .u16 t)] (.tup [(getZ z name t).1.V,.d (.int .i64 (getZ z name t).2)]):=by
 refine qu (TT:=TT) (IN:=qe []) qg qh mixed 1000 Tryz.func43 rfl (qd Tryz.func43 (by kernel_rfl) rfl) rfl 23 (by kernel_rfl) ?_;conv=>whnf
 refine .rel _ (qv1 z hz _) (fun r ks' hR=>?_);obtain⟨S,N,rfl,rfl⟩:=hR;unfold getZ;cases h:z.ok with
 |false =>
  conv=>whnf
  refine brT rfl ?_;conv=>whnf
  exact rZ4
 |true =>
  rw[if_pos rfl];have hl:=z.ok_len h;conv=>whnf
  refine brF rfl ?_;conv=>whnf
  refine oD (yw1 name t z.z z.rrs (by omega) hn (fun r hr=>(hz r hr).1)) rfl rfl ?_;conv=>whnf
  exact rZ4
def qe5(z:Zo)(name:List UInt8):Bool:=z.ok && vw z name
theorem zf7{l:List RR}{p:RR->Bool}{i:Nat}{r:RR}(h:l[i]? = some r)(hp:p r=false)(ha:(l.take i).any p=false):(l.take (i+1)).any p=false:=by
 rw[mp,h,List.any_append,ha];simp[hp]
theorem jj6(z:Zo)(hz:z.Fit)(name:List UInt8):FnOk Tryz.prog 44 [z.V,.d (.str name)] (.d (.bool (qe5 z name))):=by
 refine qu (TT:=TT) (IN:=qe []) qg qh mixed 1000 Tryz.func44 rfl (qd Tryz.func44 (by kernel_rfl) rfl) rfl 35 (by kernel_rfl) ?_;conv=>whnf
 refine .rel _ (qv1 z hz _) (fun r ks' hR=>?_);obtain⟨S,N,rfl,rfl⟩:=hR;unfold qe5;cases h:z.ok with
 |false =>
  conv=>whnf
  refine brT rfl ?_;conv=>whnf
  exact rfl
 |true =>
  have hl:=z.ok_len h;conv=>whnf
  refine brF rfl ?_;conv=>whnf
  refine oD (qr5 _ _) rfl rfl ?_;unfold vw;cases hw:qt name z.apex with
  |false =>
   conv=>whnf
   refine brT rfl ?_;conv=>whnf
   exact rfl
  |true =>
   conv=>whnf
   refine brF rfl ?_;conv=>whnf
   refine .inv Nat (fun i=>i<=z.rrs.length/\(z.rrs.take i).any (fun r=>qt r.nm name)=false) (fun i=>[(28,iV i)]) (fun i=>[]) (fun i=>z.rrs.length - i) ⟨0,[0,1,2,3],⟨pz _,rfl⟩,?_⟩ ?_
   ·conv=>whnf
    exact rZ5
   intro i hi;obtain⟨hi,hti⟩:=hi;conv=>whnf
   refine⟨fun h2=>?_,fun h2=>?_⟩
   ·have h2:i<z.rrs.length:=by
     have h:(i:Int)<z.rrs.length:=pu h2;omega
    have hw1:=w64s i (by omega);obtain⟨r,hr⟩:∃ r,z.rrs.getD i default=r:=⟨_,rfl⟩;have hrl:z.rrs[i]? = some r:=by rw[<-hr,List.getD,pp h2];rfl
    conv=>whnf
    refine⟨by omega,?_⟩;conv=>whnf
    rw[px,hr];refine oD (qr5 _ _) rfl rfl ?_;cases hwr:qt r.nm name with
    |true =>
     have hb:(z.rrs.any fun r=>qt r.nm name)=true:=so.2 ⟨r,ov hrl,hwr⟩;rw[hb];conv=>whnf
     refine brT rfl ?_;conv=>whnf
     exact rfl
    |false =>
     conv=>whnf
     refine brF rfl ?_;conv=>whnf
     rw[hw1];refine⟨i+1,[0,1,2,3],⟨h2,zf7 hrl hwr hti⟩,by omega,?_⟩;conv=>whnf
     exact rZ5
   ·have h2:i=z.rrs.length:=by
     have h:¬ (i:Int)<z.rrs.length:=pw h2;omega
    subst h2;rw [mr] at hti;rw[hti];conv=>whnf
    exact rfl
def cutQ(z:Zo)(name:List UInt8):St × Int:=if z.ok then (match xq name (zd z.cutL) with
 |none=>(St.no,3)
 |some c=>q9 c 2 z.rrs) else (St.no,2)
def fewC:Option (List UInt8)->Int
 |none=>-1
 |some c=>qo c
theorem zs1{name:List UInt8}{l:List (List UInt8)}{i:Nat}{c:List UInt8}(h:l[i]? = some c):xq name (l.take (i+1))=qu7 name c (xq name (l.take i)):=by
 rw[mp,h];exact yf1 name _ c
theorem xk9(z:Zo)(hz:z.Fit)(name:List UInt8):FnOk Tryz.prog 72 [z.V,.d (.str name)] (.tup [(cutQ z name).1.V,.d (.int .i64 (cutQ z name).2)]):=by
 refine qu (TT:=TT) (IN:=qe []) qg qh mixed 1000 Tryz.func72 rfl (qd Tryz.func72 (by kernel_rfl) rfl) rfl 51 (by kernel_rfl) ?_;conv=>whnf
 refine .rel _ (qv1 z hz _) (fun r ks' hR=>?_);obtain⟨S,N,rfl,rfl⟩:=hR;unfold cutQ;cases h:z.ok with
 |false =>
  conv=>whnf
  refine brT rfl ?_;conv=>whnf
  exact rZ4
 |true =>
  rw[if_pos rfl];have hl:=z.ok_len h;conv=>whnf
  refine brF rfl ?_;conv=>whnf
  refine .rel _ (COk.frameX (yw7 z S N (by omega)) [4,2,3] rfl rfl (by rw[qd2];rfl)) (fun x ks' hR=>?_);obtain⟨s0,k0,⟨rfl,rfl⟩,rfl,rfl⟩:=hR;rw[qd2];have hsl:(zd z.cutL).length<=100000:=by
   have h1:=yg7 z.cutL;have h2:z.cutL.length<=z.rrs.length:=by unfold Zo.cutL;rw[mn];exact d9 _ _
   omega
  have hsn:∀ c ∈ zd z.cutL,qb c:=fun c hc=>(up hc).2
  generalize zd z.cutL=L at hsl hsn ⊢;conv=>whnf
  refine .inv Nat (fun i=>i<=L.length) (fun i=>[(23,iV i),(8,.d (.str ((xq name (L.take i)).getD []))),(9,.d (.int .i64 (fewC (xq name (L.take i)))))]) (fun i=>[]) (fun i=>L.length - i) ⟨0,[0,1,2,3,4],pz _,?_⟩ ?_
  ·conv=>whnf
   exact rZ5
  intro i hi;conv=>whnf
  refine⟨fun h2=>?_,fun h2=>?_⟩
  ·have h2:i<L.length:=by
    have h:(i:Int)<L.length:=pu h2;omega
   have hw1:=w64s i (by omega);have hli:L[i]? = some (L[i]?.getD []):=by rw[pp h2];rfl
   have hnx:=zs1 (name:=name) hli;conv=>whnf
   refine⟨by omega,?_⟩;conv=>whnf
   rw[px];generalize L[i]?.getD []=c at hli hnx ⊢;unfold qu7 at hnx;refine oD (qr5 _ _) rfl rfl ?_;cases hw:qt name c with
   |false =>
    rw [hw,if_neg (by decide)] at hnx;conv=>whnf
    refine brT rfl ?_;conv=>whnf
    rw[hw1];refine⟨i+1,[0,1,2,3,4],h2,by omega,?_⟩;rw[hnx];conv=>whnf
    exact rZ5
   |true =>
    rw [hw,if_pos rfl] at hnx;conv=>whnf
    refine brF rfl ?_;conv=>whnf
    refine oD (jp0 _) rfl rfl ?_;conv=>whnf
    cases hb:xq name (L.take i) with
    |none =>
     rw [hb] at hnx;refine brT rfl ?_;conv=>whnf
     rw[hw1];refine⟨i+1,[0,1,2,3,4],h2,by omega,?_⟩;rw[hnx];conv=>whnf
     exact rZ5
    |some y =>
     rw [hb] at hnx;simp only at hnx;refine brF (po (by show ¬ ((qo y:Nat):Int)<0;omega)) ?_;conv=>whnf
     by_cases hc:qo c<qo y
     ·rw [if_pos hc] at hnx;refine brT (pn (by show((qo c:Nat):Int)<((qo y:Nat):Int);omega)) ?_;conv=>whnf
      rw[hw1];refine⟨i+1,[0,1,2,3,4],h2,by omega,?_⟩;rw[hnx];conv=>whnf
      exact rZ5
     ·rw [if_neg hc] at hnx;refine brF (po (by show ¬ ((qo c:Nat):Int)<((qo y:Nat):Int);omega)) ?_;conv=>whnf
      rw[hw1];refine⟨i+1,[0,1,2,3,4],h2,by omega,?_⟩;rw[hnx];conv=>whnf
      exact rZ5
  ·have h2:i=L.length:=by
    have h:¬ (i:Int)<L.length:=pw h2;omega
   subst h2;have hsp:=jk5 name L;rw[mr];conv=>whnf
   cases hb:xq name L with
   |none =>
    refine brT rfl ?_;conv=>whnf
    exact rZ4
   |some c =>
    rw [hb] at hsp;have hcn:=hsn c hsp.1;refine brF (po (by show ¬ ((qo c:Nat):Int)<0;omega)) ?_;conv=>whnf
    refine oD (yw1 c 2 z.z z.rrs (by omega) (by have:=hcn.2.1;omega) (fun r hr=>(hz r hr).1)) rfl rfl ?_;conv=>whnf
    exact rZ4
def jf0(n c:List UInt8)(b:Option (List UInt8)):Option (List UInt8):=if qt n c then (match b with
 |none=>some c
 |some y=>if qo y<qo c then some c else some y) else b
theorem jx2(n:List UInt8):∀ (l:List (List UInt8)) (c:List UInt8) (b:Option (List UInt8)),zn n (l++[c]) b=jf0 n c (zn n l b)
 |[],c,b=>rfl
 |x :: l,c,b=>by
  show zn n (l++[c]) _=jf0 n c (zn n l _);exact jx2 n l c _
theorem zr4{n:List UInt8}{l:List (List UInt8)}{i:Nat}{c:List UInt8}(h:l[i]? = some c):zn n (l.take (i+1)) none=jf0 n c (zn n (l.take i) none):=by
 rw[mp,h];exact jx2 n _ c none
def fewD:Option (List UInt8)->Int
 |none=>-1
 |some c=>qo c
def jh0(n:List UInt8)(l:List (List UInt8)):List UInt8 × Int:=if qb n then (match zn n l none with
 |none=>([],3)
 |some c=>(c,0)) else ([],2)
theorem zr3(name:List UInt8)(z:Bool)(L:List (List UInt8))(hsl:L.length<=100000):FnOk Tryz.prog 137 [.d (.str name),.d (.sl z L.length 1 (strs L))] (.tup [.d (.str (jh0 name L).1),.d (.int .i64 (jh0 name L).2)]):=by
 refine qu (TT:=TT) (IN:=qe []) qg qh mixed 1000 Tryz.func137 rfl (qd Tryz.func137 (by kernel_rfl) rfl) rfl 33 (by kernel_rfl) ?_;conv=>whnf
 refine oD (yq name) rfl rfl ?_;unfold jh0;by_cases hn:qb name;case neg =>
  rw[if_neg hn,if_neg hn];conv=>whnf
  refine brT rfl ?_;conv=>whnf
  exact rZ4
 rw[if_pos hn,if_pos hn];conv=>whnf
 refine brF rfl ?_;conv=>whnf
 refine .inv Nat (fun i=>i<=L.length) (fun i=>[(16,iV i),(6,.d (.str ((zn name (L.take i) none).getD []))),(7,.d (.int .i64 (fewD (zn name (L.take i) none))))]) (fun i=>[]) (fun i=>L.length - i) ⟨0,[],pz _,?_⟩ ?_
 ·conv=>whnf
  exact rZ2
 intro i hi;conv=>whnf
 refine⟨fun h2=>?_,fun h2=>?_⟩
 ·have h2:i<L.length:=by
   have h:(i:Int)<L.length:=pu h2;omega
  have hw1:=w64s i (by omega);have hli:L[i]? = some (L[i]?.getD []):=by rw[pp h2];rfl
  have hnx:=zr4 (n:=name) hli;conv=>whnf
  refine⟨by omega,?_⟩;conv=>whnf
  rw[px];generalize L[i]?.getD []=c at hli hnx ⊢;unfold jf0 at hnx;refine oD (qr5 _ _) rfl rfl ?_;cases hw:qt name c with
  |false =>
   rw [hw,if_neg (by decide)] at hnx;conv=>whnf
   refine brT rfl ?_;conv=>whnf
   rw[hw1];refine⟨i+1,[],h2,by omega,?_⟩;rw[hnx];conv=>whnf
   exact rZ2
  |true =>
   rw [hw,if_pos rfl] at hnx;conv=>whnf
   refine brF rfl ?_;conv=>whnf
   refine oD (jp0 _) rfl rfl ?_;conv=>whnf
   cases hb:zn name (L.take i) none with
   |none =>
    rw [hb] at hnx;refine brT (pn (by show((qo c:Nat):Int) > -1;omega)) ?_;conv=>whnf
    rw[hw1];refine⟨i+1,[],h2,by omega,?_⟩;rw[hnx];conv=>whnf
    exact rZ2
   |some y =>
    rw [hb] at hnx;simp only at hnx;by_cases hc:qo y<qo c
    ·rw [if_pos hc] at hnx;refine brT (pn (by show((qo c:Nat):Int) > ((qo y:Nat):Int);omega)) ?_;conv=>whnf
     rw[hw1];refine⟨i+1,[],h2,by omega,?_⟩;rw[hnx];conv=>whnf
     exact rZ2
    ·rw [if_neg hc] at hnx;refine brF (po (by show ¬ ((qo c:Nat):Int) > ((qo y:Nat):Int);omega)) ?_;conv=>whnf
     rw[hw1];refine⟨i+1,[],h2,by omega,?_⟩;rw[hnx];conv=>whnf
     exact rZ2
 ·have h2:i=L.length:=by
   have h:¬ (i:Int)<L.length:=pw h2;omega
  subst h2;rw[mr];conv=>whnf
  cases hb:zn name L none with
  |none =>
   refine brT rfl ?_;conv=>whnf
   exact rZ4
  |some c =>
   refine brF (po (by show ¬ ((qo c:Nat):Int)<0;omega)) ?_;conv=>whnf
   exact rZ4
def qe4(k:Nat):List Zo->List (List UInt8 × Nat)
 |[]=>[]
 |z :: l=>(fold z.apex,k) :: qe4 (k+1) l
def ji(zs:List Zo):List (List UInt8 × Nat):=qe4 0 zs
theorem jv2:∀ (l m:List Zo) (k:Nat),qe4 k (l++m)=qe4 k l++qe4 (k+l.length) m
 |[],m,k=>rfl
 |z :: l,m,k=>by
  show(fold z.apex,k) :: qe4 (k+1) (l++m)=_;rw[jv2 l m (k+1),show k+1+l.length=k+(z :: l).length by simp;omega]
  rfl
theorem zj2(l:List Zo)(z:Zo):ji (l++[z])=ji l++[(fold z.apex,l.length)]:=by
 unfold ji;rw[jv2,ox];rfl
theorem jz1(n:List UInt8):∀ (l:List Zo) (k:Nat),aget (qe4 k l) n=(j8 l n).map (· + k)
 |[],k=>rfl
 |z :: l,k=>by
  show(if n=fold z.apex then some k else aget (qe4 (k+1) l) n)=_;unfold j8;rw[List.findIdx?_cons];by_cases h:n=fold z.apex
  ·rw[if_pos h,show(fold z.apex == n)=true by simpa using h.symm,if_pos rfl];simp
  ·rw[if_neg h,show(fold z.apex == n)=false by simpa using fun e=>h e.symm,if_neg (by decide),jz1 n l (k+1)];unfold j8;rw[Option.map_map];congr 1;funext x;simp only[Function.comp];omega
theorem qh4(l:List Zo)(n:List UInt8):aget (ji l) n=j8 l n:=by
 unfold ji;rw[jz1];cases j8 l n <;> rfl
theorem place_none{l:List Zo}{n:List UInt8}:j8 l n=none↔∀ z ∈ l,fold z.apex≠n:=by
 unfold j8;rw[List.findIdx?_eq_none_iff];simp
theorem yd1(l:List (List UInt8))(a:List UInt8):y5 (l++[a])=(y5 l && !l.contains a):=by
 induction l with
 |nil=>simp[y5]
 |cons x l ih =>
  show(!(l++[a]).contains x && y5 (l++[a]))=((!l.contains x && y5 l) && !(x :: l).contains a);rw[ih,ly];simp only[List.contains_append,List.contains_cons,List.contains_nil,Bool.or_false,Bool.not_or,p8,c6,mq];constructor
  ·rintro ⟨⟨h1,h2⟩,h3,h4⟩;exact⟨⟨h1,h3⟩,fun e=>h2 e.symm,h4⟩
  ·rintro ⟨⟨h1,h3⟩,h2,h4⟩;exact⟨⟨h1,fun e=>h2 e.symm⟩,h3,h4⟩
theorem zp0{l:List (List UInt8)}{i:Nat}(h:y5 (l.take i)=false):y5 l=false:=by
 have hl:l=l.take i++l.drop i:=(cz i l).symm;cases e:y5 l with
 |false=>rfl
 |true =>
  exfalso;have:∀ (m n:List (List UInt8)),y5 (m++n)=true->y5 m=true:=by
   intro m n;refine qi5 (P:=fun n=>y5 (m++n)=true->y5 m=true) (fun h=>by rwa [m6] at h) (fun n r ih h=>?_) n;rw [<-m9,yd1,p8] at h;exact ih h.1
  rw [hl] at e;rw [this _ _ e] at h;cases h
def Zo.enc(z:Zo):List DV:=[.str z.apex,rrsD z.z z.rrs]
def jr9(b:Bool)(l:List Zo):DV:=.sl b l.length 2 (fun i=>(l.getD i default).enc)
def qk0(h:Int × Bool × List Int):List DV:=[.int .u32 h.1,.sl h.2.1 h.2.2.length 1 (fun j=>[.int .i64 (h.2.2.getD j 0)])]
def js4(b:Bool)(l:List (Int × Bool × List Int)):DV:=.sl b l.length 2 (fun i=>qk0 (l.getD i default))
def Fo.V(f:Fo):SV:=.agg [.d (jr9 f.zz f.zones),.d (js4 f.hz f.hosts)]
def Fo.Fit(f:Fo):Prop:=∀ z ∈ f.zones,z.apex.length<=100000/\z.Fit
def jj(P:List (List UInt8 × Nat)):KB:=.map [.str] false false (aenc strK intV P)
theorem qh3{σ:Nat->Nat}(P:List (List UInt8 × Nat)):mapK σ (jj P)=jj P:=by
 show KB.mapx _ _ _ (mapM _ (aenc strK intV P)) _=_;rw[jc8 (fun _=>rfl)]
 rfl
theorem qy8{ρ:List Nat}(P:List (List UInt8 × Nat)):renM ρ (aenc strK intV P)=aenc strK intV P:=qm4 (fun _=>rfl) P
def ur(zs:List Zo)(i j:Nat):List (List UInt8):=(((zs.take j).zipIdx).filter (fun p=>p.2 != i)).map (·.1.apex)
theorem ze9{zs:List Zo}{i j:Nat}{z:Zo}(h:zs[j]? = some z):ur zs i (j+1)=if j≠i then ur zs i j++[z.apex] else ur zs i j:=by
 unfold ur;have hj:j<zs.length:=(pq.1 h).1;rw[mp,h];simp only[Option.toList_some,List.zipIdx_append,d8,dw];by_cases hc:j=i
 ·subst hc;simp[lu,ay (Nat.le_of_lt hj)]
 ·simp[lu,ay (Nat.le_of_lt hj),hc]
theorem zg8(zs:List Zo)(i j:Nat):(ur zs i j).length<=j:=by
 unfold ur;rw[mn];exact l9 (d9 _ _) (by rw[List.length_zipIdx,lu];omega)
theorem zg9(zs:List Zo){i:Nat}(hi:i<zs.length):ur zs i zs.length=yi zs i:=by
 unfold ur yi;rw[mr];have h:zs=zs.take i++zs[i] :: zs.drop (i+1):=by rw[List.getElem_cons_drop,cz]
 have hl:(zs.take i).length=i:=by rw[lu];omega
 generalize zs.take i=A at h hl ⊢;generalize zs.drop (i+1)=B at h ⊢;generalize zs[i]=x at h;subst h;rw[List.zipIdx_append,d8,List.zipIdx_cons,List.filter_cons,dw,dw];have e1:(A.zipIdx.filter fun p=>p.2 != i).map (·.1.apex)=A.map (·.apex):=by
  rw[List.filter_eq_self.2 (fun p hp=>by
   have:=List.snd_lt_of_mem_zipIdx hp;simp;omega)]
  rw[show(fun p:Zo × Nat=>p.1.apex)=(fun z:Zo=>z.apex) ∘ Prod.fst from rfl,<-dy,List.zipIdx_map_fst]
 have e2:((B.zipIdx (0+A.length+1)).filter fun p=>p.2 != i).map (·.1.apex)=B.map (·.apex):=by
  rw[List.filter_eq_self.2 (fun p hp=>by
   have:=List.le_snd_of_mem_zipIdx hp;simp;omega)]
  rw[show(fun p:Zo × Nat=>p.1.apex)=(fun z:Zo=>z.apex) ∘ Prod.fst from rfl,<-dy,List.zipIdx_map_fst]
 rw[e1,if_neg (by simp[hl]),e2]
theorem yu5{K V:Type}[DecidableEq K]{ek:K->List DV}{ev:V->List SV}(hk:∀ a b,jg (ek a) (ek b)=decide (a=b))(k:K)(z:List SV):∀ l:List (K × V),∃ (l1:List (List DV × List SV)) (q:Nat),opnM (aenc ek ev l) (ek k) z=(l1,((aget l k).map ev).getD z,q)/\y6 l1 (ek k)=some (((aget l k).map ev).getD z)/\∀ v,putQ l1 q (ev v)=aenc ek ev (aput l k v)
 |[]=>⟨[(ek k,z)],0,rfl,by show(if jg (ek k) (ek k) then some z else _)=_;rw[hk,if_pos (by simp)];rfl,fun v=>rfl⟩
 |e :: l=>by
  obtain⟨l1,q,h1,h2,h3⟩:=yu5 hk k z l;by_cases h:k=e.1
  ·refine⟨aenc ek ev (e :: l),0,?_,?_,fun v=>?_⟩
   ·show(if jg (ek k) (ek e.1) then _ else _)=_;rw[hk,if_pos (by simpa using h)];simp only[aget,if_pos h]
    rfl
   ·show(if jg (ek k) (ek e.1) then some (ev e.2) else _)=_;rw[hk,if_pos (by simpa using h)];simp only[aget,if_pos h]
    rfl
   ·show(ek e.1,ev v) :: aenc ek ev l=aenc ek ev (aput (e :: l) k v);simp only[aput,if_pos h];rw[<-h];rfl
  ·refine⟨(ek e.1,ev e.2) :: l1,q+1,?_,?_,fun v=>?_⟩
   ·show(if jg (ek k) (ek e.1) then _ else ((ek e.1,ev e.2) :: (opnM (aenc ek ev l) (ek k) z).1,(opnM (aenc ek ev l) (ek k) z).2.1,(opnM (aenc ek ev l) (ek k) z).2.2+1))=_;rw[hk,if_neg (by simpa using h),h1];simp only[aget,if_neg h]
   ·show(if jg (ek k) (ek e.1) then some (ev e.2) else y6 l1 (ek k))=_;rw[hk,if_neg (by simpa using h),h2];simp only[aget,if_neg h]
   ·show(ek e.1,ev e.2) :: putQ l1 q (ev v)=aenc ek ev (aput (e :: l) k v);rw[h3];simp only[aput,if_neg h]
    rfl
def qg1(p:Nat × Nat):List DV:=[.int .i64 (p.1:Nat),.int .i64 (p.2:Nat)]
theorem jn6(a b:Nat × Nat):jg (qg1 a) (qg1 b)=decide (a=b):=by
 rw[ly];obtain⟨a1,a2⟩:=a;obtain⟨b1,b2⟩:=b;simp[qg1,jg,dEq,kEq];omega
def yy3(C:List ((Nat × Nat) × Nat)):KB:=.map [.int .i64,.int .i64] true false (aenc qg1 intV C)
theorem zw8{ρ:List Nat}(C:List ((Nat × Nat) × Nat)):renM ρ (aenc qg1 intV C)=aenc qg1 intV C:=qm4 (fun _=>rfl) C
theorem yl5{n:List UInt8}:∀ {l:List (List UInt8)} {b:Option (List UInt8)} {a:List UInt8},zn n l b=some a->a ∈ l\/b=some a
 |[],b,a,h=>.inr h
 |c :: l,b,a,h=>by
  unfold zn at h;rcases yl5 h with h|h
  ·exact .inl (m8 _ h)
  ·split at h
   ·cases b with
    |none=>simp only [my] at h;subst h;exact .inl (mz ..)
    |some y =>
     simp only at h;split at h
     ·simp only [my] at h;subst h;exact .inl (mz ..)
     ·exact .inr h
   ·exact .inr h
def y4(P:List (List UInt8 × Nat))(apex:List UInt8)(L:List (List UInt8)):Nat × Bool:=match zn apex L none with
 |none=>(0,false)
 |some a=>match aget P (fold a) with
  |none=>(0,false)
  |some k=>(k,true)
theorem rZ7{p:Prop}(h:p:=by repeat'(first|exact ⟨⟩|exact rfl|exact jd _|exact .inr rfl|exact fun _ _=>rfl|exact noI|apply And.intro|exact qy8 _)):p:=h
theorem zl7(f:Fo)(hl:f.zones.length<=64)(i:Nat)(hi:i<f.zones.length)(apex:List UInt8)(ha:qb apex)(P:List (List UInt8 × Nat))(hn:∀ z ∈ f.zones,qb z.apex) :
 COk Tryz.prog 103 [f.V,iV i,.d (.str apex),.map 0] [jj P] (fun s k=>∃ b,s = .tup [iV (y4 P apex (yi f.zones i)).1,.d b]/\DenTo (.d b) (.d (.bool (y4 P apex (yi f.zones i)).2))/\k=[jj P]):=by
 refine jn (TT:=TT) (IN:=qe []) qg qh mixed 1000 Tryz.func103 rfl (qd Tryz.func103 (by kernel_rfl) rfl) 47 (by kernel_rfl) ?_;conv=>whnf
 refine .nilT 10 9 1 (strs []) _ _ rfl ?_;conv=>whnf
 refine .inv Nat (fun j=>j<=f.zones.length) (fun j=>[(20,iV j),(10,.all 2)]) (fun j=>[(2,.row 9 1 (ur f.zones i j).length .iff (strs (ur f.zones i j)))]) (fun j=>f.zones.length - j) ⟨0,[0,1,2],pz _,?_⟩ ?_
 ·conv=>whnf
  exact rZ7
 intro j hj;conv=>whnf
 have hol:=zg8 f.zones i j;refine⟨fun h2=>?_,fun h2=>?_⟩
 ·have h2:j<f.zones.length:=by
   have h:(j:Int)<f.zones.length:=pu h2;omega
  have hw1:=w64s j (by omega);obtain⟨z,hz⟩:∃ z,f.zones.getD j default=z:=⟨_,rfl⟩;have hzl:f.zones[j]? = some z:=by rw[<-hz,List.getD,pp h2];rfl
  have hnx:=ze9 (i:=i) hzl;conv=>whnf
  refine⟨by omega,?_⟩;conv=>whnf
  rw[px,hz];refine⟨fun h3=>?_,fun h3=>?_⟩
  ·have h3:j≠i:=by
    have h:(j:Int)≠(i:Int):=by simpa using h3
    omega
   rw [if_pos h3] at hnx;conv=>whnf
   refine⟨by omega,?_⟩;conv=>whnf
   rw[hw1];refine⟨j+1,[0,1,5],h2,by omega,?_⟩;rw[hnx];conv=>whnf
   repeat'(first|exact ⟨⟩|exact rfl|exact jd _|exact .inr rfl|exact fun _ _=>rfl|exact noI|apply And.intro|exact qy8 _|(show _+1=(_++[_]).length;simp;done)|exact wg _ _ _ rfl)
  ·have h3:¬ j≠i:=by
    have h:¬ (j:Int)≠(i:Int):=by simpa using h3
    omega
   rw [if_neg h3] at hnx;conv=>whnf
   rw[hw1];refine⟨j+1,[0,1,2],h2,by omega,?_⟩;rw[hnx];conv=>whnf
   exact rZ7
 ·have h2:j=f.zones.length:=by
   have h:¬ (j:Int)<f.zones.length:=pw h2;omega
  subst h2;rw [zg9 f.zones hi] at hol ⊢;generalize hL:yi f.zones i=L at hol ⊢;have hLn:∀ c ∈ L,qb c:=fun c hc=>by
   rw [<-hL] at hc;unfold yi at hc;obtain⟨z,hz,rfl⟩:=lz.1 hc;refine hn z ?_;rcases o3.1 hz with h|h
   ·exact gt h
   ·exact ar h
  conv=>whnf
  refine .one (.view _ _ [2] (zr3 apex (Nat.beq L.length 0) L (by omega)) ?_ rfl rfl ?_)
  ·conv=>whnf
   exact⟨rfl,rfl⟩
  unfold jh0;rw[if_pos ha];cases hd:zn apex L none with
  |none =>
   rw[show y4 P apex L=(0,false) by unfold y4;rw[hd]];conv=>whnf
   refine brT rfl ?_;conv=>whnf
   refine⟨[0],_,[jj P],rfl,rfl,?_,?_,.ff,rfl,DenTo.ff,rfl⟩
   ·exact rfl
   ·conv=>whnf
    exact rZ7
  |some a =>
   conv=>whnf
   refine brF rfl ?_;conv=>whnf
   refine oD (xc a ?_) rfl rfl ?_
   ·rcases yl5 hd with h|h
    ·have:=(hLn a h).2.1;omega
    ·cases h
   conv=>whnf
   have hf:=zy (ev:=intV) y8 P (fold a);refine⟨_,hf,?_⟩;cases hg:aget P (fold a) with
   |none =>
    rw[show y4 P apex L=(0,false) by unfold y4;rw[hd];show(match aget P (fold a) with|none=>(0,false)|some k=>(k,true))=_;rw[hg]];conv=>whnf
    refine⟨[0],_,[jj P],rfl,rfl,?_,?_,.ff,rfl,DenTo.ff,rfl⟩
    ·exact rfl
    ·conv=>whnf
     exact rZ7
   |some k =>
    rw[show y4 P apex L=(k,true) by unfold y4;rw[hd];show(match aget P (fold a) with|none=>(0,false)|some k=>(k,true))=_;rw[hg]];conv=>whnf
    refine⟨[0],_,[jj P],rfl,rfl,?_,?_,.tt,rfl,DenTo.tt,rfl⟩
    ·exact rfl
    ·conv=>whnf
     exact rZ7
section
def CutI(zs:List Zo)(P:List (List UInt8 × Nat))(a b:Nat):Prop:=∃ c ∈ xp (zs.getD a default),aget P (fold c)=some b
structure HInv(zs:List Zo)(P:List (List UInt8 × Nat))(i:Nat)(L:List (List UInt8))(m:Nat)(C:List ((Nat × Nat) × Nat)):Prop where
 has:∀ a b,(aget C (a,b)).isSome=true↔(a<i/\CutI zs P a b)\/(a=i/\∃ c ∈ L,aget P (fold c)=some b)
 le:∀ k v,aget C k=some v->1<=v/\v<=m
variable{zs:List Zo}{P:List (List UInt8 × Nat)}
theorem HInv.zero:HInv zs P 0 [] 0 []:=⟨fun a b=>⟨fun h=>(by cases h),fun h=>(by rcases h with h|⟨_,c,hc,_⟩;exact absurd h.1 (gy _);cases hc)⟩,fun k v h=>by cases h⟩
theorem HInv.next{i m:Nat}{L:List (List UInt8)}{C:List ((Nat × Nat) × Nat)}(h:HInv zs P i L m C){m':Nat}(hm:m<=m')(hL:L=xp (zs.getD i default)):HInv zs P (i+1) [] m' C:=by
 refine⟨fun a b=>?_,fun k v hv=>?_⟩
 ·rw[h.has];constructor
  ·rintro (⟨h1,h2⟩|⟨rfl,c,hc,e⟩)
   ·exact .inl ⟨by omega,h2⟩
   ·exact .inl ⟨l5 _,c,hL ▸ hc,e⟩
  ·rintro (⟨h1,h2⟩|⟨_,c,hc,_⟩)
   ·rcases oo a i with h3|h3
    ·exact .inl ⟨h3,h2⟩
    ·have:a=i:=by omega
     subst this;obtain⟨c,hc,e⟩:=h2;exact .inr ⟨rfl,c,hL ▸ hc,e⟩
   ·cases hc
 ·have:=h.le k v hv;omega
theorem HInv.skip{i m:Nat}{L:List (List UInt8)}{C:List ((Nat × Nat) × Nat)}(h:HInv zs P i L m C){c:List UInt8}(hc:aget P (fold c)=none):HInv zs P i (L++[c]) (m+1) C:=by
 refine⟨fun a b=>?_,fun k v hv=>?_⟩
 ·rw[h.has];constructor
  ·rintro (h1|⟨rfl,c',hc',e⟩)
   ·exact .inl h1
   ·exact .inr ⟨rfl,c',aw _ hc',e⟩
  ·rintro (h1|⟨rfl,c',hc',e⟩)
   ·exact .inl h1
   ·rcases o3.1 hc' with h2|h2
    ·exact .inr ⟨rfl,c',h2,e⟩
    ·rw [lv.1 h2,hc] at e;cases e
 ·have:=h.le k v hv;omega
theorem HInv.put{i m:Nat}{L:List (List UInt8)}{C:List ((Nat × Nat) × Nat)}(h:HInv zs P i L m C){c:List UInt8}{b:Nat}(hc:aget P (fold c)=some b){v:Nat}(hv:(aget C (i,b)).getD 0=v):HInv zs P i (L++[c]) (m+1) (aput C (i,b) (v+1)):=by
 refine⟨fun a b'=>?_,fun k w hw=>?_⟩
 ·rw[jc7];by_cases hk:(a,b')=(i,b)
  ·rw[if_pos hk];obtain⟨rfl,rfl⟩:=lw hk;exact⟨fun _=>.inr ⟨rfl,c,by simp,hc⟩,fun _=>rfl⟩
  ·rw[if_neg hk,h.has];constructor
   ·rintro (h1|⟨rfl,c',hc',e⟩)
    ·exact .inl h1
    ·exact .inr ⟨rfl,c',aw _ hc',e⟩
   ·rintro (h1|⟨rfl,c',hc',e⟩)
    ·exact .inl h1
    ·rcases o3.1 hc' with h2|h2
     ·exact .inr ⟨rfl,c',h2,e⟩
     ·rw [lv.1 h2,hc] at e;simp only [my] at e;exact absurd (by rw[e]) hk
 ·rw [jc7] at hw;split at hw
  ·simp only [my] at hw;subst hw;cases hg:aget C (i,b) with
   |none=>rw [hg] at hv;simp at hv;omega
   |some x =>
    rw [hg] at hv;simp at hv;have:=h.le _ _ hg;omega
  ·have:=h.le k w hw;omega
theorem yr6{n:Nat}(hP:∀ k v,aget P k=some v->v<n)(apex:List UInt8)(L:List (List UInt8)):(y4 P apex L).2=true->(y4 P apex L).1<n:=by
 unfold y4;cases zn apex L none with
 |none=>exact fun h=>by cases h
 |some a =>
  show(match aget P (fold a) with|none=>(0,false)|some k=>(k,true)).2=true->(match aget P (fold a) with|none=>(0,false)|some k=>(k,true)).1<n;cases hg:aget P (fold a) with
  |none=>exact fun h=>by cases h
  |some k=>exact fun _=>hP _ _ hg
theorem zr8(f:Fo)(hl:f.zones.length<=64)(i:Nat)(hi:i<f.zones.length)(apex:List UInt8)(ha:qb apex)(P:List (List UInt8 × Nat))(hn:∀ z ∈ f.zones,qb z.apex) :
 COk Tryz.prog 103 [f.V,iV i,.d (.str apex),.map 0] [jj P] (fun s k=>s = .tup [iV (y4 P apex (yi f.zones i)).1,.d (.bool (y4 P apex (yi f.zones i)).2)]/\k=[jj P]) :=
 COk.resD (zl7 f hl i hi apex ha P hn) fun _ _ ⟨_,h1,h2,h3⟩=>⟨_,h1 ▸ DenTo.tup ⟨DenTo.refl _,h2,trivial⟩,rfl,h3⟩
def ub(zs:List Zo)(P:List (List UInt8 × Nat))(i:Nat):Bool:=i == 0 || ((y4 P (zs.getD i default).apex (yi zs i)).2 && (xp (zs.getD (y4 P (zs.getD i default).apex (yi zs i)).1 default)).any fun c=>decide (aget P (fold c)=some i))
def qg3(zs:List Zo)(P:List (List UInt8 × Nat)):Bool:=(List.range zs.length).all (ub zs P)
theorem yq5{i:Nat}(hi:i<zs.length)(h:ub zs P i=false):qg3 zs P=false:=by
 unfold qg3;rw[ax];exact⟨i,lr.2 hi,by rw[h];decide⟩
theorem rZ8{p:Prop}(h:p:=by repeat'(first|exact ⟨⟩|exact rfl|exact jd _|exact .inr rfl|exact fun _ _=>rfl|exact noI|apply And.intro|exact qy8 _|exact zw8 _)):p:=h
theorem xo0(f:Fo)(hf:f.Fit)(hl:f.zones.length<=64)(P:List (List UInt8 × Nat))(hz:∀ z ∈ f.zones,z.ok=true)(hP:∀ k v,aget P k=some v->v<f.zones.length) :
 COk Tryz.prog 68 [f.V,.map 0] [jj P] (fun s k=>s = .d (.bool (qg3 f.zones P))/\k=[jj P]):=by
 refine jn (TT:=TT) (IN:=qe []) qg qh mixed 1000 Tryz.func68 rfl (qd Tryz.func68 (by kernel_rfl) rfl) 78 (by kernel_rfl) ?_;conv=>whnf
 refine .inv (Nat × List ((Nat × Nat) × Nat)) (fun s=>s.1<=f.zones.length/\HInv f.zones P s.1 [] (s.1 * 256) s.2) (fun s=>[(20,iV s.1)]) (fun s=>[(2,yy3 s.2)]) (fun s=>f.zones.length - s.1) ⟨(0,[]),[0,1,2],⟨pz _,HInv.zero⟩,?_⟩ ?_
 ·conv=>whnf
  exact rZ7
 intro s hs;obtain⟨hi,hI⟩:=hs;conv=>whnf
 generalize s.1=i at hi hI ⊢;generalize s.2=C at hI ⊢;refine⟨fun h2=>?_,fun h2=>?_⟩
 ·have h2:i<f.zones.length:=by
   have h:(i:Int)<f.zones.length:=pu h2;omega
  have hw1:=w64s i (by omega);obtain⟨z,hzd⟩:∃ z,f.zones.getD i default=z:=⟨_,rfl⟩;have hzl:f.zones[i]? = some z:=by rw[<-hzd,List.getD,pp h2];rfl
  have hzm:=ov hzl;conv=>whnf
  refine⟨by omega,?_⟩;conv=>whnf
  rw[px,hzd];refine oD (xc1 z (hf z hzm).2) rfl rfl ?_;have hLl:(xp z).length<=256:=by
   unfold xp;split
   ·rename_i hok;have h1:=yg7 z.cutL;have h2:z.cutL.length<=z.rrs.length:=by unfold Zo.cutL;rw[mn];exact d9 _ _
    have h3:=z.ok_len hok;omega
   ·exact pz _
  have hLn:∀ c ∈ xp z,qb c:=fun c hc=>by
   unfold xp at hc;split at hc
   ·exact(up hc).2
   ·cases hc
  have hLz:xp z=xp (f.zones.getD i default):=by rw[hzd]
  generalize xp z=L at hLl hLn hLz ⊢;conv=>whnf
  refine .inv (Nat × List ((Nat × Nat) × Nat)) (fun s=>s.1<=L.length/\HInv f.zones P i (L.take s.1) (i * 256+s.1) s.2) (fun s=>[(28,iV s.1)]) (fun s=>[(2,yy3 s.2)]) (fun s=>L.length - s.1) ⟨(0,C),[0,1,2,3],⟨pz _,hI⟩,?_⟩ ?_
  ·conv=>whnf
   exact rZ8
  clear hI;intro s hs;obtain⟨hj,hI⟩:=hs;conv=>whnf
  generalize s.1=j at hj hI ⊢;generalize s.2=D at hI ⊢;refine⟨fun h3=>?_,fun h3=>?_⟩
  ·have h3:j<L.length:=by
    have h:(j:Int)<L.length:=pu h3;omega
   have hwj:=w64s j (by omega);have hli:L[j]? = some (L[j]?.getD []):=by rw[pp h3];rfl
   conv=>whnf
   refine⟨by omega,?_⟩;conv=>whnf
   rw[px];generalize L[j]?.getD []=c at hli ⊢;have hcn:=hLn c (ov hli);have htk:L.take (j+1)=L.take j++[c]:=by rw[mp,hli];rfl
   refine oD (xc c (by have:=hcn.2.1;omega)) rfl rfl ?_;conv=>whnf
   have hfc:=zy (ev:=intV) y8 P (fold c);refine⟨_,hfc,?_⟩;cases hg:aget P (fold c) with
   |none =>
    conv=>whnf
    rw[hwj];refine⟨(j+1,D),[0,1,2,3],⟨h3,by rw[htk];exact hI.skip hg⟩,by show _ - (j+1)<_;omega,?_⟩;conv=>whnf
    exact rZ8
   |some b =>
    conv=>whnf
    obtain⟨l1,q,ho1,ho2,ho3⟩:=yu5 (ev:=intV) jn6 (i,b) [SV.d (.int .i64 0)] D;have hfs:=zy (ev:=intV) jn6 D (i,b);cases hgc:aget D (i,b) with
    |none =>
     rw [hgc] at hfs ho1 ho2;have hput:putQ l1 q [SV.d (.int .i64 1)]=aenc qg1 intV (aput D (i,b) 1):=ho3 1;have hnext:=hI.put hg (v:=0) (by rw[hgc];rfl);apply Exists.intro;refine⟨?_,?_⟩
     ·conv=>whnf
      repeat'(first|exact ⟨⟩|exact⟨rfl,rfl⟩|refine⟨_,hfs,?_⟩|refine⟨_,ho2,?_⟩|refine⟨_,_,_,ho1,?_⟩|intro s|refine⟨rfl,_,hput,?_⟩|apply And.intro|(conv=>whnf))
     conv=>whnf
     rw[hwj];refine⟨(j+1,aput D (i,b) 1),[0,1,2,3],⟨h3,by rw[htk];exact hnext⟩,by show _ - (j+1)<_;omega,?_⟩;conv=>whnf
     exact rZ8
    |some v =>
     rw [hgc] at hfs ho1 ho2;have hvb:=hI.le _ _ hgc;have hwv:=w64s v (by omega);have hput:putQ l1 q [SV.d (.int .i64 (IntKind.i64.wrap ((v:Int)+1)))]=aenc qg1 intV (aput D (i,b) (v+1)):=by rw[hwv];exact ho3 (v+1)
     have hnext:=hI.put hg (v:=v) (by rw[hgc];rfl);apply Exists.intro;refine⟨?_,?_⟩
     ·conv=>whnf
      repeat'(first|exact ⟨⟩|exact⟨rfl,rfl⟩|refine⟨_,hfs,?_⟩|refine⟨_,ho2,?_⟩|refine⟨_,_,_,ho1,?_⟩|intro s|refine⟨rfl,_,hput,?_⟩|apply And.intro|(conv=>whnf))
     conv=>whnf
     rw[hwj];refine⟨(j+1,aput D (i,b) (v+1)),[0,1,2,3],⟨h3,by rw[htk];exact hnext⟩,by show _ - (j+1)<_;omega,?_⟩;conv=>whnf
     exact rZ8
  ·have h3:j=L.length:=by
    have h:¬ (j:Int)<L.length:=pw h3;omega
   subst h3;rw [mr] at hI;conv=>whnf
   rw[hw1];refine⟨(i+1,D),[0,1,2],⟨h2,hI.next (by omega) hLz⟩,by show _ - (i+1)<_;omega,?_⟩;conv=>whnf
   exact rZ8
 ·have h2:i=f.zones.length:=by
   have h:¬ (i:Int)<f.zones.length:=pw h2;omega
  subst h2;conv=>whnf
  refine .inv Nat (fun i=>i<=f.zones.length/\∀ k,k<i->ub f.zones P k=true) (fun i=>[(53,iV i)]) (fun i=>[]) (fun i=>f.zones.length - i) ⟨0,[0,1,2],⟨pz _,fun k hk=>absurd hk (gy _)⟩,?_⟩ ?_
  ·conv=>whnf
   exact rZ8
  intro i hs;obtain⟨hi,hs⟩:=hs;conv=>whnf
  refine⟨fun h2=>?_,fun h2=>?_⟩
  ·have h2:i<f.zones.length:=by
    have h:(i:Int)<f.zones.length:=pu h2;omega
   have hw1:=w64s i (by omega);obtain⟨z,hzd⟩:∃ z,f.zones.getD i default=z:=⟨_,rfl⟩;have hzl:f.zones[i]? = some z:=by rw[<-hzd,List.getD,pp h2];rfl
   have hzm:=ov hzl;have hnext:ub f.zones P i=true->∀ k,k<i+1->ub f.zones P k=true:=fun h k hk=>by
    by_cases e:k=i
    ·subst e;exact h
    ·exact hs k (by omega)
   conv=>whnf
   refine⟨by omega,?_⟩;conv=>whnf
   rw[px,hzd];refine⟨fun h3=>?_,fun h3=>?_⟩
   ·have h3:i=0:=by
     have h:(i:Int)=0:=by simpa using h3
     omega
    conv=>whnf
    rw[hw1];refine⟨i+1,[0,1,2],⟨h2,hnext (by subst h3;rfl)⟩,by omega,?_⟩;conv=>whnf
    exact rZ8
   ·have h3:i≠0:=by
     have h:¬ (i:Int)=0:=by simpa using h3
     omega
    have hh:ub f.zones P i=((y4 P z.apex (yi f.zones i)).2 && (xp (f.zones.getD (y4 P z.apex (yi f.zones i)).1 default)).any fun c=>decide (aget P (fold c)=some i)):=by
     unfold ub;rw[hzd,show(i == 0)=false by simpa using h3,rt]
    conv=>whnf
    refine .rel _ (COk.frameX (zr8 f hl i h2 z.apex (Zo.ok_name (hz z hzm)) P (fun z hz'=>Zo.ok_name (hz z hz'))) [0] rfl rfl (by show[jj P]=[mapK _ (jj P)];rw[qh3])) (fun x ks' hR=>?_);obtain⟨s0,k0,⟨rfl,rfl⟩,rfl,rfl⟩:=hR;have hcl:=yr6 hP z.apex (yi f.zones i);generalize y4 P z.apex (yi f.zones i)=r at hh hcl ⊢;obtain⟨a,b⟩:=r;rw[show mapB (sig [0] _) [jj P]=[jj P] from congrArg (fun x=>[x]) (qh3 P)];have hhas:=hI.has a i;cases b with
    |false =>
     conv=>whnf
     refine brT rfl ?_;conv=>whnf
     rw[yq5 h2 (hh.trans rfl)];refine⟨[0],_,[jj P],rfl,rfl,?_,?_,rfl,rfl⟩
     ·exact rfl
     ·conv=>whnf
      exact rZ7
    |true =>
     have hcl:a<f.zones.length:=hcl rfl;conv=>whnf
     refine brF rfl ?_;conv=>whnf
     have hfs:=zy (ev:=intV) jn6 C (a,i);refine⟨_,hfs,?_⟩;cases hgc:aget C (a,i) with
     |none =>
      have hb:ub f.zones P i=false:=by
       rw[hh];show((xp (f.zones.getD a default)).any fun c=>decide (aget P (fold c)=some i))=false;rw[List.any_eq_false];intro c hc hd;have:=hhas.2 (.inl ⟨hcl,c,hc,by simpa using hd⟩);rw [hgc] at this;cases this
      conv=>whnf
      refine brT rfl ?_;conv=>whnf
      rw[yq5 h2 hb];refine⟨[0],_,[jj P],rfl,rfl,?_,?_,rfl,rfl⟩
      ·exact rfl
      ·conv=>whnf
       exact rZ7
     |some v =>
      have hb:ub f.zones P i=true:=by
       rw[hh];show((xp (f.zones.getD a default)).any fun c=>decide (aget P (fold c)=some i))=true;rcases hhas.1 (by rw[hgc];rfl) with⟨_,c,hc,e⟩|⟨_,c,hc,_⟩
       ·exact so.2 ⟨c,hc,by simpa using e⟩
       ·cases hc
      have hv1:=(hI.le _ _ hgc).1;conv=>whnf
      refine brF (by rw[mq];omega) ?_;conv=>whnf
      rw[hw1];refine⟨i+1,[0,1,2],⟨h2,hnext hb⟩,by omega,?_⟩;conv=>whnf
      exact rZ8
  ·have h2:i=f.zones.length:=by
    have h:¬ (i:Int)<f.zones.length:=pw h2;omega
   have hb:qg3 f.zones P=true:=by
    unfold qg3;rw[l8];intro k hk;exact hs k (by rw[h2];exact lr.1 hk)
   conv=>whnf
   rw[hb];refine⟨[0],_,[jj P],rfl,rfl,?_,?_,rfl,rfl⟩
   ·exact rfl
   ·conv=>whnf
    exact rZ7
end
def qg9(a:Int):List DV:=[.int .u32 a]
theorem ys7(a b:Int):jg (qg9 a) (qg9 b)=decide (a=b):=by
 rw[ly];simp[qg9,jg,dEq,kEq]
def qg8(l:List (Int × Bool × List Int)):List (Int × Nat):=l.map fun h=>(h.1,1)
def xt7(S:List (Int × Nat)):KB:=.map [.int .u32] false false (aenc qg9 intV S)
theorem xb5{ρ:List Nat}(C:List (Int × Nat)):renM ρ (aenc qg9 intV C)=aenc qg9 intV C:=qm4 (fun _=>rfl) C
theorem xk4(l:List (Int × Bool × List Int))(a:Int):aget (qg8 l) a=if l.any (fun h=>h.1 == a) then some 1 else none:=by
 induction l with
 |nil=>rfl
 |cons r l ih =>
  show(if a=r.1 then some 1 else aget (qg8 l) a)=_;rw[ih,List.any_cons];by_cases h:a=r.1
  ·subst h;simp
  ·have h':(r.1 == a)=false:=by simpa using fun e=>h e.symm
   rw[if_neg h,h',rt]
theorem zp1(l:List Int)(a:Int):qg2 (l++[a])=(qg2 l && !l.contains a):=by
 induction l with
 |nil=>simp[qg2]
 |cons x l ih =>
  show(!(l++[a]).contains x && qg2 (l++[a]))=((!l.contains x && qg2 l) && !(x :: l).contains a);rw[ih,ly];simp only[List.contains_append,List.contains_cons,List.contains_nil,Bool.or_false,Bool.not_or,p8,c6,mq];constructor
  ·rintro ⟨⟨h1,h2⟩,h3,h4⟩;exact⟨⟨h1,h3⟩,fun e=>h2 e.symm,h4⟩
  ·rintro ⟨⟨h1,h3⟩,h2,h4⟩;exact⟨⟨h1,fun e=>h2 e.symm⟩,h3,h4⟩
def kg(n:Nat)(a:Int):Bool:=decide (0<=a) && decide (a<(n:Int))
theorem jz7(n:Nat)(l:List (Int × Bool × List Int))(h:Int × Bool × List Int):zi n (l++[h])=(zi n l && (!l.any (fun x=>x.1 == h.1) && h.2.2.all (kg n))):=by
 unfold zi;rw[dw,cu,List.map_nil,zp1,bw,List.all_cons,List.all_nil,Bool.and_true];have e:(l.map (·.1)).contains h.1=l.any (fun x=>x.1 == h.1):=by
  rw[ly,List.contains_iff_mem,so];constructor
  ·intro hm;obtain⟨x,hx,e⟩:=lz.1 hm;exact⟨x,hx,by simpa using e⟩
  ·rintro ⟨x,hx,e⟩
   exact lz.2 ⟨x,hx,by simpa using e⟩
 rw[e];show _=_;unfold kg;cases qg2 (l.map (·.1)) <;> cases (l.any fun x=>x.1 == h.1) <;> cases (l.all fun h=>h.2.2.all fun at_=>decide (0<=at_) && decide (at_<(n:Int))) <;> rfl
theorem zk6(n:Nat)(l m:List (Int × Bool × List Int))(h:zi n l=false):zi n (l++m)=false:=by
 refine qi5 (P:=fun m=>zi n (l++m)=false) (by rwa [m6]) (fun m r ih=>?_) m;rw[<-m9,jz7,ih];rfl
theorem jk1{n:Nat}{l:List (Int × Bool × List Int)}{i:Nat}(h:zi n (l.take i)=false):zi n l=false:=by
 rw[<-cz i l];exact zk6 n _ _ h
theorem xb4{n:Nat}{l:List Int}{j:Nat}{a:Int}(h:l[j]? = some a):(l.take (j+1)).all (kg n)=((l.take j).all (kg n) && kg n a):=by
 rw[mp,h,bw];simp
theorem ys6{n:Nat}{l:List Int}{j:Nat}(h:(l.take j).all (kg n)=false):l.all (kg n)=false:=by
 rw [ax] at h ⊢;obtain⟨x,hx,e⟩:=h;exact⟨x,gt hx,e⟩
theorem rZ9{p:Prop}(h:p:=by repeat'(first|exact ⟨⟩|exact rfl|exact jd _|exact .inr rfl|exact fun _ _=>rfl|exact noI|apply And.intro|exact xb5 _)):p:=h
theorem zy7(f:Fo)(hh:f.hosts.length<=64)(hl:∀ h ∈ f.hosts,h.2.2.length<=9223372036854775807):FnOk Tryz.prog 69 [f.V] (.d (.bool (zi f.zones.length f.hosts))):=by
 refine qu (TT:=TT) (IN:=qe [(105,Tryz.f105,2),(138,Tryz.f138,2),(104,Tryz.f104,2)]) qg (jh (jh (jh qh Tryz.func104 (by kernel_rfl) (by kernel_rfl)) Tryz.func138 (by kernel_rfl) (by kernel_rfl)) Tryz.func105 (by kernel_rfl) (by kernel_rfl)) mixed 1000 Tryz.func69 rfl (qd Tryz.func69 (by kernel_rfl) rfl) rfl 32 (by kernel_rfl) ?_;conv=>whnf
 refine .inv Nat (fun i=>i<=f.hosts.length/\zi f.zones.length (f.hosts.take i)=true) (fun i=>[(12,iV i)]) (fun i=>[(1,xt7 (qg8 (f.hosts.take i)))]) (fun i=>f.hosts.length - i) ⟨0,[0,1],⟨pz _,rfl⟩,?_⟩ ?_
 ·conv=>whnf
  exact rZ2
 intro i hi;obtain⟨hi,hti⟩:=hi;conv=>whnf
 refine⟨fun h2=>?_,fun h2=>?_⟩
 ·have h2:i<f.hosts.length:=by
   have h:(i:Int)<f.hosts.length:=pu h2;omega
  have hw1:=w64s i (by omega);obtain⟨h,hhd⟩:∃ h,f.hosts.getD i default=h:=⟨_,rfl⟩;have hhl:f.hosts[i]? = some h:=by rw[<-hhd,List.getD,pp h2];rfl
  have hlz:=hl h (ov hhl);have htk:f.hosts.take (i+1)=f.hosts.take i++[h]:=by rw[mp,hhl];rfl
  have hsn:=jz7 f.zones.length (f.hosts.take i) h;rw [hti,l7] at hsn;conv=>whnf
  refine⟨by omega,?_⟩;conv=>whnf
  rw[px,hhd];have hfs:=zy (ev:=intV) ys7 (qg8 (f.hosts.take i)) h.1;have hga:=xk4 (f.hosts.take i) h.1;refine⟨_,hfs,?_⟩;cases hany:(f.hosts.take i).any (fun x=>x.1 == h.1) with
  |true =>
   rw [hany] at hga hsn;rw[hga];conv=>whnf
   refine brT rfl ?_;conv=>whnf
   rw[jk1 (i:=i+1) (by rw[htk,hsn];rfl)]
  |false =>
   rw [hany] at hga hsn;rw[hga];conv=>whnf
   refine brF rfl ?_;conv=>whnf
   have hsn:zi f.zones.length (f.hosts.take (i+1))=h.2.2.all (kg f.zones.length):=by rw[htk,hsn];rfl
   have hput:putM (aenc qg9 intV (qg8 (f.hosts.take i))) [.int .u32 h.1] [.d (.int .i64 1)]=aenc qg9 intV (qg8 (f.hosts.take (i+1))):=by
    have h1:=qe3 (ev:=intV) ys7 (qg8 (f.hosts.take i)) h.1 1;rw [ys4 hga,] at h1;rw[htk];unfold qg8 at h1 ⊢;rw[dw];exact h1
   generalize hm:h.2.2=m at hlz hsn ⊢;refine .inv Nat (fun j=>j<=m.length/\(m.take j).all (kg f.zones.length)=true) (fun j=>[(8,iV j)]) (fun j=>[]) (fun j=>m.length - j) ⟨0,[0,1,2],⟨pz _,rfl⟩,?_⟩ ?_
   ·conv=>whnf
    exact rZ9
   intro j hj;obtain⟨hj,htj⟩:=hj;conv=>whnf
   refine⟨fun h3=>?_,fun h3=>?_⟩
   ·have h3:j<m.length:=by
     have h:(j:Int)<m.length:=pu h3;omega
    have hwj:=w64s j (by omega);have hmj:m[j]? = some (m.getD j 0):=by rw[List.getD,pp h3];rfl
    have hnx:=xb4 (n:=f.zones.length) hmj;rw [htj,l7] at hnx;conv=>whnf
    refine⟨by omega,?_⟩;conv=>whnf
    rw[px];generalize m.getD j 0=a at hmj hnx ⊢;refine⟨fun h4=>?_,fun h4=>?_⟩
    ·have h4:a<0:=pu h4;have hg:kg f.zones.length a=false:=by unfold kg;rw[po (by omega:¬ 0<=a)];rfl
     have hb:zi f.zones.length f.hosts=false:=jk1 (i:=i+1) (by rw[hsn];exact ys6 (j:=j+1) (by rw[hnx,hg]));conv=>whnf
     refine brT (pn (by omega)) ?_;conv=>whnf
     rw[hb]
    ·have h4:¬ a<0:=pw h4;conv=>whnf
     refine⟨fun h5=>?_,fun h5=>?_⟩
     ·have h5:a >= (f.zones.length:Int):=pu h5;have hg:kg f.zones.length a=false:=by unfold kg;rw[po (by omega:¬ a<(f.zones.length:Int)),gu]
      have hb:zi f.zones.length f.hosts=false:=jk1 (i:=i+1) (by rw[hsn];exact ys6 (j:=j+1) (by rw[hnx,hg]));conv=>whnf
      refine brT (pn (by omega)) ?_;conv=>whnf
      rw[hb]
     ·have h5:¬ a >= (f.zones.length:Int):=pw h5;have hg:kg f.zones.length a=true:=by unfold kg;rw[pn (by omega:0<=a),pn (by omega:a<(f.zones.length:Int))];rfl
      conv=>whnf
      rw[hwj];refine⟨j+1,[0,1,2],⟨h3,by rw[hnx,hg]⟩,by omega,?_⟩;conv=>whnf
      exact rZ9
   ·have h3:j=m.length:=by
     have h:¬ (j:Int)<m.length:=pw h3;omega
    subst h3;rw [mr] at htj;rw [htj] at hsn;conv=>whnf
    refine brF rfl ?_;conv=>whnf
    refine⟨_,hfs,?_⟩;rw[hga];conv=>whnf
    refine⟨_,hput,?_⟩;conv=>whnf
    rw[hw1];refine⟨i+1,[0,1],⟨h2,hsn⟩,by omega,?_⟩;conv=>whnf
    exact rZ9
 ·have h2:i=f.hosts.length:=by
   have h:¬ (i:Int)<f.hosts.length:=pw h2;omega
  subst h2;rw [mr] at hti;conv=>whnf
  rw[hti]
theorem within_suf{n z:List UInt8}:qt n z=true↔qb n/\qb z/\fl z <:+ fl n:=by
 unfold qt;simp only[p8,lx,r7]
theorem xa1{n:List UInt8}(h:qb n):qo n=(fl n).length:=by
 unfold qo fl;rw[if_pos h,mn]
theorem xj0{a b:List UInt8}(ha:qb a)(hb:qb b)(h:fold a=fold b):qo a=qo b:=by
 rw[<-uk ha,<-uk hb,h]
theorem zr5:qo [0]=0:=by decide
theorem Zo.cutL_spec{z:Zo}(hz:z.ok=true){c:List UInt8}(h:c ∈ z.cutL):∃ r ∈ z.rrs,r.nm=c/\r.ty=2/\qt c z.apex=true/\zg c z.apex=false/\qb c/\zb z.apex r=true:=by
 unfold Zo.cutL at h;obtain⟨r,hr,rfl⟩:=lz.1 h;obtain⟨hr,hp⟩:=cn.1 hr;have ht:=z.ok_take hz hr;have ht':=ht;unfold zb at ht';simp only [p8] at ht' hp;exact⟨r,hr,rfl,by simpa[isNs] using hp.1,ht'.2.2.2.2,by simpa using hp.2,(vp ht'.2.2.2.2).1,ht⟩
theorem zz0{n:List UInt8}(h:fold n=[0]):qo n=0\/¬ qb n:=by
 by_cases hn:qb n
 ·left
  rw[<-uk hn,h];exact zr5
 ·exact .inr hn
theorem yi6:∀ {l:List (List UInt8)},y5 l=true->∀ {i j:Nat} {a:List UInt8},l[i]? = some a->l[j]? = some a->i=j
 |[],_,_,_,_,h,_=>by cases h
 |x :: l,h,i,j,a,hi,hj=>by
  have h':(!l.contains x && y5 l)=true:=h;simp only [p8,c6] at h';have hx:∀ k,l[k]?≠some x:=fun k hk=>by
   have:=ov hk;rw [<-List.contains_iff_mem,h'.1] at this;cases this
  cases i with
  |zero =>
   cases j with
   |zero=>rfl
   |succ j =>
    simp at hi hj;subst hi;exact absurd hj (hx j)
  |succ i =>
   cases j with
   |zero =>
    simp at hi hj;subst hj;exact absurd hi (hx i)
   |succ j =>
    simp at hi hj;rw[yi6 h'.2 hi hj]
theorem xq2{zs:List Zo}(h:y5 (zs.map fun z=>fold z.apex)=true){i j:Nat}{a b:Zo}(hi:zs[i]? = some a)(hj:zs[j]? = some b)(e:fold a.apex=fold b.apex):i=j :=
 yi6 h (a:=fold a.apex) (by rw[o4,hi];rfl) (by rw[o4,hj,e];rfl)
theorem zv9{zs:List Zo}(h:y5 (zs.map fun z=>fold z.apex)=true){i:Nat}{z:Zo}(hi:zs[i]? = some z)(n:List UInt8):j8 zs n=some i↔fold z.apex=n:=by
 constructor
 ·intro e;obtain⟨y,hy,e1⟩:=qk7 e;rw [hi] at hy;cases hy;exact e1
 ·intro e;cases hp:j8 zs n with
  |none=>exact absurd e (place_none.1 hp z (ov hi))
  |some k =>
   obtain⟨y,hy,e1⟩:=qk7 hp;rw[xq2 h hy hi (e1.trans e.symm)]
theorem zl8(zs:List Zo)(i:Nat)(apex:List UInt8):qb2 zs i apex=if (y4 (ji zs) apex (yi zs i)).2 then some (y4 (ji zs) apex (yi zs i)).1 else none:=by
 unfold qb2 y4;cases zn apex (yi zs i) none with
 |none=>rfl
 |some a =>
  show j8 zs (fold a)=if (match aget (ji zs) (fold a) with|none=>(0,false)|some k=>(k,true)).2 then some (match aget (ji zs) (fold a) with|none=>(0,false)|some k=>(k,true)).1 else none;rw[qh4];cases j8 zs (fold a) <;> rfl
theorem xo1{zs:List Zo}(hz:∀ z ∈ zs,z.ok=true)(ho:y5 (zs.map fun z=>fold z.apex)=true):qg3 zs (ji zs)=qg4 zs:=by
 have hi:∀ i,i<zs.length->ub zs (ji zs) i=(i == 0 || (match qb2 zs i (zs.getD i default).apex with
  |none=>false
  |some a=>(zs.getD a default).cutL.any fun c=>fold c == fold (zs.getD i default).apex)):=fun i hi=>by
  unfold ub;rw[zl8];have hzi:zs[i]? = some (zs.getD i default):=by rw[gr,pp hi];rfl
  congr 1;have hcl:=yr6 (n:=zs.length) (P:=ji zs) (fun k v hv=>by
   rw [qh4] at hv;obtain⟨y,hy,_⟩:=qk7 hv;exact(pq.1 hy).1) (zs.getD i default).apex (yi zs i)
  generalize y4 (ji zs) (zs.getD i default).apex (yi zs i)=r at hcl ⊢;obtain⟨a,b⟩:=r;cases b with
  |false=>rfl
  |true =>
   have ha:a<zs.length:=hcl rfl;have hza:zs[a]? = some (zs.getD a default):=by rw[gr,pp ha];rfl
   have hok:=hz _ (ov hza);show((xp (zs.getD a default)).any fun c=>decide (aget (ji zs) (fold c)=some i))=(zs.getD a default).cutL.any fun c=>fold c == fold (zs.getD i default).apex
   unfold xp;rw[if_pos hok,ly,so,so];have hp:∀ c,(aget (ji zs) (fold c)=some i)↔fold c=fold (zs.getD i default).apex:=fun c=>by
    rw[qh4,zv9 ho hzi];exact eq_comm
   constructor
   ·rintro ⟨c,hc,e⟩
    exact⟨c,(up hc).1,by simpa using(hp c).1 (by simpa using e)⟩
   ·rintro ⟨c,hc,e⟩
    obtain⟨_,_,_,_,_,_,hcn,_⟩:=Zo.cutL_spec hok hc;obtain⟨m,hm,em⟩:=jl2 hc hcn;exact⟨m,hm,by simpa using(hp m).2 (by rw[em];simpa using e)⟩
 unfold qg3 qg4;rw[ly,l8,l8];constructor
 ·intro h i hm;exact(hi i (lr.1 hm)).symm.trans (h i hm)
 ·intro h i hm;exact(hi i (lr.1 hm)).trans (h i hm)
def uq(zs:List Zo)(i:Nat):Bool:=(zs.take i).all Zo.ok && (y5 ((zs.take i).map fun z=>fold z.apex) && (i == 0 || fold (zs.getD 0 default).apex == [0]))
theorem xk1{p:Zo->Bool}{zs:List Zo}{i:Nat}(h:(zs.take i).all p=false):zs.all p=false:=by
 rw [ax] at h ⊢;obtain⟨x,hx,e⟩:=h;exact⟨x,gt hx,e⟩
theorem zn3{f:Fo}{i:Nat}(h:uq f.zones i=false):f.ok=false:=by
 unfold uq at h;unfold Fo.ok;simp only [rz] at h ⊢;rcases h with h|h|h
 ·exact .inr (.inr (.inr (.inl (xk1 h))))
 ·rw [List.map_take] at h;exact .inr (.inr (.inr (.inr (.inl (zp0 h)))))
 ·rw [au] at h;exact .inr (.inr (.inr (.inr (.inr (.inl h.2)))))
theorem zi3{zs:List Zo}{i:Nat}{z:Zo}(h:zs[i]? = some z)(hs:uq zs i=true):uq zs (i+1)=(z.ok && ((j8 (zs.take i) (fold z.apex)).isNone && (i != 0 || fold z.apex == [0]))):=by
 unfold uq at hs ⊢;simp only [p8] at hs;obtain⟨h1,h2,h3⟩:=hs;rw[mp,h];simp only[Option.toList_some,bw,dw,cu,List.map_nil,yd1,h1,h2,List.all_cons,List.all_nil,Bool.and_true,l7];have e1:(!((zs.take i).map fun z=>fold z.apex).contains (fold z.apex))=(j8 (zs.take i) (fold z.apex)).isNone:=by
  rw[ly,c6,Option.isNone_iff_eq_none,place_none,<-Bool.not_eq_true,List.contains_iff_mem];constructor
  ·intro hm y hy e;exact hm (lz.2 ⟨y,hy,e⟩)
  ·intro hm hc;obtain⟨y,hy,e⟩:=lz.1 hc;exact hm y hy e
 rw[e1];congr 2;cases i with
 |zero =>
  have:zs.getD 0 default=z:=by rw[gr,h];rfl
  rw[this];rfl
 |succ i =>
  have h3':(fold (zs.getD 0 default).apex == [0])=true:=by
   rw [cq] at h3;exact h3.resolve_left (by simp)
  rw[h3'];rfl
def qm6(f:Fo):SV:=if f.ok then .tup [.map 0,.d (.int .i64 0)] else .tup [.v (.map none),.d (.int .i64 2)]
def qm7(f:Fo):List KB:=if f.ok then [jj (ji f.zones)] else []
theorem zt6(f:Fo)(hf:f.Fit)(hl:∀ h ∈ f.hosts,h.2.2.length<=9223372036854775807) :
 COk Tryz.prog 40 [f.V] [] (fun s k=>s=qm6 f/\k=qm7 f):=by
 refine jn (TT:=TT) (IN:=qe []) qg qh mixed 1000 Tryz.func40 rfl (qd Tryz.func40 (by kernel_rfl) rfl) 72 (by kernel_rfl) ?_;have hno:f.ok=false->qm6 f = .tup [.v (.map none),.d (.int .i64 2)]/\qm7 f=[]:=fun h=>by
  unfold qm6 qm7;rw[h];exact⟨rfl,rfl⟩
 conv=>whnf
 refine⟨fun h1=>?_,fun h1=>?_⟩
 ·have h1:¬ 1<=f.zones.length:=by
   have h:(f.zones.length:Int)<1:=pu h1;omega
  obtain⟨e1,e2⟩:=hno (by unfold Fo.ok;rw[po h1];rfl);rw[e1,e2];conv=>whnf
  refine⟨[],_,[],rfl,rfl,?_,?_,rfl,rfl⟩
  ·exact rfl
  ·exact True.intro
 have h1:1<=f.zones.length:=by
  have h:¬ (f.zones.length:Int)<1:=pw h1;omega
 conv=>whnf
 refine⟨fun h2=>?_,fun h2=>?_⟩
 ·have h2:¬ f.zones.length<=64:=by
   have h:(f.zones.length:Int) > 64:=pu h2;omega
  obtain⟨e1,e2⟩:=hno (by unfold Fo.ok;rw[po h2,fx,gu]);rw[e1,e2];conv=>whnf
  refine⟨[],_,[],rfl,rfl,?_,?_,rfl,rfl⟩
  ·exact rfl
  ·exact True.intro
 have h2:f.zones.length<=64:=by
  have h:¬ (f.zones.length:Int) > 64:=pw h2;omega
 conv=>whnf
 refine⟨fun h3=>?_,fun h3=>?_⟩
 ·have h3:¬ f.hosts.length<=64:=by
   have h:(f.hosts.length:Int) > 64:=pu h3;omega
  obtain⟨e1,e2⟩:=hno (by unfold Fo.ok;rw[po h3,fx,gu,gu]);rw[e1,e2];conv=>whnf
  refine⟨[],_,[],rfl,rfl,?_,?_,rfl,rfl⟩
  ·exact rfl
  ·exact True.intro
 have h3:f.hosts.length<=64:=by
  have h:¬ (f.hosts.length:Int) > 64:=pw h3;omega
 have hok:f.ok=(f.zones.all Zo.ok && (y5 (f.zones.map fun z=>fold z.apex) && (fold (f.zones.getD 0 default).apex == [0] && (qg4 f.zones && zi f.zones.length f.hosts)))):=by
  unfold Fo.ok;rw[pn h1,pn h2,pn h3];rfl
 conv=>whnf
 refine .inv Nat (fun i=>i<=f.zones.length/\uq f.zones i=true) (fun i=>[(33,iV i)]) (fun i=>[(1,jj (ji (f.zones.take i)))]) (fun i=>f.zones.length - i) ⟨0,[0,1],⟨pz _,rfl⟩,?_⟩ ?_
 ·conv=>whnf
  exact rZ2
 intro i hi;obtain⟨hi,hti⟩:=hi;conv=>whnf
 refine⟨fun h4=>?_,fun h4=>?_⟩
 ·have h4:i<f.zones.length:=by
   have h:(i:Int)<f.zones.length:=pu h4;omega
  have hw1:=w64s i (by omega);obtain⟨z,hzd⟩:∃ z,f.zones.getD i default=z:=⟨_,rfl⟩;have hzl:f.zones[i]? = some z:=by rw[<-hzd,List.getD,pp h4];rfl
  have hzf:=hf z (ov hzl);have hnx:=zi3 hzl hti;have htk:f.zones.take (i+1)=f.zones.take i++[z]:=by rw[mp,hzl];rfl
  have hbad:uq f.zones (i+1)=false->f.ok=false:=zn3;conv=>whnf
  refine⟨by omega,?_⟩;conv=>whnf
  rw[px,hzd];refine oD (zs7 z hzf.2) rfl rfl ?_;cases hzo:z.ok with
  |false =>
   obtain⟨e1,e2⟩:=hno (hbad (by rw[hnx,hzo];rfl));rw[e1,e2,if_neg (by decide)];conv=>whnf
   refine brT rfl ?_;conv=>whnf
   refine⟨[],_,[],rfl,rfl,?_,?_,rfl,rfl⟩
   ·exact rfl
   ·exact True.intro
  |true =>
   rw[if_pos rfl];rw [hzo,l7] at hnx;conv=>whnf
   refine brF rfl ?_;conv=>whnf
   refine oD (xc z.apex (by have:=hzf.1;omega)) rfl rfl ?_;conv=>whnf
   have hfs:=zy (ev:=intV) y8 (ji (f.zones.take i)) (fold z.apex);rw [qh4] at hfs;refine⟨_,hfs,?_⟩;cases hp:j8 (f.zones.take i) (fold z.apex) with
   |some k =>
    rw [hp] at hnx;obtain⟨e1,e2⟩:=hno (hbad (by rw[hnx];rfl));rw[e1,e2];conv=>whnf
    refine⟨[],_,[],rfl,rfl,?_,?_,rfl,rfl⟩
    ·exact rfl
    ·exact True.intro
   |none =>
    rw [hp] at hnx;have hput:putM (aenc strK intV (ji (f.zones.take i))) [.str (fold z.apex)] [.d (.int .i64 (i:Nat))]=aenc strK intV (ji (f.zones.take (i+1))):=by
     have h1:=qe3 (ev:=intV) y8 (ji (f.zones.take i)) (fold z.apex) i;rw [ys4 (by rw [qh4,hp])] at h1;rw[htk,zj2,show(f.zones.take i).length=i by rw[lu];omega];exact h1
    have hgo:uq f.zones (i+1)=true->uq f.zones (i+1)=true:=id;conv=>whnf
    refine⟨fun h5=>?_,fun h5=>?_⟩
    ·have h5:i=0:=by
      have h:(i:Int)=0:=by simpa using h5
      omega
     conv=>whnf
     refine⟨fun h6=>?_,fun h6=>?_⟩
     ·have h6:(fold z.apex == [0])=false:=by simpa using h6
      obtain⟨e1,e2⟩:=hno (hbad (by rw[hnx,h6,h5];rfl));rw[e1,e2];conv=>whnf
      refine⟨[],_,[],rfl,rfl,?_,?_,rfl,rfl⟩
      ·exact rfl
      ·exact True.intro
     ·have h6:(fold z.apex == [0])=true:=by simpa using h6
      conv=>whnf
      refine⟨_,hput,?_⟩;conv=>whnf
      rw[hw1];refine⟨i+1,[0,1],⟨h4,by rw[hnx,h6,Bool.or_true];rfl⟩,by omega,?_⟩;conv=>whnf
      exact rZ7
    ·have h5:(i != 0)=true:=by
      have h:¬ (i:Int)=0:=by simpa using h5
      simp;omega
     conv=>whnf
     refine⟨_,hput,?_⟩;conv=>whnf
     rw[hw1];refine⟨i+1,[0,1],⟨h4,by rw[hnx,h5];rfl⟩,by omega,?_⟩;conv=>whnf
     exact rZ7
 ·have h4:i=f.zones.length:=by
   have h:¬ (i:Int)<f.zones.length:=pw h4;omega
  subst h4;unfold uq at hti;rw [mr] at hti ⊢;simp only [p8] at hti;obtain⟨t1,t2,t3⟩:=hti;have t3:(fold (f.zones.getD 0 default).apex == [0])=true:=by
   rw [cq] at t3;exact t3.resolve_left (fun e=>by
    have:f.zones.length=0:=by simpa using e
    omega)
  have hz:∀ z ∈ f.zones,z.ok=true:=l8.1 t1;rw [t1,t2,t3,l7,l7,l7,<-xo1 hz t2] at hok;have hP:∀ k v,aget (ji f.zones) k=some v->v<f.zones.length:=fun k v hv=>by
   rw [qh4] at hv;obtain⟨y,hy,_⟩:=qk7 hv;exact(pq.1 hy).1
  conv=>whnf
  refine .rel _ (COk.frameX (xo0 f hf h2 (ji f.zones) hz hP) [1] rfl rfl (by show[jj _]=[mapK _ (jj _)];rw[qh3])) (fun x ks' hR=>?_);obtain⟨s0,k0,⟨rfl,rfl⟩,rfl,rfl⟩:=hR;rw[show mapB (sig [1] _) [jj (ji f.zones)]=[jj (ji f.zones)] from congrArg (fun x=>[x]) (qh3 _)];cases hh:qg3 f.zones (ji f.zones) with
  |false =>
   obtain⟨e1,e2⟩:=hno (by rw[hok,hh];rfl);rw[e1,e2];conv=>whnf
   refine brT rfl ?_;conv=>whnf
   refine⟨[],_,[],rfl,rfl,?_,?_,rfl,rfl⟩
   ·exact rfl
   ·exact True.intro
  |true =>
   rw [hh,l7] at hok;conv=>whnf
   refine brF rfl ?_;conv=>whnf
   refine oD (zy7 f h3 hl) rfl rfl ?_;rw[<-hok];cases hk:f.ok with
   |false =>
    obtain⟨e1,e2⟩:=hno hk;rw[e1,e2];conv=>whnf
    refine brT rfl ?_;conv=>whnf
    refine⟨[],_,[],rfl,rfl,?_,?_,rfl,rfl⟩
    ·exact rfl
    ·exact True.intro
   |true =>
    have e1:qm6 f = .tup [.map 0,.d (.int .i64 0)]:=by unfold qm6;rw[hk];rfl
    have e2:qm7 f=[jj (ji f.zones)]:=by unfold qm7;rw[hk];rfl
    rw[e1,e2];conv=>whnf
    refine brF rfl ?_;conv=>whnf
    refine⟨[1],_,[jj (ji f.zones)],rfl,rfl,?_,?_,rfl,rfl⟩
    ·exact rfl
    ·conv=>whnf
     exact rZ7
theorem Fo.parts{f:Fo}(h:f.ok=true):(1<=f.zones.length/\f.zones.length<=64/\f.hosts.length<=64)/\(∀ z ∈ f.zones,z.ok=true)/\y5 (f.zones.map fun z=>fold z.apex)=true/\fold (f.zones.getD 0 default).apex=[0]/\qg4 f.zones=true/\zi f.zones.length f.hosts=true:=by
 unfold Fo.ok at h;simp only [p8,lx,mw] at h;obtain⟨a1,a2,a3,a4,a5,a6,a7,a8⟩:=h;exact⟨⟨a1,a2,a3⟩,l8.1 a4,a5,a6,a7,a8⟩
theorem xi3{z:Zo}(hz:z.ok=true){c:List UInt8}(hc:c ∈ z.cutL):(q9 c 2 z.rrs).2=0/\(q9 c 2 z.rrs).1.nm=c:=by
 obtain⟨r,hr,hn,ht,_,_,hcn,hk⟩:=Zo.cutL_spec hz hc;have hp:yx c 2 z.rrs≠[]:=by
  intro e;have hm:r ∈ yx c 2 z.rrs:=by
   unfold yx ya yv;refine cn.2 ⟨cn.2 ⟨hr,?_⟩,?_⟩
   ·rw[ht,hn];simp
   ·unfold zb at hk;simp only [p8] at hk;rw[hk.1,hk.2.2.2.1];rfl
  rw [e] at hm;cases hm
 have e:q9 c 2 z.rrs=(qv6 c 2 (yx c 2 z.rrs),0):=by
  unfold q9;rw[if_pos hcn,if_neg (by simpa using hp)]
 rw[e];exact⟨rfl,rfl⟩
theorem xa0{z:Zo}(hz:z.ok=true)(name:List UInt8):(z.cut name=none/\(cutQ z name).2=3/\cutQ z name=(St.no,3))\/∃ c,z.cut name=some (fold c)/\(cutQ z name).2=0/\(cutQ z name).1.nm=c/\qb c/\c ∈ z.cutL/\qt name c=true/\cutQ z name=q9 c 2 z.rrs:=by
 have hb:=xj5 (name:=name) (l:=z.cutL) (fun c hc=>by
  obtain⟨_,_,_,_,_,_,h,_⟩:=Zo.cutL_spec hz hc;exact h)
 have hs:=jk5 name (zd z.cutL);unfold cutQ Zo.cut;rw[if_pos hz];cases hc:xq name (zd z.cutL) with
 |none =>
  rw [hc] at hb;exact .inl ⟨hb.symm,rfl,rfl⟩
 |some c =>
  rw [hc] at hb hs;obtain⟨h1,h2,_⟩:=hs;obtain⟨hm,hn⟩:=up h1;obtain⟨f1,f2⟩:=xi3 hz hm;exact .inr ⟨c,hb.symm,f1,f2,hn,hm,h2,rfl⟩
def qg7(f:Fo)(name:List UInt8):Nat × Int:=if qb name then (match yz f.zones name 300 0 with
 |none=>(0,12)
 |some a=>(a,0)) else (0,2)
theorem ya5{n:List UInt8}:qo n<=255:=by
 unfold qo;split
 ·rename_i h;obtain⟨h1,h2,h3⟩:=z7 h;have:∀ l:List (List UInt8),l.length<=(mk l).length:=fun l=>by
   induction l with
   |nil=>exact pz _
   |cons a l ih =>
    have:(mk (a :: l)).length=1+a.length+(mk l).length:=ji2 a l;rw[this,ou];omega
  have h4:=this (labN n);rw [<-h3] at h4;omega
 ·exact pz _
theorem jy3{z:Zo}(hz:qb z.apex)(h:fold z.apex=[0]){name:List UInt8}(hn:qb name):qt name z.apex=true:=by
 refine within_suf.2 ⟨hn,hz,?_⟩;have:qo z.apex=0:=(zz0 h).resolve_right (fun e=>e hz);rw [xa1 hz] at this;rw[f8 this];exact List.nil_suffix
structure DwS where
 k:Nat
 at_:Nat
theorem xp2(f:Fo)(hf:f.Fit)(hok:f.ok=true)(name:List UInt8) :
 COk Tryz.prog 42 [f.V,.map 0,.d (.str name)] [jj (ji f.zones)] (fun s k=>s = .tup [iV (qg7 f name).1,.d (.int .i64 (qg7 f name).2)]/\k=[jj (ji f.zones)]):=by
 obtain⟨⟨h1,h2,h3⟩,hz,ho,hr,_,_⟩:=Fo.parts hok;refine jn (TT:=TT) (IN:=qe []) qg qh mixed 1000 Tryz.func42 rfl (qd Tryz.func42 (by kernel_rfl) rfl) 37 (by kernel_rfl) ?_;conv=>whnf
 refine oD (yq name) rfl rfl ?_;unfold qg7;by_cases hn:qb name;case neg =>
  rw[if_neg hn,if_neg hn];conv=>whnf
  refine brT rfl ?_;conv=>whnf
  refine⟨[0],_,[jj (ji f.zones)],rfl,rfl,?_,?_,rfl,rfl⟩
  ·exact rfl
  ·conv=>whnf
   exact rZ7
 rw[if_pos hn,if_pos hn];conv=>whnf
 refine brF rfl ?_;conv=>whnf
 have hz0:f.zones[0]? = some (f.zones.getD 0 default):=by rw[gr,pp h1];rfl
 have hc0:=@ya5 name;refine .inv DwS (fun s=>(∃ z,f.zones[s.at_]? = some z/\qt name z.apex=true/\qo name<s.k+qo z.apex)/\yz f.zones name s.k s.at_=yz f.zones name 300 0) (fun s=>[(8,iV s.at_)]) (fun s=>[]) (fun s=>s.k) ⟨⟨300,0⟩,[0,1],⟨⟨_,hz0,jy3 (Zo.ok_name (hz _ (ov hz0))) hr hn,by show qo name<300+_;omega⟩,rfl⟩,?_⟩ ?_
 ·conv=>whnf
  exact rZ7
 intro s hs;obtain⟨⟨z,hza,hwi,hcn⟩,hdn⟩:=hs;conv=>whnf
 generalize s.k=k at hcn hdn ⊢;generalize s.at_=at_ at hza hdn ⊢;have hzm:=ov hza;have hlt:at_<f.zones.length:=(pq.1 hza).1;have hzd:f.zones.getD at_ default=z:=by rw[gr,hza];rfl
 obtain⟨k,rfl⟩:∃ k',k=k'+1:=⟨k - 1,by have:=jh9 hwi;omega⟩;have e1:yz f.zones name (k+1) at_=match z.cut name with
  |none=>some at_
  |some c=>match j8 f.zones c with
   |none=>none
   |some next=>yz f.zones name k next:=by
  show(match f.zones[at_]? with|none=>none|some z=>_)=_;rw[hza];rfl
 conv=>whnf
 refine⟨by omega,?_⟩;conv=>whnf
 rw[px,hzd];refine oD (xk9 z (hf z hzm).2 name) rfl rfl ?_;rcases xa0 (hz z hzm) name with⟨hcut,hq,_⟩|⟨c,hcut,hq,hnm,hcn2,_,_,_⟩
 ·have hfin:yz f.zones name 300 0=some at_:=by rw[<-hdn,e1,hcut]
  rw[hfin,hq];conv=>whnf
  refine brT rfl ?_;conv=>whnf
  refine⟨[0],_,[jj (ji f.zones)],rfl,rfl,?_,?_,rfl,rfl⟩
  ·exact rfl
  ·conv=>whnf
   exact rZ7
 ·rw [hcut] at e1;simp only at e1;rw[hq];generalize hS:(cutQ z name).1=S at hnm ⊢;conv=>whnf
  refine brF rfl ?_;conv=>whnf
  refine oD (xc S.nm (by rw[hnm];have:=hcn2.2.1;omega)) rfl rfl ?_;rw[hnm];conv=>whnf
  have hfs:=zy (ev:=intV) y8 (ji f.zones) (fold c);rw [qh4] at hfs;refine⟨_,hfs,?_⟩;cases hp:j8 f.zones (fold c) with
  |none =>
   rw [hp] at e1;have hfin:yz f.zones name 300 0=none:=by rw[<-hdn,e1]
   rw[hfin];conv=>whnf
   refine⟨[0],_,[jj (ji f.zones)],rfl,rfl,?_,?_,rfl,rfl⟩
   ·exact rfl
   ·conv=>whnf
    exact rZ7
  |some next =>
   rw [hp] at e1;simp only at e1;obtain⟨y,hy,ey⟩:=qk7 hp;obtain⟨c',ec,w1,w2,w3⟩:=z.cut_spec (hz z hzm) hcut;have hyn:=Zo.ok_name (hz y (ov hy));have hyc:fold y.apex=fold c':=by rw[ey,ec]
   have wy:=qx0 hyn hyc w1;have hlt:=jv5 w2 w3;have hcc:qo y.apex=qo c':=xj0 hyn (vp w1).2 hyc;conv=>whnf
   refine⟨⟨k,next⟩,[0,1],⟨⟨y,hy,wy,by show qo name<k+_;omega⟩,by show yz f.zones name k next=_;rw[<-e1,hdn]⟩,l5 k,?_⟩;conv=>whnf
   exact rZ7
structure Q where
 nm:List UInt8
 ty:Int
 cl:Int
deriving Inhabited
def Q.enc(q:Q):List DV:=[.str q.nm,.int .u16 q.ty,.int .u16 q.cl]
end Go.Proofs.YtoefgnnkajhmiaaGreatDoor
