/-
  Part of the proof: lemmas about the functions that the row calls, and about the steps of a run. Conditions: those ahead of each lemma.
-/
import Derived.Test.YtoefgnnkajhmiaaGreatDoorB1
import Derived.Test.YtoefgnnkajhmiaaGreatDoorM4
import Derived.Test.YtoefgnnkajhmiaaGreatDoorM1
set_option linter.unusedVariables false
set_option linter.unusedSimpArgs false
set_option maxRecDepth 100000
set_option maxHeartbeats 64000000
namespace Go.Proofs.YtoefgnnkajhmiaaGreatDoor
open Go Go.Eng
structure Cw{α:Type}(P:α->Prop)(c:α->α->Int):Prop where
 anti:∀ a b,P a->P b->(c a b<0↔0<c b a)
 trans:∀ a b d,P a->P b->P d->c a b<=0->c b d<=0->c a d<=0
theorem Cw.refl{α:Type}{P:α->Prop}{c:α->α->Int}(h:Cw P c)(a:α)(ha:P a):c a a=0:=by
 have:=h.anti a a ha ha
 omega
theorem Cw.lt_le{α:Type}{P:α->Prop}{c:α->α->Int}(h:Cw P c){a b d:α}(ha:P a)(hb:P b)(hd:P d)(h1:c a b<=0)(h2:c b d<0):c a d<0:=by
 have a1:=h.anti a d ha hd
 have a2:=h.anti b d hb hd
 have a3:=h.anti d a hd ha
 have:=h.trans d a b hd ha hb
 have a4:=h.anti d b hd hb
 omega
theorem Cw.le_lt{α:Type}{P:α->Prop}{c:α->α->Int}(h:Cw P c){a b d:α}(ha:P a)(hb:P b)(hd:P d)(h1:c a b<0)(h2:c b d<=0):c a d<0:=by
 have a1:=h.anti a d ha hd
 have a2:=h.anti a b ha hb
 have a3:=h.anti d a hd ha
 have:=h.trans b d a hb hd ha
 have a4:=h.anti b a hb ha
 omega
theorem Cw.map{α β:Type}{P:α->Prop}{Q:β->Prop}{c:β->β->Int}(h:Cw Q c)(f:α->β)(hf:∀ a,P a->Q (f a)):Cw P (fun a b=>c (f a) (f b)) :=
 ⟨fun a b ha hb=>h.anti _ _ (hf a ha) (hf b hb),fun a b d ha hb hd=>h.trans _ _ _ (hf a ha) (hf b hb) (hf d hd)⟩
theorem Cw.sgn{α:Type}{P:α->Prop}{c c':α->α->Int}(h:Cw P c)(hs:∀ a b,P a->P b->(c' a b<0↔c a b<0)/\(c' a b=0↔c a b=0)):Cw P c' where
 anti a b ha hb:=by
  have:=h.anti a b ha hb
  have:=hs a b ha hb
  have:=hs b a hb ha
  omega
 trans a b d ha hb hd:=by
  have:=h.trans a b d ha hb hd
  have:=hs a b ha hb
  have:=hs b d hb hd
  have:=hs a d ha hd
  omega
theorem cw_bytes:Cw (fun _=>True) Lib.compareBytes where
 anti a b _ _:=by
  have h1:=ql0 a b
  have h2:=ql0 b a
  have h3:=qw3 b a
  constructor
  ·intro h
   have e1:=h1.1 h
   have e2:=bl_asym a b e1
   have:¬ Lib.compareBytes b a<0:=fun h=>by rw [h2.1 h] at e2;cases e2
   have:¬ Lib.compareBytes b a=0:=fun h=>by rw [h3.1 h,vn] at e1;cases e1
   omega
  ·intro h
   apply h1.2
   cases e:Op.bytesLess a b
   ·have:Op.bytesLess b a=false:=by
     cases e2:Op.bytesLess b a
     ·rfl
     ·have:=h2.2 e2;omega
    have:=h3.2 (bl_tri b a this e)
    omega
   ·rfl
 trans a b d _ _ _ h1 h2:=by
  have c1:=ql0 d a
  have hle:∀ x y:List UInt8,Lib.compareBytes x y<=0->Op.bytesLess y x=false:=fun x y h=>by
   cases e:Op.bytesLess y x
   ·rfl
   ·rcases Int.lt_or_eq_of_le h with h|h
    ·have:=bl_asym x y ((ql0 x y).1 h);rw [this] at e;cases e
    ·rw [(qw3 x y).1 h,vn] at e;cases e
  have e:=bl_ntrans d b a (hle b d h2) (hle a b h1)
  cases e2:Op.bytesLess a d
  ·have:=(qw3 a d).2 (bl_tri a d e2 e);omega
  ·have:=(ql0 a d).2 e2;omega
theorem cmpS_eq(a b:List UInt8):(cmpS a b<0↔Lib.compareBytes a b<0)/\(cmpS a b=0↔Lib.compareBytes a b=0):=by
 have h1:=ql0 a b
 have h2:=qw3 a b
 unfold cmpS
 rw[h1,h2]
 cases e:Op.bytesLess a b
 ·simp only[d5,if_false]
  split <;> simp_all
 ·have:¬ a=b:=fun h=>by rw [h,vn] at e;cases e
  simp[this]
theorem cw_S:Cw (fun _=>True) cmpS:=cw_bytes.sgn fun a b _ _=>cmpS_eq a b
theorem xz:∀ l m:List (List UInt8),yc l m<0↔0<yc m l
 |[],[]=>by simp[yc]
 |[],_ :: _=>by simp[yc]
 |_ :: _,[]=>by simp[yc]
 |a :: l,b :: m=>by
  have ih:=xz l m
  have h1:=cw_S.anti a b trivial trivial
  have h2:=cw_S.anti b a trivial trivial
  simp only[yc]
  split <;> split <;> omega
theorem qq6:∀ l m n:List (List UInt8),yc l m<=0->yc m n<=0->yc l n<=0
 |[],_,[]=>by simp[yc]
 |[],_,_ :: _=>by simp[yc]
 |_ :: _,[],_=>by simp[yc]
 |_ :: _,_ :: _,[]=>by simp[yc]
 |a :: l,b :: m,c :: n=>by
  have ih:=qq6 l m n
  have t1:=cw_S.trans a b c trivial trivial trivial
  have t3:=@Cw.lt_le _ _ _ cw_S a b c trivial trivial trivial
  have t4:=@Cw.le_lt _ _ _ cw_S a b c trivial trivial trivial
  simp only[yc]
  split <;> split <;> split <;> omega
theorem cw_LL:Cw (fun _=>True) yc:=⟨fun a b _ _=>xz a b,fun a b d _ _ _=>qq6 a b d⟩
theorem rise_fold{n:List UInt8}(h:qc n):fold n=mk (qt n).reverse:=by
 unfold qt
 rw[rx]
 exact qd6 h
theorem jm0{α:Type}[DecidableEq α]:∀ {l m:List α},l.Nodup->m.Nodup->(∀ x,x ∈ l↔x ∈ m)->l.Perm m
 |[],m,_,_,h=>by
  have:m=[]:=aq.2 fun x hx=>by have:=(h x).2 hx;cases this
  rw[this]
 |a :: l,m,h1,h2,h=>by
  rw [List.nodup_cons] at h1
  have ha:a ∈ m:=(h a).1 (by simp)
  refine .trans (.cons a ?_) (List.perm_cons_erase ha).symm
  refine jm0 h1.2 (h2.erase a) fun x=>?_
  rw[h2.mem_erase_iff]
  constructor
  ·intro hx
   exact⟨fun e=>h1.1 (e ▸ hx),(h x).1 (by simp[hx])⟩
  ·rintro ⟨hx1,hx2⟩
   rcases pu.1 ((h x).2 hx2) with e|hx
   ·exact absurd e hx1
   ·exact hx
theorem inj_perm{n:Nat}{q:Nat->Nat}(hq:Inj n q):((List.range n).map q).Perm (List.range n):=by
 refine jm0 ?_ List.nodup_range fun x=>?_
 ·unfold List.Nodup
  rw[List.pairwise_map]
  refine(List.nodup_range (n:=n)).imp_of_mem fun {a b} ha hb hab e=>?_
  exact hab (hq.un a b (m7.1 ha) (m7.1 hb) e)
 ·rw[gr,m7]
  constructor
  ·rintro ⟨i,hi,rfl⟩
   exact hq.lt i (m7.1 hi)
  ·intro hx
   obtain⟨i,hi,e⟩:=hq.surj x hx
   exact⟨i,m7.2 hi,e⟩
def cmpZ(L:List (List UInt8))(x y:Nat):Int:=yc (qt (L.getD x default)) (qt (L.getD y default))
def leZ(L:List (List UInt8))(i j:Nat):Bool:=decide (cmpZ L i j<0) || (decide (cmpZ L i j=0) && decide (i<=j))
theorem qp1(L:List (List UInt8))(i j:Nat):leZ L i j=true↔cmpZ L i j<0\/(cmpZ L i j=0/\i<=j):=by
 unfold leZ;simp
theorem leZ_trans(L:List (List UInt8))(a b c:Nat)(h1:leZ L a b=true)(h2:leZ L b c=true):leZ L a c=true:=by
 rw [qp1] at *
 unfold cmpZ at *
 have t1:=qq6 (qt (L.getD a default)) (qt (L.getD b default)) (qt (L.getD c default))
 have t2:=@Cw.lt_le _ _ _ cw_LL (qt (L.getD a default)) (qt (L.getD b default)) (qt (L.getD c default)) trivial trivial trivial
 have t3:=@Cw.le_lt _ _ _ cw_LL (qt (L.getD a default)) (qt (L.getD b default)) (qt (L.getD c default)) trivial trivial trivial
 omega
theorem leZ_total(L:List (List UInt8))(a b:Nat):(leZ L a b || leZ L b a)=true:=by
 rw[co,qp1,qp1]
 unfold cmpZ
 have a1:=xz (qt (L.getD a default)) (qt (L.getD b default))
 have a2:=xz (qt (L.getD b default)) (qt (L.getD a default))
 omega
theorem leZ_anti(L:List (List UInt8))(a b:Nat)(h1:leZ L a b=true)(h2:leZ L b a=true):a=b:=by
 rw [qp1] at *
 unfold cmpZ at *
 have a1:=xz (qt (L.getD a default)) (qt (L.getD b default))
 have a2:=xz (qt (L.getD b default)) (qt (L.getD a default))
 omega
theorem perm_one{α:Type}{le:α->α->Prop}(anti:∀ a b,le a b->le b a->a=b):∀ {l m:List α},l.Perm m->l.Pairwise le->m.Pairwise le->l=m
 |[],m,hp,_,_=>by rw[List.nil_perm.1 hp]
 |a :: l,[],hp,_,_=>by have:=hp.length_eq;simp at this
 |a :: l,b :: m,hp,h1,h2=>by
  have hab:a=b:=by
   rw [dz] at h1 h2
   have ha:a ∈ b :: m:=hp.mem_iff.1 (by simp)
   have hb:b ∈ a :: l:=hp.mem_iff.2 (by simp)
   rcases pu.1 ha with e|ha
   ·exact e
   rcases pu.1 hb with e|hb
   ·exact e.symm
   exact anti a b (h1.1 b hb) (h2.1 a ha)
  subst hab
  rw [dz] at h1 h2
  rw[perm_one anti hp.cons_inv h1.2 h2.2]
def sortI(L:List (List UInt8)):List Nat:=(List.range L.length).mergeSort (leZ L)
theorem qr0(L:List (List UInt8)):(sortI L).Perm (List.range L.length):=List.mergeSort_perm _ _
theorem sortI_len(L:List (List UInt8)):(sortI L).length=L.length:=by rw[(qr0 L).length_eq,ar]
theorem sortI_pw(L:List (List UInt8)):(sortI L).Pairwise fun a b=>leZ L a b=true:=List.pairwise_mergeSort (leZ_trans L) (leZ_total L) _
def z6(L:List (List UInt8)):List (List UInt8):=(sortI L).map fun i=>L.getD i default
theorem sortP_len(L:List (List UInt8)):(z6 L).length=L.length:=by unfold z6;rw[mr,sortI_len]
theorem sortP_mem(L:List (List UInt8))(n:List UInt8):n ∈ z6 L↔n ∈ L:=by
 unfold z6
 rw[gr]
 constructor
 ·rintro ⟨i,hi,rfl⟩
  have hi:=m7.1 ((qr0 L).mem_iff.1 hi)
  rw[dq,pp hi]
  exact gv hi
 ·intro h
  obtain⟨i,hi,rfl⟩:=o8.1 h
  refine⟨i,(qr0 L).mem_iff.2 (m7.2 hi),?_⟩
  rw[dq,pp hi]
  rfl
theorem sortP_of(L:List (List UInt8))(q:Nat->Nat)(hq:Inj L.length q)(hr:Rise (LL fun x y=>decide (cmpZ L x y<0)) q 0 L.length):∀ i,i<L.length->L.getD (q i) default=(z6 L).getD i default:=by
 have e:(List.range L.length).map q=sortI L:=by
  refine perm_one (le:=fun a b=>leZ L a b=true) (leZ_anti L) ((inj_perm hq).trans (qr0 L).symm) ?_ (sortI_pw L)
  rw[List.pairwise_map,tn]
  intro i j hi hj hij
  rw[List.getElem_range,List.getElem_range]
  simp only [ar] at hi hj
  rw[qp1]
  rcases hr i j (p6 _) hij hj with h|⟨h,h2⟩
  ·exact .inl (pw h)
  ·have h:¬ cmpZ L (q j) (q i)<0:=px h
   have a1:=xz (qt (L.getD (q i) default)) (qt (L.getD (q j) default))
   have a2:=xz (qt (L.getD (q j) default)) (qt (L.getD (q i) default))
   unfold cmpZ at *
   omega
 intro i hi
 unfold z6
 rw[<-e,dw]
 have h2:(List.map ((fun i=>L.getD i default) ∘ q) (List.range L.length))[i]? = some (L.getD (q i) default):=by
  rw[o5,bw hi]
  rfl
 rw[dq (l:=List.map _ _),h2]
 rfl
theorem weakZ(L:List (List UInt8)):Weak L.length fun x y=>decide (cmpZ L x y<0):=by
 unfold cmpZ
 refine⟨fun i j hi hj h=>?_,fun i j k hi hj hk h1 h2=>?_,fun i j k hi hj hk h1 h2=>?_⟩
 ·have a1:=xz (qt (L.getD i default)) (qt (L.getD j default))
  have:=pw h
  exact po (by omega)
 ·have a1:=@Cw.lt_le _ _ _ cw_LL (qt (L.getD i default)) (qt (L.getD j default)) (qt (L.getD k default)) trivial trivial trivial
  have h1:=pw h1
  have h2:=pw h2
  exact pn (a1 (by omega) h2)
 ·have b1:=xz (qt (L.getD j default)) (qt (L.getD i default))
  have b2:=xz (qt (L.getD k default)) (qt (L.getD j default))
  have b3:=xz (qt (L.getD i default)) (qt (L.getD k default))
  have b4:=xz (qt (L.getD i default)) (qt (L.getD j default))
  have b5:=xz (qt (L.getD j default)) (qt (L.getD k default))
  have b6:=xz (qt (L.getD k default)) (qt (L.getD i default))
  have a4:=qq6 (qt (L.getD k default)) (qt (L.getD j default)) (qt (L.getD i default))
  have h1:=px h1
  have h2:=px h2
  exact po (by omega)
def vw(P:List (List UInt8))(i:Nat):Bool:=i == 0 || qt (P.getD i default) != qt (P.getD (i - 1) default)
def ur(P:List (List UInt8))(i:Nat):List (List UInt8):=((List.range i).filter (vw P)).map fun i=>P.getD i default
theorem qr4(P:List (List UInt8))(i:Nat):ur P (i+1)=if vw P i then ur P i++[P.getD i default] else ur P i:=by
 unfold ur
 rw[List.range_succ,sr]
 cases h:vw P i <;> simp[h]
theorem ja0(P:List (List UInt8)):∀ i,(ur P i).length<=i
 |0=>pr 0
 |i+1=>by
  have:=ja0 P i
  rw[qr4]
  split
  ·simp;omega
  ·omega
theorem qz9{P:List (List UInt8)}{n:List UInt8}:∀ {i:Nat},i<=P.length->n ∈ ur P i->n ∈ P
 |0,_,h=>by cases h
 |i+1,hi,h=>by
  rw [qr4] at h
  have hg:P.getD i default ∈ P:=by
   rw[dq,pp (by omega)]
   exact gv _
  split at h
  ·rcases mn.1 h with h|h
   ·exact qz9 (by omega) h
   ·simp only [gw] at h
    subst h
    exact hg
  ·exact qz9 (by omega) h
theorem ja1{P:List (List UInt8)}:∀ {i j:Nat},j<i->∃ n ∈ ur P i,qt n=qt (P.getD j default)
 |0,_,h=>by omega
 |i+1,j,h=>by
  rw[qr4]
  by_cases hj:j<i
  ·obtain⟨n,hn,e⟩:=@ja1 P i j hj
   refine⟨n,?_,e⟩
   split
   ·exact su _ hn
   ·exact hn
  ·have hj:j=i:=by omega
   subst hj
   cases hk:vw P j with
   |true=>exact⟨P.getD j default,by simp,rfl⟩
   |false =>
    unfold vw at hk
    simp only [az,bne_eq_false_iff_eq,o9] at hk
    obtain⟨n,hn,e⟩:=@ja1 P j (j - 1) (by omega)
    exact⟨n,by simpa using hn,by rw[e,hk.2]⟩
def va(l:List (List UInt8)):List (List UInt8):=ur (z6 (l.filter fun n=>decide (qc n))) (l.filter fun n=>decide (qc n)).length
theorem qz6{l:List (List UInt8)}{n:List UInt8}(h:n ∈ va l):n ∈ l/\qc n:=by
 have h:=qz9 (by rw[sortP_len];exact pr _) h
 rw [sortP_mem] at h
 obtain⟨h1,h2⟩:=sv.1 h
 exact⟨h1,pw h2⟩
theorem sortN_has{l:List (List UInt8)}{n:List UInt8}(h:n ∈ l)(hn:qc n):∃ m ∈ va l,fold m=fold n:=by
 have h:n ∈ z6 (l.filter fun n=>decide (qc n)):=(sortP_mem _ _).2 (sv.2 ⟨h,pn hn⟩)
 obtain⟨j,hj,e⟩:=o8.1 h
 obtain ⟨m,hm,e1⟩:=@ja1 (z6 (l.filter fun n=>decide (qc n))) _ j (show j<(l.filter fun n=>decide (qc n)).length by rw [sortP_len] at hj;exact hj)
 refine⟨m,hm,?_⟩
 rw[rise_fold (qz6 hm).2,rise_fold hn,e1,dq,pp hj,<-e]
 rfl
theorem sortN_len(l:List (List UInt8)):(va l).length<=l.length:=gn (ja0 _ _) (rn _ _)
def plW(n:List UInt8):List DV:=[.str n,.sl (qt n).isEmpty (qt n).length 1 (strs (qt n))]
def plV(n:List UInt8):SV:=.agg ((plW n).map .d)
theorem qr1(n:List UInt8):(qt n).length<=1000000:=by
 by_cases h:qc n
 ·have:=rise_len h;omega
 ·have e:qc8 n=none:=by
   cases e:qc8 n
   ·rfl
   ·exact absurd ((jf5 n).2 (by rw[e];rfl)) h
  unfold qt fl labN
  rw[e]
  simp
theorem qv4(a b:List UInt8):FnOk Tryz.prog 173 [plV a,plV b] (.d (.int .i64 (yc (qt a) (qt b)))):=by
 refine qz (TT:=TT) (IN:=qi []) qk qm mixed 1000 Tryz.func173 rfl (qe Tryz.func173 (by kernel_rfl) rfl) rfl 8 (by kernel_rfl) ?_
 conv=>whnf
 refine oD (cmpll_ok _ _ _ _ (qr1 a) (qr1 b)) rfl rfl ?_
 conv=>whnf
 repeat'(first|exact ⟨⟩|exact rfl|exact fun _=>Iff.rfl|exact fun _ _=>rfl|exact renM_ent rfl _|apply And.intro)
def zcel(L:List (List UInt8))(x:Nat):List DV:=plW (L.getD x default)
def yf(L:List (List UInt8))(n:Nat)(z:Z)(p:Nat->Nat):KB:=.row 218 2 n z (fun i=>zcel L (p i))
def zltC(c:Nat->Nat->Int)(x y:Nat):Bool:=decide (c x y<0)
theorem qr9 L (q:Nat->Nat) (j y:Nat):oneF j 0 (zcel L y) (fun i=>zcel L (q i))=fun i=>zcel L (upd q j y i):=by
 funext i
 unfold oneF upd
 split
 ·rfl
 ·rfl
theorem zupd_two{α:Type}(q:Nat->α)(j k:Nat)(h:j<k):upd (upd q j (q k)) k (q j)=swp q j k 1:=by
 funext x;unfold upd swp;(try dsimp only);repeat' split
 all_goals first|rfl|(exfalso;omega)|(congr 1;omega)
theorem zputs_two(L:List (List UInt8))(q:Nat->Nat)(j k:Nat)(h:j<k):oneF k 0 (zcel L (q j)) (oneF j 0 (zcel L (q k)) (fun x=>zcel L (q x)))=fun x=>zcel L (swp q j k 1 x):=by
 rw[qr9,qr9,zupd_two q j k h]
theorem jk6(L:List (List UInt8))(q:Nat->Nat)(j k:Nat)(h:j<k):oneF j 0 (zcel L (q k)) (oneF k 0 (zcel L (q j)) (fun x=>zcel L (q x)))=fun x=>zcel L (swp q j k 1 x):=by
 rw[qr9,qr9,<-zupd_two q j k h]
 funext x;unfold upd;repeat' split
 all_goals first|rfl|omega|(congr 1;omega)
theorem jb4(L:List (List UInt8))(n:Nat)(hn:n<1152921504606846976)(z:Z)(p:Nat->Nat)(a b m:Nat)(ha:a+m<=n)(hb:b+m<=n)(hab:a+m<=b):COk Tryz.prog 217 [.all 0,iV a,iV b,iV m,.any] [yf L n z p] (fun s k=>s = .tup []/\k=[yf L n z (swp p a b m)]):=by
 refine yg (TT:=TT) (IN:=qi []) qk qm mixed 1000 Tryz.func217 rfl (qe Tryz.func217 (by kernel_rfl) rfl) 33 (by kernel_rfl) ?_
 conv=>whnf
 refine .inv Nat (fun i=>i<=m) (fun i=>[(10,iV i)]) (fun i=>[(0,yf L n z (swp p a b i))]) (fun i=>m - i) ⟨0,[0],by omega,?_⟩ ?_
 ·conv=>whnf
  rw[swp_zero]
  repeat'(first|exact ⟨⟩|exact rfl|exact qa _|exact .inr rfl|exact fun _ _=>rfl|exact noI|apply And.intro)
 intro i hi
 conv=>whnf
 refine⟨fun h1=>?_,fun h1=>?_⟩
 ·have h1:i<m:=by
   have h:(i:Int)<m:=pw h1
   omega
  have e1:IntKind.i64.wrap ((a:Int)+(i:Int))=((a+i:Nat):Int):=by rw[qd _ (by omega)];omega
  have e2:IntKind.i64.wrap ((b:Int)+(i:Int))=((b+i:Nat):Int):=by rw[qd _ (by omega)];omega
  conv=>whnf
  refine⟨?_,?_,?_,?_⟩
  rotate_left 2
  ·conv=>whnf
   rw[e1,e2]
   repeat'(first|exact⟨rfl,rfl⟩|(refine⟨⟨by omega,by omega⟩,?_⟩;conv=>whnf)|exact ⟨⟩|apply And.intro|(conv=>whnf))
  ·conv=>whnf
   refine⟨i+1,[0],by omega,by show m - (i+1)<m - i;omega,?_⟩
   have e3:=w64s i (by omega)
   rw[e3]
   conv=>whnf
   repeat'(first|exact ⟨⟩|exact rfl|exact qa _|exact .inr rfl|exact fun _ _=>rfl|exact noI|apply And.intro)
   intro x hx
   rw[e1]
   exact(congrFun (zputs_two L (swp p a b i) (a+i) (b+i) (by omega)) x).trans (congrArg (fun f=>zcel L (f x)) (swp_one p a b i (by omega)))
 ·have h1:i=m:=by
   have h:¬ ((i:Int)<m):=px h1
   omega
  subst h1
  conv=>whnf
  refine⟨[0],_,_,rfl,rfl,?_,?_,rfl,rfl⟩
  ·exact rfl
  ·conv=>whnf
   repeat'(first|exact ⟨⟩|exact rfl|exact qa _|exact .inr rfl|exact fun _ _=>rfl|exact noI|apply And.intro)
theorem zrotate_ok(L:List (List UInt8))(n:Nat)(hn:n<1152921504606846976)(z:Z)(p:Nat->Nat)(a m b:Nat)(ha:a<m)(hb:m<b)(hbn:b<=n):COk Tryz.prog 215 [.all 0,iV a,iV m,iV b,.any] [yf L n z p] (fun s k=>s = .tup []/\k=[yf L n z (rot p a m b)]):=by
 refine yg (TT:=TT) (IN:=qi []) qk qm mixed 1000 Tryz.func215 rfl (qe Tryz.func215 (by kernel_rfl) rfl) 53 (by kernel_rfl) ?_
 have e1:IntKind.i64.wrap ((m:Int) - (a:Int))=((m - a:Nat):Int):=by rw[qd _ (by omega)];omega
 have e2:IntKind.i64.wrap ((b:Int) - (m:Int))=((b - m:Nat):Int):=by rw[qd _ (by omega)];omega
 conv=>whnf
 rw[e1,e2]
 refine .inv (Nat × Nat × (Nat->Nat)) (fun s=>0<s.1/\0<s.2.1/\s.1<=m - a/\s.2.1<=b - m/\rot s.2.2 (m - s.1) m (m+s.2.1)=rot p a m b) (fun s=>[(10,iV s.1),(11,iV s.2.1)]) (fun s=>[(0,yf L n z s.2.2)]) (fun s=>s.1+s.2.1) ⟨(m - a,b - m,p),[0],show 0<m - a/\0<b - m/\m - a<=m - a/\b - m<=b - m/\rot p (m - (m - a)) m (m+(b - m))=rot p a m b from⟨by omega,by omega,by omega,by omega,?_⟩,?_⟩ ?_
 ·rw[show m - (m - a)=a by omega,show m+(b - m)=b by omega]
 ·conv=>whnf
  repeat'(first|exact ⟨⟩|exact rfl|exact qa _|exact .inr rfl|exact fun _ _=>rfl|exact noI|apply And.intro)
 intro s hs
 obtain⟨i,j,q⟩:=s
 obtain⟨h0,h00,him,hjb,hq⟩:=hs
 dsimp only at h0 h00 him hjb hq
 conv=>whnf
 refine⟨fun h1=>?_,fun h1=>?_⟩
 ·have h1:¬ i=j:=fun e=>by subst e;simp at h1
  conv=>whnf
  refine⟨fun h2=>?_,fun h2=>?_⟩
  ·have h2:j<i:=by
    have h:(i:Int) > j:=pw h2
    omega
   have e3:IntKind.i64.wrap ((m:Int) - (i:Int))=((m - i:Nat):Int):=by rw[qd _ (by omega)];omega
   conv=>whnf
   rw[e3]
   refine .rel _ (jb4 L n hn z q (m - i) m j (by omega) (by omega) (by omega)) (fun r ks' hR=>?_)
   obtain⟨rfl,rfl⟩:=hR
   have e4:IntKind.i64.wrap ((i:Int) - (j:Int))=((i - j:Nat):Int):=by rw[qd _ (by omega)];omega
   conv=>whnf
   rw[e4]
   refine⟨(i - j,j,swp q (m - i) m j),[0],(show 0<i - j/\0<j/\i - j<=m - a/\j<=b - m/\rot (swp q (m - i) m j) (m - (i - j)) m (m+j)=rot p a m b from⟨by omega,by omega,by omega,by omega,(rot_left q m i j h2 (by omega)).trans hq⟩),by show i - j+j<i+j;omega,?_⟩
   conv=>whnf
   repeat'(first|exact ⟨⟩|exact rfl|exact qa _|exact .inr rfl|exact fun _ _=>rfl|exact noI|apply And.intro)
  ·have h2:i<j:=by
    have h:¬ ((i:Int) > j):=px h2
    omega
   have e3:IntKind.i64.wrap ((m:Int) - (i:Int))=((m - i:Nat):Int):=by rw[qd _ (by omega)];omega
   have e5:IntKind.i64.wrap (IntKind.i64.wrap ((m:Int)+(j:Int)) - (i:Int))=((m+j - i:Nat):Int):=by rw[qd ((m:Int)+j) (by omega),qd _ (by omega)];omega
   conv=>whnf
   rw[e3,e5]
   refine .rel _ (jb4 L n hn z q (m - i) (m+j - i) i (by omega) (by omega) (by omega)) (fun r ks' hR=>?_)
   obtain⟨rfl,rfl⟩:=hR
   have e4:IntKind.i64.wrap ((j:Int) - (i:Int))=((j - i:Nat):Int):=by rw[qd _ (by omega)];omega
   conv=>whnf
   rw[e4]
   refine⟨(i,j - i,swp q (m - i) (m+j - i) i),[0],(show 0<i/\0<j - i/\i<=m - a/\j - i<=b - m/\rot (swp q (m - i) (m+j - i) i) (m - i) m (m+(j - i))=rot p a m b from⟨by omega,by omega,by omega,by omega,(rot_right q m i j h2 (by omega)).trans hq⟩),by show i+(j - i)<i+j;omega,?_⟩
   conv=>whnf
   repeat'(first|exact ⟨⟩|exact rfl|exact qa _|exact .inr rfl|exact fun _ _=>rfl|exact noI|apply And.intro)
 ·have h1:i=j:=by simp at h1;omega
  subst h1
  have e3:IntKind.i64.wrap ((m:Int) - (i:Int))=((m - i:Nat):Int):=by rw[qd _ (by omega)];omega
  conv=>whnf
  rw[e3]
  refine .rel _ (jb4 L n hn z q (m - i) m i (by omega) (by omega) (by omega)) (fun r ks' hR=>?_)
  obtain⟨rfl,rfl⟩:=hR
  rw[rot_same q m i (by omega),hq]
  conv=>whnf
  refine⟨[0],_,_,rfl,rfl,?_,?_,rfl,rfl⟩
  ·exact rfl
  ·conv=>whnf
   repeat'(first|exact ⟨⟩|exact rfl|exact qa _|exact .inr rfl|exact fun _ _=>rfl|exact noI|apply And.intro)
theorem zins_ok(L:List (List UInt8))(n:Nat)(hn:n<1152921504606846976)(z:Z)(p:Nat->Nat)(hw:Weak n (zltC (cmpZ L)))(hp:Inj n p)(a b:Nat)(hab:a<=b)(hb:b<=n)(hasc:∀ i j,a<=i->i<j->j<b->p i<p j):COk Tryz.prog 209 [.all 0,iV a,iV b,.fn 173 []] [yf L n z p] (fun s k=>s = .tup []/\∃ r,Merged (L:=LL (zltC (cmpZ L))) p r n a b/\k=[yf L n z r]):=by
 refine yg (TT:=TT) (IN:=qi []) qk qm mixed 1000 Tryz.func209 rfl (qe Tryz.func209 (by kernel_rfl) rfl) 49 (by kernel_rfl) ?_
 have e1:=w64s a (by omega)
 conv=>whnf
 rw[e1]
 refine .inv (Nat × (Nat->Nat)) (fun s=>a+1<=s.1/\(s.1<=b\/(s.1=a+1/\s.2=p))/\Merged (L:=LL (zltC (cmpZ L))) p s.2 n a s.1) (fun s=>[(8,iV s.1)]) (fun s=>[(0,yf L n z s.2)]) (fun s=>n+1 - s.1) ⟨(a+1,p),[0],show a+1<=a+1/\(a+1<=b\/(a+1=a+1/\p=p))/\Merged (L:=LL (zltC (cmpZ L))) p p n a (a+1) from⟨by omega,.inr ⟨rfl,rfl⟩,.stay hp (fun i j _ _ _=>by omega)⟩,?_⟩ ?_
 ·conv=>whnf
  repeat'(first|exact ⟨⟩|exact rfl|exact qa _|exact .inr rfl|exact fun _ _=>rfl|exact noI|apply And.intro)
 intro s hs
 obtain⟨i,q⟩:=s
 obtain⟨hai,hib,hm⟩:=hs
 have hai:a+1<=i:=hai
 have hib:i<=b\/(i=a+1/\q=p):=hib
 have hm:Merged (L:=LL (zltC (cmpZ L))) p q n a i:=hm
 conv=>whnf
 refine⟨fun h1=>?_,fun h1=>?_⟩
 ·have h1:i<b:=by
   have h:(i:Int)<b:=pw h1
   omega
  have asc:∀ t,a<=t->t<i->q t<q i:=fun t h3 h4=>by
   obtain⟨t',b1,b2,b3⟩:=hm.same.fwd t h3 h4
   rw[b3,hm.same.out i (by omega)]
   exact hasc t' i b1 b2 h1
  have next:∀ j,a<=j->j<=i->(j=a\/LL (zltC (cmpZ L)) (q (j - 1)) (q i))->(j=i\/LL (zltC (cmpZ L)) (q i) (q j))->Merged (L:=LL (zltC (cmpZ L))) p (rot q j i (i+1)) n a (i+1):=fun j h3 h4 h5 h6=>by
   have:=down_of hw.ord hm.inj (show i<n by omega) h3 h4 hm.rise h5 h6
   exact⟨this.inj,(hm.same.wide (pr _) (by omega)).trans this.same,this.rise⟩
  have e6:=w64s i (by omega)
  conv=>whnf
  refine .inv Nat (fun j=>a<=j/\j<=i/\(j=i\/LL (zltC (cmpZ L)) (q i) (q j))) (fun j=>[(9,iV j)]) (fun j=>[(0,yf L n z (rot q j i (i+1)))]) (fun j=>j) ⟨i,[0],⟨by omega,by omega,.inl rfl⟩,?_⟩ ?_
  ·conv=>whnf
   rw[rot_id1 q i (i+1) (by omega)]
   repeat'(first|exact ⟨⟩|exact rfl|exact qa _|exact .inr rfl|exact fun _ _=>rfl|exact noI|apply And.intro)
  intro j hj
  obtain⟨haj,hji,hjL⟩:=hj
  conv=>whnf
  refine⟨fun h2=>?_,fun h2=>?_⟩
  ·have h2:a<j:=by
    have h:(j:Int) > a:=pw h2
    omega
   have e2:IntKind.i64.wrap ((j:Int) - 1)=((j - 1:Nat):Int):=by rw[qd _ (by omega)];omega
   have e3:rot q j i (i+1) j=q i:=by rw[rot_a q (by omega) (by omega)];congr 1;omega
   have e4:rot q j i (i+1) (j - 1)=q (j - 1):=rot_o q (by omega) (by omega) (by omega)
   conv=>whnf
   refine⟨by omega,?_⟩
   conv=>whnf
   rw[e2]
   refine⟨by omega,?_⟩
   conv=>whnf
   rw[pz,pz,e3,e4]
   refine .data _ (qv4 _ _) rfl rfl ?_
   conv=>whnf
   refine⟨fun h3=>?_,fun h3=>?_⟩
   ·have h3:zltC (cmpZ L) (q i) (q (j - 1))=true:=h3
    conv=>whnf
    refine⟨?_,?_,?_,?_⟩
    rotate_left 2
    ·conv=>whnf
     rw[e2]
     repeat'(first|exact⟨rfl,rfl⟩|(refine⟨⟨by omega,by omega⟩,?_⟩;conv=>whnf)|exact ⟨⟩|apply And.intro|(conv=>whnf))
    ·conv=>whnf
     rw[e2]
     refine⟨j - 1,[0],⟨by omega,by omega,.inr (.inl h3)⟩,by omega,?_⟩
     conv=>whnf
     repeat'(first|exact ⟨⟩|exact rfl|exact qa _|exact .inr rfl|exact fun _ _=>rfl|exact noI|apply And.intro)
     intro x hx
     rw[pz,pz]
     have:=jk6 L (rot q j i (i+1)) (j - 1) j (by omega)
     have e5:=rot_down q i (j - 1) (by omega)
     rw [show j - 1+1=j by omega] at e5
     exact(congrFun this x).trans (congrArg (fun f=>zcel L (f x)) e5)
   ·have h3:zltC (cmpZ L) (q i) (q (j - 1))=false:=h3
    have hL:LL (zltC (cmpZ L)) (q (j - 1)) (q i):=.inr ⟨h3,asc (j - 1) (by omega) (by omega)⟩
    conv=>whnf
    refine⟨(i+1,rot q j i (i+1)),[0],(show a+1<=i+1/\(i+1<=b\/(i+1=a+1/\rot q j i (i+1)=p))/\Merged (L:=LL (zltC (cmpZ L))) p (rot q j i (i+1)) n a (i+1) from⟨by omega,.inl (by omega),next j haj hji (.inr hL) hjL⟩),by show n+1 - (i+1)<n+1 - i;omega,?_⟩
    conv=>whnf
    rw[e6]
    repeat'(first|exact ⟨⟩|exact rfl|exact qa _|exact .inr rfl|exact fun _ _=>rfl|exact noI|apply And.intro)
  ·have h2:j=a:=by
    have h:¬ ((j:Int) > a):=px h2
    omega
   conv=>whnf
   refine⟨(i+1,rot q j i (i+1)),[0],(show a+1<=i+1/\(i+1<=b\/(i+1=a+1/\rot q j i (i+1)=p))/\Merged (L:=LL (zltC (cmpZ L))) p (rot q j i (i+1)) n a (i+1) from⟨by omega,.inl (by omega),next j haj hji (.inl h2) hjL⟩),by show n+1 - (i+1)<n+1 - i;omega,?_⟩
   conv=>whnf
   rw[e6]
   repeat'(first|exact ⟨⟩|exact rfl|exact qa _|exact .inr rfl|exact fun _ _=>rfl|exact noI|apply And.intro)
 ·have h1:b<=i:=by
   have h:¬ ((i:Int)<b):=px h1
   omega
  conv=>whnf
  refine⟨[0],_,_,rfl,rfl,?_,?_,rfl,q,?_,rfl⟩
  ·exact rfl
  ·conv=>whnf
   repeat'(first|exact ⟨⟩|exact rfl|exact qa _|exact .inr rfl|exact fun _ _=>rfl|exact noI|apply And.intro)
  ·rcases hib with h|h
   ·have:i=b:=by omega
    rw[<-this];exact hm
   ·rw[h.2]
    exact .stay hp (fun i j _ _ _=>by omega)
theorem zrot_in(L:List (List UInt8))(n:Nat)(hn:n<1152921504606846976)(z:Z)(p:Nat->Nat)(a m b:Nat)(ha:a<m)(hb:m<b)(hbn:b<=n):COk Tryz.prog 215 [.all 0,iV a,iV m,iV b,.fn 173 []] [yf L n z p] (fun s k=>s = .tup []/\k=[yf L n z (rot p a m b)]):=by
 refine COk.anyA (COk.frame (zrotate_ok L n hn z p a m b ha hb hbn) [0] («as»:=[.all 0,iV a,iV m,iV b,.any]) rfl rfl rfl (fun s0 k0 h=>?_)) ⟨.inr rfl,.inr rfl,.inr rfl,.inr rfl,.inl rfl,True.intro⟩
 obtain⟨rfl,rfl⟩:=h
 exact⟨rfl,rfl⟩
theorem zhalf(i j:Nat)(h:i+j<9223372036854775808):IntKind.i64.wrap ((IntKind.u64.wrap (IntKind.i64.wrap ((i:Int)+(j:Int)))).fdiv (2 ^ (min (Int.toNat 1) IntKind.u64.bits)))=(((i+j) / 2:Nat):Int):=by
 rw[qd ((i:Int)+(j:Int)) (by omega),IntKind.wrap_u64]
 rw[show(2:Int) ^ (min (Int.toNat 1) IntKind.u64.bits)=2 from rfl,Int.fdiv_eq_ediv_of_nonneg _ (by omega)]
 rw[qd _ (by omega)]
 omega
theorem zsym_ok(L:List (List UInt8))(n:Nat)(hn:n<1152921504606846976)(z:Z)(hw:Weak n (zltC (cmpZ L))):∀ (k:Nat) (p:Nat->Nat) (a m b:Nat),b - a<k->Inj n p->a<m->m<b->b<=n->Rise (LL (zltC (cmpZ L))) p a m->Rise (LL (zltC (cmpZ L))) p m b->Sep p a m b ->
 COk Tryz.prog 210 [.all 0,iV a,iV m,iV b,.fn 173 []] [yf L n z p] (fun s k=>s = .tup []/\∃ r,Merged (L:=LL (zltC (cmpZ L))) p r n a b/\k=[yf L n z r]):=by
 intro k
 induction k with
 |zero=>intro p a m b h;omega
 |succ k ih =>
 intro p a m b hk hp ham hmb hbn h1 h2 hs
 refine yg (TT:=TT) (IN:=qi []) qk qm mixed 1000 Tryz.func210 rfl (qe Tryz.func210 (by kernel_rfl) rfl) 215 (by kernel_rfl) ?_
 have e1:IntKind.i64.wrap ((m:Int) - (a:Int))=((m - a:Nat):Int):=by rw[qd _ (by omega)];omega
 have e2:IntKind.i64.wrap ((b:Int) - (m:Int))=((b - m:Nat):Int):=by rw[qd _ (by omega)];omega
 conv=>whnf
 rw[e1]
 refine⟨fun c1=>?_,fun c1=>?_⟩
 ·have c1:m=a+1:=by simp at c1;omega
  subst c1
  conv=>whnf
  refine .inv (Nat × Nat) (fun s=>a+1<=s.1/\s.1<=s.2/\s.2<=b/\(s.1=a+1\/LL (zltC (cmpZ L)) (p (s.1 - 1)) (p a))/\(s.2=b\/LL (zltC (cmpZ L)) (p a) (p s.2))) (fun s=>[(10,iV s.1),(11,iV s.2)]) (fun s=>[]) (fun s=>s.2 - s.1) ⟨(a+1,b),[0],⟨show a+1<=a+1 by omega,show a+1<=b by omega,show b<=b by omega,.inl rfl,.inl rfl⟩,?_⟩ ?_
  ·conv=>whnf
   repeat'(first|exact ⟨⟩|exact rfl|exact qa _|exact .inr rfl|exact fun _ _=>rfl|exact noI|apply And.intro)
  intro s hs2
  obtain⟨q1,q2,q3,q4,q5⟩:=hs2
  conv=>whnf
  generalize s.1=i at q1 q2 q4 ⊢
  generalize s.2=j at q2 q3 q5 ⊢
  refine⟨fun h3=>?_,fun h3=>?_⟩
  ·have h3:i<j:=by
    have h:(i:Int)<j:=pw h3
    omega
   conv=>whnf
   refine⟨by omega,?_⟩
   conv=>whnf
   rw[zhalf i j (by omega)]
   have g1:i<=(i+j) / 2:=by omega
   have g2:(i+j) / 2<j:=by omega
   generalize (i+j) / 2=h at g1 g2 ⊢
   refine⟨by omega,?_⟩
   conv=>whnf
   refine⟨by omega,?_⟩
   conv=>whnf
   rw[pz,pz]
   refine .data _ (qv4 _ _) rfl rfl ?_
   conv=>whnf
   refine⟨fun h4=>?_,fun h4=>?_⟩
   ·have h4:zltC (cmpZ L) (p h) (p a)=true:=h4
    conv=>whnf
    rw[show IntKind.i64.wrap ((h:Int)+1)=((h+1:Nat):Int) by rw[qd _ (by omega)];omega]
    refine⟨(h+1,j),[0],⟨show a+1<=h+1 by omega,show h+1<=j by omega,q3,.inr (.inl h4),q5⟩,by show j - (h+1)<j - i;omega,?_⟩
    conv=>whnf
    repeat'(first|exact ⟨⟩|exact rfl|exact qa _|exact .inr rfl|exact fun _ _=>rfl|exact noI|apply And.intro)
   ·have h4:zltC (cmpZ L) (p h) (p a)=false:=h4
    conv=>whnf
    refine⟨(i,h),[0],⟨q1,g1,show h<=b by omega,q4,.inr (.inr ⟨h4,hs a h (by omega) (by omega) (by omega) (by omega)⟩)⟩,by show h - i<j - i;omega,?_⟩
    conv=>whnf
    repeat'(first|exact ⟨⟩|exact rfl|exact qa _|exact .inr rfl|exact fun _ _=>rfl|exact noI|apply And.intro)
  ·have h3:i=j:=by
    have h:¬ (i:Int)<j:=px h3
    omega
   subst h3
   have hfin:=up_of hw.ord hp hbn q1 q3 h2 q4 q5
   have ei:IntKind.i64.wrap ((i:Int) - 1)=((i - 1:Nat):Int):=by rw[qd _ (by omega)];omega
   conv=>whnf
   refine .inv Nat (fun k=>a<=k/\k+1<=i) (fun k=>[(13,iV k)]) (fun k=>[(0,yf L n z (rot p a (a+1) (k+1)))]) (fun k=>i - k) ⟨a,[0],⟨by omega,by omega⟩,?_⟩ ?_
   ·conv=>whnf
    rw[rot_id2 p a (a+1) (by omega)]
    repeat'(first|exact ⟨⟩|exact rfl|exact qa _|exact .inr rfl|exact fun _ _=>rfl|exact noI|apply And.intro)
   intro k hk2
   obtain⟨r1,r2⟩:=hk2
   conv=>whnf
   rw[ei]
   refine⟨fun h3=>?_,fun h3=>?_⟩
   ·have h3:k<i - 1:=by
     have h:(k:Int)<((i - 1:Nat):Int):=pw h3
     omega
    have ek:=w64s k (by omega)
    conv=>whnf
    refine⟨?_,?_,?_,?_⟩
    rotate_left 2
    ·conv=>whnf
     rw[ek]
     repeat'(first|exact⟨rfl,rfl⟩|(refine⟨⟨by omega,by omega⟩,?_⟩;conv=>whnf)|exact ⟨⟩|apply And.intro|(conv=>whnf))
    ·conv=>whnf
     rw[ek]
     refine⟨k+1,[0],⟨by omega,by omega⟩,by omega,?_⟩
     conv=>whnf
     repeat'(first|exact ⟨⟩|exact rfl|exact qa _|exact .inr rfl|exact fun _ _=>rfl|exact noI|apply And.intro)
     intro x hx
     rw[pz,pz]
     have:=zputs_two L (rot p a (a+1) (k+1)) k (k+1) (by omega)
     exact(congrFun this x).trans (congrArg (fun f=>zcel L (f x)) (rot_up p a k (by omega)))
   ·have h3:k+1=i:=by
     have h:¬ (k:Int)<((i - 1:Nat):Int):=px h3
     omega
    rw[h3]
    conv=>whnf
    refine⟨[0],_,_,rfl,rfl,?_,?_,rfl,_,hfin,rfl⟩
    ·exact rfl
    ·conv=>whnf
     repeat'(first|exact ⟨⟩|exact rfl|exact qa _|exact .inr rfl|exact fun _ _=>rfl|exact noI|apply And.intro)
 have c1:¬ m=a+1:=by simp at c1;omega
 conv=>whnf
 rw[e2]
 refine⟨fun c2=>?_,fun c2=>?_⟩
 ·have c2:b=m+1:=by simp at c2;omega
  subst c2
  conv=>whnf
  refine .inv (Nat × Nat) (fun s=>a<=s.1/\s.1<=s.2/\s.2<=m/\(s.1=a\/LL (zltC (cmpZ L)) (p (s.1 - 1)) (p m))/\(s.2=m\/LL (zltC (cmpZ L)) (p m) (p s.2))) (fun s=>[(14,iV s.1),(15,iV s.2)]) (fun s=>[]) (fun s=>s.2 - s.1) ⟨(a,m),[0],⟨show a<=a by omega,show a<=m by omega,show m<=m by omega,.inl rfl,.inl rfl⟩,?_⟩ ?_
  ·conv=>whnf
   repeat'(first|exact ⟨⟩|exact rfl|exact qa _|exact .inr rfl|exact fun _ _=>rfl|exact noI|apply And.intro)
  intro s hs2
  obtain⟨q1,q2,q3,q4,q5⟩:=hs2
  conv=>whnf
  generalize s.1=i at q1 q2 q4 ⊢
  generalize s.2=j at q2 q3 q5 ⊢
  refine⟨fun h3=>?_,fun h3=>?_⟩
  ·have h3:i<j:=by
    have h:(i:Int)<j:=pw h3
    omega
   conv=>whnf
   refine⟨by omega,?_⟩
   conv=>whnf
   rw[zhalf i j (by omega)]
   have g1:i<=(i+j) / 2:=by omega
   have g2:(i+j) / 2<j:=by omega
   generalize (i+j) / 2=h at g1 g2 ⊢
   refine⟨by omega,?_⟩
   conv=>whnf
   refine⟨by omega,?_⟩
   conv=>whnf
   rw[pz,pz]
   refine .data _ (qv4 _ _) rfl rfl ?_
   conv=>whnf
   refine⟨fun h4=>?_,fun h4=>?_⟩
   ·have h4:zltC (cmpZ L) (p m) (p h)=false:=(by have h5:(!(zltC (cmpZ L) (p m) (p h)))=true:=h4;simpa using h5)
    conv=>whnf
    rw[show IntKind.i64.wrap ((h:Int)+1)=((h+1:Nat):Int) by rw[qd _ (by omega)];omega]
    refine⟨(h+1,j),[0],⟨show a<=h+1 by omega,show h+1<=j by omega,q3,.inr (.inr ⟨h4,hs h m (by omega) (by omega) (by omega) (by omega)⟩),q5⟩,by show j - (h+1)<j - i;omega,?_⟩
    conv=>whnf
    repeat'(first|exact ⟨⟩|exact rfl|exact qa _|exact .inr rfl|exact fun _ _=>rfl|exact noI|apply And.intro)
   ·have h4:zltC (cmpZ L) (p m) (p h)=true:=(by have h5:(!(zltC (cmpZ L) (p m) (p h)))=false:=h4;simpa using h5)
    conv=>whnf
    refine⟨(i,h),[0],⟨q1,g1,show h<=m by omega,q4,.inr (.inl h4)⟩,by show h - i<j - i;omega,?_⟩
    conv=>whnf
    repeat'(first|exact ⟨⟩|exact rfl|exact qa _|exact .inr rfl|exact fun _ _=>rfl|exact noI|apply And.intro)
  ·have h3:i=j:=by
    have h:¬ (i:Int)<j:=px h3
    omega
   subst h3
   have hfin:=down_of hw.ord hp (show m<n by omega) q1 q3 h1 q4 q5
   conv=>whnf
   refine .inv Nat (fun k=>i<=k/\k<=m) (fun k=>[(17,iV k)]) (fun k=>[(0,yf L n z (rot p k m (m+1)))]) (fun k=>k) ⟨m,[0],⟨by omega,by omega⟩,?_⟩ ?_
   ·conv=>whnf
    rw[rot_id1 p m (m+1) (by omega)]
    repeat'(first|exact ⟨⟩|exact rfl|exact qa _|exact .inr rfl|exact fun _ _=>rfl|exact noI|apply And.intro)
   intro k hk2
   obtain⟨r1,r2⟩:=hk2
   conv=>whnf
   refine⟨fun h3=>?_,fun h3=>?_⟩
   ·have h3:i<k:=by
     have h:(k:Int) > (i:Int):=pw h3
     omega
    have ek:IntKind.i64.wrap ((k:Int) - 1)=((k - 1:Nat):Int):=by rw[qd _ (by omega)];omega
    conv=>whnf
    refine⟨?_,?_,?_,?_⟩
    rotate_left 2
    ·conv=>whnf
     rw[ek]
     repeat'(first|exact⟨rfl,rfl⟩|(refine⟨⟨by omega,by omega⟩,?_⟩;conv=>whnf)|exact ⟨⟩|apply And.intro|(conv=>whnf))
    ·conv=>whnf
     rw[ek]
     refine⟨k - 1,[0],⟨by omega,by omega⟩,by omega,?_⟩
     conv=>whnf
     repeat'(first|exact ⟨⟩|exact rfl|exact qa _|exact .inr rfl|exact fun _ _=>rfl|exact noI|apply And.intro)
     intro x hx
     rw[pz,pz]
     have:=jk6 L (rot p k m (m+1)) (k - 1) k (by omega)
     have e5:=rot_down p m (k - 1) (by omega)
     rw [show k - 1+1=k by omega] at e5
     exact(congrFun this x).trans (congrArg (fun f=>zcel L (f x)) e5)
   ·have h3:k=i:=by
     have h:¬ (k:Int) > (i:Int):=px h3
     omega
    rw[h3]
    conv=>whnf
    refine⟨[0],_,_,rfl,rfl,?_,?_,rfl,_,hfin,rfl⟩
    ·exact rfl
    ·conv=>whnf
     repeat'(first|exact ⟨⟩|exact rfl|exact qa _|exact .inr rfl|exact fun _ _=>rfl|exact noI|apply And.intro)
 have c2:¬ b=m+1:=by simp at c2;omega
 conv=>whnf
 refine⟨by omega,?_⟩
 conv=>whnf
 rw[zhalf a b (by omega)]
 rw[show IntKind.i64.wrap ((((a+b) / 2:Nat):Int)+(m:Int))=(((a+b) / 2+m:Nat):Int) by rw[qd _ (by omega)];omega]
 refine⟨fun c3=>?_,fun c3=>?_⟩
 have c3:(a+b) / 2<m:=by
  have h:(m:Int) > (((a+b) / 2:Nat):Int):=pw c3
  omega
 conv=>whnf
 obtain⟨N,hN⟩:∃ N,N=(a+b) / 2+m:=⟨_,rfl⟩
 rw[<-hN]
 obtain⟨s0,hs0⟩:∃ s0,s0=N - b:=⟨_,rfl⟩
 obtain⟨r0,hr0⟩:∃ r0,r0=(a+b) / 2:=⟨_,rfl⟩
 have f1:s0=a\/N - s0=b:=by omega
 have f2:r0=m\/N - r0=m:=by omega
 have f3:a<=s0/\s0<=r0/\r0<=m/\m<=N - r0/\N - s0<=b:=by omega
 have x1:IntKind.i64.wrap ((N:Int) - (b:Int))=(s0:Int):=by rw[qd _ (by omega)];omega
 have x2:IntKind.i64.wrap ((N:Int) - 1)=((N - 1:Nat):Int):=by rw[qd _ (by omega)];omega
 rw[x1,x2]
 rotate_left
 have c3:m<=(a+b) / 2:=by
  have h:¬ (m:Int) > (((a+b) / 2:Nat):Int):=px c3
  omega
 conv=>whnf
 obtain⟨N,hN⟩:∃ N,N=(a+b) / 2+m:=⟨_,rfl⟩
 rw[<-hN]
 obtain⟨s0,hs0⟩:∃ s0,s0=a:=⟨_,rfl⟩
 obtain⟨r0,hr0⟩:∃ r0,r0=m:=⟨_,rfl⟩
 have f1:s0=a\/N - s0=b:=by omega
 have f2:r0=m\/N - r0=m:=by omega
 have f3:a<=s0/\s0<=r0/\r0<=m/\m<=N - r0/\N - s0<=b:=by omega
 have x2:IntKind.i64.wrap ((N:Int) - 1)=((N - 1:Nat):Int):=by rw[qd _ (by omega)];omega
 rw[x2]
 all_goals
  refine .inv (Nat × Nat) (fun s=>s0<=s.1/\s.1<=s.2/\s.2<=r0/\(s.1=s0\/LL (zltC (cmpZ L)) (p (s.1 - 1)) (p (N - s.1)))/\(s.2=r0\/LL (zltC (cmpZ L)) (p (N - 1 - s.2)) (p s.2))) (fun s=>[(20,iV s.1),(21,iV s.2)]) (fun s=>[]) (fun s=>s.2 - s.1) ⟨(s0,r0),[0],⟨show s0<=s0 by omega,show s0<=r0 by omega,show r0<=r0 by omega,.inl rfl,.inl rfl⟩,?_⟩ ?_
  ·subst hr0
   subst hs0
   conv=>whnf
   repeat'(first|exact ⟨⟩|exact rfl|exact qa _|exact .inr rfl|exact fun _ _=>rfl|exact noI|apply And.intro)
  intro st hst
  obtain⟨q1,q2,q3,q4,q5⟩:=hst
  conv=>whnf
  generalize st.1=s at q1 q2 q4 ⊢
  generalize st.2=j at q2 q3 q5 ⊢
  refine⟨fun h3=>?_,fun h3=>?_⟩
  ·have h3:s<j:=by
    have h:(s:Int)<j:=pw h3
    omega
   conv=>whnf
   refine⟨by omega,?_⟩
   conv=>whnf
   rw[zhalf s j (by omega)]
   have g1:s<=(s+j) / 2:=by omega
   have g2:(s+j) / 2<j:=by omega
   generalize (s+j) / 2=h at g1 g2 ⊢
   rw[show IntKind.i64.wrap (((N - 1:Nat):Int) - (h:Int))=((N - 1 - h:Nat):Int) by rw[qd _ (by omega)];omega]
   refine⟨by omega,?_⟩
   conv=>whnf
   refine⟨by omega,?_⟩
   conv=>whnf
   rw[pz,pz]
   refine .data _ (qv4 _ _) rfl rfl ?_
   conv=>whnf
   refine⟨fun h4=>?_,fun h4=>?_⟩
   ·have h4:zltC (cmpZ L) (p (N - 1 - h)) (p h)=false:=(by have h5:(!(zltC (cmpZ L) (p (N - 1 - h)) (p h)))=true:=h4;simpa using h5)
    conv=>whnf
    rw[show IntKind.i64.wrap ((h:Int)+1)=((h+1:Nat):Int) by rw[qd _ (by omega)];omega]
    refine⟨(h+1,j),[0],⟨show s0<=h+1 by omega,show h+1<=j by omega,q3,.inr (?_:LL (zltC (cmpZ L)) (p (h+1 - 1)) (p (N - (h+1)))),q5⟩,by show j - (h+1)<j - s;omega,?_⟩
    ·rw[show h+1 - 1=h by omega,show N - (h+1)=N - 1 - h by omega]
     exact .inr ⟨h4,hs h (N - 1 - h) (by omega) (by omega) (by omega) (by omega)⟩
    conv=>whnf
    repeat'(first|exact ⟨⟩|exact rfl|exact qa _|exact .inr rfl|exact fun _ _=>rfl|exact noI|apply And.intro)
   ·have h4:zltC (cmpZ L) (p (N - 1 - h)) (p h)=true:=(by have h5:(!(zltC (cmpZ L) (p (N - 1 - h)) (p h)))=false:=h4;simpa using h5)
    conv=>whnf
    refine⟨(s,h),[0],⟨q1,g1,show h<=r0 by omega,q4,.inr (.inl h4)⟩,by show h - s<j - s;omega,?_⟩
    conv=>whnf
    repeat'(first|exact ⟨⟩|exact rfl|exact qa _|exact .inr rfl|exact fun _ _=>rfl|exact noI|apply And.intro)
  have h3:s=j:=by
   have h:¬ (s:Int)<j:=px h3
   omega
  subst h3
  have hc:Cut (L:=LL (zltC (cmpZ L))) p a m b s (N - s):=cut_of hw.ord hp hbn h1 h2 (by omega) (by omega) (by omega) (by omega)
   (by
    rcases q4 with x|x
    ·rcases f1 with y|y
     ·exact .inl (by omega)
     ·exact .inr (.inl (by omega))
    ·exact .inr (.inr x))
   (by
    rcases q5 with x|x
    ·rcases f2 with y|y
     ·exact .inl (by omega)
     ·exact .inr (.inl (by omega))
    ·exact .inr (.inr (by rw[show N - s - 1=N - 1 - s by omega];exact x)))
  have hmid:(a+b) / 2=s+(N - s - m):=by omega
  have cl:=cut_left h1 h2 hs hc hmid
  have cr:=cut_right h1 h2 hs hc hmid
  have hrot:Inj n (rot p s m (N - s)):=hp.rot (by omega) (by omega) (by omega)
  have ee:IntKind.i64.wrap ((N:Int) - (s:Int))=((N - s:Nat):Int):=by rw[qd _ (by omega)];omega
  conv=>whnf
  rw[ee]
  by_cases k1:s<m/\m<N - s
  refine brT (pn (by omega)) ?_
  conv=>whnf
  refine brT (pn (by omega)) ?_
  conv=>whnf
  refine .rel _ (zrot_in L n hn z p s m (N - s) k1.1 k1.2 (by omega)) (fun r ks' hR=>?_)
  obtain⟨rfl,rfl⟩:=hR
  conv=>whnf
  rotate_left
  have eq:rot p s m (N - s)=p:=by
   rcases ot s m with x|x
   ·rw[show N - s=m by omega];exact rot_id2 p s m (by omega)
   ·rw[show s=m by omega];exact rot_id1 p m _ (by omega)
  rw[show yf L n z p=yf L n z (rot p s m (N - s)) by rw[eq]]
  by_cases k0:s<m
  refine brT (pn (by omega)) ?_
  conv=>whnf
  refine brF (po (by omega)) ?_
  conv=>whnf
  rotate_left
  refine brF (po (by omega)) ?_
  conv=>whnf
  all_goals
   by_cases k2:a<s/\s<(a+b) / 2
   refine brT (pn (by omega)) ?_
   conv=>whnf
   refine brT (pn (by omega)) ?_
   conv=>whnf
   refine .rel _ (ih (rot p s m (N - s)) a s ((a+b) / 2) (by omega) hrot k2.1 k2.2 (by omega) cl.1 cl.2.1 cl.2.2) (fun r ks' hR=>?_)
   obtain⟨rfl,r1,hr1,rfl⟩:=hR
   have hfin:∀ r2,Merged (L:=LL (zltC (cmpZ L))) r1 r2 n ((a+b) / 2) b->Merged (L:=LL (zltC (cmpZ L))) p r2 n a b:=fun r2 h=>merge_two h1 h2 hc hmid hr1 h
   conv=>whnf
   rotate_left
   obtain⟨r1,hr1,er⟩:∃ r1,Merged (L:=LL (zltC (cmpZ L))) (rot p s m (N - s)) r1 n a ((a+b) / 2)/\r1=rot p s m (N - s):=⟨_,.stay hrot (by
    rcases ot a s with x|x
    ·exact cl.1.sub (pr _) (by omega)
    ·exact cl.2.1.sub (by omega) (pr _)),rfl⟩
   have hfin:∀ r2,Merged (L:=LL (zltC (cmpZ L))) r1 r2 n ((a+b) / 2) b->Merged (L:=LL (zltC (cmpZ L))) p r2 n a b:=fun r2 h=>merge_two h1 h2 hc hmid hr1 h
   rw[<-er]
   clear er
   by_cases k0:a<s
   refine brT (pn (by omega)) ?_
   conv=>whnf
   refine brF (po (by omega)) ?_
   conv=>whnf
   rotate_left
   refine brF (po (by omega)) ?_
   conv=>whnf
   all_goals
    by_cases k3:(a+b) / 2<N - s/\N - s<b
    refine brT (pn (by omega)) ?_
    conv=>whnf
    refine brT (pn (by omega)) ?_
    conv=>whnf
    refine .rel _ (ih r1 ((a+b) / 2) (N - s) b (by omega) hr1.inj k3.1 k3.2 hbn (cr.1.congr fun i x1 x2=>hr1.same.out i (by omega)) (cr.2.1.congr fun i x1 x2=>hr1.same.out i (by omega)) (cr.2.2.congr fun i x1 x2=>hr1.same.out i (by omega))) (fun r ks' hR=>?_)
    obtain⟨rfl,r2,hr2,rfl⟩:=hR
    conv=>whnf
    rotate_left
    have hr2:Merged (L:=LL (zltC (cmpZ L))) r1 r1 n ((a+b) / 2) b:=.stay hr1.inj (by
     rcases ot ((a+b) / 2) (N - s) with x|x
     ·exact(cr.1.congr fun i x1 x2=>hr1.same.out i (by omega)).sub (pr _) (by omega)
     ·exact(cr.2.1.congr fun i x1 x2=>hr1.same.out i (by omega)).sub (by omega) (pr _))
    by_cases k0:(a+b) / 2<N - s
    refine brT (pn (by omega)) ?_
    conv=>whnf
    refine brF (po (by omega)) ?_
    conv=>whnf
    rotate_left
    refine brF (po (by omega)) ?_
    conv=>whnf
    all_goals
     refine⟨[0],_,_,rfl,rfl,?_,?_,rfl,_,hfin _ hr2,rfl⟩
     ·exact rfl
     ·conv=>whnf
      repeat'(first|exact ⟨⟩|exact rfl|exact qa _|exact .inr rfl|exact fun _ _=>rfl|exact noI|apply And.intro)
theorem zstable_ok(L:List (List UInt8))(n:Nat)(hn:n<1152921504606846976)(z:Z)(hw:Weak n (zltC (cmpZ L))) :
 COk Tryz.prog 195 [.all 0,iV n,.fn 173 []] [yf L n z id] (fun s k=>s = .tup []/\∃ r,Inj n r/\Rise (LL (zltC (cmpZ L))) r 0 n/\k=[yf L n z r]):=by
 refine yg (TT:=TT) (IN:=qi []) qk qm mixed 1000 Tryz.func195 rfl (qe Tryz.func195 (by kernel_rfl) rfl) 60 (by kernel_rfl) ?_
 conv=>whnf
 refine .inv (Nat × (Nat->Nat)) (fun s=>s.1 * 20<=n/\Fst (LL (zltC (cmpZ L))) 20 n s.1 s.2) (fun s=>[(6,iV 20),(7,iV (s.1 * 20)),(8,iV (s.1 * 20+20))]) (fun s=>[(0,yf L n z s.2)]) (fun s=>n - s.1 * 20) ⟨(0,id),[0],⟨by show 0 * 20<=n;omega,Fst.zero 20 n⟩,?_⟩ ?_
 ·conv=>whnf
  repeat'(first|exact ⟨⟩|exact rfl|exact qa _|exact .inr rfl|exact fun _ _=>rfl|exact noI|apply And.intro)
 intro s hs
 obtain⟨h1,h2⟩:=hs
 conv=>whnf
 generalize s.1=q at h1 h2 ⊢
 generalize s.2=p at h2 ⊢
 refine⟨fun h3=>?_,fun h3=>?_⟩
 ·have h3:q * 20+20<=n:=by
   have h:((q * 20+20:Nat):Int)<=n:=pw h3
   omega
  conv=>whnf
  refine .rel _ (zins_ok L n hn z p hw h2.inj (q * 20) (q * 20+20) (by omega) h3 (fun i j x1 x2 x3=>by rw[h2.rest i x1,h2.rest j (by omega)];exact x2)) (fun r ks' hR=>?_)
  obtain⟨rfl,r,hr,rfl⟩:=hR
  have e1:IntKind.i64.wrap (((q * 20+20:Nat):Int)+((20:Nat):Int))=(((q+1) * 20+20:Nat):Int):=by rw[qd _ (by omega)];omega
  have e2:q * 20+20=(q+1) * 20:=by omega
  conv=>whnf
  rw[e1,e2]
  refine⟨(q+1,r),[0],⟨by show(q+1) * 20<=n;omega,h2.next h3 (by omega) (.inr rfl) hr⟩,by show n - (q+1) * 20<n - q * 20;omega,?_⟩
  conv=>whnf
  repeat'(first|exact ⟨⟩|exact rfl|exact qa _|exact .inr rfl|exact fun _ _=>rfl|exact noI|apply And.intro)
 ·have h3:n<q * 20+20:=by
   have h:¬ ((q * 20+20:Nat):Int)<=n:=px h3
   omega
  conv=>whnf
  refine .rel _ (zins_ok L n hn z p hw h2.inj (q * 20) n h1 (pr _) (fun i j x1 x2 x3=>by rw[h2.rest i x1,h2.rest j (by omega)];exact x2)) (fun r ks' hR=>?_)
  obtain⟨rfl,r,hr,rfl⟩:=hR
  have h4:=h2.next (pr _) (by omega) (.inl rfl) hr
  conv=>whnf
  refine .inv (Nat × (Nat->Nat)) (fun s=>0<s.1/\s.1<=20+2 * n/\Inj n s.2/\Lc s.1 0 n s.2/\Rs (LL (zltC (cmpZ L))) s.1 0 n s.2) (fun s=>[(6,iV s.1)]) (fun s=>[(0,yf L n z s.2)]) (fun s=>n - s.1) ⟨(20,r),[0],⟨show 0<20 by omega,show 20<=20+2 * n by omega,h4.inj,h4.loc,?_⟩,?_⟩ ?_
  ·have:=h4.done
   rw [show min ((q+1) * 20) n=n by omega] at this
   exact this
  ·conv=>whnf
   repeat'(first|exact ⟨⟩|exact rfl|exact qa _|exact .inr rfl|exact fun _ _=>rfl|exact noI|apply And.intro)
  clear h1 h2 h3 h4 hr
  intro s hs
  obtain⟨h1,h2,h3,h4,h5⟩:=hs
  conv=>whnf
  generalize s.1=k at h1 h2 h4 h5 ⊢
  generalize s.2=p at h3 h4 h5 ⊢
  refine⟨fun h6=>?_,fun h6=>?_⟩
  ·have h6:k<n:=by
    have h:(k:Int)<n:=pw h6
    omega
   have e1:IntKind.i64.wrap (2 * (k:Int))=((2 * k:Nat):Int):=by rw[qd _ (by omega)];omega
   conv=>whnf
   rw[e1]
   refine .inv (Nat × (Nat->Nat)) (fun s=>s.1<=n/\∃ q,s.1=q * (2 * k)/\Mg (LL (zltC (cmpZ L))) k n q s.2) (fun s=>[(7,iV s.1),(8,iV (s.1+2 * k))]) (fun s=>[(0,yf L n z s.2)]) (fun s=>n - s.1) ⟨(0,p),[0],⟨p6 _,0,(Nat.zero_mul _).symm,Mg.begin h3 h4 h5⟩,?_⟩ ?_
   ·conv=>whnf
    rw[ow]
    repeat'(first|exact ⟨⟩|exact rfl|exact qa _|exact .inr rfl|exact fun _ _=>rfl|exact noI|apply And.intro)
   intro s hs
   obtain⟨g1,q,g2,g3⟩:=hs
   conv=>whnf
   generalize s.1=a at g1 g2 ⊢
   generalize s.2=p at g3 ⊢
   refine⟨fun h7=>?_,fun h7=>?_⟩
   ·have h7:a+2 * k<=n:=by
     have h:((a+2 * k:Nat):Int)<=n:=pw h7
     omega
    have e2:IntKind.i64.wrap ((a:Int)+(k:Int))=((a+k:Nat):Int):=by rw[qd _ (by omega)];omega
    have e3:IntKind.i64.wrap (((a+2 * k:Nat):Int)+((2 * k:Nat):Int))=((a+2 * k+2 * k:Nat):Int):=by rw[qd _ (by omega)];omega
    conv=>whnf
    rw[e2]
    refine .rel _ (zsym_ok L n hn z hw (2 * k+1) p a (a+k) (a+2 * k) (by omega) g3.inj (by omega) (by omega) h7 (by rw[g2];exact g3.left (by omega)) (by rw[g2];exact g3.right (by omega) (by omega)) (by rw[g2];exact g3.sep (by omega) (by omega))) (fun r ks' hR=>?_)
    obtain⟨rfl,r,hr,rfl⟩:=hR
    have hn2:Mg (LL (zltC (cmpZ L))) k n (q+1) r:=g3.next h1 h7 (by omega) (by omega) (by omega) (by rw[<-g2];exact hr)
    conv=>whnf
    rw[e1,e3]
    refine⟨(a+2 * k,r),[0],⟨h7,q+1,by show a+2 * k=(q+1) * (2 * k);rw[b9 q (2 * k),<-g2],hn2⟩,by show n - (a+2 * k)<n - a;omega,?_⟩
    conv=>whnf
    repeat'(first|exact ⟨⟩|exact rfl|exact qa _|exact .inr rfl|exact fun _ _=>rfl|exact noI|apply And.intro)
   ·have h7:n<a+2 * k:=by
     have h:¬ ((a+2 * k:Nat):Int)<=n:=px h7
     omega
    have e2:IntKind.i64.wrap ((a:Int)+(k:Int))=((a+k:Nat):Int):=by rw[qd _ (by omega)];omega
    have e4:IntKind.i64.wrap ((k:Int) * 2)=((2 * k:Nat):Int):=by rw[qd _ (by omega)];omega
    conv=>whnf
    rw[e2]
    refine⟨fun h8=>?_,fun h8=>?_⟩
    ·have h8:a+k<n:=by
      have h:((a+k:Nat):Int)<n:=pw h8
      omega
     conv=>whnf
     refine .rel _ (zsym_ok L n hn z hw (2 * k+1) p a (a+k) n (by omega) g3.inj (by omega) h8 (pr _) (by rw[g2];exact g3.left (by omega)) (by rw[g2];exact g3.right (pr _) (by omega)) (by rw[g2];exact g3.sep (pr _) (by omega))) (fun r ks' hR=>?_)
     obtain⟨rfl,r,hr,rfl⟩:=hR
     have hn2:Mg (LL (zltC (cmpZ L))) k n (q+1) r:=g3.next h1 (pr _) (by omega) (by omega) (by omega) (by rw[<-g2];exact hr)
     have ho:=hn2.over h1 (by rw[b9,<-g2];omega)
     conv=>whnf
     rw[e4]
     refine⟨(2 * k,r),[0],⟨show 0<2 * k by omega,show 2 * k<=20+2 * n by omega,hn2.inj,ho.1,ho.2⟩,by show n - 2 * k<n - k;omega,?_⟩
     conv=>whnf
     repeat'(first|exact ⟨⟩|exact rfl|exact qa _|exact .inr rfl|exact fun _ _=>rfl|exact noI|apply And.intro)
    ·have h8:n<=a+k:=by
      have h:¬ ((a+k:Nat):Int)<n:=px h8
      omega
     have ho:=g3.over h1 (by rw[<-g2];exact h8)
     conv=>whnf
     rw[e4]
     refine⟨(2 * k,p),[0],⟨show 0<2 * k by omega,show 2 * k<=20+2 * n by omega,g3.inj,ho.1,ho.2⟩,by show n - 2 * k<n - k;omega,?_⟩
     conv=>whnf
     repeat'(first|exact ⟨⟩|exact rfl|exact qa _|exact .inr rfl|exact fun _ _=>rfl|exact noI|apply And.intro)
  ·have h6:n<=k:=by
    have h:¬ (k:Int)<n:=px h6
    omega
   conv=>whnf
   refine⟨[0],_,_,rfl,rfl,?_,?_,rfl,p,h3,h5.all h6,rfl⟩
   ·exact rfl
   ·conv=>whnf
    repeat'(first|exact ⟨⟩|exact rfl|exact qa _|exact .inr rfl|exact fun _ _=>rfl|exact noI|apply And.intro)
theorem zsort_ok(L:List (List UInt8))(n:Nat)(hn:n<1152921504606846976)(z:Z)(hw:Weak n (zltC (cmpZ L))) :
 COk Tryz.prog 172 [.all 0,.fn 173 []] [yf L n z id] (fun s k=>s = .tup []/\∃ r,Inj n r/\Rise (LL (zltC (cmpZ L))) r 0 n/\k=[yf L n z r]):=by
 refine yg (TT:=TT) (IN:=qi []) qk qm mixed 1000 Tryz.func172 rfl (qe Tryz.func172 (by kernel_rfl) rfl) 7 (by kernel_rfl) ?_
 conv=>whnf
 refine .rel _ (zstable_ok L n hn z hw) (fun r ks' hR=>?_)
 obtain⟨rfl,r,hr,h2,rfl⟩:=hR
 conv=>whnf
 refine⟨[0],_,_,rfl,rfl,?_,?_,rfl,r,hr,h2,rfl⟩
 ·exact rfl
 ·conv=>whnf
  repeat'(first|exact ⟨⟩|exact rfl|exact qa _|exact .inr rfl|exact fun _ _=>rfl|exact noI|apply And.intro)
def over(K:List Nat)(p:Nat->Nat):Nat->Nat:=fun i=>if i<K.length then K.getD i 0 else p i
def fT(fl:List (List UInt8))(i:Nat):List UInt8:=fl[i]?.getD []
def rightR(r:RR):Bool:=r.cl == 1 && r.check
def rrs(l:List RR):Nat->List DV:=fun i=>(l.getD i default).enc
structure St where
 nm:List UInt8
 ty:Int
 ttl:Int
 z:Bool
 data:List (List UInt8)
def St.no:St:=⟨[],0,0,true,[]⟩
instance:Inhabited St:=⟨St.no⟩
def St.V(s:St):SV:=setV s.nm s.ty s.ttl s.z s.data
theorem teq_len{a b:List (List UInt8)}(h:a.length≠b.length):(a == b)=false:=by
 cases e:a == b
 ·rfl
 ·exact absurd (congrArg List.length (eq_of_beq e)) h
def texD(z:Bool)(l:List (List UInt8)):DV:=.sl z l.length 1 (strs l)
theorem teq_ok(y z:Bool)(a b:List (List UInt8))(ha:a.length<4611686018427387904)(hb:b.length<4611686018427387904):FnOk Tryz.prog 175 [.d (texD y a),.d (texD z b)] (.d (.bool (a == b))):=by
 refine qz (TT:=TT) (IN:=qi []) qk qm mixed 1000 Tryz.func175 rfl (qe Tryz.func175 (by kernel_rfl) rfl) rfl 24 (by kernel_rfl) ?_
 conv=>whnf
 refine⟨fun h1=>?_,fun h1=>?_⟩
 ·have h:a.length≠b.length:=by intro e;rw [e] at h1;simp at h1
  rw[teq_len h]
  conv=>whnf
  first|done|exact rfl
 have hl:a.length=b.length:=by simp at h1;omega
 conv=>whnf
 refine .inv Nat (fun i=>i<=a.length/\(a.drop i == b.drop i)=(a == b)) (fun i=>[(13,.d (.int .i64 i))]) (fun _=>[]) (fun i=>a.length - i) ⟨0,[],⟨p6 _,rfl⟩,?_⟩ ?_
 ·conv=>whnf
  repeat'(first|exact ⟨⟩|exact rfl|exact fun _=>Iff.rfl|exact fun _ _=>rfl|exact renM_ent rfl _|apply And.intro)
 rintro i ⟨hi,hrest⟩
 conv=>whnf
 refine⟨fun c5=>?_,fun c5=>?_⟩
 ·have c5':i<a.length:=(by have h:(i:Int)<a.length:=pw c5;omega)
  conv=>whnf
  refine⟨by omega,?_⟩
  conv=>whnf
  refine⟨by omega,?_⟩
  conv=>whnf
  obtain⟨q,hq⟩:∃ q,a[i]?.getD []=q:=⟨_,rfl⟩
  obtain⟨r,hr⟩:∃ r,b[i]?.getD []=r:=⟨_,rfl⟩
  rw[pz,hq,hr]
  have hda:a.drop i=q :: a.drop (i+1):=by
   rw[l9 c5',<-hq,pp c5']
   rfl
  have hdb:b.drop i=r :: b.drop (i+1):=by
   rw[l9 (by omega),<-hr,pp (by omega)]
   rfl
  have hst:(q == r && a.drop (i+1) == b.drop (i+1))=(a == b):=by rw[<-hrest,hda,hdb];rfl
  cases he:q == r
  ·rw [he,f8] at hst
   rw[<-hst]
   refine brT rfl ?_
   conv=>whnf
   first|done|exact rfl
  ·rw [he,my] at hst
   refine brF rfl ?_
   conv=>whnf
   have hw1:=w64s i (by omega)
   refine⟨i+1,[],⟨c5',hst⟩,by omega,?_⟩
   conv=>whnf
   rw[hw1]
   repeat'(first|exact ⟨⟩|exact rfl|exact fun _=>Iff.rfl|exact fun _ _=>rfl|exact renM_ent rfl _|apply And.intro)
 have hia:i=a.length:=(by have h:¬ (i:Int)<a.length:=px c5;omega)
 rw [tq (by omega),tq (by omega)] at hrest
 rw[<-hrest]
 conv=>whnf
 exact rfl
def St.ok(s:St):Bool:=scheck s.nm s.ty s.ttl s.data
def plsZ(l:List (List UInt8)):Nat->List DV:=fun j=>plW (l.getD j default)
def nmsZ(l:List (List UInt8)):List (List UInt8):=l.filter fun n=>decide (qc n)
theorem plsZ_cat(l:List (List UInt8))(r:List UInt8):∀ i,i<l.length+1->catF l.length (plsZ l) (qy (plW r) 2) i=plsZ (l++[r]) i:=fun i hi=>by
 unfold catF plsZ
 split
 ·rename_i h
  congr 1
  rw[dq,dq,oo h]
 ·have:i=l.length:=by omega
  subst this
  rw[fq,dq,o4 (pr _),fq]
  rfl
theorem nmsZ_next(l:List (List UInt8))(i:Nat)(n:List UInt8)(h:l[i]? = some n):nmsZ (l.take (i+1))=if qc n then nmsZ (l.take i)++[n] else nmsZ (l.take i):=by
 unfold nmsZ
 rw[m5,h]
 by_cases hn:qc n <;> simp[hn]
theorem wsort_ok(z:Bool)(l:List (List UInt8))(hn:l.length<=100000):FnOk Tryz.prog 140 [.d (.sl z l.length 1 (strs l))] (.d (.sl (va l).isEmpty (va l).length 1 (strs (va l)))):=by
 refine qz (TT:=TT) (IN:=qi []) qk qm mixed 1000 Tryz.func140 rfl (qe Tryz.func140 (by kernel_rfl) rfl) rfl 55 (by kernel_rfl) ?_
 conv=>whnf
 refine .nilT 3 218 2 (plsZ []) _ _ rfl ?_
 conv=>whnf
 refine .inv Nat (fun i=>i<=l.length) (fun i=>[(11,iV i),(3,.all 0)]) (fun i=>[(0,.row 218 2 (nmsZ (l.take i)).length .iff (plsZ (nmsZ (l.take i))))]) (fun i=>l.length - i) ⟨0,[0],p6 _,?_⟩ ?_
 ·conv=>whnf
  repeat'(first|exact ⟨⟩|exact rfl|exact qa _|exact .inr rfl|exact fun _ _=>rfl|exact noI|apply And.intro)
 intro i hi
 conv=>whnf
 have hfl:(nmsZ (l.take i)).length<=i:=gn (rn _ _) (by rw[lu];omega)
 refine⟨fun h1=>?_,fun h1=>?_⟩
 ·have h1:i<l.length:=by
   have h:(i:Int)<l.length:=pw h1
   omega
  have hw1:=w64s i (by omega)
  have hli:l[i]? = some (l[i]?.getD []):=by rw[pp h1];rfl
  have hnx:=nmsZ_next l i _ hli
  conv=>whnf
  refine⟨by omega,?_⟩
  conv=>whnf
  rw[pz]
  generalize l[i]?.getD []=n at hli hnx ⊢
  refine oD (y7 n) rfl rfl ?_
  by_cases hnn:qc n
  ·rw [if_pos hnn] at hnx ⊢
   conv=>whnf
   refine brT rfl ?_
   conv=>whnf
   refine oD (rising_ok n hnn) rfl rfl ?_
   conv=>whnf
   refine⟨by omega,?_⟩
   conv=>whnf
   rw[hw1]
   refine⟨i+1,[2],h1,by omega,?_⟩
   rw[hnx]
   conv=>whnf
   repeat'(first|exact ⟨⟩|exact rfl|exact qa _|exact .inr rfl|exact fun _ _=>rfl|exact noI|apply And.intro)
   ·simp
   ·exact plsZ_cat _ n
  ·rw [if_neg hnn] at hnx ⊢
   conv=>whnf
   refine brF rfl ?_
   conv=>whnf
   rw[hw1]
   refine⟨i+1,[0],h1,by omega,?_⟩
   rw[hnx]
   conv=>whnf
   repeat'(first|exact ⟨⟩|exact rfl|exact qa _|exact .inr rfl|exact fun _ _=>rfl|exact noI|apply And.intro)
 ·have h1:i=l.length:=by
   have h:¬ (i:Int)<l.length:=px h1
   omega
  subst h1
  rw[lx]
  rw [lx] at hfl
  conv=>whnf
  refine .rel _ (zsort_ok (nmsZ l) (nmsZ l).length (by omega) .iff (weakZ (nmsZ l))) (fun r ks' hR=>?_)
  obtain⟨rfl,q,hq,hrise,rfl⟩:=hR
  have hqs:=sortP_of (nmsZ l) q hq hrise
  conv=>whnf
  refine .nilT 6 9 1 (strs []) _ _ rfl ?_
  conv=>whnf
  refine .inv Nat (fun i=>i<=(nmsZ l).length) (fun i=>[(30,iV i),(6,.all 1)]) (fun i=>[(1,.row 9 1 (ur (z6 (nmsZ l)) i).length .iff (strs (ur (z6 (nmsZ l)) i)))]) (fun i=>(nmsZ l).length - i) ⟨0,[0,1],p6 _,?_⟩ ?_
  ·conv=>whnf
   repeat'(first|exact ⟨⟩|exact rfl|exact qa _|exact .inr rfl|exact fun _ _=>rfl|exact noI|apply And.intro)
  intro i hi
  conv=>whnf
  refine⟨fun h1=>?_,fun h1=>?_⟩
  ·have h1:i<(nmsZ l).length:=by
    have h:(i:Int)<(nmsZ l).length:=pw h1
    omega
   have hw1:=w64s i (by omega)
   have hul:=ja0 (z6 (nmsZ l)) i
   conv=>whnf
   refine⟨by omega,?_⟩
   conv=>whnf
   rw[pz,hqs i h1]
   have hnx:=qr4 (z6 (nmsZ l)) i
   refine⟨fun h2=>?_,fun h2=>?_⟩
   ·have h2:i=0:=by simpa using h2
    have hk:vw (z6 (nmsZ l)) i=true:=by unfold vw;rw[h2];rfl
    rw [hk,if_pos rfl] at hnx
    conv=>whnf
    refine⟨by omega,?_⟩
    conv=>whnf
    rw[hw1]
    refine⟨i+1,[0,4],h1,by omega,?_⟩
    rw[hnx]
    conv=>whnf
    repeat'(first|exact ⟨⟩|exact rfl|exact qa _|exact .inr rfl|exact fun _ _=>rfl|exact noI|apply And.intro)
    ·simp
    ·exact vi _ _ _ rfl
   ·have h2:i≠0:=by simpa using h2
    have hw2:IntKind.i64.wrap ((i:Int) - 1)=((i - 1:Nat):Int):=by rw[qd _ (by omega)];omega
    conv=>whnf
    rw[hw2]
    refine⟨by omega,?_⟩
    conv=>whnf
    rw[pz,hqs (i - 1) (by omega)]
    refine .data _ (teq_ok _ _ _ _ (by have:=qr1 ((z6 (nmsZ l)).getD i default);omega) (by have:=qr1 ((z6 (nmsZ l)).getD (i - 1) default);omega)) rfl rfl ?_
    conv=>whnf
    refine⟨fun h3=>?_,fun h3=>?_⟩
    ·have hk:vw (z6 (nmsZ l)) i=true:=by
      unfold vw
      rw[co]
      exact .inr (by simpa using h3)
     rw [hk,if_pos rfl] at hnx
     conv=>whnf
     refine⟨by omega,?_⟩
     conv=>whnf
     rw[hw1]
     refine⟨i+1,[0,4],h1,by omega,?_⟩
     rw[hnx]
     conv=>whnf
     repeat'(first|exact ⟨⟩|exact rfl|exact qa _|exact .inr rfl|exact fun _ _=>rfl|exact noI|apply And.intro)
     ·simp
     ·exact vi _ _ _ rfl
    ·have hk:vw (z6 (nmsZ l)) i=false:=by
      unfold vw
      rw[az]
      exact⟨by simpa using h2,by simpa using h3⟩
     rw [hk,if_neg (by decide)] at hnx
     conv=>whnf
     rw[hw1]
     refine⟨i+1,[0,1],h1,by omega,?_⟩
     rw[hnx]
     conv=>whnf
     repeat'(first|exact ⟨⟩|exact rfl|exact qa _|exact .inr rfl|exact fun _ _=>rfl|exact noI|apply And.intro)
  ·have h1:i=(nmsZ l).length:=by
    have h:¬ (i:Int)<(nmsZ l).length:=px h1
    omega
   subst h1
   conv=>whnf
   refine⟨?_,rfl,.inr rfl,fun _ _=>rfl⟩
   show(va l).length.beq 0=_
   cases va l <;> rfl
theorem lsame_ok(a b:List UInt8):FnOk Tryz.prog 77 [.d (.str a),.d (.str b)] (.d (.bool (xr a b))):=by
 refine qz (TT:=TT) (IN:=qi []) qk qm mixed 1000 Tryz.func77 rfl (qe Tryz.func77 (by kernel_rfl) rfl) rfl 25 (by kernel_rfl) ?_
 conv=>whnf
 cases h0:((a.length:Int) == (b.length:Int))
 ·have:xr a b=false:=by
   cases hf:fold a == fold b
   ·unfold xr;rw[hf,f9,f9]
   ·have:=congrArg List.length (eq_of_beq hf)
    rw [fold_len,fold_len] at this
    rw [this] at h0;simp at h0
  rw[this]
  refine brF rfl ?_
  conv=>whnf
  repeat(first|(refine brF rfl ?_;conv=>whnf))
  try exact rfl
 ·refine brT rfl ?_
  conv=>whnf
  refine oD (y7 a) rfl rfl ?_
  by_cases ha:qc a
  ·rw[if_pos ha]
   conv=>whnf
   refine brT rfl ?_
   conv=>whnf
   refine oD (y7 b) rfl rfl ?_
   by_cases hb:qc b
   ·rw[if_pos hb]
    conv=>whnf
    refine brT rfl ?_
    conv=>whnf
    refine oD (x5 a (jg5 ha)) rfl rfl ?_
    conv=>whnf
    refine oD (x5 b (jg5 hb)) rfl rfl ?_
    rw[show xr a b=(fold a == fold b) by unfold xr;rw[pn ha,pn hb];rfl]
    conv=>whnf
    try exact rfl
   ·rw[if_neg hb,show xr a b=false by unfold xr;rw[po hb,f8,f9]]
    conv=>whnf
    refine brF rfl ?_
    conv=>whnf
    repeat(first|(refine brF rfl ?_;conv=>whnf))
    try exact rfl
  ·rw[if_neg ha,show xr a b=false by unfold xr;rw[po ha,f8]]
   conv=>whnf
   refine brF rfl ?_
   conv=>whnf
   repeat(first|(refine brF rfl ?_;conv=>whnf))
   try exact rfl
def cutZ(apex:List UInt8)(r:RR):Bool:=isNs r && !xr r.nm apex
def ul(z:Zo)(i:Nat):List (List UInt8):=((z.rrs.take i).filter (cutZ z.apex)).map (·.nm)
theorem cutsTo_next{z:Zo}{i:Nat}{r:RR}(h:z.rrs[i]? = some r):ul z (i+1)=if cutZ z.apex r then ul z i++[r.nm] else ul z i:=by
 unfold ul
 rw[m5,h]
 cases hc:cutZ z.apex r <;> simp[hc]
theorem jn7(z:Zo)(i:Nat):(ul z i).length<=i:=by
 unfold ul
 rw[mr]
 exact gn (rn _ _) (by rw[lu];omega)
theorem jn8(z:Zo):ul z z.rrs.length=z.cutL:=by
 unfold ul
 rw[lx]
 rfl
theorem cuts_ok(z:Zo)(S:List ((List UInt8 × Int × Int × List UInt8) × Nat))(N:List (List UInt8 × Hd))(hl:z.rrs.length<=100000) :
 COk Tryz.prog 108 [.ptr 0 0] (lookK z S N .free) (fun s k=>s = .d (.sl (va z.cutL).isEmpty (va z.cutL).length 1 (strs (va z.cutL)))/\k=lookK z S N .free):=by
 refine yg (TT:=TT) (IN:=qi []) qk qm mixed 1000 Tryz.func108 rfl (qe Tryz.func108 (by kernel_rfl) rfl) 37 (by kernel_rfl) ?_
 conv=>whnf
 refine .nilT 3 9 1 (strs []) _ _ rfl ?_
 conv=>whnf
 refine .inv Nat (fun i=>i<=z.rrs.length) (fun i=>[(12,iV i),(3,.all 3)]) (fun i=>[(3,.row 9 1 (ul z i).length .iff (strs (ul z i)))]) (fun i=>z.rrs.length - i) ⟨0,[0,1,2,3],p6 _,?_⟩ ?_
 ·conv=>whnf
  repeat'(first|exact ⟨⟩|exact rfl|exact qa _|exact .inr rfl|exact fun _ _=>rfl|exact noI|apply And.intro)
  all_goals first
   |exact qq _
   |exact qp _
   |exact qr _ _ _
 intro i hi
 conv=>whnf
 refine⟨fun h1=>?_,fun h1=>?_⟩
 ·have h1:i<z.rrs.length:=by
   have h:(i:Int)<z.rrs.length:=pw h1
   omega
  have hw1:=w64s i (by omega)
  obtain⟨r,hr⟩:∃ r,z.rrs.getD i default=r:=⟨_,rfl⟩
  have hrl:z.rrs[i]? = some r:=by rw[<-hr,List.getD,pp h1];rfl
  have hnx:=cutsTo_next hrl
  have hcl:=jn7 z i
  conv=>whnf
  refine⟨by omega,?_⟩
  conv=>whnf
  rw[pz,hr]
  refine⟨fun h2=>?_,fun h2=>?_⟩
  ·have h2:isNs r=true:=h2
   conv=>whnf
   refine .data _ (lsame_ok r.nm z.apex) rfl rfl ?_
   cases h3:xr r.nm z.apex with
   |true =>
    rw [show cutZ z.apex r=false by unfold cutZ;rw [h2,h3];rfl,if_neg (by decide)] at hnx
    conv=>whnf
    refine brF rfl ?_
    conv=>whnf
    rw[hw1]
    refine⟨i+1,[0,1,2,3],h1,by omega,?_⟩
    rw[hnx]
    conv=>whnf
    repeat'(first|exact ⟨⟩|exact rfl|exact qa _|exact .inr rfl|exact fun _ _=>rfl|exact noI|apply And.intro)
    all_goals first
     |exact qq _
     |exact qp _
     |exact qr _ _ _
   |false =>
    rw [show cutZ z.apex r=true by unfold cutZ;rw [h2,h3];rfl,if_pos rfl] at hnx
    conv=>whnf
    refine brT rfl ?_
    conv=>whnf
    refine⟨by omega,?_⟩
    conv=>whnf
    rw[hw1]
    refine⟨i+1,[0,1,2,6],h1,by omega,?_⟩
    rw[hnx]
    conv=>whnf
    repeat'(first|exact ⟨⟩|exact rfl|exact qa _|exact .inr rfl|exact fun _ _=>rfl|exact noI|apply And.intro)
    all_goals first
     |exact qq _
     |exact qp _
     |(show _+1=(_++[_]).length;simp;done)
     |exact vi _ _ _ rfl
  ·have h2:isNs r=false:=h2
   rw [show cutZ z.apex r=false by unfold cutZ;rw [h2];rfl,if_neg (by decide)] at hnx
   conv=>whnf
   rw[hw1]
   refine⟨i+1,[0,1,2,3],h1,by omega,?_⟩
   rw[hnx]
   conv=>whnf
   repeat'(first|exact ⟨⟩|exact rfl|exact qa _|exact .inr rfl|exact fun _ _=>rfl|exact noI|apply And.intro)
   all_goals first
    |exact qq _
    |exact qp _
    |exact qr _ _ _
 ·have h1:i=z.rrs.length:=by
   have h:¬ (i:Int)<z.rrs.length:=px h1
   omega
  subst h1
  rw[jn8]
  have hcl:z.cutL.length<=100000:=by rw[<-jn8];exact gn (jn7 _ _) hl
  conv=>whnf
  refine .one (.frz _ _ [3] (wsort_ok (Nat.beq z.cutL.length 0) z.cutL hcl) ?_ rfl rfl ?_)
  ·conv=>whnf
   exact⟨rfl,rfl⟩
  conv=>whnf
  refine⟨[0,1,2],_,lookK z S N .free,rfl,rfl,?_,?_,rfl,rfl⟩
  ·exact rfl
  ·conv=>whnf
   repeat'(first|exact ⟨⟩|exact rfl|exact qa _|exact .inr rfl|exact fun _ _=>rfl|exact noI|apply And.intro)
   all_goals first
    |exact qq _
    |exact qp _
    |exact qr _ _ _
abbrev Gp:=(List UInt8 × Int) × List RR
def addG:List Gp->(List UInt8 × Int)->RR->List Gp
 |[],k,r=>[(k,[r])]
 |(k',rs) :: G,k,r=>if k'=k then (k',rs++[r]) :: G else (k',rs) :: addG G k r
def plc(r:RR):List UInt8 × Int:=(fold r.nm,r.ty)
def goodR(r:RR):Bool:=rightR r && r.ty != 41
def stepG(G:List Gp)(r:RR):List Gp:=if goodR r then addG G (plc r) r else G
def St.enc(s:St):List DV:=[.str s.nm,.int .u16 s.ty,.int .u32 s.ttl,.sl s.z s.data.length 1 (strs s.data)]
def stsD(z:Bool)(l:List St):DV:=.sl z l.length 4 (fun i=>(l.getD i default).enc)
def yh(zs:List Zo)(i:Nat):List (List UInt8):=(zs.take i++zs.drop (i+1)).map (·.apex)
def zg(n:List UInt8):List (List UInt8)->Option (List UInt8)->Option (List UInt8)
 |[],b=>b
 |c :: l,b=>zg n l (if jg n c then (match b with
  |none=>some c
  |some y=>if ja y<ja c then some c else some y) else b)
def qa4(zs:List Zo)(i:Nat)(apex:List UInt8):Option Nat:=match zg apex (yh zs i) none with
 |none=>none
 |some a=>zb zs (fold a)
def hangF(zs:List Zo):Bool:=(List.range zs.length).all fun i=>i == 0 || (match qa4 zs i (zs.getD i default).apex with
 |none=>false
 |some a=>(zs.getD a default).cutL.any fun c=>fold c == fold (zs.getD i default).apex)
def onceI:List Int->Bool
 |[]=>true
 |a :: l=>!l.contains a && onceI l
def yy:List (List UInt8)->Bool
 |[]=>true
 |a :: l=>!l.contains a && yy l
def y9(n:Nat)(hs:List (Int × Bool × List Int)):Bool:=onceI (hs.map (·.1)) && hs.all fun h=>h.2.2.all fun at_=>decide (0<=at_) && decide (at_<(n:Int))
def Fo.ok(f:Fo):Bool:=decide (1<=f.zones.length) && (decide (f.zones.length<=64) && (decide (f.hosts.length<=64) && (f.zones.all Zo.ok && (yy (f.zones.map fun z=>fold z.apex) && (fold (f.zones.getD 0 default).apex == [0] && (hangF f.zones && y9 f.zones.length f.hosts))))))
structure Ver where
 chain:List St
 ans:St
 code:Int
 why:Int
def Zo.Fit(z:Zo):Prop:=∀ r ∈ z.rrs,r.nm.length<=100000/\r.d.length<=100000
theorem Zo.ok_len{z:Zo}(h:z.ok=true):z.rrs.length<=256:=by
 unfold Zo.ok at h
 simp only [oq,ly] at h
 exact h.2.1
theorem see_fr(z:Zo)(hz:z.Fit)(ks:List KB):COk Tryz.prog 73 [z.V] ks (fun s k=>∃ S N,s = .tup [.agg [.d (.str z.apex),.d (rrsD z.z z.rrs),.map (lenB ks),.map (lenB ks+1)],.d (.bool z.ok)]/\k=appB ks [vb S,k6 N .free]) :=
 (COk.frameX (see_ok z hz) [] rfl rfl rfl).imp fun r k ⟨s0,k0,⟨S,N,h1,h2⟩,h3,h4⟩=>by
  refine⟨S,N,?_,?_⟩
  ·rw[h3,h1];rfl
  ·rw[h4,h2]
   show appB ks [KB.mapx _ _ _ (mapM _ (aenc z7 intV S)) _,KB.mapx _ _ _ (mapM _ (aenc strK Hd.enc N)) _]=_
   rw[jb8,jc3]
   rfl
theorem zcheck_ok(z:Zo)(hz:z.Fit):FnOk Tryz.prog 66 [z.V] (.d (.int .i64 (if z.ok then 0 else 2))):=by
 refine qz (TT:=TT) (IN:=qi []) qk qm mixed 1000 Tryz.func66 rfl (qe Tryz.func66 (by kernel_rfl) rfl) rfl 11 (by kernel_rfl) ?_
 conv=>whnf
 refine .rel _ (see_fr z hz _) (fun r ks' hR=>?_)
 obtain⟨S,N,rfl,rfl⟩:=hR
 conv=>whnf
 cases h:z.ok with
 |false =>
  refine brT rfl ?_
  conv=>whnf
  exact rfl
 |true =>
  refine brF rfl ?_
  conv=>whnf
  exact rfl
def cutsV(l:List (List UInt8)):DV:=.sl l.isEmpty l.length 1 (strs l)
def xl(z:Zo):List (List UInt8):=if z.ok then va z.cutL else []
theorem zcuts_ok(z:Zo)(hz:z.Fit):FnOk Tryz.prog 102 [z.V] (.d (cutsV (xl z))):=by
 refine qz (TT:=TT) (IN:=qi []) qk qm mixed 1000 Tryz.func102 rfl (qe Tryz.func102 (by kernel_rfl) rfl) rfl 12 (by kernel_rfl) ?_
 conv=>whnf
 refine .rel _ (see_fr z hz _) (fun r ks' hR=>?_)
 obtain⟨S,N,rfl,rfl⟩:=hR
 unfold xl
 cases h:z.ok with
 |false =>
  rw[if_neg (by decide)]
  conv=>whnf
  refine brT rfl ?_
  conv=>whnf
  repeat'(first|exact ⟨⟩|exact rfl|exact .inr rfl|exact .inl rfl|exact fun _ _=>rfl|exact noI|apply And.intro)
 |true =>
  rw[if_pos rfl]
  conv=>whnf
  refine brF rfl ?_
  conv=>whnf
  refine .rel _ (COk.frameX (cuts_ok z S N (by have:=z.ok_len h;omega)) [3,1,2] rfl rfl (by rw[qh2];rfl)) (fun x ks' hR=>?_)
  obtain⟨s0,k0,⟨rfl,rfl⟩,rfl,rfl⟩:=hR
  conv=>whnf
  repeat'(first|exact ⟨⟩|exact rfl|exact .inr rfl|exact .inl rfl|exact fun _ _=>rfl|exact noI|apply And.intro)
def deeper(n c:List UInt8)(b:Option (List UInt8)):Option (List UInt8):=if jg n c then (match b with
 |none=>some c
 |some y=>if ja y<ja c then some c else some y) else b
theorem jg7(n:List UInt8):∀ (l:List (List UInt8)) (c:List UInt8) (b:Option (List UInt8)),zg n (l++[c]) b=deeper n c (zg n l b)
 |[],c,b=>rfl
 |x :: l,c,b=>by
  show zg n (l++[c]) _=deeper n c (zg n l _)
  exact jg7 n l c _
theorem deepF_next{n:List UInt8}{l:List (List UInt8)}{i:Nat}{c:List UInt8}(h:l[i]? = some c):zg n (l.take (i+1)) none=deeper n c (zg n (l.take i) none):=by
 rw[m5,h]
 exact jg7 n _ c none
def fewD:Option (List UInt8)->Int
 |none=>-1
 |some c=>ja c
def deepR(n:List UInt8)(l:List (List UInt8)):List UInt8 × Int:=if qc n then (match zg n l none with
 |none=>([],3)
 |some c=>(c,0)) else ([],2)
theorem deepest_ok(name:List UInt8)(z:Bool)(L:List (List UInt8))(hsl:L.length<=100000):FnOk Tryz.prog 137 [.d (.str name),.d (.sl z L.length 1 (strs L))] (.tup [.d (.str (deepR name L).1),.d (.int .i64 (deepR name L).2)]):=by
 refine qz (TT:=TT) (IN:=qi []) qk qm mixed 1000 Tryz.func137 rfl (qe Tryz.func137 (by kernel_rfl) rfl) rfl 33 (by kernel_rfl) ?_
 conv=>whnf
 refine oD (y7 name) rfl rfl ?_
 unfold deepR
 by_cases hn:qc name
 case neg =>
  rw[if_neg hn,if_neg hn]
  conv=>whnf
  refine brT rfl ?_
  conv=>whnf
  repeat'(first|exact ⟨⟩|exact rfl|exact .inr rfl|exact .inl rfl|exact fun _ _=>rfl|exact noI|apply And.intro)
 rw[if_pos hn,if_pos hn]
 conv=>whnf
 refine brF rfl ?_
 conv=>whnf
 refine .inv Nat (fun i=>i<=L.length) (fun i=>[(16,iV i),(6,.d (.str ((zg name (L.take i) none).getD []))),(7,.d (.int .i64 (fewD (zg name (L.take i) none))))]) (fun i=>[]) (fun i=>L.length - i) ⟨0,[],p6 _,?_⟩ ?_
 ·conv=>whnf
  repeat'(first|exact ⟨⟩|exact rfl|exact qa _|exact .inr rfl|exact fun _ _=>rfl|exact noI|apply And.intro)
 intro i hi
 conv=>whnf
 refine⟨fun h2=>?_,fun h2=>?_⟩
 ·have h2:i<L.length:=by
   have h:(i:Int)<L.length:=pw h2
   omega
  have hw1:=w64s i (by omega)
  have hli:L[i]? = some (L[i]?.getD []):=by rw[pp h2];rfl
  have hnx:=deepF_next (n:=name) hli
  conv=>whnf
  refine⟨by omega,?_⟩
  conv=>whnf
  rw[pz]
  generalize L[i]?.getD []=c at hli hnx ⊢
  unfold deeper at hnx
  refine oD (within_ok _ _) rfl rfl ?_
  cases hw:jg name c with
  |false =>
   rw [hw,if_neg (by decide)] at hnx
   conv=>whnf
   refine brT rfl ?_
   conv=>whnf
   rw[hw1]
   refine⟨i+1,[],h2,by omega,?_⟩
   rw[hnx]
   conv=>whnf
   repeat'(first|exact ⟨⟩|exact rfl|exact qa _|exact .inr rfl|exact fun _ _=>rfl|exact noI|apply And.intro)
  |true =>
   rw [hw,if_pos rfl] at hnx
   conv=>whnf
   refine brF rfl ?_
   conv=>whnf
   refine oD (count_ok _) rfl rfl ?_
   conv=>whnf
   cases hb:zg name (L.take i) none with
   |none =>
    rw [hb] at hnx
    refine brT (pn (by show((ja c:Nat):Int) > -1;omega)) ?_
    conv=>whnf
    rw[hw1]
    refine⟨i+1,[],h2,by omega,?_⟩
    rw[hnx]
    conv=>whnf
    repeat'(first|exact ⟨⟩|exact rfl|exact qa _|exact .inr rfl|exact fun _ _=>rfl|exact noI|apply And.intro)
   |some y =>
    rw [hb] at hnx
    simp only at hnx
    by_cases hc:ja y<ja c
    ·rw [if_pos hc] at hnx
     refine brT (pn (by show((ja c:Nat):Int) > ((ja y:Nat):Int);omega)) ?_
     conv=>whnf
     rw[hw1]
     refine⟨i+1,[],h2,by omega,?_⟩
     rw[hnx]
     conv=>whnf
     repeat'(first|exact ⟨⟩|exact rfl|exact qa _|exact .inr rfl|exact fun _ _=>rfl|exact noI|apply And.intro)
    ·rw [if_neg hc] at hnx
     refine brF (po (by show ¬ ((ja c:Nat):Int) > ((ja y:Nat):Int);omega)) ?_
     conv=>whnf
     rw[hw1]
     refine⟨i+1,[],h2,by omega,?_⟩
     rw[hnx]
     conv=>whnf
     repeat'(first|exact ⟨⟩|exact rfl|exact qa _|exact .inr rfl|exact fun _ _=>rfl|exact noI|apply And.intro)
 ·have h2:i=L.length:=by
   have h:¬ (i:Int)<L.length:=px h2
   omega
  subst h2
  rw[lx]
  conv=>whnf
  cases hb:zg name L none with
  |none =>
   refine brT rfl ?_
   conv=>whnf
   repeat'(first|exact ⟨⟩|exact rfl|exact .inr rfl|exact .inl rfl|exact fun _ _=>rfl|exact noI|apply And.intro)
  |some c =>
   refine brF (po (by show ¬ ((ja c:Nat):Int)<0;omega)) ?_
   conv=>whnf
   repeat'(first|exact ⟨⟩|exact rfl|exact .inr rfl|exact .inl rfl|exact fun _ _=>rfl|exact noI|apply And.intro)
def qd5(k:Nat):List Zo->List (List UInt8 × Nat)
 |[]=>[]
 |z :: l=>(fold z.apex,k) :: qd5 (k+1) l
def j4(zs:List Zo):List (List UInt8 × Nat):=qd5 0 zs
theorem je7:∀ (l m:List Zo) (k:Nat),qd5 k (l++m)=qd5 k l++qd5 (k+l.length) m
 |[],m,k=>rfl
 |z :: l,m,k=>by
  show(fold z.apex,k) :: qd5 (k+1) (l++m)=_
  rw[je7 l m (k+1),show k+1+l.length=k+(z :: l).length by simp;omega]
  rfl
theorem places_snoc(l:List Zo)(z:Zo):j4 (l++[z])=j4 l++[(fold z.apex,l.length)]:=by
 unfold j4
 rw[je7,ow]
 rfl
theorem ji6(n:List UInt8):∀ (l:List Zo) (k:Nat),aget (qd5 k l) n=(zb l n).map (· + k)
 |[],k=>rfl
 |z :: l,k=>by
  show(if n=fold z.apex then some k else aget (qd5 (k+1) l) n)=_
  unfold zb
  rw[List.findIdx?_cons]
  by_cases h:n=fold z.apex
  ·rw[if_pos h,show(fold z.apex == n)=true by simpa using h.symm,if_pos rfl]
   simp
  ·rw[if_neg h,show(fold z.apex == n)=false by simpa using fun e=>h e.symm,if_neg (by decide),ji6 n l (k+1)]
   unfold zb
   rw[Option.map_map]
   congr 1
   funext x
   simp only[Function.comp]
   omega
theorem qh1(l:List Zo)(n:List UInt8):aget (j4 l) n=zb l n:=by
 unfold j4
 rw[ji6]
 cases zb l n <;> rfl
theorem place_none{l:List Zo}{n:List UInt8}:zb l n=none↔∀ z ∈ l,fold z.apex≠n:=by
 unfold zb
 rw[List.findIdx?_eq_none_iff]
 simp
theorem jm6(l:List (List UInt8))(a:List UInt8):yy (l++[a])=(yy l && !l.contains a):=by
 induction l with
 |nil=>simp[yy]
 |cons x l ih =>
  show(!(l++[a]).contains x && yy (l++[a]))=((!l.contains x && yy l) && !(x :: l).contains a)
  rw[ih,l5]
  simp only[List.contains_append,List.contains_cons,List.contains_nil,Bool.or_false,Bool.not_or,oq,bn,o9]
  constructor
  ·rintro ⟨⟨h1,h2⟩,h3,h4⟩;exact⟨⟨h1,h3⟩,fun e=>h2 e.symm,h4⟩
  ·rintro ⟨⟨h1,h3⟩,h2,h4⟩;exact⟨⟨h1,fun e=>h2 e.symm⟩,h3,h4⟩
theorem onceN_take{l:List (List UInt8)}{i:Nat}(h:yy (l.take i)=false):yy l=false:=by
 have hl:l=l.take i++l.drop i:=(cq i l).symm
 cases e:yy l with
 |false=>rfl
 |true =>
  exfalso
  have:∀ (m n:List (List UInt8)),yy (m++n)=true->yy m=true:=by
   intro m n
   refine qf9 (P:=fun n=>yy (m++n)=true->yy m=true) (fun h=>by rwa [mv] at h) (fun n r ih h=>?_) n
   rw [<-m6,jm6,oq] at h
   exact ih h.1
  rw [hl] at e
  rw [this _ _ e] at h
  cases h
def Zo.enc(z:Zo):List DV:=[.str z.apex,rrsD z.z z.rrs]
def zonesD(b:Bool)(l:List Zo):DV:=.sl b l.length 2 (fun i=>(l.getD i default).enc)
def hostE(h:Int × Bool × List Int):List DV:=[.int .u32 h.1,.sl h.2.1 h.2.2.length 1 (fun j=>[.int .i64 (h.2.2.getD j 0)])]
def hostsD(b:Bool)(l:List (Int × Bool × List Int)):DV:=.sl b l.length 2 (fun i=>hostE (l.getD i default))
def Fo.V(f:Fo):SV:=.agg [.d (zonesD f.zz f.zones),.d (hostsD f.hz f.hosts)]
def Fo.Fit(f:Fo):Prop:=∀ z ∈ f.zones,z.apex.length<=100000/\z.Fit
def j6(P:List (List UInt8 × Nat)):KB:=.map [.str] false false (aenc strK intV P)
theorem qm2{σ:Nat->Nat}(P:List (List UInt8 × Nat)):mapK σ (j6 P)=j6 P:=by
 show KB.mapx _ _ _ (mapM _ (aenc strK intV P)) _=_
 rw[qv2 (fun _=>rfl)]
 rfl
theorem y3{ρ:List Nat}(P:List (List UInt8 × Nat)):renM ρ (aenc strK intV P)=aenc strK intV P:=qi9 (fun _=>rfl) P
def ui(zs:List Zo)(i j:Nat):List (List UInt8):=(((zs.take j).zipIdx).filter (fun p=>p.2 != i)).map (·.1.apex)
theorem jr3{zs:List Zo}{i j:Nat}{z:Zo}(h:zs[j]? = some z):ui zs i (j+1)=if j≠i then ui zs i j++[z.apex] else ui zs i j:=by
 unfold ui
 have hj:j<zs.length:=(pq.1 h).1
 rw[m5,h]
 simp only[Option.toList_some,List.zipIdx_append,sr,d6]
 by_cases hc:j=i
 ·subst hc
  simp[lu,rv (Nat.le_of_lt hj)]
 ·simp[lu,rv (Nat.le_of_lt hj),hc]
theorem othersTo_len(zs:List Zo)(i j:Nat):(ui zs i j).length<=j:=by
 unfold ui
 rw[mr]
 exact gn (rn _ _) (by rw[List.length_zipIdx,lu];omega)
theorem othersTo_end(zs:List Zo){i:Nat}(hi:i<zs.length):ui zs i zs.length=yh zs i:=by
 unfold ui yh
 rw[lx]
 have h:zs=zs.take i++zs[i] :: zs.drop (i+1):=by rw[List.getElem_cons_drop,cq]
 have hl:(zs.take i).length=i:=by rw[lu];omega
 generalize zs.take i=A at h hl ⊢
 generalize zs.drop (i+1)=B at h ⊢
 generalize zs[i]=x at h
 subst h
 rw[List.zipIdx_append,sr,List.zipIdx_cons,List.filter_cons,d6,d6]
 have e1:(A.zipIdx.filter fun p=>p.2 != i).map (·.1.apex)=A.map (·.apex):=by
  rw[List.filter_eq_self.2 (fun p hp=>by
   have:=List.snd_lt_of_mem_zipIdx hp
   simp;omega)]
  rw[show(fun p:Zo × Nat=>p.1.apex)=(fun z:Zo=>z.apex) ∘ Prod.fst from rfl,<-dw,List.zipIdx_map_fst]
 have e2:((B.zipIdx (0+A.length+1)).filter fun p=>p.2 != i).map (·.1.apex)=B.map (·.apex):=by
  rw[List.filter_eq_self.2 (fun p hp=>by
   have:=List.le_snd_of_mem_zipIdx hp
   simp;omega)]
  rw[show(fun p:Zo × Nat=>p.1.apex)=(fun z:Zo=>z.apex) ∘ Prod.fst from rfl,<-dw,List.zipIdx_map_fst]
 rw[e1,if_neg (by simp[hl]),e2]
theorem opn_enc{K V:Type}[DecidableEq K]{ek:K->List DV}{ev:V->List SV}(hk:∀ a b,ji (ek a) (ek b)=decide (a=b))(k:K)(z:List SV):∀ l:List (K × V),∃ (l1:List (List DV × List SV)) (q:Nat),opnM (aenc ek ev l) (ek k) z=(l1,((aget l k).map ev).getD z,q)/\yz l1 (ek k)=some (((aget l k).map ev).getD z)/\∀ v,putQ l1 q (ev v)=aenc ek ev (aput l k v)
 |[]=>⟨[(ek k,z)],0,rfl,by show(if ji (ek k) (ek k) then some z else _)=_;rw[hk,if_pos (by simp)];rfl,fun v=>rfl⟩
 |e :: l=>by
  obtain⟨l1,q,h1,h2,h3⟩:=opn_enc hk k z l
  by_cases h:k=e.1
  ·refine⟨aenc ek ev (e :: l),0,?_,?_,fun v=>?_⟩
   ·show(if ji (ek k) (ek e.1) then _ else _)=_
    rw[hk,if_pos (by simpa using h)]
    simp only[aget,if_pos h]
    rfl
   ·show(if ji (ek k) (ek e.1) then some (ev e.2) else _)=_
    rw[hk,if_pos (by simpa using h)]
    simp only[aget,if_pos h]
    rfl
   ·show(ek e.1,ev v) :: aenc ek ev l=aenc ek ev (aput (e :: l) k v)
    simp only[aput,if_pos h]
    rw[<-h]
    rfl
  ·refine⟨(ek e.1,ev e.2) :: l1,q+1,?_,?_,fun v=>?_⟩
   ·show(if ji (ek k) (ek e.1) then _ else ((ek e.1,ev e.2) :: (opnM (aenc ek ev l) (ek k) z).1,(opnM (aenc ek ev l) (ek k) z).2.1,(opnM (aenc ek ev l) (ek k) z).2.2+1))=_
    rw[hk,if_neg (by simpa using h),h1]
    simp only[aget,if_neg h]
   ·show(if ji (ek k) (ek e.1) then some (ev e.2) else yz l1 (ek k))=_
    rw[hk,if_neg (by simpa using h),h2]
    simp only[aget,if_neg h]
   ·show(ek e.1,ev e.2) :: putQ l1 q (ev v)=aenc ek ev (aput (e :: l) k v)
    rw[h3]
    simp only[aput,if_neg h]
    rfl
def pairK(p:Nat × Nat):List DV:=[.int .i64 (p.1:Nat),.int .i64 (p.2:Nat)]
theorem jc0(a b:Nat × Nat):ji (pairK a) (pairK b)=decide (a=b):=by
 rw[l5]
 obtain⟨a1,a2⟩:=a
 obtain⟨b1,b2⟩:=b
 simp[pairK,ji,dEq,kEq]
 omega
def pairsB(C:List ((Nat × Nat) × Nat)):KB:=.map [.int .i64,.int .i64] true false (aenc pairK intV C)
theorem qc4{ρ:List Nat}(C:List ((Nat × Nat) × Nat)):renM ρ (aenc pairK intV C)=aenc pairK intV C:=qi9 (fun _=>rfl) C
theorem deepF_mem{n:List UInt8}:∀ {l:List (List UInt8)} {b:Option (List UInt8)} {a:List UInt8},zg n l b=some a->a ∈ l\/b=some a
 |[],b,a,h=>.inr h
 |c :: l,b,a,h=>by
  unfold zg at h
  rcases deepF_mem h with h|h
  ·exact .inl (lv _ h)
  ·split at h
   ·cases b with
    |none=>simp only [m9] at h;subst h;exact .inl (lq ..)
    |some y =>
     simp only at h
     split at h
     ·simp only [m9] at h;subst h;exact .inl (lq ..)
     ·exact .inr h
   ·exact .inr h
def yw(P:List (List UInt8 × Nat))(apex:List UInt8)(L:List (List UInt8)):Nat × Bool:=match zg apex L none with
 |none=>(0,false)
 |some a=>match aget P (fold a) with
  |none=>(0,false)
  |some k=>(k,true)
theorem closest_raw(f:Fo)(hl:f.zones.length<=64)(i:Nat)(hi:i<f.zones.length)(apex:List UInt8)(ha:qc apex)(P:List (List UInt8 × Nat))(hn:∀ z ∈ f.zones,qc z.apex) :
 COk Tryz.prog 103 [f.V,iV i,.d (.str apex),.map 0] [j6 P] (fun s k=>∃ b,s = .tup [iV (yw P apex (yh f.zones i)).1,.d b]/\DenTo (.d b) (.d (.bool (yw P apex (yh f.zones i)).2))/\k=[j6 P]):=by
 refine yg (TT:=TT) (IN:=qi []) qk qm mixed 1000 Tryz.func103 rfl (qe Tryz.func103 (by kernel_rfl) rfl) 47 (by kernel_rfl) ?_
 conv=>whnf
 refine .nilT 10 9 1 (strs []) _ _ rfl ?_
 conv=>whnf
 refine .inv Nat (fun j=>j<=f.zones.length) (fun j=>[(20,iV j),(10,.all 2)]) (fun j=>[(2,.row 9 1 (ui f.zones i j).length .iff (strs (ui f.zones i j)))]) (fun j=>f.zones.length - j) ⟨0,[0,1,2],p6 _,?_⟩ ?_
 ·conv=>whnf
  repeat'(first|exact ⟨⟩|exact rfl|exact qa _|exact .inr rfl|exact fun _ _=>rfl|exact noI|apply And.intro)
  all_goals first
   |exact y3 _
 intro j hj
 conv=>whnf
 have hol:=othersTo_len f.zones i j
 refine⟨fun h2=>?_,fun h2=>?_⟩
 ·have h2:j<f.zones.length:=by
   have h:(j:Int)<f.zones.length:=pw h2
   omega
  have hw1:=w64s j (by omega)
  obtain⟨z,hz⟩:∃ z,f.zones.getD j default=z:=⟨_,rfl⟩
  have hzl:f.zones[j]? = some z:=by rw[<-hz,List.getD,pp h2];rfl
  have hnx:=jr3 (i:=i) hzl
  conv=>whnf
  refine⟨by omega,?_⟩
  conv=>whnf
  rw[pz,hz]
  refine⟨fun h3=>?_,fun h3=>?_⟩
  ·have h3:j≠i:=by
    have h:(j:Int)≠(i:Int):=by simpa using h3
    omega
   rw [if_pos h3] at hnx
   conv=>whnf
   refine⟨by omega,?_⟩
   conv=>whnf
   rw[hw1]
   refine⟨j+1,[0,1,5],h2,by omega,?_⟩
   rw[hnx]
   conv=>whnf
   repeat'(first|exact ⟨⟩|exact rfl|exact qa _|exact .inr rfl|exact fun _ _=>rfl|exact noI|apply And.intro)
   all_goals first
    |exact y3 _
    |(show _+1=(_++[_]).length;simp;done)
    |exact vi _ _ _ rfl
  ·have h3:¬ j≠i:=by
    have h:¬ (j:Int)≠(i:Int):=by simpa using h3
    omega
   rw [if_neg h3] at hnx
   conv=>whnf
   rw[hw1]
   refine⟨j+1,[0,1,2],h2,by omega,?_⟩
   rw[hnx]
   conv=>whnf
   repeat'(first|exact ⟨⟩|exact rfl|exact qa _|exact .inr rfl|exact fun _ _=>rfl|exact noI|apply And.intro)
   all_goals first
    |exact y3 _
 ·have h2:j=f.zones.length:=by
   have h:¬ (j:Int)<f.zones.length:=px h2
   omega
  subst h2
  rw [othersTo_end f.zones hi] at hol ⊢
  generalize hL:yh f.zones i=L at hol ⊢
  have hLn:∀ c ∈ L,qc c:=fun c hc=>by
   rw [<-hL] at hc
   unfold yh at hc
   obtain⟨z,hz,rfl⟩:=gr.1 hc
   refine hn z ?_
   rcases mn.1 hz with h|h
   ·exact gp h
   ·exact bz h
  conv=>whnf
  refine .one (.view _ _ [2] (deepest_ok apex (Nat.beq L.length 0) L (by omega)) ?_ rfl rfl ?_)
  ·conv=>whnf
   exact⟨rfl,rfl⟩
  unfold deepR
  rw[if_pos ha]
  cases hd:zg apex L none with
  |none =>
   rw[show yw P apex L=(0,false) by unfold yw;rw[hd]]
   conv=>whnf
   refine brT rfl ?_
   conv=>whnf
   refine⟨[0],_,[j6 P],rfl,rfl,?_,?_,.ff,rfl,DenTo.ff,rfl⟩
   ·exact rfl
   ·conv=>whnf
    repeat'(first|exact ⟨⟩|exact rfl|exact qa _|exact .inr rfl|exact fun _ _=>rfl|exact noI|apply And.intro)
    all_goals first
     |exact y3 _
  |some a =>
   conv=>whnf
   refine brF rfl ?_
   conv=>whnf
   refine oD (x5 a ?_) rfl rfl ?_
   ·rcases deepF_mem hd with h|h
    ·have:=(hLn a h).2.1;omega
    ·cases h
   conv=>whnf
   have hf:=xe (ev:=intV) y8 P (fold a)
   refine⟨_,hf,?_⟩
   cases hg:aget P (fold a) with
   |none =>
    rw[show yw P apex L=(0,false) by unfold yw;rw[hd];show(match aget P (fold a) with|none=>(0,false)|some k=>(k,true))=_;rw[hg]]
    conv=>whnf
    refine⟨[0],_,[j6 P],rfl,rfl,?_,?_,.ff,rfl,DenTo.ff,rfl⟩
    ·exact rfl
    ·conv=>whnf
     repeat'(first|exact ⟨⟩|exact rfl|exact qa _|exact .inr rfl|exact fun _ _=>rfl|exact noI|apply And.intro)
     all_goals first
      |exact y3 _
   |some k =>
    rw[show yw P apex L=(k,true) by unfold yw;rw[hd];show(match aget P (fold a) with|none=>(0,false)|some k=>(k,true))=_;rw[hg]]
    conv=>whnf
    refine⟨[0],_,[j6 P],rfl,rfl,?_,?_,.tt,rfl,DenTo.tt,rfl⟩
    ·exact rfl
    ·conv=>whnf
     repeat'(first|exact ⟨⟩|exact rfl|exact qa _|exact .inr rfl|exact fun _ _=>rfl|exact noI|apply And.intro)
     all_goals first
      |exact y3 _
section
def CutI(zs:List Zo)(P:List (List UInt8 × Nat))(a b:Nat):Prop:=∃ c ∈ xl (zs.getD a default),aget P (fold c)=some b
structure HInv(zs:List Zo)(P:List (List UInt8 × Nat))(i:Nat)(L:List (List UInt8))(m:Nat)(C:List ((Nat × Nat) × Nat)):Prop where
 has:∀ a b,(aget C (a,b)).isSome=true↔(a<i/\CutI zs P a b)\/(a=i/\∃ c ∈ L,aget P (fold c)=some b)
 le:∀ k v,aget C k=some v->1<=v/\v<=m
variable{zs:List Zo}{P:List (List UInt8 × Nat)}
theorem HInv.zero:HInv zs P 0 [] 0 []:=⟨fun a b=>⟨fun h=>(by cases h),fun h=>(by rcases h with h|⟨_,c,hc,_⟩;exact absurd h.1 (gx _);cases hc)⟩,fun k v h=>by cases h⟩
theorem HInv.next{i m:Nat}{L:List (List UInt8)}{C:List ((Nat × Nat) × Nat)}(h:HInv zs P i L m C){m':Nat}(hm:m<=m')(hL:L=xl (zs.getD i default)):HInv zs P (i+1) [] m' C:=by
 refine⟨fun a b=>?_,fun k v hv=>?_⟩
 ·rw[h.has]
  constructor
  ·rintro (⟨h1,h2⟩|⟨rfl,c,hc,e⟩)
   ·exact .inl ⟨by omega,h2⟩
   ·exact .inl ⟨l6 _,c,hL ▸ hc,e⟩
  ·rintro (⟨h1,h2⟩|⟨_,c,hc,_⟩)
   ·rcases ot a i with h3|h3
    ·exact .inl ⟨h3,h2⟩
    ·have:a=i:=by omega
     subst this
     obtain⟨c,hc,e⟩:=h2
     exact .inr ⟨rfl,c,hL ▸ hc,e⟩
   ·cases hc
 ·have:=h.le k v hv
  omega
theorem HInv.skip{i m:Nat}{L:List (List UInt8)}{C:List ((Nat × Nat) × Nat)}(h:HInv zs P i L m C){c:List UInt8}(hc:aget P (fold c)=none):HInv zs P i (L++[c]) (m+1) C:=by
 refine⟨fun a b=>?_,fun k v hv=>?_⟩
 ·rw[h.has]
  constructor
  ·rintro (h1|⟨rfl,c',hc',e⟩)
   ·exact .inl h1
   ·exact .inr ⟨rfl,c',su _ hc',e⟩
  ·rintro (h1|⟨rfl,c',hc',e⟩)
   ·exact .inl h1
   ·rcases mn.1 hc' with h2|h2
    ·exact .inr ⟨rfl,c',h2,e⟩
    ·rw [gw.1 h2,hc] at e
     cases e
 ·have:=h.le k v hv
  omega
theorem HInv.put{i m:Nat}{L:List (List UInt8)}{C:List ((Nat × Nat) × Nat)}(h:HInv zs P i L m C){c:List UInt8}{b:Nat}(hc:aget P (fold c)=some b){v:Nat}(hv:(aget C (i,b)).getD 0=v):HInv zs P i (L++[c]) (m+1) (aput C (i,b) (v+1)):=by
 refine⟨fun a b'=>?_,fun k w hw=>?_⟩
 ·rw[qv1]
  by_cases hk:(a,b')=(i,b)
  ·rw[if_pos hk]
   obtain⟨rfl,rfl⟩:=lr hk
   exact⟨fun _=>.inr ⟨rfl,c,by simp,hc⟩,fun _=>rfl⟩
  ·rw[if_neg hk,h.has]
   constructor
   ·rintro (h1|⟨rfl,c',hc',e⟩)
    ·exact .inl h1
    ·exact .inr ⟨rfl,c',su _ hc',e⟩
   ·rintro (h1|⟨rfl,c',hc',e⟩)
    ·exact .inl h1
    ·rcases mn.1 hc' with h2|h2
     ·exact .inr ⟨rfl,c',h2,e⟩
     ·rw [gw.1 h2,hc] at e
      simp only [m9] at e
      exact absurd (by rw[e]) hk
 ·rw [qv1] at hw
  split at hw
  ·simp only [m9] at hw
   subst hw
   cases hg:aget C (i,b) with
   |none=>rw [hg] at hv;simp at hv;omega
   |some x =>
    rw [hg] at hv
    simp at hv
    have:=h.le _ _ hg
    omega
  ·have:=h.le k w hw
   omega
theorem close_lt{n:Nat}(hP:∀ k v,aget P k=some v->v<n)(apex:List UInt8)(L:List (List UInt8)):(yw P apex L).2=true->(yw P apex L).1<n:=by
 unfold yw
 cases zg apex L none with
 |none=>exact fun h=>by cases h
 |some a =>
  show(match aget P (fold a) with|none=>(0,false)|some k=>(k,true)).2=true->(match aget P (fold a) with|none=>(0,false)|some k=>(k,true)).1<n
  cases hg:aget P (fold a) with
  |none=>exact fun h=>by cases h
  |some k=>exact fun _=>hP _ _ hg
theorem closest_ok(f:Fo)(hl:f.zones.length<=64)(i:Nat)(hi:i<f.zones.length)(apex:List UInt8)(ha:qc apex)(P:List (List UInt8 × Nat))(hn:∀ z ∈ f.zones,qc z.apex) :
 COk Tryz.prog 103 [f.V,iV i,.d (.str apex),.map 0] [j6 P] (fun s k=>s = .tup [iV (yw P apex (yh f.zones i)).1,.d (.bool (yw P apex (yh f.zones i)).2)]/\k=[j6 P]) :=
 COk.resD (closest_raw f hl i hi apex ha P hn) fun _ _ ⟨_,h1,h2,h3⟩=>⟨_,h1 ▸ DenTo.tup ⟨DenTo.refl _,h2,trivial⟩,rfl,h3⟩
def vy(zs:List Zo)(P:List (List UInt8 × Nat))(i:Nat):Bool:=i == 0 || ((yw P (zs.getD i default).apex (yh zs i)).2 && (xl (zs.getD (yw P (zs.getD i default).apex (yh zs i)).1 default)).any fun c=>decide (aget P (fold c)=some i))
def hangR(zs:List Zo)(P:List (List UInt8 × Nat)):Bool:=(List.range zs.length).all (vy zs P)
theorem hang_bad{i:Nat}(hi:i<zs.length)(h:vy zs P i=false):hangR zs P=false:=by
 unfold hangR
 rw[ao]
 exact⟨i,m7.2 hi,by rw[h];decide⟩
theorem hang_ok(f:Fo)(hf:f.Fit)(hl:f.zones.length<=64)(P:List (List UInt8 × Nat))(hz:∀ z ∈ f.zones,z.ok=true)(hP:∀ k v,aget P k=some v->v<f.zones.length) :
 COk Tryz.prog 68 [f.V,.map 0] [j6 P] (fun s k=>s = .d (.bool (hangR f.zones P))/\k=[j6 P]):=by
 refine yg (TT:=TT) (IN:=qi []) qk qm mixed 1000 Tryz.func68 rfl (qe Tryz.func68 (by kernel_rfl) rfl) 78 (by kernel_rfl) ?_
 conv=>whnf
 refine .inv (Nat × List ((Nat × Nat) × Nat)) (fun s=>s.1<=f.zones.length/\HInv f.zones P s.1 [] (s.1 * 256) s.2) (fun s=>[(20,iV s.1)]) (fun s=>[(2,pairsB s.2)]) (fun s=>f.zones.length - s.1) ⟨(0,[]),[0,1,2],⟨p6 _,HInv.zero⟩,?_⟩ ?_
 ·conv=>whnf
  repeat'(first|exact ⟨⟩|exact rfl|exact qa _|exact .inr rfl|exact fun _ _=>rfl|exact noI|apply And.intro)
  all_goals first
   |exact y3 _
 intro s hs
 obtain⟨hi,hI⟩:=hs
 conv=>whnf
 generalize s.1=i at hi hI ⊢
 generalize s.2=C at hI ⊢
 refine⟨fun h2=>?_,fun h2=>?_⟩
 ·have h2:i<f.zones.length:=by
   have h:(i:Int)<f.zones.length:=pw h2
   omega
  have hw1:=w64s i (by omega)
  obtain⟨z,hzd⟩:∃ z,f.zones.getD i default=z:=⟨_,rfl⟩
  have hzl:f.zones[i]? = some z:=by rw[<-hzd,List.getD,pp h2];rfl
  have hzm:=oy hzl
  conv=>whnf
  refine⟨by omega,?_⟩
  conv=>whnf
  rw[pz,hzd]
  refine oD (zcuts_ok z (hf z hzm).2) rfl rfl ?_
  have hLl:(xl z).length<=256:=by
   unfold xl
   split
   ·rename_i hok
    have h1:=sortN_len z.cutL
    have h2:z.cutL.length<=z.rrs.length:=by unfold Zo.cutL;rw[mr];exact rn _ _
    have h3:=z.ok_len hok
    omega
   ·exact p6 _
  have hLn:∀ c ∈ xl z,qc c:=fun c hc=>by
   unfold xl at hc
   split at hc
   ·exact(qz6 hc).2
   ·cases hc
  have hLz:xl z=xl (f.zones.getD i default):=by rw[hzd]
  generalize xl z=L at hLl hLn hLz ⊢
  conv=>whnf
  refine .inv (Nat × List ((Nat × Nat) × Nat)) (fun s=>s.1<=L.length/\HInv f.zones P i (L.take s.1) (i * 256+s.1) s.2) (fun s=>[(28,iV s.1)]) (fun s=>[(2,pairsB s.2)]) (fun s=>L.length - s.1) ⟨(0,C),[0,1,2,3],⟨p6 _,hI⟩,?_⟩ ?_
  ·conv=>whnf
   repeat'(first|exact ⟨⟩|exact rfl|exact qa _|exact .inr rfl|exact fun _ _=>rfl|exact noI|apply And.intro)
   all_goals first
    |exact y3 _
    |exact qc4 _
  clear hI
  intro s hs
  obtain⟨hj,hI⟩:=hs
  conv=>whnf
  generalize s.1=j at hj hI ⊢
  generalize s.2=D at hI ⊢
  refine⟨fun h3=>?_,fun h3=>?_⟩
  ·have h3:j<L.length:=by
    have h:(j:Int)<L.length:=pw h3
    omega
   have hwj:=w64s j (by omega)
   have hli:L[j]? = some (L[j]?.getD []):=by rw[pp h3];rfl
   conv=>whnf
   refine⟨by omega,?_⟩
   conv=>whnf
   rw[pz]
   generalize L[j]?.getD []=c at hli ⊢
   have hcn:=hLn c (oy hli)
   have htk:L.take (j+1)=L.take j++[c]:=by rw[m5,hli];rfl
   refine oD (x5 c (by have:=hcn.2.1;omega)) rfl rfl ?_
   conv=>whnf
   have hfc:=xe (ev:=intV) y8 P (fold c)
   refine⟨_,hfc,?_⟩
   cases hg:aget P (fold c) with
   |none =>
    conv=>whnf
    rw[hwj]
    refine⟨(j+1,D),[0,1,2,3],⟨h3,by rw[htk];exact hI.skip hg⟩,by show _ - (j+1)<_;omega,?_⟩
    conv=>whnf
    repeat'(first|exact ⟨⟩|exact rfl|exact qa _|exact .inr rfl|exact fun _ _=>rfl|exact noI|apply And.intro)
    all_goals first
     |exact y3 _
     |exact qc4 _
   |some b =>
    conv=>whnf
    obtain⟨l1,q,ho1,ho2,ho3⟩:=opn_enc (ev:=intV) jc0 (i,b) [SV.d (.int .i64 0)] D
    have hfs:=xe (ev:=intV) jc0 D (i,b)
    cases hgc:aget D (i,b) with
    |none =>
     rw [hgc] at hfs ho1 ho2
     have hput:putQ l1 q [SV.d (.int .i64 1)]=aenc pairK intV (aput D (i,b) 1):=ho3 1
     have hnext:=hI.put hg (v:=0) (by rw[hgc];rfl)
     apply Exists.intro
     refine⟨?_,?_⟩
     ·conv=>whnf
      repeat'(first|exact ⟨⟩|exact⟨rfl,rfl⟩|refine⟨_,hfs,?_⟩|refine⟨_,ho2,?_⟩|refine⟨_,_,_,ho1,?_⟩|intro s|refine⟨rfl,_,hput,?_⟩|apply And.intro|(conv=>whnf))
     conv=>whnf
     rw[hwj]
     refine⟨(j+1,aput D (i,b) 1),[0,1,2,3],⟨h3,by rw[htk];exact hnext⟩,by show _ - (j+1)<_;omega,?_⟩
     conv=>whnf
     repeat'(first|exact ⟨⟩|exact rfl|exact qa _|exact .inr rfl|exact fun _ _=>rfl|exact noI|apply And.intro)
     all_goals first
      |exact y3 _
      |exact qc4 _
    |some v =>
     rw [hgc] at hfs ho1 ho2
     have hvb:=hI.le _ _ hgc
     have hwv:=w64s v (by omega)
     have hput:putQ l1 q [SV.d (.int .i64 (IntKind.i64.wrap ((v:Int)+1)))]=aenc pairK intV (aput D (i,b) (v+1)):=by rw[hwv];exact ho3 (v+1)
     have hnext:=hI.put hg (v:=v) (by rw[hgc];rfl)
     apply Exists.intro
     refine⟨?_,?_⟩
     ·conv=>whnf
      repeat'(first|exact ⟨⟩|exact⟨rfl,rfl⟩|refine⟨_,hfs,?_⟩|refine⟨_,ho2,?_⟩|refine⟨_,_,_,ho1,?_⟩|intro s|refine⟨rfl,_,hput,?_⟩|apply And.intro|(conv=>whnf))
     conv=>whnf
     rw[hwj]
     refine⟨(j+1,aput D (i,b) (v+1)),[0,1,2,3],⟨h3,by rw[htk];exact hnext⟩,by show _ - (j+1)<_;omega,?_⟩
     conv=>whnf
     repeat'(first|exact ⟨⟩|exact rfl|exact qa _|exact .inr rfl|exact fun _ _=>rfl|exact noI|apply And.intro)
     all_goals first
      |exact y3 _
      |exact qc4 _
  ·have h3:j=L.length:=by
    have h:¬ (j:Int)<L.length:=px h3
    omega
   subst h3
   rw [lx] at hI
   conv=>whnf
   rw[hw1]
   refine⟨(i+1,D),[0,1,2],⟨h2,hI.next (by omega) hLz⟩,by show _ - (i+1)<_;omega,?_⟩
   conv=>whnf
   repeat'(first|exact ⟨⟩|exact rfl|exact qa _|exact .inr rfl|exact fun _ _=>rfl|exact noI|apply And.intro)
   all_goals first
    |exact y3 _
    |exact qc4 _
 ·have h2:i=f.zones.length:=by
   have h:¬ (i:Int)<f.zones.length:=px h2
   omega
  subst h2
  conv=>whnf
  refine .inv Nat (fun i=>i<=f.zones.length/\∀ k,k<i->vy f.zones P k=true) (fun i=>[(53,iV i)]) (fun i=>[]) (fun i=>f.zones.length - i) ⟨0,[0,1,2],⟨p6 _,fun k hk=>absurd hk (gx _)⟩,?_⟩ ?_
  ·conv=>whnf
   repeat'(first|exact ⟨⟩|exact rfl|exact qa _|exact .inr rfl|exact fun _ _=>rfl|exact noI|apply And.intro)
   all_goals first
    |exact y3 _
    |exact qc4 _
  intro i hs
  obtain⟨hi,hs⟩:=hs
  conv=>whnf
  refine⟨fun h2=>?_,fun h2=>?_⟩
  ·have h2:i<f.zones.length:=by
    have h:(i:Int)<f.zones.length:=pw h2
    omega
   have hw1:=w64s i (by omega)
   obtain⟨z,hzd⟩:∃ z,f.zones.getD i default=z:=⟨_,rfl⟩
   have hzl:f.zones[i]? = some z:=by rw[<-hzd,List.getD,pp h2];rfl
   have hzm:=oy hzl
   have hnext:vy f.zones P i=true->∀ k,k<i+1->vy f.zones P k=true:=fun h k hk=>by
    by_cases e:k=i
    ·subst e;exact h
    ·exact hs k (by omega)
   conv=>whnf
   refine⟨by omega,?_⟩
   conv=>whnf
   rw[pz,hzd]
   refine⟨fun h3=>?_,fun h3=>?_⟩
   ·have h3:i=0:=by
     have h:(i:Int)=0:=by simpa using h3
     omega
    conv=>whnf
    rw[hw1]
    refine⟨i+1,[0,1,2],⟨h2,hnext (by subst h3;rfl)⟩,by omega,?_⟩
    conv=>whnf
    repeat'(first|exact ⟨⟩|exact rfl|exact qa _|exact .inr rfl|exact fun _ _=>rfl|exact noI|apply And.intro)
    all_goals first
     |exact y3 _
     |exact qc4 _
   ·have h3:i≠0:=by
     have h:¬ (i:Int)=0:=by simpa using h3
     omega
    have hh:vy f.zones P i=((yw P z.apex (yh f.zones i)).2 && (xl (f.zones.getD (yw P z.apex (yh f.zones i)).1 default)).any fun c=>decide (aget P (fold c)=some i)):=by
     unfold vy
     rw[hzd,show(i == 0)=false by simpa using h3,ay]
    conv=>whnf
    refine .rel _ (COk.frameX (closest_ok f hl i h2 z.apex (Zo.ok_name (hz z hzm)) P (fun z hz'=>Zo.ok_name (hz z hz'))) [0] rfl rfl (by show[j6 P]=[mapK _ (j6 P)];rw[qm2])) (fun x ks' hR=>?_)
    obtain⟨s0,k0,⟨rfl,rfl⟩,rfl,rfl⟩:=hR
    have hcl:=close_lt hP z.apex (yh f.zones i)
    generalize yw P z.apex (yh f.zones i)=r at hh hcl ⊢
    obtain⟨a,b⟩:=r
    rw[show mapB (sig [0] _) [j6 P]=[j6 P] from congrArg (fun x=>[x]) (qm2 P)]
    have hhas:=hI.has a i
    cases b with
    |false =>
     conv=>whnf
     refine brT rfl ?_
     conv=>whnf
     rw[hang_bad h2 (hh.trans rfl)]
     refine⟨[0],_,[j6 P],rfl,rfl,?_,?_,rfl,rfl⟩
     ·exact rfl
     ·conv=>whnf
      repeat'(first|exact ⟨⟩|exact rfl|exact qa _|exact .inr rfl|exact fun _ _=>rfl|exact noI|apply And.intro)
      all_goals first
       |exact y3 _
    |true =>
     have hcl:a<f.zones.length:=hcl rfl
     conv=>whnf
     refine brF rfl ?_
     conv=>whnf
     have hfs:=xe (ev:=intV) jc0 C (a,i)
     refine⟨_,hfs,?_⟩
     cases hgc:aget C (a,i) with
     |none =>
      have hb:vy f.zones P i=false:=by
       rw[hh]
       show((xl (f.zones.getD a default)).any fun c=>decide (aget P (fold c)=some i))=false
       rw[List.any_eq_false]
       intro c hc hd
       have:=hhas.2 (.inl ⟨hcl,c,hc,by simpa using hd⟩)
       rw [hgc] at this
       cases this
      conv=>whnf
      refine brT rfl ?_
      conv=>whnf
      rw[hang_bad h2 hb]
      refine⟨[0],_,[j6 P],rfl,rfl,?_,?_,rfl,rfl⟩
      ·exact rfl
      ·conv=>whnf
       repeat'(first|exact ⟨⟩|exact rfl|exact qa _|exact .inr rfl|exact fun _ _=>rfl|exact noI|apply And.intro)
       all_goals first
        |exact y3 _
     |some v =>
      have hb:vy f.zones P i=true:=by
       rw[hh]
       show((xl (f.zones.getD a default)).any fun c=>decide (aget P (fold c)=some i))=true
       rcases hhas.1 (by rw[hgc];rfl) with⟨_,c,hc,e⟩|⟨_,c,hc,_⟩
       ·exact sx.2 ⟨c,hc,by simpa using e⟩
       ·cases hc
      have hv1:=(hI.le _ _ hgc).1
      conv=>whnf
      refine brF (by rw[o9];omega) ?_
      conv=>whnf
      rw[hw1]
      refine⟨i+1,[0,1,2],⟨h2,hnext hb⟩,by omega,?_⟩
      conv=>whnf
      repeat'(first|exact ⟨⟩|exact rfl|exact qa _|exact .inr rfl|exact fun _ _=>rfl|exact noI|apply And.intro)
      all_goals first
       |exact y3 _
       |exact qc4 _
  ·have h2:i=f.zones.length:=by
    have h:¬ (i:Int)<f.zones.length:=px h2
    omega
   have hb:hangR f.zones P=true:=by
    unfold hangR
    rw[lw]
    intro k hk
    exact hs k (by rw[h2];exact m7.1 hk)
   conv=>whnf
   rw[hb]
   refine⟨[0],_,[j6 P],rfl,rfl,?_,?_,rfl,rfl⟩
   ·exact rfl
   ·conv=>whnf
    repeat'(first|exact ⟨⟩|exact rfl|exact qa _|exact .inr rfl|exact fun _ _=>rfl|exact noI|apply And.intro)
    all_goals first
     |exact y3 _
end
def addrK(a:Int):List DV:=[.int .u32 a]
theorem addrK_eq(a b:Int):ji (addrK a) (addrK b)=decide (a=b):=by
 rw[l5]
 simp[addrK,ji,dEq,kEq]
def addrL(l:List (Int × Bool × List Int)):List (Int × Nat):=l.map fun h=>(h.1,1)
def addrsB(S:List (Int × Nat)):KB:=.map [.int .u32] false false (aenc addrK intV S)
theorem jb3{ρ:List Nat}(C:List (Int × Nat)):renM ρ (aenc addrK intV C)=aenc addrK intV C:=qi9 (fun _=>rfl) C
theorem addr_get(l:List (Int × Bool × List Int))(a:Int):aget (addrL l) a=if l.any (fun h=>h.1 == a) then some 1 else none:=by
 induction l with
 |nil=>rfl
 |cons r l ih =>
  show(if a=r.1 then some 1 else aget (addrL l) a)=_
  rw[ih,List.any_cons]
  by_cases h:a=r.1
  ·subst h;simp
  ·have h':(r.1 == a)=false:=by simpa using fun e=>h e.symm
   rw[if_neg h,h',ay]
theorem onceI_snoc(l:List Int)(a:Int):onceI (l++[a])=(onceI l && !l.contains a):=by
 induction l with
 |nil=>simp[onceI]
 |cons x l ih =>
  show(!(l++[a]).contains x && onceI (l++[a]))=((!l.contains x && onceI l) && !(x :: l).contains a)
  rw[ih,l5]
  simp only[List.contains_append,List.contains_cons,List.contains_nil,Bool.or_false,Bool.not_or,oq,bn,o9]
  constructor
  ·rintro ⟨⟨h1,h2⟩,h3,h4⟩;exact⟨⟨h1,h3⟩,fun e=>h2 e.symm,h4⟩
  ·rintro ⟨⟨h1,h3⟩,h2,h4⟩;exact⟨⟨h1,fun e=>h2 e.symm⟩,h3,h4⟩
def x6(n:Nat)(a:Int):Bool:=decide (0<=a) && decide (a<(n:Int))
theorem jj3(n:Nat)(l:List (Int × Bool × List Int))(h:Int × Bool × List Int):y9 n (l++[h])=(y9 n l && (!l.any (fun x=>x.1 == h.1) && h.2.2.all (x6 n))):=by
 unfold y9
 rw[d6,d8,List.map_nil,onceI_snoc,c9,List.all_cons,List.all_nil,Bool.and_true]
 have e:(l.map (·.1)).contains h.1=l.any (fun x=>x.1 == h.1):=by
  rw[l5,List.contains_iff_mem,sx]
  constructor
  ·intro hm
   obtain⟨x,hx,e⟩:=gr.1 hm
   exact⟨x,hx,by simpa using e⟩
  ·rintro ⟨x,hx,e⟩
   exact gr.2 ⟨x,hx,by simpa using e⟩
 rw[e]
 show _=_
 unfold x6
 cases onceI (l.map (·.1)) <;> cases (l.any fun x=>x.1 == h.1) <;> cases (l.all fun h=>h.2.2.all fun at_=>decide (0<=at_) && decide (at_<(n:Int))) <;> rfl
theorem housed_mono(n:Nat)(l m:List (Int × Bool × List Int))(h:y9 n l=false):y9 n (l++m)=false:=by
 refine qf9 (P:=fun m=>y9 n (l++m)=false) (by rwa [mv]) (fun m r ih=>?_) m
 rw[<-m6,jj3,ih]
 rfl
theorem qy7{n:Nat}{l:List (Int × Bool × List Int)}{i:Nat}(h:y9 n (l.take i)=false):y9 n l=false:=by
 rw[<-cq i l]
 exact housed_mono n _ _ h
theorem allG_next{n:Nat}{l:List Int}{j:Nat}{a:Int}(h:l[j]? = some a):(l.take (j+1)).all (x6 n)=((l.take j).all (x6 n) && x6 n a):=by
 rw[m5,h,c9]
 simp
theorem allG_bad{n:Nat}{l:List Int}{j:Nat}(h:(l.take j).all (x6 n)=false):l.all (x6 n)=false:=by
 rw [ao] at h ⊢
 obtain⟨x,hx,e⟩:=h
 exact⟨x,gp hx,e⟩
theorem housed_ok(f:Fo)(hh:f.hosts.length<=64)(hl:∀ h ∈ f.hosts,h.2.2.length<=9223372036854775807):FnOk Tryz.prog 69 [f.V] (.d (.bool (y9 f.zones.length f.hosts))):=by
 refine qz (TT:=TT) (IN:=qi [(105,Tryz.f105,2),(138,Tryz.f138,2),(104,Tryz.f104,2)]) qk (ju (ju (ju qm Tryz.func104 (by kernel_rfl) (by kernel_rfl)) Tryz.func138 (by kernel_rfl) (by kernel_rfl)) Tryz.func105 (by kernel_rfl) (by kernel_rfl)) mixed 1000 Tryz.func69 rfl (qe Tryz.func69 (by kernel_rfl) rfl) rfl 32 (by kernel_rfl) ?_
 conv=>whnf
 refine .inv Nat (fun i=>i<=f.hosts.length/\y9 f.zones.length (f.hosts.take i)=true) (fun i=>[(12,iV i)]) (fun i=>[(1,addrsB (addrL (f.hosts.take i)))]) (fun i=>f.hosts.length - i) ⟨0,[0,1],⟨p6 _,rfl⟩,?_⟩ ?_
 ·conv=>whnf
  repeat'(first|exact ⟨⟩|exact rfl|exact qa _|exact .inr rfl|exact fun _ _=>rfl|exact noI|apply And.intro)
 intro i hi
 obtain⟨hi,hti⟩:=hi
 conv=>whnf
 refine⟨fun h2=>?_,fun h2=>?_⟩
 ·have h2:i<f.hosts.length:=by
   have h:(i:Int)<f.hosts.length:=pw h2
   omega
  have hw1:=w64s i (by omega)
  obtain⟨h,hhd⟩:∃ h,f.hosts.getD i default=h:=⟨_,rfl⟩
  have hhl:f.hosts[i]? = some h:=by rw[<-hhd,List.getD,pp h2];rfl
  have hlz:=hl h (oy hhl)
  have htk:f.hosts.take (i+1)=f.hosts.take i++[h]:=by rw[m5,hhl];rfl
  have hsn:=jj3 f.zones.length (f.hosts.take i) h
  rw [hti,my] at hsn
  conv=>whnf
  refine⟨by omega,?_⟩
  conv=>whnf
  rw[pz,hhd]
  have hfs:=xe (ev:=intV) addrK_eq (addrL (f.hosts.take i)) h.1
  have hga:=addr_get (f.hosts.take i) h.1
  refine⟨_,hfs,?_⟩
  cases hany:(f.hosts.take i).any (fun x=>x.1 == h.1) with
  |true =>
   rw [hany] at hga hsn
   rw[hga]
   conv=>whnf
   refine brT rfl ?_
   conv=>whnf
   rw[qy7 (i:=i+1) (by rw[htk,hsn];rfl)]
  |false =>
   rw [hany] at hga hsn
   rw[hga]
   conv=>whnf
   refine brF rfl ?_
   conv=>whnf
   have hsn:y9 f.zones.length (f.hosts.take (i+1))=h.2.2.all (x6 f.zones.length):=by rw[htk,hsn];rfl
   have hput:putM (aenc addrK intV (addrL (f.hosts.take i))) [.int .u32 h.1] [.d (.int .i64 1)]=aenc addrK intV (addrL (f.hosts.take (i+1))):=by
    have h1:=qd4 (ev:=intV) addrK_eq (addrL (f.hosts.take i)) h.1 1
    rw [aput_new hga,] at h1
    rw[htk]
    unfold addrL at h1 ⊢
    rw[d6]
    exact h1
   generalize hm:h.2.2=m at hlz hsn ⊢
   refine .inv Nat (fun j=>j<=m.length/\(m.take j).all (x6 f.zones.length)=true) (fun j=>[(8,iV j)]) (fun j=>[]) (fun j=>m.length - j) ⟨0,[0,1,2],⟨p6 _,rfl⟩,?_⟩ ?_
   ·conv=>whnf
    repeat'(first|exact ⟨⟩|exact rfl|exact qa _|exact .inr rfl|exact fun _ _=>rfl|exact noI|apply And.intro)
    all_goals first
     |exact jb3 _
   intro j hj
   obtain⟨hj,htj⟩:=hj
   conv=>whnf
   refine⟨fun h3=>?_,fun h3=>?_⟩
   ·have h3:j<m.length:=by
     have h:(j:Int)<m.length:=pw h3
     omega
    have hwj:=w64s j (by omega)
    have hmj:m[j]? = some (m.getD j 0):=by rw[List.getD,pp h3];rfl
    have hnx:=allG_next (n:=f.zones.length) hmj
    rw [htj,my] at hnx
    conv=>whnf
    refine⟨by omega,?_⟩
    conv=>whnf
    rw[pz]
    generalize m.getD j 0=a at hmj hnx ⊢
    refine⟨fun h4=>?_,fun h4=>?_⟩
    ·have h4:a<0:=pw h4
     have hg:x6 f.zones.length a=false:=by unfold x6;rw[po (by omega:¬ 0<=a)];rfl
     have hb:y9 f.zones.length f.hosts=false:=qy7 (i:=i+1) (by rw[hsn];exact allG_bad (j:=j+1) (by rw[hnx,hg]))
     conv=>whnf
     refine brT (pn (by omega)) ?_
     conv=>whnf
     rw[hb]
    ·have h4:¬ a<0:=px h4
     conv=>whnf
     refine⟨fun h5=>?_,fun h5=>?_⟩
     ·have h5:a >= (f.zones.length:Int):=pw h5
      have hg:x6 f.zones.length a=false:=by unfold x6;rw[po (by omega:¬ a<(f.zones.length:Int)),f9]
      have hb:y9 f.zones.length f.hosts=false:=qy7 (i:=i+1) (by rw[hsn];exact allG_bad (j:=j+1) (by rw[hnx,hg]))
      conv=>whnf
      refine brT (pn (by omega)) ?_
      conv=>whnf
      rw[hb]
     ·have h5:¬ a >= (f.zones.length:Int):=px h5
      have hg:x6 f.zones.length a=true:=by unfold x6;rw[pn (by omega:0<=a),pn (by omega:a<(f.zones.length:Int))];rfl
      conv=>whnf
      rw[hwj]
      refine⟨j+1,[0,1,2],⟨h3,by rw[hnx,hg]⟩,by omega,?_⟩
      conv=>whnf
      repeat'(first|exact ⟨⟩|exact rfl|exact qa _|exact .inr rfl|exact fun _ _=>rfl|exact noI|apply And.intro)
      all_goals first
       |exact jb3 _
   ·have h3:j=m.length:=by
     have h:¬ (j:Int)<m.length:=px h3
     omega
    subst h3
    rw [lx] at htj
    rw [htj] at hsn
    conv=>whnf
    refine brF rfl ?_
    conv=>whnf
    refine⟨_,hfs,?_⟩
    rw[hga]
    conv=>whnf
    refine⟨_,hput,?_⟩
    conv=>whnf
    rw[hw1]
    refine⟨i+1,[0,1],⟨h2,hsn⟩,by omega,?_⟩
    conv=>whnf
    repeat'(first|exact ⟨⟩|exact rfl|exact qa _|exact .inr rfl|exact fun _ _=>rfl|exact noI|apply And.intro)
    all_goals first
     |exact jb3 _
 ·have h2:i=f.hosts.length:=by
   have h:¬ (i:Int)<f.hosts.length:=px h2
   omega
  subst h2
  rw [lx] at hti
  conv=>whnf
  rw[hti]
theorem within_suf{n z:List UInt8}:jg n z=true↔qc n/\qc z/\fl z <:+ fl n:=by
 unfold jg
 simp only[oq,ly,sq]
theorem within_trans{a b c:List UInt8}(h:jg a b=true)(k:jg b c=true):jg a c=true:=by
 obtain⟨h1,h2,h3⟩:=within_suf.1 h
 obtain⟨k1,k2,k3⟩:=within_suf.1 k
 exact within_suf.2 ⟨h1,k2,k3.trans h3⟩
theorem ja9{n:List UInt8}(h:qc n):ja n=(fl n).length:=by
 unfold ja fl
 rw[if_pos h,mr]
theorem within_cmp{n a b:List UInt8}(ha:jg n a=true)(hb:jg n b=true)(hc:ja a<=ja b):jg b a=true:=by
 obtain⟨h1,h2,h3⟩:=within_suf.1 ha
 obtain⟨k1,k2,k3⟩:=within_suf.1 hb
 exact within_suf.2 ⟨k2,h2,List.suffix_of_suffix_length_le h3 k3 (by rw[<-ja9 h2,<-ja9 k2];exact hc)⟩
theorem count_eq{a b:List UInt8}(ha:qc a)(hb:qc b)(h:fold a=fold b):ja a=ja b:=by
 rw[<-qy3 ha,<-qy3 hb,h]
theorem count_zero:ja [0]=0:=by decide
theorem Zo.cutL_spec{z:Zo}(hz:z.ok=true){c:List UInt8}(h:c ∈ z.cutL):∃ r ∈ z.rrs,r.nm=c/\r.ty=2/\jg c z.apex=true/\xr c z.apex=false/\qc c/\zy z.apex r=true:=by
 unfold Zo.cutL at h
 obtain⟨r,hr,rfl⟩:=gr.1 h
 obtain⟨hr,hp⟩:=sv.1 hr
 have ht:=z.ok_take hz hr
 have ht':=ht
 unfold zy at ht'
 simp only [oq] at ht' hp
 exact⟨r,hr,rfl,by simpa[isNs] using hp.1,ht'.2.2.2.2,by simpa using hp.2,(qe4 ht'.2.2.2.2).1,ht⟩
structure Good(zs:List Zo):Prop where
 zok:∀ z ∈ zs,z.ok=true
 un:∀ (i j:Nat) (a b:Zo),zs[i]? = some a->zs[j]? = some b->fold a.apex=fold b.apex->i=j
 root:∀ z,zs[0]? = some z->fold z.apex=[0]
 hang:∀ (i:Nat) (z:Zo),zs[i]? = some z->i≠0->∃ (a:Nat) (za:Zo) (c:List UInt8),zs[a]? = some za/\a≠i/\c ∈ za.cutL/\fold c=fold z.apex/\jg z.apex za.apex=true /\
  ∀ (j:Nat) (zj:Zo),j≠i->zs[j]? = some zj->jg z.apex zj.apex=true->ja zj.apex<=ja za.apex
theorem fold_root{n:List UInt8}(h:fold n=[0]):ja n=0\/¬ qc n:=by
 by_cases hn:qc n
 ·left
  rw[<-qy3 hn,h]
  exact count_zero
 ·exact .inr hn
theorem count_root{n:List UInt8}(hn:qc n)(h:ja n=0):fold n=[0]:=by
 rw [ja9 hn] at h
 rw[qd6 hn,fy h]
 rfl
theorem Good.covers{zs:List Zo}(g:Good zs){name:List UInt8}{i:Nat}{zi:Zo}(hi:zs[i]? = some zi)(wi:jg name zi.apex=true):∀ (k j:Nat) (zj:Zo),zs[j]? = some zj->i≠j->jg name zj.apex=true->ja zi.apex<=ja zj.apex->ja zj.apex<k ->
 ∃ c ∈ zi.cutL,jg name c=true/\∃ (m:Nat) (zm:Zo),zs[m]? = some zm/\fold zm.apex=fold c
 |0,j,zj,_,_,_,_,hk=>by omega
 |k+1,j,zj,hj,hij,wj,hc,hk=>by
  have hni:=(qe4 wi).2
  have hnj:=(qe4 wj).2
  have hj0:j≠0:=fun e=>by
   subst e
   have h1:=g.root zj hj
   have h2:ja zj.apex=0:=(fold_root h1).resolve_right (fun e=>e hnj)
   have h3:=count_root hni (by omega)
   exact hij (g.un i 0 zi zj hi hj (by rw[h1,h3]))
  obtain⟨a,za,c,ha,haj,hca,hcf,wa,hmax⟩:=g.hang j zj hj hj0
  have hzam:=g.zok za (oy ha)
  obtain⟨r,_,_,_,wc,sc,nc,_⟩:=za.cutL_spec hzam hca
  have wnc:jg name c=true:=jp3 nc hcf wj
  by_cases hai:i=a
  ·subst hai
   rw [hi] at ha
   cases ha
   exact⟨c,hca,wnc,j,zj,hj,hcf.symm⟩
  ·have w1:=within_cmp wi wj hc
   have h1:=hmax i zi hij hi w1
   have hlt:ja za.apex<ja zj.apex:=by
    rw[<-count_eq nc hnj hcf]
    exact jq5 wc sc
   exact g.covers hi wi k a za ha hai (within_trans wj wa) h1 (by omega)
theorem onceN_inj:∀ {l:List (List UInt8)},yy l=true->∀ {i j:Nat} {a:List UInt8},l[i]? = some a->l[j]? = some a->i=j
 |[],_,_,_,_,h,_=>by cases h
 |x :: l,h,i,j,a,hi,hj=>by
  have h':(!l.contains x && yy l)=true:=h
  simp only [oq,bn] at h'
  have hx:∀ k,l[k]?≠some x:=fun k hk=>by
   have:=oy hk
   rw [<-List.contains_iff_mem,h'.1] at this
   cases this
  cases i with
  |zero =>
   cases j with
   |zero=>rfl
   |succ j =>
    simp at hi hj
    subst hi
    exact absurd hj (hx j)
  |succ i =>
   cases j with
   |zero =>
    simp at hi hj
    subst hj
    exact absurd hi (hx i)
   |succ j =>
    simp at hi hj
    rw[onceN_inj h'.2 hi hj]
theorem apex_un{zs:List Zo}(h:yy (zs.map fun z=>fold z.apex)=true){i j:Nat}{a b:Zo}(hi:zs[i]? = some a)(hj:zs[j]? = some b)(e:fold a.apex=fold b.apex):i=j :=
 onceN_inj h (a:=fold a.apex) (by rw[o5,hi];rfl) (by rw[o5,hj,e];rfl)
theorem place_iff{zs:List Zo}(h:yy (zs.map fun z=>fold z.apex)=true){i:Nat}{z:Zo}(hi:zs[i]? = some z)(n:List UInt8):zb zs n=some i↔fold z.apex=n:=by
 constructor
 ·intro e
  obtain⟨y,hy,e1⟩:=qr3 e
  rw [hi] at hy
  cases hy
  exact e1
 ·intro e
  cases hp:zb zs n with
  |none=>exact absurd e (place_none.1 hp z (oy hi))
  |some k =>
   obtain⟨y,hy,e1⟩:=qr3 hp
   rw[apex_un h hy hi (e1.trans e.symm)]
theorem close_above(zs:List Zo)(i:Nat)(apex:List UInt8):qa4 zs i apex=if (yw (j4 zs) apex (yh zs i)).2 then some (yw (j4 zs) apex (yh zs i)).1 else none:=by
 unfold qa4 yw
 cases zg apex (yh zs i) none with
 |none=>rfl
 |some a =>
  show zb zs (fold a)=if (match aget (j4 zs) (fold a) with|none=>(0,false)|some k=>(k,true)).2 then some (match aget (j4 zs) (fold a) with|none=>(0,false)|some k=>(k,true)).1 else none
  rw[qh1]
  cases zb zs (fold a) <;> rfl
theorem hang_eq{zs:List Zo}(hz:∀ z ∈ zs,z.ok=true)(ho:yy (zs.map fun z=>fold z.apex)=true):hangR zs (j4 zs)=hangF zs:=by
 have hi:∀ i,i<zs.length->vy zs (j4 zs) i=(i == 0 || (match qa4 zs i (zs.getD i default).apex with
  |none=>false
  |some a=>(zs.getD a default).cutL.any fun c=>fold c == fold (zs.getD i default).apex)):=fun i hi=>by
  unfold vy
  rw[close_above]
  have hzi:zs[i]? = some (zs.getD i default):=by rw[dq,pp hi];rfl
  congr 1
  have hcl:=close_lt (n:=zs.length) (P:=j4 zs) (fun k v hv=>by
   rw [qh1] at hv
   obtain⟨y,hy,_⟩:=qr3 hv
   exact(pq.1 hy).1) (zs.getD i default).apex (yh zs i)
  generalize yw (j4 zs) (zs.getD i default).apex (yh zs i)=r at hcl ⊢
  obtain⟨a,b⟩:=r
  cases b with
  |false=>rfl
  |true =>
   have ha:a<zs.length:=hcl rfl
   have hza:zs[a]? = some (zs.getD a default):=by rw[dq,pp ha];rfl
   have hok:=hz _ (oy hza)
   show((xl (zs.getD a default)).any fun c=>decide (aget (j4 zs) (fold c)=some i))=(zs.getD a default).cutL.any fun c=>fold c == fold (zs.getD i default).apex
   unfold xl
   rw[if_pos hok,l5,sx,sx]
   have hp:∀ c,(aget (j4 zs) (fold c)=some i)↔fold c=fold (zs.getD i default).apex:=fun c=>by
    rw[qh1,place_iff ho hzi]
    exact eq_comm
   constructor
   ·rintro ⟨c,hc,e⟩
    exact⟨c,(qz6 hc).1,by simpa using(hp c).1 (by simpa using e)⟩
   ·rintro ⟨c,hc,e⟩
    obtain⟨_,_,_,_,_,_,hcn,_⟩:=Zo.cutL_spec hok hc
    obtain⟨m,hm,em⟩:=sortN_has hc hcn
    exact⟨m,hm,by simpa using(hp m).2 (by rw[em];simpa using e)⟩
 unfold hangR hangF
 rw[l5,lw,lw]
 constructor
 ·intro h i hm
  exact(hi i (m7.1 hm)).symm.trans (h i hm)
 ·intro h i hm
  exact(hi i (m7.1 hm)).trans (h i hm)
def uh(zs:List Zo)(i:Nat):Bool:=(zs.take i).all Zo.ok && (yy ((zs.take i).map fun z=>fold z.apex) && (i == 0 || fold (zs.getD 0 default).apex == [0]))
theorem all_take{p:Zo->Bool}{zs:List Zo}{i:Nat}(h:(zs.take i).all p=false):zs.all p=false:=by
 rw [ao] at h ⊢
 obtain⟨x,hx,e⟩:=h
 exact⟨x,gp hx,e⟩
theorem survey_bad{f:Fo}{i:Nat}(h:uh f.zones i=false):f.ok=false:=by
 unfold uh at h
 unfold Fo.ok
 simp only [Bool.and_eq_false_iff] at h ⊢
 rcases h with h|h|h
 ·exact .inr (.inr (.inr (.inl (all_take h))))
 ·rw [List.map_take] at h
  exact .inr (.inr (.inr (.inr (.inl (onceN_take h)))))
 ·rw [az] at h
  exact .inr (.inr (.inr (.inr (.inr (.inl h.2)))))
theorem survey_next{zs:List Zo}{i:Nat}{z:Zo}(h:zs[i]? = some z)(hs:uh zs i=true):uh zs (i+1)=(z.ok && ((zb (zs.take i) (fold z.apex)).isNone && (i != 0 || fold z.apex == [0]))):=by
 unfold uh at hs ⊢
 simp only [oq] at hs
 obtain⟨h1,h2,h3⟩:=hs
 rw[m5,h]
 simp only[Option.toList_some,c9,d6,d8,List.map_nil,jm6,h1,h2,List.all_cons,List.all_nil,Bool.and_true,my]
 have e1:(!((zs.take i).map fun z=>fold z.apex).contains (fold z.apex))=(zb (zs.take i) (fold z.apex)).isNone:=by
  rw[l5,bn,Option.isNone_iff_eq_none,place_none,<-Bool.not_eq_true,List.contains_iff_mem]
  constructor
  ·intro hm y hy e
   exact hm (gr.2 ⟨y,hy,e⟩)
  ·intro hm hc
   obtain⟨y,hy,e⟩:=gr.1 hc
   exact hm y hy e
 rw[e1]
 congr 2
 cases i with
 |zero =>
  have:zs.getD 0 default=z:=by rw[dq,h];rfl
  rw[this]
  rfl
 |succ i =>
  have h3':(fold (zs.getD 0 default).apex == [0])=true:=by
   rw [co] at h3
   exact h3.resolve_left (by simp)
  rw[h3']
  rfl
def qj0(f:Fo):SV:=if f.ok then .tup [.map 0,.d (.int .i64 0)] else .tup [.v (.map none),.d (.int .i64 2)]
def qj1(f:Fo):List KB:=if f.ok then [j6 (j4 f.zones)] else []
theorem survey_ok(f:Fo)(hf:f.Fit)(hl:∀ h ∈ f.hosts,h.2.2.length<=9223372036854775807) :
 COk Tryz.prog 40 [f.V] [] (fun s k=>s=qj0 f/\k=qj1 f):=by
 refine yg (TT:=TT) (IN:=qi []) qk qm mixed 1000 Tryz.func40 rfl (qe Tryz.func40 (by kernel_rfl) rfl) 72 (by kernel_rfl) ?_
 have hno:f.ok=false->qj0 f = .tup [.v (.map none),.d (.int .i64 2)]/\qj1 f=[]:=fun h=>by
  unfold qj0 qj1
  rw[h]
  exact⟨rfl,rfl⟩
 conv=>whnf
 refine⟨fun h1=>?_,fun h1=>?_⟩
 ·have h1:¬ 1<=f.zones.length:=by
   have h:(f.zones.length:Int)<1:=pw h1
   omega
  obtain⟨e1,e2⟩:=hno (by unfold Fo.ok;rw[po h1];rfl)
  rw[e1,e2]
  conv=>whnf
  refine⟨[],_,[],rfl,rfl,?_,?_,rfl,rfl⟩
  ·exact rfl
  ·exact True.intro
 have h1:1<=f.zones.length:=by
  have h:¬ (f.zones.length:Int)<1:=px h1
  omega
 conv=>whnf
 refine⟨fun h2=>?_,fun h2=>?_⟩
 ·have h2:¬ f.zones.length<=64:=by
   have h:(f.zones.length:Int) > 64:=pw h2
   omega
  obtain⟨e1,e2⟩:=hno (by unfold Fo.ok;rw[po h2,f8,f9])
  rw[e1,e2]
  conv=>whnf
  refine⟨[],_,[],rfl,rfl,?_,?_,rfl,rfl⟩
  ·exact rfl
  ·exact True.intro
 have h2:f.zones.length<=64:=by
  have h:¬ (f.zones.length:Int) > 64:=px h2
  omega
 conv=>whnf
 refine⟨fun h3=>?_,fun h3=>?_⟩
 ·have h3:¬ f.hosts.length<=64:=by
   have h:(f.hosts.length:Int) > 64:=pw h3
   omega
  obtain⟨e1,e2⟩:=hno (by unfold Fo.ok;rw[po h3,f8,f9,f9])
  rw[e1,e2]
  conv=>whnf
  refine⟨[],_,[],rfl,rfl,?_,?_,rfl,rfl⟩
  ·exact rfl
  ·exact True.intro
 have h3:f.hosts.length<=64:=by
  have h:¬ (f.hosts.length:Int) > 64:=px h3
  omega
 have hok:f.ok=(f.zones.all Zo.ok && (yy (f.zones.map fun z=>fold z.apex) && (fold (f.zones.getD 0 default).apex == [0] && (hangF f.zones && y9 f.zones.length f.hosts)))):=by
  unfold Fo.ok
  rw[pn h1,pn h2,pn h3]
  rfl
 conv=>whnf
 refine .inv Nat (fun i=>i<=f.zones.length/\uh f.zones i=true) (fun i=>[(33,iV i)]) (fun i=>[(1,j6 (j4 (f.zones.take i)))]) (fun i=>f.zones.length - i) ⟨0,[0,1],⟨p6 _,rfl⟩,?_⟩ ?_
 ·conv=>whnf
  repeat'(first|exact ⟨⟩|exact rfl|exact qa _|exact .inr rfl|exact fun _ _=>rfl|exact noI|apply And.intro)
 intro i hi
 obtain⟨hi,hti⟩:=hi
 conv=>whnf
 refine⟨fun h4=>?_,fun h4=>?_⟩
 ·have h4:i<f.zones.length:=by
   have h:(i:Int)<f.zones.length:=pw h4
   omega
  have hw1:=w64s i (by omega)
  obtain⟨z,hzd⟩:∃ z,f.zones.getD i default=z:=⟨_,rfl⟩
  have hzl:f.zones[i]? = some z:=by rw[<-hzd,List.getD,pp h4];rfl
  have hzf:=hf z (oy hzl)
  have hnx:=survey_next hzl hti
  have htk:f.zones.take (i+1)=f.zones.take i++[z]:=by rw[m5,hzl];rfl
  have hbad:uh f.zones (i+1)=false->f.ok=false:=survey_bad
  conv=>whnf
  refine⟨by omega,?_⟩
  conv=>whnf
  rw[pz,hzd]
  refine oD (zcheck_ok z hzf.2) rfl rfl ?_
  cases hzo:z.ok with
  |false =>
   obtain⟨e1,e2⟩:=hno (hbad (by rw[hnx,hzo];rfl))
   rw[e1,e2,if_neg (by decide)]
   conv=>whnf
   refine brT rfl ?_
   conv=>whnf
   refine⟨[],_,[],rfl,rfl,?_,?_,rfl,rfl⟩
   ·exact rfl
   ·exact True.intro
  |true =>
   rw[if_pos rfl]
   rw [hzo,my] at hnx
   conv=>whnf
   refine brF rfl ?_
   conv=>whnf
   refine oD (x5 z.apex (by have:=hzf.1;omega)) rfl rfl ?_
   conv=>whnf
   have hfs:=xe (ev:=intV) y8 (j4 (f.zones.take i)) (fold z.apex)
   rw [qh1] at hfs
   refine⟨_,hfs,?_⟩
   cases hp:zb (f.zones.take i) (fold z.apex) with
   |some k =>
    rw [hp] at hnx
    obtain⟨e1,e2⟩:=hno (hbad (by rw[hnx];rfl))
    rw[e1,e2]
    conv=>whnf
    refine⟨[],_,[],rfl,rfl,?_,?_,rfl,rfl⟩
    ·exact rfl
    ·exact True.intro
   |none =>
    rw [hp] at hnx
    have hput:putM (aenc strK intV (j4 (f.zones.take i))) [.str (fold z.apex)] [.d (.int .i64 (i:Nat))]=aenc strK intV (j4 (f.zones.take (i+1))):=by
     have h1:=qd4 (ev:=intV) y8 (j4 (f.zones.take i)) (fold z.apex) i
     rw [aput_new (by rw [qh1,hp])] at h1
     rw[htk,places_snoc,show(f.zones.take i).length=i by rw[lu];omega]
     exact h1
    have hgo:uh f.zones (i+1)=true->uh f.zones (i+1)=true:=id
    conv=>whnf
    refine⟨fun h5=>?_,fun h5=>?_⟩
    ·have h5:i=0:=by
      have h:(i:Int)=0:=by simpa using h5
      omega
     conv=>whnf
     refine⟨fun h6=>?_,fun h6=>?_⟩
     ·have h6:(fold z.apex == [0])=false:=by simpa using h6
      obtain⟨e1,e2⟩:=hno (hbad (by rw[hnx,h6,h5];rfl))
      rw[e1,e2]
      conv=>whnf
      refine⟨[],_,[],rfl,rfl,?_,?_,rfl,rfl⟩
      ·exact rfl
      ·exact True.intro
     ·have h6:(fold z.apex == [0])=true:=by simpa using h6
      conv=>whnf
      refine⟨_,hput,?_⟩
      conv=>whnf
      rw[hw1]
      refine⟨i+1,[0,1],⟨h4,by rw[hnx,h6,Bool.or_true];rfl⟩,by omega,?_⟩
      conv=>whnf
      repeat'(first|exact ⟨⟩|exact rfl|exact qa _|exact .inr rfl|exact fun _ _=>rfl|exact noI|apply And.intro)
      all_goals first
       |exact y3 _
    ·have h5:(i != 0)=true:=by
      have h:¬ (i:Int)=0:=by simpa using h5
      simp;omega
     conv=>whnf
     refine⟨_,hput,?_⟩
     conv=>whnf
     rw[hw1]
     refine⟨i+1,[0,1],⟨h4,by rw[hnx,h5];rfl⟩,by omega,?_⟩
     conv=>whnf
     repeat'(first|exact ⟨⟩|exact rfl|exact qa _|exact .inr rfl|exact fun _ _=>rfl|exact noI|apply And.intro)
     all_goals first
      |exact y3 _
 ·have h4:i=f.zones.length:=by
   have h:¬ (i:Int)<f.zones.length:=px h4
   omega
  subst h4
  unfold uh at hti
  rw [lx] at hti ⊢
  simp only [oq] at hti
  obtain⟨t1,t2,t3⟩:=hti
  have t3:(fold (f.zones.getD 0 default).apex == [0])=true:=by
   rw [co] at t3
   exact t3.resolve_left (fun e=>by
    have:f.zones.length=0:=by simpa using e
    omega)
  have hz:∀ z ∈ f.zones,z.ok=true:=lw.1 t1
  rw [t1,t2,t3,my,my,my,<-hang_eq hz t2] at hok
  have hP:∀ k v,aget (j4 f.zones) k=some v->v<f.zones.length:=fun k v hv=>by
   rw [qh1] at hv
   obtain⟨y,hy,_⟩:=qr3 hv
   exact(pq.1 hy).1
  conv=>whnf
  refine .rel _ (COk.frameX (hang_ok f hf h2 (j4 f.zones) hz hP) [1] rfl rfl (by show[j6 _]=[mapK _ (j6 _)];rw[qm2])) (fun x ks' hR=>?_)
  obtain⟨s0,k0,⟨rfl,rfl⟩,rfl,rfl⟩:=hR
  rw[show mapB (sig [1] _) [j6 (j4 f.zones)]=[j6 (j4 f.zones)] from congrArg (fun x=>[x]) (qm2 _)]
  cases hh:hangR f.zones (j4 f.zones) with
  |false =>
   obtain⟨e1,e2⟩:=hno (by rw[hok,hh];rfl)
   rw[e1,e2]
   conv=>whnf
   refine brT rfl ?_
   conv=>whnf
   refine⟨[],_,[],rfl,rfl,?_,?_,rfl,rfl⟩
   ·exact rfl
   ·exact True.intro
  |true =>
   rw [hh,my] at hok
   conv=>whnf
   refine brF rfl ?_
   conv=>whnf
   refine oD (housed_ok f h3 hl) rfl rfl ?_
   rw[<-hok]
   cases hk:f.ok with
   |false =>
    obtain⟨e1,e2⟩:=hno hk
    rw[e1,e2]
    conv=>whnf
    refine brT rfl ?_
    conv=>whnf
    refine⟨[],_,[],rfl,rfl,?_,?_,rfl,rfl⟩
    ·exact rfl
    ·exact True.intro
   |true =>
    have e1:qj0 f = .tup [.map 0,.d (.int .i64 0)]:=by unfold qj0;rw[hk];rfl
    have e2:qj1 f=[j6 (j4 f.zones)]:=by unfold qj1;rw[hk];rfl
    rw[e1,e2]
    conv=>whnf
    refine brF rfl ?_
    conv=>whnf
    refine⟨[1],_,[j6 (j4 f.zones)],rfl,rfl,?_,?_,rfl,rfl⟩
    ·exact rfl
    ·conv=>whnf
     repeat'(first|exact ⟨⟩|exact rfl|exact qa _|exact .inr rfl|exact fun _ _=>rfl|exact noI|apply And.intro)
     all_goals first
      |exact y3 _
theorem Fo.parts{f:Fo}(h:f.ok=true):(1<=f.zones.length/\f.zones.length<=64/\f.hosts.length<=64)/\(∀ z ∈ f.zones,z.ok=true)/\yy (f.zones.map fun z=>fold z.apex)=true/\fold (f.zones.getD 0 default).apex=[0]/\hangF f.zones=true/\y9 f.zones.length f.hosts=true:=by
 unfold Fo.ok at h
 simp only [oq,ly,m8] at h
 obtain⟨a1,a2,a3,a4,a5,a6,a7,a8⟩:=h
 exact⟨⟨a1,a2,a3⟩,lw.1 a4,a5,a6,a7,a8⟩
structure Q where
 nm:List UInt8
 ty:Int
 cl:Int
deriving Inhabited
def Q.enc(q:Q):List DV:=[.str q.nm,.int .u16 q.ty,.int .u16 q.cl]
end Go.Proofs.YtoefgnnkajhmiaaGreatDoor
