/-
  slices.insertionSortCmpFunc at ints. Conditions: the comparison tells weakly apart, and changes nothing. slices.symMergeCmpFunc at ints. Conditions: the comparison tells weakly apart, and changes nothing. slices.stableCmpFunc, SortStableFunc at ints. Conditions: the comparison tells weakly apart, and changes nothing. slices.CompactFunc at ints. Conditions: the comparison tells of equal folded texts, and changes nothing. sets.build's comparisons. No conditions. sets.build. Conditions: there is a record, and there are fewer than 2 to the 60. sets.right, slices.Collect of it. Conditions: fewer than 100000 records. sets.Find. Conditions: fewer than 100000 records, of names shorter than that. slices.Equal of texts. Conditions: lengths. slices.Reverse at texts: in place. Conditions: the length. walk.rising. Condition: a name. cmp.Compare of texts, slices.Compare of lists of texts. Conditions: length. Comparisons: total orders; of texts, of lists of texts; places once each. Plain. Names sorted: in order, each once. Plain lemmas. walk.Sort: a name and its labels, the last one first; their comparison. Condition: names. slices.swapRangeCmpFunc, rotateCmpFunc at names and their labels: what they do to a row of places. Conditions: the places lie within the row. slices.insertionSortCmpFunc at names and their labels. Conditions: the comparison tells weakly apart, and changes nothing. slices.symMergeCmpFunc at names and their labels. Conditions: the comparison tells weakly apart, and changes nothing. slices.stableCmpFunc, SortStableFunc at names and their labels. Conditions: the comparison tells weakly apart, and changes nothing. walk.Sort. Condition: length. label.Same. No conditions. zone.look: cuts. Condition: length. The topmost cut, as it is looked for. Plain lemmas. Records in groups of one place. Plain lemmas. Names and records of sets: what holds of them. Plain lemmas.
-/
import Derived.Test.YtnfoihdifohkeaaB1
import Derived.Test.YtnfoihdifohkeaaM4
set_option linter.unusedVariables false
set_option linter.unusedSimpArgs false
namespace Go.Proofs.Ytnfoihdifohkeaa
open Go Go.Eng
def cCap:List SV:=[.ptr 1 0]
def cRest(nf:Nat)(zf:Z)(fo:Nat→List DV):List KB:=[.cells 36 [.all 2],.row 9 1 nf zf fo]
def ltC(c:Nat→Nat→Int)(x y:Nat):Bool:=decide (c x y<0)
def CmpOk(g:FuncId)(c:Nat→Nat→Int)(n:Nat)(z:Z)(nf:Nat)(zf:Z)(fo:Nat→List DV):Prop :=
 ∀ (q:Nat→Nat) (x y:Nat),x<n→y<n→COk Try.prog g (iV x :: iV y :: cCap) (rowP n z q :: cRest nf zf fo) (fun s k=>s = .d (.int .i64 (c x y))∧k=rowP n z q :: cRest nf zf fo)
set_option maxRecDepth 100000
set_option maxHeartbeats 4000000 in
theorem ins_ok(n:Nat)(hn:n<1152921504606846976)(z:Z)(p:Nat→Nat)(c:Nat→Nat→Int)(g:FuncId)(nf:Nat)(zf:Z)(fo:Nat→List DV)(hg:CmpOk g c n z nf zf fo)(hw:Weak n (ltC c))(hp:Inj n p)(a b:Nat)(hab:a≤b)(hb:b≤n)(hasc:∀ i j,a≤i→i<j→j<b→p i<p j):COk Try.prog 96 [.all 0,iV a,iV b,.fn g cCap] (rowP n z p :: cRest nf zf fo) (fun s k=>s = .tup []∧∃ r,Merged (L:=LL (ltC c)) p r n a b∧k=rowP n z r :: cRest nf zf fo):=by
 refine cOk_of_run (TT:=TT) (IN:=lookI []) TT_ok INok_nil mixed 1000 Try.func96 rfl (enters Try.func96 (by kernel_rfl) rfl) 49 (by kernel_rfl) ?_
 have e1:IntKind.i64.wrap ((a:Int)+1)=((a+1:Nat):Int):=by rw[w64_in _ (by omega)];omega
 conv=>whnf
 rw[e1]
 refine .inv (Nat × (Nat→Nat)) (fun s=>a+1≤s.1∧(s.1≤b∨(s.1=a+1∧s.2=p))∧Merged (L:=LL (ltC c)) p s.2 n a s.1) (fun s=>[(8,iV s.1)]) (fun s=>[(0,rowP n z s.2)]) (fun s=>n+1 - s.1) ⟨(a+1,p),[0,1,2],show a+1≤a+1∧(a+1≤b∨(a+1=a+1∧p=p))∧Merged (L:=LL (ltC c)) p p n a (a+1) from⟨by omega,.inr ⟨rfl,rfl⟩,.stay hp (fun i j _ _ _=>by omega)⟩,?_⟩ ?_
 ·conv=>whnf
  repeat'(first|exact ⟨⟩|exact rfl|exact subZ_self _|exact Or.inr rfl|exact fun _ _=>rfl|exact fun _ h=>absurd h (Nat.not_lt_zero _)|apply And.intro)
 intro s hs
 obtain⟨i,q⟩:=s
 obtain⟨hai,hib,hm⟩:=hs
 have hai:a+1≤i:=hai
 have hib:i≤b∨(i=a+1∧q=p):=hib
 have hm:Merged (L:=LL (ltC c)) p q n a i:=hm
 conv=>whnf
 refine⟨fun h1=>?_,fun h1=>?_⟩
 ·have h1:i<b:=by
   have h:(i:Int)<b:=of_decide_eq_true h1
   omega
  have asc:∀ t,a≤t→t<i→q t<q i:=fun t h3 h4=>by
   obtain⟨t',b1,b2,b3⟩:=hm.same.fwd t h3 h4
   rw[b3,hm.same.out i (by omega)]
   exact hasc t' i b1 b2 h1
  have next:∀ j,a≤j→j≤i→(j=a∨LL (ltC c) (q (j - 1)) (q i))→(j=i∨LL (ltC c) (q i) (q j))→Merged (L:=LL (ltC c)) p (rot q j i (i+1)) n a (i+1):=fun j h3 h4 h5 h6=>by
   have:=down_of hw.ord hm.inj (show i<n by omega) h3 h4 hm.rise h5 h6
   exact⟨this.inj,(hm.same.wide (Nat.le_refl _) (by omega)).trans this.same,this.rise⟩
  have e6:IntKind.i64.wrap ((i:Int)+1)=((i+1:Nat):Int):=by rw[w64_in _ (by omega)];omega
  conv=>whnf
  refine .inv Nat (fun j=>a≤j∧j≤i∧(j=i∨LL (ltC c) (q i) (q j))) (fun j=>[(9,iV j)]) (fun j=>[(0,rowP n z (rot q j i (i+1)))]) (fun j=>j) ⟨i,[0,1,2],⟨by omega,by omega,.inl rfl⟩,?_⟩ ?_
  ·conv=>whnf
   rw[rot_id1 q i (i+1) (by omega)]
   repeat'(first|exact ⟨⟩|exact rfl|exact subZ_self _|exact Or.inr rfl|exact fun _ _=>rfl|exact fun _ h=>absurd h (Nat.not_lt_zero _)|apply And.intro)
  intro j hj
  obtain⟨haj,hji,hjL⟩:=hj
  conv=>whnf
  refine⟨fun h2=>?_,fun h2=>?_⟩
  ·have h2:a<j:=by
    have h:(j:Int) > a:=of_decide_eq_true h2
    omega
   have e2:IntKind.i64.wrap ((j:Int) - 1)=((j - 1:Nat):Int):=by rw[w64_in _ (by omega)];omega
   have e3:rot q j i (i+1) j=q i:=by rw[rot_a q (by omega) (by omega)];congr 1;omega
   have e4:rot q j i (i+1) (j - 1)=q (j - 1):=rot_o q (by omega) (by omega) (by omega)
   conv=>whnf
   refine⟨by omega,?_⟩
   conv=>whnf
   rw[e2]
   refine⟨by omega,?_⟩
   conv=>whnf
   rw[Int.toNat_natCast,Int.toNat_natCast,e3,e4]
   refine .mem _ _ (hg _ _ _ (hm.inj.lt i (by omega)) (hm.inj.lt (j - 1) (by omega))) ?_
   conv=>whnf
   refine⟨fun h3=>?_,fun h3=>?_⟩
   ·have h3:ltC c (q i) (q (j - 1))=true:=h3
    conv=>whnf
    refine⟨?_,?_,?_,?_⟩
    rotate_left 2
    ·conv=>whnf
     rw[e2]
     repeat'(first|exact⟨rfl,rfl⟩|(refine⟨⟨by omega,by omega⟩,?_⟩;conv=>whnf)|exact ⟨⟩|apply And.intro|(conv=>whnf))
    ·conv=>whnf
     rw[e2]
     refine⟨j - 1,[0,1,2],⟨by omega,by omega,.inr (.inl h3)⟩,by omega,?_⟩
     conv=>whnf
     repeat'(first|exact ⟨⟩|exact rfl|exact subZ_self _|exact Or.inr rfl|exact fun _ _=>rfl|exact fun _ h=>absurd h (Nat.not_lt_zero _)|apply And.intro)
     intro x hx
     rw[Int.toNat_natCast,Int.toNat_natCast]
     have:=puts_two' (rot q j i (i+1)) (j - 1) j (by omega)
     have e5:=rot_down q i (j - 1) (by omega)
     rw [show j - 1+1=j by omega] at e5
     exact(congrFun this x).trans (congrArg (fun f=>cel (f x)) e5)
   ·have h3:ltC c (q i) (q (j - 1))=false:=h3
    have hL:LL (ltC c) (q (j - 1)) (q i):=.inr ⟨h3,asc (j - 1) (by omega) (by omega)⟩
    conv=>whnf
    refine⟨(i+1,rot q j i (i+1)),[0,1,2],(show a+1≤i+1∧(i+1≤b∨(i+1=a+1∧rot q j i (i+1)=p))∧Merged (L:=LL (ltC c)) p (rot q j i (i+1)) n a (i+1) from⟨by omega,.inl (by omega),next j haj hji (.inr hL) hjL⟩),by show n+1 - (i+1)<n+1 - i;omega,?_⟩
    conv=>whnf
    rw[e6]
    repeat'(first|exact ⟨⟩|exact rfl|exact subZ_self _|exact Or.inr rfl|exact fun _ _=>rfl|exact fun _ h=>absurd h (Nat.not_lt_zero _)|apply And.intro)
  ·have h2:j=a:=by
    have h:¬ ((j:Int) > a):=of_decide_eq_false h2
    omega
   conv=>whnf
   refine⟨(i+1,rot q j i (i+1)),[0,1,2],(show a+1≤i+1∧(i+1≤b∨(i+1=a+1∧rot q j i (i+1)=p))∧Merged (L:=LL (ltC c)) p (rot q j i (i+1)) n a (i+1) from⟨by omega,.inl (by omega),next j haj hji (.inl h2) hjL⟩),by show n+1 - (i+1)<n+1 - i;omega,?_⟩
   conv=>whnf
   rw[e6]
   repeat'(first|exact ⟨⟩|exact rfl|exact subZ_self _|exact Or.inr rfl|exact fun _ _=>rfl|exact fun _ h=>absurd h (Nat.not_lt_zero _)|apply And.intro)
 ·have h1:b≤i:=by
   have h:¬ ((i:Int)<b):=of_decide_eq_false h1
   omega
  conv=>whnf
  refine⟨[0,1,2],_,_,rfl,rfl,?_,?_,rfl,q,?_,rfl⟩
  ·exact rfl
  ·conv=>whnf
   repeat'(first|exact ⟨⟩|exact rfl|exact subZ_self _|exact Or.inr rfl|exact fun _ _=>rfl|exact fun _ h=>absurd h (Nat.not_lt_zero _)|apply And.intro)
  ·rcases hib with h|h
   ·have:i=b:=by omega
    rw[←this];exact hm
   ·rw[h.2]
    exact .stay hp (fun i j _ _ _=>by omega)
end Go.Proofs.Ytnfoihdifohkeaa
namespace Go.Proofs.Ytnfoihdifohkeaa
open Go Go.Eng
theorem rot_in(n:Nat)(hn:n<1152921504606846976)(z:Z)(p:Nat→Nat)(a m b:Nat)(ha:a<m)(hb:m<b)(hbn:b≤n)(g:FuncId)(nf:Nat)(zf:Z)(fo:Nat→List DV):COk Try.prog 99 [.all 0,iV a,iV m,iV b,.fn g cCap] (rowP n z p :: cRest nf zf fo) (fun s k=>s = .tup []∧k=rowP n z (rot p a m b) :: cRest nf zf fo):=by
 refine COk.anyA (COk.frame (rotate_ok n hn z p a m b ha hb hbn) [0] («as»:=[.all 0,iV a,iV m,iV b,.any]) rfl rfl rfl (fun s0 k0 h=>?_)) ⟨.inr rfl,.inr rfl,.inr rfl,.inr rfl,.inl rfl,True.intro⟩
 obtain⟨rfl,rfl⟩:=h
 exact⟨rfl,rfl⟩
theorem half(i j:Nat)(h:i+j<9223372036854775808):IntKind.i64.wrap ((IntKind.u64.wrap (IntKind.i64.wrap ((i:Int)+(j:Int)))).fdiv (2 ^ (min (Int.toNat 1) IntKind.u64.bits)))=(((i+j) / 2:Nat):Int):=by
 rw[w64_in ((i:Int)+(j:Int)) (by omega),IntKind.wrap_u64]
 rw[show(2:Int) ^ (min (Int.toNat 1) IntKind.u64.bits)=2 from rfl,Int.fdiv_eq_ediv_of_nonneg _ (by omega)]
 rw[w64_in _ (by omega)]
 omega
set_option maxRecDepth 100000
set_option maxHeartbeats 8000000 in
theorem sym_ok(n:Nat)(hn:n<1152921504606846976)(z:Z)(c:Nat→Nat→Int)(g:FuncId)(nf:Nat)(zf:Z)(fo:Nat→List DV)(hg:CmpOk g c n z nf zf fo)(hw:Weak n (ltC c)):∀ (k:Nat) (p:Nat→Nat) (a m b:Nat),b - a<k→Inj n p→a<m→m<b→b≤n→Rise (LL (ltC c)) p a m→Rise (LL (ltC c)) p m b→Sep p a m b →
 COk Try.prog 97 [.all 0,iV a,iV m,iV b,.fn g cCap] (rowP n z p :: cRest nf zf fo) (fun s k=>s = .tup []∧∃ r,Merged (L:=LL (ltC c)) p r n a b∧k=rowP n z r :: cRest nf zf fo):=by
 intro k
 induction k with
 |zero=>intro p a m b h;omega
 |succ k ih =>
 intro p a m b hk hp ham hmb hbn h1 h2 hs
 refine cOk_of_run (TT:=TT) (IN:=lookI []) TT_ok INok_nil mixed 1000 Try.func97 rfl (enters Try.func97 (by kernel_rfl) rfl) 215 (by kernel_rfl) ?_
 have e1:IntKind.i64.wrap ((m:Int) - (a:Int))=((m - a:Nat):Int):=by rw[w64_in _ (by omega)];omega
 have e2:IntKind.i64.wrap ((b:Int) - (m:Int))=((b - m:Nat):Int):=by rw[w64_in _ (by omega)];omega
 conv=>whnf
 rw[e1]
 refine⟨fun c1=>?_,fun c1=>?_⟩
 ·have c1:m=a+1:=by simp at c1;omega
  subst c1
  conv=>whnf
  refine .inv (Nat × Nat) (fun s=>a+1≤s.1∧s.1≤s.2∧s.2≤b∧(s.1=a+1∨LL (ltC c) (p (s.1 - 1)) (p a))∧(s.2=b∨LL (ltC c) (p a) (p s.2))) (fun s=>[(10,iV s.1),(11,iV s.2)]) (fun s=>[]) (fun s=>s.2 - s.1) ⟨(a+1,b),[0,1,2],⟨show a+1≤a+1 by omega,show a+1≤b by omega,show b≤b by omega,.inl rfl,.inl rfl⟩,?_⟩ ?_
  ·conv=>whnf
   repeat'(first|exact ⟨⟩|exact rfl|exact subZ_self _|exact Or.inr rfl|exact fun _ _=>rfl|exact fun _ h=>absurd h (Nat.not_lt_zero _)|apply And.intro)
  intro s hs2
  obtain⟨q1,q2,q3,q4,q5⟩:=hs2
  conv=>whnf
  generalize s.1=i at q1 q2 q4 ⊢
  generalize s.2=j at q2 q3 q5 ⊢
  refine⟨fun h3=>?_,fun h3=>?_⟩
  ·have h3:i<j:=by
    have h:(i:Int)<j:=of_decide_eq_true h3
    omega
   conv=>whnf
   refine⟨by omega,?_⟩
   conv=>whnf
   rw[half i j (by omega)]
   have g1:i≤(i+j) / 2:=by omega
   have g2:(i+j) / 2<j:=by omega
   generalize (i+j) / 2=h at g1 g2 ⊢
   refine⟨by omega,?_⟩
   conv=>whnf
   refine⟨by omega,?_⟩
   conv=>whnf
   rw[Int.toNat_natCast,Int.toNat_natCast]
   refine .mem _ _ (hg _ _ _ (hp.lt h (by omega)) (hp.lt a (by omega))) ?_
   conv=>whnf
   refine⟨fun h4=>?_,fun h4=>?_⟩
   ·have h4:ltC c (p h) (p a)=true:=h4
    conv=>whnf
    rw[show IntKind.i64.wrap ((h:Int)+1)=((h+1:Nat):Int) by rw[w64_in _ (by omega)];omega]
    refine⟨(h+1,j),[0,1,2],⟨show a+1≤h+1 by omega,show h+1≤j by omega,q3,.inr (.inl h4),q5⟩,by show j - (h+1)<j - i;omega,?_⟩
    conv=>whnf
    repeat'(first|exact ⟨⟩|exact rfl|exact subZ_self _|exact Or.inr rfl|exact fun _ _=>rfl|exact fun _ h=>absurd h (Nat.not_lt_zero _)|apply And.intro)
   ·have h4:ltC c (p h) (p a)=false:=h4
    conv=>whnf
    refine⟨(i,h),[0,1,2],⟨q1,g1,show h≤b by omega,q4,.inr (.inr ⟨h4,hs a h (by omega) (by omega) (by omega) (by omega)⟩)⟩,by show h - i<j - i;omega,?_⟩
    conv=>whnf
    repeat'(first|exact ⟨⟩|exact rfl|exact subZ_self _|exact Or.inr rfl|exact fun _ _=>rfl|exact fun _ h=>absurd h (Nat.not_lt_zero _)|apply And.intro)
  ·have h3:i=j:=by
    have h:¬ (i:Int)<j:=of_decide_eq_false h3
    omega
   subst h3
   have hfin:=up_of hw.ord hp hbn q1 q3 h2 q4 q5
   have ei:IntKind.i64.wrap ((i:Int) - 1)=((i - 1:Nat):Int):=by rw[w64_in _ (by omega)];omega
   conv=>whnf
   refine .inv Nat (fun k=>a≤k∧k+1≤i) (fun k=>[(13,iV k)]) (fun k=>[(0,rowP n z (rot p a (a+1) (k+1)))]) (fun k=>i - k) ⟨a,[0,1,2],⟨by omega,by omega⟩,?_⟩ ?_
   ·conv=>whnf
    rw[rot_id2 p a (a+1) (by omega)]
    repeat'(first|exact ⟨⟩|exact rfl|exact subZ_self _|exact Or.inr rfl|exact fun _ _=>rfl|exact fun _ h=>absurd h (Nat.not_lt_zero _)|apply And.intro)
   intro k hk2
   obtain⟨r1,r2⟩:=hk2
   conv=>whnf
   rw[ei]
   refine⟨fun h3=>?_,fun h3=>?_⟩
   ·have h3:k<i - 1:=by
     have h:(k:Int)<((i - 1:Nat):Int):=of_decide_eq_true h3
     omega
    have ek:IntKind.i64.wrap ((k:Int)+1)=((k+1:Nat):Int):=by rw[w64_in _ (by omega)];omega
    conv=>whnf
    refine⟨?_,?_,?_,?_⟩
    rotate_left 2
    ·conv=>whnf
     rw[ek]
     repeat'(first|exact⟨rfl,rfl⟩|(refine⟨⟨by omega,by omega⟩,?_⟩;conv=>whnf)|exact ⟨⟩|apply And.intro|(conv=>whnf))
    ·conv=>whnf
     rw[ek]
     refine⟨k+1,[0,1,2],⟨by omega,by omega⟩,by omega,?_⟩
     conv=>whnf
     repeat'(first|exact ⟨⟩|exact rfl|exact subZ_self _|exact Or.inr rfl|exact fun _ _=>rfl|exact fun _ h=>absurd h (Nat.not_lt_zero _)|apply And.intro)
     intro x hx
     rw[Int.toNat_natCast,Int.toNat_natCast]
     have:=puts_two (rot p a (a+1) (k+1)) k (k+1) (by omega)
     exact(congrFun this x).trans (congrArg (fun f=>cel (f x)) (rot_up p a k (by omega)))
   ·have h3:k+1=i:=by
     have h:¬ (k:Int)<((i - 1:Nat):Int):=of_decide_eq_false h3
     omega
    rw[h3]
    conv=>whnf
    refine⟨[0,1,2],_,_,rfl,rfl,?_,?_,rfl,_,hfin,rfl⟩
    ·exact rfl
    ·conv=>whnf
     repeat'(first|exact ⟨⟩|exact rfl|exact subZ_self _|exact Or.inr rfl|exact fun _ _=>rfl|exact fun _ h=>absurd h (Nat.not_lt_zero _)|apply And.intro)
 have c1:¬ m=a+1:=by simp at c1;omega
 conv=>whnf
 rw[e2]
 refine⟨fun c2=>?_,fun c2=>?_⟩
 ·have c2:b=m+1:=by simp at c2;omega
  subst c2
  conv=>whnf
  refine .inv (Nat × Nat) (fun s=>a≤s.1∧s.1≤s.2∧s.2≤m∧(s.1=a∨LL (ltC c) (p (s.1 - 1)) (p m))∧(s.2=m∨LL (ltC c) (p m) (p s.2))) (fun s=>[(14,iV s.1),(15,iV s.2)]) (fun s=>[]) (fun s=>s.2 - s.1) ⟨(a,m),[0,1,2],⟨show a≤a by omega,show a≤m by omega,show m≤m by omega,.inl rfl,.inl rfl⟩,?_⟩ ?_
  ·conv=>whnf
   repeat'(first|exact ⟨⟩|exact rfl|exact subZ_self _|exact Or.inr rfl|exact fun _ _=>rfl|exact fun _ h=>absurd h (Nat.not_lt_zero _)|apply And.intro)
  intro s hs2
  obtain⟨q1,q2,q3,q4,q5⟩:=hs2
  conv=>whnf
  generalize s.1=i at q1 q2 q4 ⊢
  generalize s.2=j at q2 q3 q5 ⊢
  refine⟨fun h3=>?_,fun h3=>?_⟩
  ·have h3:i<j:=by
    have h:(i:Int)<j:=of_decide_eq_true h3
    omega
   conv=>whnf
   refine⟨by omega,?_⟩
   conv=>whnf
   rw[half i j (by omega)]
   have g1:i≤(i+j) / 2:=by omega
   have g2:(i+j) / 2<j:=by omega
   generalize (i+j) / 2=h at g1 g2 ⊢
   refine⟨by omega,?_⟩
   conv=>whnf
   refine⟨by omega,?_⟩
   conv=>whnf
   rw[Int.toNat_natCast,Int.toNat_natCast]
   refine .mem _ _ (hg _ _ _ (hp.lt m (by omega)) (hp.lt h (by omega))) ?_
   conv=>whnf
   refine⟨fun h4=>?_,fun h4=>?_⟩
   ·have h4:ltC c (p m) (p h)=false:=by
     have h5:(!(ltC c (p m) (p h)))=true:=h4
     simpa using h5
    conv=>whnf
    rw[show IntKind.i64.wrap ((h:Int)+1)=((h+1:Nat):Int) by rw[w64_in _ (by omega)];omega]
    refine⟨(h+1,j),[0,1,2],⟨show a≤h+1 by omega,show h+1≤j by omega,q3,.inr (.inr ⟨h4,hs h m (by omega) (by omega) (by omega) (by omega)⟩),q5⟩,by show j - (h+1)<j - i;omega,?_⟩
    conv=>whnf
    repeat'(first|exact ⟨⟩|exact rfl|exact subZ_self _|exact Or.inr rfl|exact fun _ _=>rfl|exact fun _ h=>absurd h (Nat.not_lt_zero _)|apply And.intro)
   ·have h4:ltC c (p m) (p h)=true:=by
     have h5:(!(ltC c (p m) (p h)))=false:=h4
     simpa using h5
    conv=>whnf
    refine⟨(i,h),[0,1,2],⟨q1,g1,show h≤m by omega,q4,.inr (.inl h4)⟩,by show h - i<j - i;omega,?_⟩
    conv=>whnf
    repeat'(first|exact ⟨⟩|exact rfl|exact subZ_self _|exact Or.inr rfl|exact fun _ _=>rfl|exact fun _ h=>absurd h (Nat.not_lt_zero _)|apply And.intro)
  ·have h3:i=j:=by
    have h:¬ (i:Int)<j:=of_decide_eq_false h3
    omega
   subst h3
   have hfin:=down_of hw.ord hp (show m<n by omega) q1 q3 h1 q4 q5
   conv=>whnf
   refine .inv Nat (fun k=>i≤k∧k≤m) (fun k=>[(17,iV k)]) (fun k=>[(0,rowP n z (rot p k m (m+1)))]) (fun k=>k) ⟨m,[0,1,2],⟨by omega,by omega⟩,?_⟩ ?_
   ·conv=>whnf
    rw[rot_id1 p m (m+1) (by omega)]
    repeat'(first|exact ⟨⟩|exact rfl|exact subZ_self _|exact Or.inr rfl|exact fun _ _=>rfl|exact fun _ h=>absurd h (Nat.not_lt_zero _)|apply And.intro)
   intro k hk2
   obtain⟨r1,r2⟩:=hk2
   conv=>whnf
   refine⟨fun h3=>?_,fun h3=>?_⟩
   ·have h3:i<k:=by
     have h:(k:Int) > (i:Int):=of_decide_eq_true h3
     omega
    have ek:IntKind.i64.wrap ((k:Int) - 1)=((k - 1:Nat):Int):=by rw[w64_in _ (by omega)];omega
    conv=>whnf
    refine⟨?_,?_,?_,?_⟩
    rotate_left 2
    ·conv=>whnf
     rw[ek]
     repeat'(first|exact⟨rfl,rfl⟩|(refine⟨⟨by omega,by omega⟩,?_⟩;conv=>whnf)|exact ⟨⟩|apply And.intro|(conv=>whnf))
    ·conv=>whnf
     rw[ek]
     refine⟨k - 1,[0,1,2],⟨by omega,by omega⟩,by omega,?_⟩
     conv=>whnf
     repeat'(first|exact ⟨⟩|exact rfl|exact subZ_self _|exact Or.inr rfl|exact fun _ _=>rfl|exact fun _ h=>absurd h (Nat.not_lt_zero _)|apply And.intro)
     intro x hx
     rw[Int.toNat_natCast,Int.toNat_natCast]
     have:=puts_two' (rot p k m (m+1)) (k - 1) k (by omega)
     have e5:=rot_down p m (k - 1) (by omega)
     rw [show k - 1+1=k by omega] at e5
     exact(congrFun this x).trans (congrArg (fun f=>cel (f x)) e5)
   ·have h3:k=i:=by
     have h:¬ (k:Int) > (i:Int):=of_decide_eq_false h3
     omega
    rw[h3]
    conv=>whnf
    refine⟨[0,1,2],_,_,rfl,rfl,?_,?_,rfl,_,hfin,rfl⟩
    ·exact rfl
    ·conv=>whnf
     repeat'(first|exact ⟨⟩|exact rfl|exact subZ_self _|exact Or.inr rfl|exact fun _ _=>rfl|exact fun _ h=>absurd h (Nat.not_lt_zero _)|apply And.intro)
 have c2:¬ b=m+1:=by simp at c2;omega
 conv=>whnf
 refine⟨by omega,?_⟩
 conv=>whnf
 rw[half a b (by omega)]
 rw[show IntKind.i64.wrap ((((a+b) / 2:Nat):Int)+(m:Int))=(((a+b) / 2+m:Nat):Int) by rw[w64_in _ (by omega)];omega]
 refine⟨fun c3=>?_,fun c3=>?_⟩
 have c3:(a+b) / 2<m:=by
  have h:(m:Int) > (((a+b) / 2:Nat):Int):=of_decide_eq_true c3
  omega
 conv=>whnf
 obtain⟨N,hN⟩:∃ N,N=(a+b) / 2+m:=⟨_,rfl⟩
 rw[←hN]
 obtain⟨s0,hs0⟩:∃ s0,s0=N - b:=⟨_,rfl⟩
 obtain⟨r0,hr0⟩:∃ r0,r0=(a+b) / 2:=⟨_,rfl⟩
 have f1:s0=a∨N - s0=b:=by omega
 have f2:r0=m∨N - r0=m:=by omega
 have f3:a≤s0∧s0≤r0∧r0≤m∧m≤N - r0∧N - s0≤b:=by omega
 have x1:IntKind.i64.wrap ((N:Int) - (b:Int))=(s0:Int):=by rw[w64_in _ (by omega)];omega
 have x2:IntKind.i64.wrap ((N:Int) - 1)=((N - 1:Nat):Int):=by rw[w64_in _ (by omega)];omega
 rw[x1,x2]
 rotate_left
 have c3:m≤(a+b) / 2:=by
  have h:¬ (m:Int) > (((a+b) / 2:Nat):Int):=of_decide_eq_false c3
  omega
 conv=>whnf
 obtain⟨N,hN⟩:∃ N,N=(a+b) / 2+m:=⟨_,rfl⟩
 rw[←hN]
 obtain⟨s0,hs0⟩:∃ s0,s0=a:=⟨_,rfl⟩
 obtain⟨r0,hr0⟩:∃ r0,r0=m:=⟨_,rfl⟩
 have f1:s0=a∨N - s0=b:=by omega
 have f2:r0=m∨N - r0=m:=by omega
 have f3:a≤s0∧s0≤r0∧r0≤m∧m≤N - r0∧N - s0≤b:=by omega
 have x2:IntKind.i64.wrap ((N:Int) - 1)=((N - 1:Nat):Int):=by rw[w64_in _ (by omega)];omega
 rw[x2]
 all_goals
  refine .inv (Nat × Nat) (fun s=>s0≤s.1∧s.1≤s.2∧s.2≤r0∧(s.1=s0∨LL (ltC c) (p (s.1 - 1)) (p (N - s.1)))∧(s.2=r0∨LL (ltC c) (p (N - 1 - s.2)) (p s.2))) (fun s=>[(20,iV s.1),(21,iV s.2)]) (fun s=>[]) (fun s=>s.2 - s.1) ⟨(s0,r0),[0,1,2],⟨show s0≤s0 by omega,show s0≤r0 by omega,show r0≤r0 by omega,.inl rfl,.inl rfl⟩,?_⟩ ?_
  ·subst hr0
   subst hs0
   conv=>whnf
   repeat'(first|exact ⟨⟩|exact rfl|exact subZ_self _|exact Or.inr rfl|exact fun _ _=>rfl|exact fun _ h=>absurd h (Nat.not_lt_zero _)|apply And.intro)
  intro st hst
  obtain⟨q1,q2,q3,q4,q5⟩:=hst
  conv=>whnf
  generalize st.1=s at q1 q2 q4 ⊢
  generalize st.2=j at q2 q3 q5 ⊢
  refine⟨fun h3=>?_,fun h3=>?_⟩
  ·have h3:s<j:=by
    have h:(s:Int)<j:=of_decide_eq_true h3
    omega
   conv=>whnf
   refine⟨by omega,?_⟩
   conv=>whnf
   rw[half s j (by omega)]
   have g1:s≤(s+j) / 2:=by omega
   have g2:(s+j) / 2<j:=by omega
   generalize (s+j) / 2=h at g1 g2 ⊢
   rw[show IntKind.i64.wrap (((N - 1:Nat):Int) - (h:Int))=((N - 1 - h:Nat):Int) by rw[w64_in _ (by omega)];omega]
   refine⟨by omega,?_⟩
   conv=>whnf
   refine⟨by omega,?_⟩
   conv=>whnf
   rw[Int.toNat_natCast,Int.toNat_natCast]
   refine .mem _ _ (hg _ _ _ (hp.lt (N - 1 - h) (by omega)) (hp.lt h (by omega))) ?_
   conv=>whnf
   refine⟨fun h4=>?_,fun h4=>?_⟩
   ·have h4:ltC c (p (N - 1 - h)) (p h)=false:=by
     have h5:(!(ltC c (p (N - 1 - h)) (p h)))=true:=h4
     simpa using h5
    conv=>whnf
    rw[show IntKind.i64.wrap ((h:Int)+1)=((h+1:Nat):Int) by rw[w64_in _ (by omega)];omega]
    refine⟨(h+1,j),[0,1,2],⟨show s0≤h+1 by omega,show h+1≤j by omega,q3,.inr (?_:LL (ltC c) (p (h+1 - 1)) (p (N - (h+1)))),q5⟩,by show j - (h+1)<j - s;omega,?_⟩
    ·rw[show h+1 - 1=h by omega,show N - (h+1)=N - 1 - h by omega]
     exact .inr ⟨h4,hs h (N - 1 - h) (by omega) (by omega) (by omega) (by omega)⟩
    conv=>whnf
    repeat'(first|exact ⟨⟩|exact rfl|exact subZ_self _|exact Or.inr rfl|exact fun _ _=>rfl|exact fun _ h=>absurd h (Nat.not_lt_zero _)|apply And.intro)
   ·have h4:ltC c (p (N - 1 - h)) (p h)=true:=by
     have h5:(!(ltC c (p (N - 1 - h)) (p h)))=false:=h4
     simpa using h5
    conv=>whnf
    refine⟨(s,h),[0,1,2],⟨q1,g1,show h≤r0 by omega,q4,.inr (.inl h4)⟩,by show h - s<j - s;omega,?_⟩
    conv=>whnf
    repeat'(first|exact ⟨⟩|exact rfl|exact subZ_self _|exact Or.inr rfl|exact fun _ _=>rfl|exact fun _ h=>absurd h (Nat.not_lt_zero _)|apply And.intro)
  have h3:s=j:=by
   have h:¬ (s:Int)<j:=of_decide_eq_false h3
   omega
  subst h3
  have hc:Cut (L:=LL (ltC c)) p a m b s (N - s):=cut_of hw.ord hp hbn h1 h2 (by omega) (by omega) (by omega) (by omega)
   (by
    rcases q4 with x|x
    ·rcases f1 with y|y
     ·exact .inl (by omega)
     ·exact .inr (.inl (by omega))
    ·exact .inr (.inr x))
   (by
    rcases q5 with x|x
    ·rcases f2 with y|y
     ·exact .inl (by omega)
     ·exact .inr (.inl (by omega))
    ·exact .inr (.inr (by rw[show N - s - 1=N - 1 - s by omega];exact x)))
  have hmid:(a+b) / 2=s+(N - s - m):=by omega
  have cl:=cut_left h1 h2 hs hc hmid
  have cr:=cut_right h1 h2 hs hc hmid
  have hrot:Inj n (rot p s m (N - s)):=hp.rot (by omega) (by omega) (by omega)
  have ee:IntKind.i64.wrap ((N:Int) - (s:Int))=((N - s:Nat):Int):=by rw[w64_in _ (by omega)];omega
  conv=>whnf
  rw[ee]
  by_cases k1:s<m∧m<N - s
  refine brT (decide_eq_true (by omega)) ?_
  conv=>whnf
  refine brT (decide_eq_true (by omega)) ?_
  conv=>whnf
  refine .rel _ (rot_in n hn z p s m (N - s) k1.1 k1.2 (by omega) g nf zf fo) (fun r ks' hR=>?_)
  obtain⟨rfl,rfl⟩:=hR
  conv=>whnf
  rotate_left
  have eq:rot p s m (N - s)=p:=by
   rcases Nat.lt_or_ge s m with x|x
   ·rw[show N - s=m by omega];exact rot_id2 p s m (by omega)
   ·rw[show s=m by omega];exact rot_id1 p m _ (by omega)
  rw[show rowP n z p=rowP n z (rot p s m (N - s)) by rw[eq]]
  by_cases k0:s<m
  refine brT (decide_eq_true (by omega)) ?_
  conv=>whnf
  refine brF (decide_eq_false (by omega)) ?_
  conv=>whnf
  rotate_left
  refine brF (decide_eq_false (by omega)) ?_
  conv=>whnf
  all_goals
   by_cases k2:a<s∧s<(a+b) / 2
   refine brT (decide_eq_true (by omega)) ?_
   conv=>whnf
   refine brT (decide_eq_true (by omega)) ?_
   conv=>whnf
   refine .rel _ (ih (rot p s m (N - s)) a s ((a+b) / 2) (by omega) hrot k2.1 k2.2 (by omega) cl.1 cl.2.1 cl.2.2) (fun r ks' hR=>?_)
   obtain⟨rfl,r1,hr1,rfl⟩:=hR
   have hfin:∀ r2,Merged (L:=LL (ltC c)) r1 r2 n ((a+b) / 2) b→Merged (L:=LL (ltC c)) p r2 n a b:=fun r2 h=>merge_two h1 h2 hc hmid hr1 h
   conv=>whnf
   rotate_left
   obtain⟨r1,hr1,er⟩:∃ r1,Merged (L:=LL (ltC c)) (rot p s m (N - s)) r1 n a ((a+b) / 2)∧r1=rot p s m (N - s):=⟨_,.stay hrot (by
    rcases Nat.lt_or_ge a s with x|x
    ·exact cl.1.sub (Nat.le_refl _) (by omega)
    ·exact cl.2.1.sub (by omega) (Nat.le_refl _)),rfl⟩
   have hfin:∀ r2,Merged (L:=LL (ltC c)) r1 r2 n ((a+b) / 2) b→Merged (L:=LL (ltC c)) p r2 n a b:=fun r2 h=>merge_two h1 h2 hc hmid hr1 h
   rw[←er]
   clear er
   by_cases k0:a<s
   refine brT (decide_eq_true (by omega)) ?_
   conv=>whnf
   refine brF (decide_eq_false (by omega)) ?_
   conv=>whnf
   rotate_left
   refine brF (decide_eq_false (by omega)) ?_
   conv=>whnf
   all_goals
    by_cases k3:(a+b) / 2<N - s∧N - s<b
    refine brT (decide_eq_true (by omega)) ?_
    conv=>whnf
    refine brT (decide_eq_true (by omega)) ?_
    conv=>whnf
    refine .rel _ (ih r1 ((a+b) / 2) (N - s) b (by omega) hr1.inj k3.1 k3.2 hbn (cr.1.congr fun i x1 x2=>hr1.same.out i (by omega)) (cr.2.1.congr fun i x1 x2=>hr1.same.out i (by omega)) (cr.2.2.congr fun i x1 x2=>hr1.same.out i (by omega))) (fun r ks' hR=>?_)
    obtain⟨rfl,r2,hr2,rfl⟩:=hR
    conv=>whnf
    rotate_left
    have hr2:Merged (L:=LL (ltC c)) r1 r1 n ((a+b) / 2) b:=.stay hr1.inj (by
     rcases Nat.lt_or_ge ((a+b) / 2) (N - s) with x|x
     ·exact(cr.1.congr fun i x1 x2=>hr1.same.out i (by omega)).sub (Nat.le_refl _) (by omega)
     ·exact(cr.2.1.congr fun i x1 x2=>hr1.same.out i (by omega)).sub (by omega) (Nat.le_refl _))
    by_cases k0:(a+b) / 2<N - s
    refine brT (decide_eq_true (by omega)) ?_
    conv=>whnf
    refine brF (decide_eq_false (by omega)) ?_
    conv=>whnf
    rotate_left
    refine brF (decide_eq_false (by omega)) ?_
    conv=>whnf
    all_goals
     refine⟨[0,1,2],_,_,rfl,rfl,?_,?_,rfl,_,hfin _ hr2,rfl⟩
     ·exact rfl
     ·conv=>whnf
      repeat'(first|exact ⟨⟩|exact rfl|exact subZ_self _|exact Or.inr rfl|exact fun _ _=>rfl|exact fun _ h=>absurd h (Nat.not_lt_zero _)|apply And.intro)
end Go.Proofs.Ytnfoihdifohkeaa
namespace Go.Proofs.Ytnfoihdifohkeaa
open Go Go.Eng
set_option maxRecDepth 100000
set_option maxHeartbeats 8000000 in
theorem stable_ok(n:Nat)(hn:n<1152921504606846976)(z:Z)(c:Nat→Nat→Int)(g:FuncId)(nf:Nat)(zf:Z)(fo:Nat→List DV)(hg:CmpOk g c n z nf zf fo)(hw:Weak n (ltC c)) :
 COk Try.prog 86 [.all 0,iV n,.fn g cCap] (rowP n z id :: cRest nf zf fo) (fun s k=>s = .tup []∧∃ r,Inj n r∧Rise (LL (ltC c)) r 0 n∧k=rowP n z r :: cRest nf zf fo):=by
 refine cOk_of_run (TT:=TT) (IN:=lookI []) TT_ok INok_nil mixed 1000 Try.func86 rfl (enters Try.func86 (by kernel_rfl) rfl) 60 (by kernel_rfl) ?_
 conv=>whnf
 refine .inv (Nat × (Nat→Nat)) (fun s=>s.1 * 20≤n∧Fst (LL (ltC c)) 20 n s.1 s.2) (fun s=>[(6,iV 20),(7,iV (s.1 * 20)),(8,iV (s.1 * 20+20))]) (fun s=>[(0,rowP n z s.2)]) (fun s=>n - s.1 * 20) ⟨(0,id),[0,1,2],⟨by show 0 * 20≤n;omega,Fst.zero 20 n⟩,?_⟩ ?_
 ·conv=>whnf
  repeat'(first|exact ⟨⟩|exact rfl|exact subZ_self _|exact Or.inr rfl|exact fun _ _=>rfl|exact fun _ h=>absurd h (Nat.not_lt_zero _)|apply And.intro)
 intro s hs
 obtain⟨h1,h2⟩:=hs
 conv=>whnf
 generalize s.1=q at h1 h2 ⊢
 generalize s.2=p at h2 ⊢
 refine⟨fun h3=>?_,fun h3=>?_⟩
 ·have h3:q * 20+20≤n:=by
   have h:((q * 20+20:Nat):Int)≤n:=of_decide_eq_true h3
   omega
  conv=>whnf
  refine .rel _ (ins_ok n hn z p c g nf zf fo hg hw h2.inj (q * 20) (q * 20+20) (by omega) h3 (fun i j x1 x2 x3=>by rw[h2.rest i x1,h2.rest j (by omega)];exact x2)) (fun r ks' hR=>?_)
  obtain⟨rfl,r,hr,rfl⟩:=hR
  have e1:IntKind.i64.wrap (((q * 20+20:Nat):Int)+((20:Nat):Int))=(((q+1) * 20+20:Nat):Int):=by rw[w64_in _ (by omega)];omega
  have e2:q * 20+20=(q+1) * 20:=by omega
  conv=>whnf
  rw[e1,e2]
  refine⟨(q+1,r),[0,1,2],⟨by show(q+1) * 20≤n;omega,h2.next h3 (by omega) (.inr rfl) hr⟩,by show n - (q+1) * 20<n - q * 20;omega,?_⟩
  conv=>whnf
  repeat'(first|exact ⟨⟩|exact rfl|exact subZ_self _|exact Or.inr rfl|exact fun _ _=>rfl|exact fun _ h=>absurd h (Nat.not_lt_zero _)|apply And.intro)
 ·have h3:n<q * 20+20:=by
   have h:¬ ((q * 20+20:Nat):Int)≤n:=of_decide_eq_false h3
   omega
  conv=>whnf
  refine .rel _ (ins_ok n hn z p c g nf zf fo hg hw h2.inj (q * 20) n h1 (Nat.le_refl _) (fun i j x1 x2 x3=>by rw[h2.rest i x1,h2.rest j (by omega)];exact x2)) (fun r ks' hR=>?_)
  obtain⟨rfl,r,hr,rfl⟩:=hR
  have h4:=h2.next (Nat.le_refl _) (by omega) (.inl rfl) hr
  conv=>whnf
  refine .inv (Nat × (Nat→Nat)) (fun s=>0<s.1∧s.1≤20+2 * n∧Inj n s.2∧Lc s.1 0 n s.2∧Rs (LL (ltC c)) s.1 0 n s.2) (fun s=>[(6,iV s.1)]) (fun s=>[(0,rowP n z s.2)]) (fun s=>n - s.1) ⟨(20,r),[0,1,2],⟨show 0<20 by omega,show 20≤20+2 * n by omega,h4.inj,h4.loc,?_⟩,?_⟩ ?_
  ·have:=h4.done
   rw [show min ((q+1) * 20) n=n by omega] at this
   exact this
  ·conv=>whnf
   repeat'(first|exact ⟨⟩|exact rfl|exact subZ_self _|exact Or.inr rfl|exact fun _ _=>rfl|exact fun _ h=>absurd h (Nat.not_lt_zero _)|apply And.intro)
  clear h1 h2 h3 h4 hr
  intro s hs
  obtain⟨h1,h2,h3,h4,h5⟩:=hs
  conv=>whnf
  generalize s.1=k at h1 h2 h4 h5 ⊢
  generalize s.2=p at h3 h4 h5 ⊢
  refine⟨fun h6=>?_,fun h6=>?_⟩
  ·have h6:k<n:=by
    have h:(k:Int)<n:=of_decide_eq_true h6
    omega
   have e1:IntKind.i64.wrap (2 * (k:Int))=((2 * k:Nat):Int):=by rw[w64_in _ (by omega)];omega
   conv=>whnf
   rw[e1]
   refine .inv (Nat × (Nat→Nat)) (fun s=>s.1≤n∧∃ q,s.1=q * (2 * k)∧Mg (LL (ltC c)) k n q s.2) (fun s=>[(7,iV s.1),(8,iV (s.1+2 * k))]) (fun s=>[(0,rowP n z s.2)]) (fun s=>n - s.1) ⟨(0,p),[0,1,2],⟨Nat.zero_le _,0,(Nat.zero_mul _).symm,Mg.begin h3 h4 h5⟩,?_⟩ ?_
   ·conv=>whnf
    rw[Nat.zero_add]
    repeat'(first|exact ⟨⟩|exact rfl|exact subZ_self _|exact Or.inr rfl|exact fun _ _=>rfl|exact fun _ h=>absurd h (Nat.not_lt_zero _)|apply And.intro)
   intro s hs
   obtain⟨g1,q,g2,g3⟩:=hs
   conv=>whnf
   generalize s.1=a at g1 g2 ⊢
   generalize s.2=p at g3 ⊢
   refine⟨fun h7=>?_,fun h7=>?_⟩
   ·have h7:a+2 * k≤n:=by
     have h:((a+2 * k:Nat):Int)≤n:=of_decide_eq_true h7
     omega
    have e2:IntKind.i64.wrap ((a:Int)+(k:Int))=((a+k:Nat):Int):=by rw[w64_in _ (by omega)];omega
    have e3:IntKind.i64.wrap (((a+2 * k:Nat):Int)+((2 * k:Nat):Int))=((a+2 * k+2 * k:Nat):Int):=by rw[w64_in _ (by omega)];omega
    conv=>whnf
    rw[e2]
    refine .rel _ (sym_ok n hn z c g nf zf fo hg hw (2 * k+1) p a (a+k) (a+2 * k) (by omega) g3.inj (by omega) (by omega) h7 (by rw[g2];exact g3.left (by omega)) (by rw[g2];exact g3.right (by omega) (by omega)) (by rw[g2];exact g3.sep (by omega) (by omega))) (fun r ks' hR=>?_)
    obtain⟨rfl,r,hr,rfl⟩:=hR
    have hn2:Mg (LL (ltC c)) k n (q+1) r:=g3.next h1 h7 (by omega) (by omega) (by omega) (by rw[←g2];exact hr)
    conv=>whnf
    rw[e1,e3]
    refine⟨(a+2 * k,r),[0,1,2],⟨h7,q+1,by show a+2 * k=(q+1) * (2 * k);rw[Nat.succ_mul q (2 * k),←g2],hn2⟩,by show n - (a+2 * k)<n - a;omega,?_⟩
    conv=>whnf
    repeat'(first|exact ⟨⟩|exact rfl|exact subZ_self _|exact Or.inr rfl|exact fun _ _=>rfl|exact fun _ h=>absurd h (Nat.not_lt_zero _)|apply And.intro)
   ·have h7:n<a+2 * k:=by
     have h:¬ ((a+2 * k:Nat):Int)≤n:=of_decide_eq_false h7
     omega
    have e2:IntKind.i64.wrap ((a:Int)+(k:Int))=((a+k:Nat):Int):=by rw[w64_in _ (by omega)];omega
    have e4:IntKind.i64.wrap ((k:Int) * 2)=((2 * k:Nat):Int):=by rw[w64_in _ (by omega)];omega
    conv=>whnf
    rw[e2]
    refine⟨fun h8=>?_,fun h8=>?_⟩
    ·have h8:a+k<n:=by
      have h:((a+k:Nat):Int)<n:=of_decide_eq_true h8
      omega
     conv=>whnf
     refine .rel _ (sym_ok n hn z c g nf zf fo hg hw (2 * k+1) p a (a+k) n (by omega) g3.inj (by omega) h8 (Nat.le_refl _) (by rw[g2];exact g3.left (by omega)) (by rw[g2];exact g3.right (Nat.le_refl _) (by omega)) (by rw[g2];exact g3.sep (Nat.le_refl _) (by omega))) (fun r ks' hR=>?_)
     obtain⟨rfl,r,hr,rfl⟩:=hR
     have hn2:Mg (LL (ltC c)) k n (q+1) r:=g3.next h1 (Nat.le_refl _) (by omega) (by omega) (by omega) (by rw[←g2];exact hr)
     have ho:=hn2.over h1 (by rw[Nat.succ_mul,←g2];omega)
     conv=>whnf
     rw[e4]
     refine⟨(2 * k,r),[0,1,2],⟨show 0<2 * k by omega,show 2 * k≤20+2 * n by omega,hn2.inj,ho.1,ho.2⟩,by show n - 2 * k<n - k;omega,?_⟩
     conv=>whnf
     repeat'(first|exact ⟨⟩|exact rfl|exact subZ_self _|exact Or.inr rfl|exact fun _ _=>rfl|exact fun _ h=>absurd h (Nat.not_lt_zero _)|apply And.intro)
    ·have h8:n≤a+k:=by
      have h:¬ ((a+k:Nat):Int)<n:=of_decide_eq_false h8
      omega
     have ho:=g3.over h1 (by rw[←g2];exact h8)
     conv=>whnf
     rw[e4]
     refine⟨(2 * k,p),[0,1,2],⟨show 0<2 * k by omega,show 2 * k≤20+2 * n by omega,g3.inj,ho.1,ho.2⟩,by show n - 2 * k<n - k;omega,?_⟩
     conv=>whnf
     repeat'(first|exact ⟨⟩|exact rfl|exact subZ_self _|exact Or.inr rfl|exact fun _ _=>rfl|exact fun _ h=>absurd h (Nat.not_lt_zero _)|apply And.intro)
  ·have h6:n≤k:=by
    have h:¬ (k:Int)<n:=of_decide_eq_false h6
    omega
   conv=>whnf
   refine⟨[0,1,2],_,_,rfl,rfl,?_,?_,rfl,p,h3,h5.all h6,rfl⟩
   ·exact rfl
   ·conv=>whnf
    repeat'(first|exact ⟨⟩|exact rfl|exact subZ_self _|exact Or.inr rfl|exact fun _ _=>rfl|exact fun _ h=>absurd h (Nat.not_lt_zero _)|apply And.intro)
set_option maxHeartbeats 8000000 in
theorem sort_ok(n:Nat)(hn:n<1152921504606846976)(z:Z)(c:Nat→Nat→Int)(g:FuncId)(nf:Nat)(zf:Z)(fo:Nat→List DV)(hg:CmpOk g c n z nf zf fo)(hw:Weak n (ltC c)) :
 COk Try.prog 73 [.all 0,.fn g cCap] (rowP n z id :: cRest nf zf fo) (fun s k=>s = .tup []∧∃ r,Inj n r∧Rise (LL (ltC c)) r 0 n∧k=rowP n z r :: cRest nf zf fo):=by
 refine cOk_of_run (TT:=TT) (IN:=lookI []) TT_ok INok_nil mixed 1000 Try.func73 rfl (enters Try.func73 (by kernel_rfl) rfl) 7 (by kernel_rfl) ?_
 conv=>whnf
 refine .rel _ (stable_ok n hn z c g nf zf fo hg hw) (fun r ks' hR=>?_)
 obtain⟨rfl,r,hr,h2,rfl⟩:=hR
 conv=>whnf
 refine⟨[0,1,2],_,_,rfl,rfl,?_,?_,rfl,r,hr,h2,rfl⟩
 ·exact rfl
 ·conv=>whnf
  repeat'(first|exact ⟨⟩|exact rfl|exact subZ_self _|exact Or.inr rfl|exact fun _ _=>rfl|exact fun _ h=>absurd h (Nat.not_lt_zero _)|apply And.intro)
end Go.Proofs.Ytnfoihdifohkeaa
namespace Go.Proofs.Ytnfoihdifohkeaa
open Go Go.Eng
def eCap:List SV:=[.ptr 1 0]
def eRest(nf:Nat)(zf:Z)(fo:Nat→List DV):List KB:=[.cells 152 [.fn 71 [.ptr 2 0]],.cells 36 [.all 3],.row 9 1 nf zf fo]
def EqOk(g:FuncId)(F:Nat→List UInt8)(n:Nat)(z:Z)(nf:Nat)(zf:Z)(fo:Nat→List DV):Prop :=
 ∀ (q:Nat→Nat) (x y:Nat),x<n→y<n→COk Try.prog g (iV x :: iV y :: eCap) (rowP n z q :: eRest nf zf fo) (fun s k=>s = .d (.bool (decide (F x=F y)))∧k=rowP n z q :: eRest nf zf fo)
def over(K:List Nat)(p:Nat→Nat):Nat→Nat:=fun i=>if i<K.length then K.getD i 0 else p i
theorem kept_all{F:Nat→List UInt8}{p:Nat→Nat}:∀ k,(∀ i,0<i→i<k→F (p i)≠F (p (i - 1)))→kept F p k=(List.range k).map p
 |0=>fun _=>rfl
 |k+1=>fun h=>by
  unfold kept
  rw[kept_all k (fun i h1 h2=>h i h1 (by omega)),List.range_succ,List.map_append]
  rw[if_pos]
  ·rfl
  ·rcases Nat.eq_zero_or_pos k with e|e
   ·exact .inl e
   ·exact .inr (h k e (by omega))
theorem over_all{p:Nat→Nat}(k:Nat):over ((List.range k).map p) p=p:=by
 funext i;unfold over
 rw[List.length_map,List.length_range]
 split
 ·rename_i h;simp[List.getD,List.getElem?_range h]
 ·rfl
theorem over_put{F:Nat→List UInt8}{p:Nat→Nat}{m:Nat}(hne:F (p m)≠F (p (m - 1))):upd (over (kept F p m) p) (kept F p m).length (p m)=over (kept F p (m+1)) p:=by
 have e:kept F p (m+1)=kept F p m++[p m]:=by
  conv=>lhs;unfold kept
  rw[if_pos (.inr hne)]
 rw[e]
 funext i;unfold upd over
 simp only[List.length_append,List.length_cons,List.length_nil]
 by_cases h1:i=(kept F p m).length
 ·rw[if_pos h1,if_pos (by omega),h1];simp[List.getD]
 ·rw[if_neg h1]
  by_cases h2:i<(kept F p m).length
  ·rw[if_pos h2,if_pos (by omega)];simp[List.getD,List.getElem?_append_left h2]
  ·rw[if_neg h2,if_neg (by omega)]
theorem kept_same{F:Nat→List UInt8}{p:Nat→Nat}{m:Nat}(h0:0<m)(he:F (p m)=F (p (m - 1))):kept F p (m+1)=kept F p m:=by
 conv=>lhs;unfold kept
 rw[if_neg]
 rintro (h|h)
 ·omega
 ·exact h he
set_option maxRecDepth 100000
set_option maxHeartbeats 8000000 in
theorem compact_ok(n:Nat)(hn:n<1152921504606846976)(z:Z)(F:Nat→List UInt8)(g:FuncId)(nf:Nat)(zf:Z)(fo:Nat→List DV)(hg:EqOk g F n z nf zf fo)(p:Nat→Nat)(hp:Inj n p) :
 COk Try.prog 74 [.all 0,.fn g eCap] (rowP n z p :: eRest nf zf fo) (fun s k=>((s = .all 0∧(kept F p n).length=n)∨s = .row 0 0 (kept F p n).length)∧∃ q,(∀ i,i<(kept F p n).length→q i=(kept F p n).getD i 0)∧k=rowP n z q :: eRest nf zf fo):=by
 refine cOk_of_run (TT:=TT) (IN:=lookI []) TT_ok INok_nil mixed 1000 Try.func74 rfl (enters Try.func74 (by kernel_rfl) rfl) 64 (by kernel_rfl) ?_
 conv=>whnf
 refine⟨fun h2=>?_,fun h2=>?_⟩
 ·have h2:n<2:=by
   have h:(n:Int)<2:=of_decide_eq_true h2
   omega
  have hk:kept F p n=(List.range n).map p:=kept_all n (fun i x1 x2=>by omega)
  conv=>whnf
  refine⟨[0,1,2,3],_,_,rfl,rfl,?_,?_,.inl ⟨rfl,by rw[hk];simp⟩,p,fun i hi=>?_,rfl⟩
  ·exact rfl
  ·conv=>whnf
   repeat'(first|exact ⟨⟩|exact rfl|exact subZ_self _|exact Or.inr rfl|exact fun _ _=>rfl|exact fun _ h=>absurd h (Nat.not_lt_zero _)|apply And.intro)
  ·rw [hk] at hi ⊢
   simp at hi
   simp[List.getD,List.getElem?_range hi]
 have h2:2≤n:=by
  have h:¬ (n:Int)<2:=of_decide_eq_false h2
  omega
 conv=>whnf
 refine .inv Nat (fun k=>1≤k∧k≤n∧∀ i,0<i→i<k→F (p i)≠F (p (i - 1))) (fun k=>[(5,iV k)]) (fun k=>[]) (fun k=>n - k) ⟨1,[0,1,2,3],⟨by omega,by omega,fun i h1 h2=>by omega⟩,?_⟩ ?_
 ·conv=>whnf
  repeat'(first|exact ⟨⟩|exact rfl|exact subZ_self _|exact Or.inr rfl|exact fun _ _=>rfl|exact fun _ h=>absurd h (Nat.not_lt_zero _)|apply And.intro)
 intro k hk
 obtain⟨k1,k2,k3⟩:=hk
 conv=>whnf
 refine⟨fun h3=>?_,fun h3=>?_⟩
 ·have h3:k<n:=by
   have h:(k:Int)<n:=of_decide_eq_true h3
   omega
  have e1:IntKind.i64.wrap ((k:Int) - 1)=((k - 1:Nat):Int):=by rw[w64_in _ (by omega)];omega
  have e2:IntKind.i64.wrap ((k:Int)+1)=((k+1:Nat):Int):=by rw[w64_in _ (by omega)];omega
  conv=>whnf
  refine⟨by omega,?_⟩
  conv=>whnf
  rw[e1]
  refine⟨by omega,?_⟩
  conv=>whnf
  rw[Int.toNat_natCast,Int.toNat_natCast]
  refine .mem _ _ (hg _ _ _ (hp.lt k h3) (hp.lt (k - 1) (by omega))) ?_
  conv=>whnf
  refine⟨fun h4=>?_,fun h4=>?_⟩
  ·have h4:F (p k)=F (p (k - 1)):=of_decide_eq_true h4
   have hk0:kept F p (k+1)=(List.range k).map p:=by rw[kept_same k1 h4,kept_all k k3]
   conv=>whnf
   refine⟨by omega,?_⟩
   conv=>whnf
   refine .inv Nat (fun j=>1≤j∧k+j≤n∧(kept F p (k+j)).length<k+j) (fun j=>[(5,iV (kept F p (k+j)).length),(7,iV j)]) (fun j=>[(0,rowP n z (over (kept F p (k+j)) p))]) (fun j=>n - j) ⟨1,[0,1,2,3],⟨by omega,by omega,by rw[hk0];simp⟩,?_⟩ ?_
   ·rw[hk0,over_all]
    conv=>whnf
    rw[List.length_map,List.length_range]
    repeat'(first|exact ⟨⟩|exact rfl|exact subZ_self _|exact Or.inr rfl|exact fun _ _=>rfl|exact fun _ h=>absurd h (Nat.not_lt_zero _)|apply And.intro)
   intro j hj
   obtain⟨j1,j2,j3⟩:=hj
   conv=>whnf
   refine⟨fun h5=>?_,fun h5=>?_⟩
   ·have e3:IntKind.i64.wrap ((j:Int) - 1)=((j - 1:Nat):Int):=by rw[w64_in _ (by omega)];omega
    have e4:IntKind.i64.wrap ((j:Int)+1)=((j+1:Nat):Int):=by rw[w64_in _ (by omega)];omega
    have h5:k+j<n:=by
     have h:(j:Int)<(((n:Int) - k).toNat:Nat):=of_decide_eq_true h5
     omega
    have r1:over (kept F p (k+j)) p (k+j)=p (k+j):=by unfold over;rw[if_neg (by omega)]
    have r2:over (kept F p (k+j)) p (k+(j - 1))=p (k+j - 1):=by unfold over;rw[if_neg (by omega),show k+(j - 1)=k+j - 1 by omega]
    conv=>whnf
    refine⟨by omega,?_⟩
    conv=>whnf
    rw[e3]
    refine⟨by omega,?_⟩
    conv=>whnf
    rw[Int.toNat_natCast,Int.toNat_natCast,Int.toNat_natCast,r1,r2]
    refine .mem _ _ (hg _ _ _ (hp.lt (k+j) (by omega)) (hp.lt (k+j - 1) (by omega))) ?_
    conv=>whnf
    refine⟨fun h6=>?_,fun h6=>?_⟩
    ·have h6:F (p (k+j))≠F (p (k+j - 1)):=by
      have h7:(!(decide (F (p (k+j))=F (p (k+j - 1)))))=true:=h6
      simpa using h7
     have r3:over (kept F p (k+j)) p (k+j)=p (k+j):=r1
     have h8:(kept F p (k+(j+1))).length=(kept F p (k+j)).length+1:=by
      show(kept F p (k+j+1)).length=_
      conv=>lhs;unfold kept
      rw[if_pos (.inr h6)];simp
     have e5:IntKind.i64.wrap (((kept F p (k+j)).length:Int)+1)=(((kept F p (k+j)).length+1:Nat):Int):=by rw[w64_in _ (by omega)];omega
     conv=>whnf
     refine⟨by omega,?_⟩
     conv=>whnf
     rw[Int.toNat_natCast,r1]
     refine⟨by omega,?_⟩
     conv=>whnf
     rw[e4,e5]
     refine⟨j+1,[0,1,2,3],⟨by omega,by omega,?_⟩,by omega,?_⟩
     ·rw[h8];omega
     rw[h8]
     conv=>whnf
     repeat'(first|exact ⟨⟩|exact rfl|exact subZ_self _|exact Or.inr rfl|exact fun _ _=>rfl|exact fun _ h=>absurd h (Nat.not_lt_zero _)|apply And.intro)
     intro x hx
     rw[Int.toNat_natCast]
     have h9:=oneF_cel (over (kept F p (k+j)) p) (kept F p (k+j)).length (p (k+j))
     rw [over_put h6] at h9
     exact congrFun h9 x
    ·have h6:F (p (k+j))=F (p (k+j - 1)):=by
      have h7:(!(decide (F (p (k+j))=F (p (k+j - 1)))))=false:=h6
      simpa using h7
     have h7:=kept_same (by omega) h6
     conv=>whnf
     rw[e4]
     refine⟨j+1,[0,1,2,3],⟨by omega,by omega,?_⟩,by omega,?_⟩
     ·show(kept F p (k+j+1)).length<k+j+1
      rw[h7];omega
     rw[show kept F p (k+(j+1))=kept F p (k+j) from h7]
     conv=>whnf
     repeat'(first|exact ⟨⟩|exact rfl|exact subZ_self _|exact Or.inr rfl|exact fun _ _=>rfl|exact fun _ h=>absurd h (Nat.not_lt_zero _)|apply And.intro)
   ·have h5:k+j=n:=by
     have h:¬ (j:Int)<(((n:Int) - k).toNat:Nat):=of_decide_eq_false h5
     omega
    rw [h5] at j3 ⊢
    conv=>whnf
    refine⟨by omega,?_⟩
    conv=>whnf
    refine⟨by omega,?_⟩
    conv=>whnf
    refine⟨by omega,?_⟩
    conv=>whnf
    rw[Int.toNat_natCast]
    refine⟨[0,1,2,3],_,_,rfl,rfl,?_,?_,.inr rfl,fun i=>if i<(kept F p n).length then (kept F p n).getD i 0 else 0,fun i hi=>if_pos hi,rfl⟩
    ·exact rfl
    ·conv=>whnf
     repeat'(first|exact ⟨⟩|exact rfl|exact subZ_self _|exact Or.inr rfl|exact fun _ _=>rfl|exact fun _ h=>absurd h (Nat.not_lt_zero _)|apply And.intro)
     intro x hx
     unfold midF over
     dsimp only
     by_cases hxk:x<(kept F p n).length
     ·rw[if_neg (by omega),if_pos hxk,if_pos hxk]
     ·rw[if_pos (by omega),if_neg hxk];rfl
  ·have h4:F (p k)≠F (p (k - 1)):=of_decide_eq_false h4
   conv=>whnf
   rw[e2]
   refine⟨k+1,[0,1,2,3],⟨by omega,by omega,fun i x1 x2=>?_⟩,by omega,?_⟩
   ·rcases Nat.lt_or_ge i k with x|x
    ·exact k3 i x1 x
    ·rw[show i=k by omega];exact h4
   conv=>whnf
   repeat'(first|exact ⟨⟩|exact rfl|exact subZ_self _|exact Or.inr rfl|exact fun _ _=>rfl|exact fun _ h=>absurd h (Nat.not_lt_zero _)|apply And.intro)
 ·have h3:k=n:=by
   have h:¬ (k:Int)<n:=of_decide_eq_false h3
   omega
  subst h3
  have hk:=kept_all k k3
  conv=>whnf
  refine⟨[0,1,2,3],_,_,rfl,rfl,?_,?_,.inl ⟨rfl,by rw[hk];simp⟩,p,fun i hi=>?_,rfl⟩
  ·exact rfl
  ·conv=>whnf
   repeat'(first|exact ⟨⟩|exact rfl|exact subZ_self _|exact Or.inr rfl|exact fun _ _=>rfl|exact fun _ h=>absurd h (Nat.not_lt_zero _)|apply And.intro)
  ·rw [hk] at hi ⊢
   simp at hi
   simp[List.getD,List.getElem?_range hi]
end Go.Proofs.Ytnfoihdifohkeaa
namespace Go.Proofs.Ytnfoihdifohkeaa
open Go Go.Eng
theorem strcmp_ok(a b:List UInt8):FnOk Try.prog 72 [.d (.str a),.d (.str b)] (.d (.int .i64 (Lib.compareBytes a b))):=by
 refine⟨enters Try.func72 (by kernel_rfl) rfl,fun M w vs _ hM hl hd=>?_⟩
 match vs,hl with
 |[v0,v1],_ =>
  have h0:=den_str (hd 0 _ v0 rfl rfl)
  have h1:=den_str (hd 1 _ v1 rfl rfl)
  subst h0 h1
  refine(Try.strings_Compare ⟨a.toArray⟩ ⟨b.toArray⟩ w).mono ?_
  rintro e w' ⟨rfl,rfl⟩
  exact⟨_,rfl,Step.refl _ _,.d (by simpa using Rd.int _ _)⟩
def fT(fl:List (List UInt8))(i:Nat):List UInt8:=fl[i]?.getD []
set_option maxRecDepth 100000
set_option maxHeartbeats 4000000 in
theorem cmp1_ok(fl:List (List UInt8))(z zf:Z):CmpOk 71 (fun x y=>Lib.compareBytes (fT fl x) (fT fl y)) fl.length z fl.length zf (strs fl):=by
 intro q x y hx hy
 refine cOk_of_run (TT:=TT) (IN:=lookI []) TT_ok INok_nil mixed 1000 Try.func71 rfl (enters Try.func71 (by kernel_rfl) rfl) 12 (by kernel_rfl) ?_
 conv=>whnf
 refine⟨by omega,?_⟩
 conv=>whnf
 refine⟨by omega,?_⟩
 conv=>whnf
 rw[Int.toNat_natCast,Int.toNat_natCast]
 refine .data _ (strcmp_ok _ _) rfl rfl ?_
 conv=>whnf
 refine⟨[0,1,2],_,_,rfl,rfl,?_,?_,rfl,rfl⟩
 ·exact rfl
 ·conv=>whnf
  repeat'(first|exact ⟨⟩|exact rfl|exact subZ_self _|exact Or.inr rfl|exact fun _ _=>rfl|exact fun _ h=>absurd h (Nat.not_lt_zero _)|apply And.intro)
set_option maxHeartbeats 4000000 in
theorem cmp2_ok(fl:List (List UInt8))(z zf:Z):EqOk 75 (fT fl) fl.length z fl.length zf (strs fl):=by
 intro q x y hx hy
 refine cOk_of_run (TT:=TT) (IN:=lookI [(71,Try.f71,3)]) TT_ok (INok_cons INok_nil Try.func71 (by kernel_rfl) (by kernel_rfl)) mixed 1000 Try.func75 rfl (enters Try.func75 (by kernel_rfl) rfl) 8 (by kernel_rfl) ?_
 conv=>whnf
 refine⟨by omega,?_⟩
 conv=>whnf
 refine⟨by omega,?_⟩
 conv=>whnf
 rw[Int.toNat_natCast,Int.toNat_natCast]
 refine .data _ (strcmp_ok _ _) rfl rfl ?_
 conv=>whnf
 rw[show(Lib.compareBytes (fl[x]?.getD []) (fl[y]?.getD []) == 0)=decide (fT fl x=fT fl y) by
  unfold fT
  rw[Bool.eq_iff_iff,beq_iff_eq,decide_eq_true_iff]
  exact cmp_eq0 _ _]
 refine⟨[0,1,2,3],_,_,rfl,rfl,?_,?_,rfl,rfl⟩
 ·exact rfl
 ·conv=>whnf
  repeat'(first|exact ⟨⟩|exact rfl|exact subZ_self _|exact Or.inr rfl|exact fun _ _=>rfl|exact fun _ h=>absurd h (Nat.not_lt_zero _)|apply And.intro)
end Go.Proofs.Ytnfoihdifohkeaa
namespace Go.Proofs.Ytnfoihdifohkeaa
open Go Go.Eng
def minOf(a:Int)(l:List RR):Int:=l.foldl (fun a r=>if r.ttl<a then r.ttl else a) a
def buildD(t:Int)(l:List RR):List (List UInt8):=(firstsOf (rfold t) (l.map (·.d))).take 64
def datOf(l:List RR)(K:List Nat):List (List UInt8):=K.map fun i=>(l.getD i default).d
def foldsOf(t:Int)(l:List RR):List (List UInt8):=l.map fun r=>rfold t r.d
theorem kept_congr{F G:Nat→List UInt8}{p:Nat→Nat}:∀ n,(∀ i,i<n→F (p i)=G (p i))→kept F p n=kept G p n
 |0=>fun _=>rfl
 |n+1=>fun h=>by
  unfold kept
  rw[kept_congr n (fun i hi=>h i (by omega)),h n (by omega),h (n - 1) (by omega)]
theorem build_law{t:Int}{l:List RR}{p:Nat→Nat}(hp:Inj l.length p)(hr:Rise (LL (ltF (fT (foldsOf t l)))) p 0 l.length):datOf l (kept (fT (foldsOf t l)) p l.length)=firstsOf (rfold t) (l.map (·.d)):=by
 have hF:∀ i,i<l.length→fT (foldsOf t l) i=rfold t ((l.map (·.d))[i]?.getD []):=fun i hi=>by
  simp[fT,foldsOf,List.getElem?_map,List.getElem?_eq_getElem hi]
 have hxl:(l.map (·.d)).length=l.length:=by simp
 have h1:=kept_firsts (F:=rfold t) (xs:=l.map (·.d)) (p:=p) (hxl ▸ hp) (by
  rw[hxl]
  intro i j hi hij hj
  have:=hr i j hi hij hj
  unfold LL ltF at this ⊢
  rw [hF _ (hp.lt i (by omega)),hF _ (hp.lt j hj)] at this
  exact this)
 have h2:=firsts_of (rfold t) (l.map (·.d))
 rw[h1.uniq h2 |>.symm]
 rw[hxl,←kept_congr (F:=fT (foldsOf t l)) (G:=fun i=>rfold t ((l.map (·.d))[i]?.getD [])) l.length (fun i hi=>hF _ (hp.lt i hi))]
 unfold datOf
 apply List.map_congr_left
 intro a ha
 obtain⟨i,hi,e,_⟩:=(kept_spec hp hr l.length (Nat.le_refl _)).2.1 a ha
 have:=hp.lt i hi
 rw[e]
 simp[List.getD,List.getElem?_map,List.getElem?_eq_getElem this]
theorem datOf_next{l:List RR}{K:List Nat}{j:Nat}(h:j<K.length):datOf l (K.take (j+1))=datOf l (K.take j)++[(l.getD (K.getD j 0) default).d]:=by
 have e:K.take (j+1)=K.take j++[K.getD j 0]:=by
  rw[List.take_add_one,List.getD,List.getElem?_eq_getElem h];rfl
 rw[e]
 unfold datOf
 rw[List.map_append];rfl
set_option maxRecDepth 100000
set_option maxHeartbeats 8000000 in
theorem build_ok(nm:List UInt8)(t:Int)(z:Bool)(l:List RR)(h0:0<l.length)(hn:l.length≤100000):FnOk Try.prog 49 [.d (.str nm),.d (.int .u16 t),.d (rrsD z l)] (setV nm t (minOf (l.getD 0 default).ttl l) false (buildD t l)):=by
 refine fnOk_of_run (TT:=TT) (IN:=lookI []) TT_ok INok_nil mixed 1000 Try.func49 rfl (enters Try.func49 (by kernel_rfl) rfl) rfl 79 (by kernel_rfl) ?_
 conv=>whnf
 refine⟨by omega,?_⟩
 conv=>whnf
 refine⟨⟨by omega,by omega,by show(l.length:Int) * 16≤_;omega,by omega⟩,?_⟩
 conv=>whnf
 refine⟨⟨by omega,by omega,by show(l.length:Int) * 8≤_;omega,by omega⟩,?_⟩
 conv=>whnf
 refine .inv Nat (fun i=>i≤l.length) (fun i=>[(30,iV i),(9,.all 4),(24,.any),(27,.any)]) (fun i=>[(1,.cells 38 [.d (.str nm),.d (.int .u16 t),.d (.int .u32 (minOf (l.getD 0 default).ttl (l.take i))),nilS]),(2,.row 9 1 i .no (strs (foldsOf t (l.take i)))),(4,rowP i .no id)]) (fun i=>l.length - i) ⟨0,[0,1,2,3,4],Nat.zero_le _,?_⟩ ?_
 ·conv=>whnf
  repeat'(first|exact ⟨⟩|exact rfl|exact subZ_self _|exact Or.inr rfl|exact fun _ _=>rfl|exact fun _ h=>absurd h (Nat.not_lt_zero _)|apply And.intro)
 intro i hi
 conv=>whnf
 refine⟨fun h1=>?_,fun h1=>?_⟩
 ·have h1:i<l.length:=by
   have h:(i:Int)<l.length:=of_decide_eq_true h1
   omega
  obtain⟨r,hr⟩:∃ r,l.getD i default=r:=⟨_,rfl⟩
  conv=>whnf
  refine⟨by omega,?_⟩
  conv=>whnf
  refine .data _ (rfold_ok t _) rfl rfl ?_
  conv=>whnf
  refine⟨by omega,?_⟩
  conv=>whnf
  refine⟨by omega,?_⟩
  conv=>whnf
  rw[show IntKind.i64.wrap ((i:Int)+1)=((i+1:Nat):Int) by rw[w64_in _ (by omega)];omega]
  rw[Int.toNat_natCast,hr]
  refine⟨i+1,[0,1,7,3,9],h1,by omega,?_⟩
  have htk:l.take (i+1)=l.take i++[r]:=by rw[List.take_add_one,←hr,List.getD,List.getElem?_eq_getElem h1];rfl
  have hmin:minOf (l.getD 0 default).ttl (l.take (i+1))=(if r.ttl<minOf (l.getD 0 default).ttl (l.take i) then r.ttl else minOf (l.getD 0 default).ttl (l.take i)):=by
   rw[htk];unfold minOf;rw[List.foldl_append];rfl
  have hfo:foldsOf t (l.take (i+1))=foldsOf t (l.take i)++[rfold t r.d]:=by rw[htk];simp[foldsOf]
  have hfl:(foldsOf t (l.take i)).length=i:=by simp[foldsOf];omega
  rw[hmin,hfo]
  conv=>whnf
  repeat'(first|exact ⟨⟩|exact rfl|exact subZ_self _|exact Or.inr rfl|exact fun _ _=>rfl|exact fun _ h=>absurd h (Nat.not_lt_zero _)|apply And.intro)
  ·intro x hx
   have:=strs_cat (foldsOf t (l.take i)) (rfold t r.d) (chunk [DV.str (rfold t r.d)] 1) rfl x (by omega)
   rw [hfl] at this
   exact this
  ·intro x hx
   show catF i (fun i=>cel i) _ x=cel x
   unfold catF
   by_cases hxi:x<i
   ·rw[if_pos hxi]
   ·have:x=i:=by omega
    subst this
    rw[if_neg hxi,Nat.sub_self];rfl
 ·have h1:i=l.length:=by
   have h:¬ (i:Int)<l.length:=of_decide_eq_false h1
   omega
  subst h1
  rw[List.take_length]
  have hfl:(foldsOf t l).length=l.length:=by simp[foldsOf]
  have hw:=ltF_weak l.length (fT (foldsOf t l))
  have hlt:ltC (fun x y=>Lib.compareBytes (fT (foldsOf t l) x) (fT (foldsOf t l) y))=ltF (fT (foldsOf t l)):=by
   funext x y
   unfold ltC ltF
   rw[Bool.eq_iff_iff,decide_eq_true_iff]
   exact cmp_lt _ _
  have hc1:=cmp1_ok (foldsOf t l) .no .no
  have hc2:=cmp2_ok (foldsOf t l) .no .no
  rw [hfl] at hc1 hc2
  have hsort:=sort_ok l.length (by omega) .no _ _ _ _ _ hc1 (by rw[hlt];exact hw)
  rw [hlt] at hsort
  conv=>whnf
  refine .rel _ (COk.frameX hsort [4,3,2] rfl rfl rfl) (fun r ks' hR=>?_)
  obtain⟨_,_,⟨rfl,p,hp,hrise,rfl⟩,rfl,hk0⟩:=hR
  have hk:ks'=[.cells 38 [.d (.str []),.d (.int .u16 0),.d (.int .u32 0),nilS],.cells 38 [.d (.str nm),.d (.int .u16 t),.d (.int .u32 (minOf (l.getD 0 default).ttl l)),nilS],.row 9 1 l.length .no (strs (foldsOf t l)),.cells 36 [.all 2],rowP l.length .no p,.cells 152 [.fn 71 [.ptr 3 0]]]:=hk0
  clear hk0
  subst hk
  conv=>whnf
  refine .rel _ (COk.frameX (compact_ok l.length (by omega) .no _ _ _ _ _ hc2 p hp) [4,5,3,2] rfl rfl rfl) (fun r ks' hR=>?_)
  obtain⟨_,_,⟨hres,q,hq,rfl⟩,hr,hk0⟩:=hR
  have hk:ks'=[.cells 38 [.d (.str []),.d (.int .u16 0),.d (.int .u32 0),nilS],.cells 38 [.d (.str nm),.d (.int .u16 t),.d (.int .u32 (minOf (l.getD 0 default).ttl l)),nilS],.row 9 1 l.length .no (strs (foldsOf t l)),.cells 36 [.all 2],rowP l.length .no q,.cells 152 [.fn 71 [.ptr 3 0]]]:=hk0
  clear hk0
  subst hk
  have hkl:=kept_le (fT (foldsOf t l)) p l.length
  have hKlt:∀ j,j<(kept (fT (foldsOf t l)) p l.length).length→(kept (fT (foldsOf t l)) p l.length).getD j 0<l.length:=fun j hj=>by
   have hs:=(kept_spec hp hrise l.length (Nat.le_refl _)).2.1 _ (List.getElem_mem hj)
   obtain⟨i,hi,e,_⟩:=hs
   rw[List.getD,List.getElem?_eq_getElem hj]
   show(kept (fT (foldsOf t l)) p l.length)[j]<l.length
   rw[e]
   exact hp.lt i hi
  have hlaw:=build_law hp hrise
  have hpos:=kept_pos (fT (foldsOf t l)) p l.length h0
  generalize hK:kept (fT (foldsOf t l)) p l.length=K at hres hq hkl hKlt hlaw hpos
  have hlaw2:datOf l (K.take 64)=buildD t l:=by unfold buildD;rw[←hlaw];unfold datOf;rw[List.map_take]
  have hr2:(r = .all 4∧K.length=l.length)∨r = .row 4 0 K.length:=by
   rcases hres with⟨e,h⟩|e
   ·subst e;exact .inl ⟨hr,h⟩
   ·subst e;exact .inr hr
  clear hr hres hc1 hc2 hsort
  rcases hr2 with⟨rfl,hres⟩|rfl
  ·conv=>whnf
   have em:(if (64:Int)<(l.length:Int) then (64:Int) else (l.length:Int))=((min K.length 64:Nat):Int):=by split <;> omega
   rw[em]
   refine⟨by omega,?_⟩
   conv=>whnf
   refine .nilC 1 3 9 1 (strs []) _ _ _ _ rfl rfl ?_
   conv=>whnf
   refine .inv Nat (fun j=>j≤min K.length 64) (fun j=>[(66,iV j)]) (fun j=>[(1,.cells 38 [.d (.str nm),.d (.int .u16 t),.d (.int .u32 (minOf (l.getD 0 default).ttl l)),.all 6]),(6,.row 9 1 j .iff (strs (datOf l (K.take j))))]) (fun j=>min K.length 64 - j) ⟨0,[0,1,2,3,4,5,6],Nat.zero_le _,?_⟩ ?_
   ·conv=>whnf
    repeat'(first|exact ⟨⟩|exact rfl|exact subZ_self _|exact Or.inr rfl|exact fun _ _=>rfl|exact fun _ h=>absurd h (Nat.not_lt_zero _)|apply And.intro)
   intro j hj
   conv=>whnf
   refine⟨fun h1=>?_,fun h1=>?_⟩
   ·have h1:j<min K.length 64:=by
     have h:(j:Int)<((min K.length 64:Nat):Int):=of_decide_eq_true h1
     omega
    have hqj:=hq j (by omega)
    have hlt:=hKlt j (by omega)
    rw [←hqj] at hlt
    conv=>whnf
    refine⟨by omega,?_⟩
    conv=>whnf
    first
     |rw[show 0+Int.toNat 0+(j:Int).toNat=j by simp]
     |rw[show Int.toNat 0+(j:Int).toNat=j by simp]
    generalize q j=v at hlt hqj ⊢
    refine⟨by omega,?_⟩
    conv=>whnf
    refine⟨by omega,?_⟩
    conv=>whnf
    rw[show IntKind.i64.wrap ((j:Int)+1)=((j+1:Nat):Int) by rw[w64_in _ (by omega)];omega]
    rw[Int.toNat_natCast,hqj]
    have hdt:=datOf_next (l:=l) (K:=K) (j:=j) (by omega)
    have hdl:(datOf l (K.take j)).length=j:=by unfold datOf;simp;omega
    refine⟨j+1,[0,1,2,3,4,5,8],h1,by omega,?_⟩
    rw[hdt]
    conv=>whnf
    repeat'(first|exact ⟨⟩|exact rfl|exact subZ_self _|exact Or.inr rfl|exact fun _ _=>rfl|exact fun _ h=>absurd h (Nat.not_lt_zero _)|apply And.intro)
    intro x hx
    have:=strs_cat (datOf l (K.take j)) ((l.getD (K.getD j 0) default).d) (chunk [DV.str (l.getD (K.getD j 0) default).d] 1) rfl x (by omega)
    rw [hdl] at this
    exact this
   ·have h1:j=min K.length 64:=by
     have h:¬ (j:Int)<((min K.length 64:Nat):Int):=of_decide_eq_false h1
     omega
    have htk:K.take j=K.take 64:=by
     rw[h1]
     rcases Nat.le_total K.length 64 with x|x
     ·rw[Nat.min_eq_left x,List.take_length,List.take_of_length_le x]
     ·rw[Nat.min_eq_right x]
    rw[htk,hlaw2]
    have hbl:(buildD t l).length=j:=by rw[←hlaw2];unfold datOf;simp;omega
    have hj0:0<j:=by omega
    rw [←hbl] at hj0 ⊢
    conv=>whnf
    repeat'(first|exact ⟨⟩|exact rfl|exact⟨rfl,rfl,.inr rfl,fun _ _=>rfl⟩|exact⟨rfl,rfl,.inl rfl,fun i hi=>absurd hi (Nat.not_lt_zero _)⟩|apply And.intro)
    ·generalize (buildD t l).length=k at hj0
     cases k with
     |zero=>omega
     |succ k=>rfl
    ·exact .inr rfl
    ·exact fun _ _=>rfl
  ·conv=>whnf
   have em:(if (64:Int)<(K.length:Int) then (64:Int) else (K.length:Int))=((min K.length 64:Nat):Int):=by split <;> omega
   rw[em]
   refine⟨by omega,?_⟩
   conv=>whnf
   refine .nilC 1 3 9 1 (strs []) _ _ _ _ rfl rfl ?_
   conv=>whnf
   refine .inv Nat (fun j=>j≤min K.length 64) (fun j=>[(66,iV j)]) (fun j=>[(1,.cells 38 [.d (.str nm),.d (.int .u16 t),.d (.int .u32 (minOf (l.getD 0 default).ttl l)),.all 6]),(6,.row 9 1 j .iff (strs (datOf l (K.take j))))]) (fun j=>min K.length 64 - j) ⟨0,[0,1,2,3,4,5,6],Nat.zero_le _,?_⟩ ?_
   ·conv=>whnf
    repeat'(first|exact ⟨⟩|exact rfl|exact subZ_self _|exact Or.inr rfl|exact fun _ _=>rfl|exact fun _ h=>absurd h (Nat.not_lt_zero _)|apply And.intro)
   intro j hj
   conv=>whnf
   refine⟨fun h1=>?_,fun h1=>?_⟩
   ·have h1:j<min K.length 64:=by
     have h:(j:Int)<((min K.length 64:Nat):Int):=of_decide_eq_true h1
     omega
    have hqj:=hq j (by omega)
    have hlt:=hKlt j (by omega)
    rw [←hqj] at hlt
    conv=>whnf
    refine⟨by omega,?_⟩
    conv=>whnf
    first
     |rw[show 0+Int.toNat 0+(j:Int).toNat=j by simp]
     |rw[show Int.toNat 0+(j:Int).toNat=j by simp]
    generalize q j=v at hlt hqj ⊢
    refine⟨by omega,?_⟩
    conv=>whnf
    refine⟨by omega,?_⟩
    conv=>whnf
    rw[show IntKind.i64.wrap ((j:Int)+1)=((j+1:Nat):Int) by rw[w64_in _ (by omega)];omega]
    rw[Int.toNat_natCast,hqj]
    have hdt:=datOf_next (l:=l) (K:=K) (j:=j) (by omega)
    have hdl:(datOf l (K.take j)).length=j:=by unfold datOf;simp;omega
    refine⟨j+1,[0,1,2,3,4,5,8],h1,by omega,?_⟩
    rw[hdt]
    conv=>whnf
    repeat'(first|exact ⟨⟩|exact rfl|exact subZ_self _|exact Or.inr rfl|exact fun _ _=>rfl|exact fun _ h=>absurd h (Nat.not_lt_zero _)|apply And.intro)
    intro x hx
    have:=strs_cat (datOf l (K.take j)) ((l.getD (K.getD j 0) default).d) (chunk [DV.str (l.getD (K.getD j 0) default).d] 1) rfl x (by omega)
    rw [hdl] at this
    exact this
   ·have h1:j=min K.length 64:=by
     have h:¬ (j:Int)<((min K.length 64:Nat):Int):=of_decide_eq_false h1
     omega
    have htk:K.take j=K.take 64:=by
     rw[h1]
     rcases Nat.le_total K.length 64 with x|x
     ·rw[Nat.min_eq_left x,List.take_length,List.take_of_length_le x]
     ·rw[Nat.min_eq_right x]
    rw[htk,hlaw2]
    have hbl:(buildD t l).length=j:=by rw[←hlaw2];unfold datOf;simp;omega
    have hj0:0<j:=by omega
    rw [←hbl] at hj0 ⊢
    conv=>whnf
    repeat'(first|exact ⟨⟩|exact rfl|exact⟨rfl,rfl,.inr rfl,fun _ _=>rfl⟩|exact⟨rfl,rfl,.inl rfl,fun i hi=>absurd hi (Nat.not_lt_zero _)⟩|apply And.intro)
    ·generalize (buildD t l).length=k at hj0
     cases k with
     |zero=>omega
     |succ k=>rfl
    ·exact .inr rfl
    ·exact fun _ _=>rfl
end Go.Proofs.Ytnfoihdifohkeaa
namespace Go.Proofs.Ytnfoihdifohkeaa
open Go Go.Eng
def rightR(r:RR):Bool:=r.cl == 1 && r.check
def rightV(z:Bool)(l:List RR):SV:=.fn 70 [.dptr [rrsD z l] 0]
set_option maxRecDepth 100000
theorem sright_ok(z:Bool)(l:List RR):FnOk Try.prog 48 [.d (rrsD z l)] (rightV z l):=by
 refine COk.clos (t:=47) ?_
 refine cOk_of_run (TT:=TT) (IN:=lookI []) TT_ok INok_nil mixed 1000 Try.func48 rfl (enters Try.func48 (by kernel_rfl) rfl) 3 (by kernel_rfl) ?_
 conv=>whnf
 refine⟨[0],.fn 70 [.ptr 0 0],[.cells 47 [.d (rrsD z l)]],rfl,rfl,rfl,?_,rfl,rfl⟩
 repeat'(first|exact ⟨⟩|exact rfl|exact fun _=>Iff.rfl|exact fun _ _=>rfl|exact renM_ent rfl _|apply And.intro)
def rrs(l:List RR):Nat→List DV:=fun i=>(l.getD i default).enc
set_option maxHeartbeats 8000000 in
theorem collect_ok(z:Bool)(l:List RR)(hn:l.length≤100000):FnOk Try.prog 47 [rightV z l] (.d (rrsD (l.filter rightR).isEmpty (l.filter rightR))):=by
 refine fnOk_of_run (TT:=TT) (IN:=lookI [(69,Try.f69,2),(70,Try.f70,2)]) TT_ok (INok_cons (INok_cons INok_nil Try.func70 (by kernel_rfl) (by kernel_rfl)) Try.func69 (by kernel_rfl) (by kernel_rfl)) mixed 1000 Try.func47 rfl (enters Try.func47 (by kernel_rfl) rfl) rfl 4 (by kernel_rfl) ?_
 conv=>whnf
 refine .nilC 0 0 56 5 (rrs []) _ _ _ _ rfl rfl ?_
 conv=>whnf
 refine .inv Nat (fun i=>i≤l.length) (fun i=>[(7,iV i)]) (fun i=>[(2,.row 56 5 ((l.take i).filter rightR).length .iff (rrs ((l.take i).filter rightR)))]) (fun i=>l.length - i) ⟨0,[0,1,2],Nat.zero_le _,?_⟩ ?_
 ·conv=>whnf
  repeat'(first|exact ⟨⟩|exact rfl|exact subZ_self _|exact Or.inr rfl|exact fun _ _=>rfl|exact fun _ h=>absurd h (Nat.not_lt_zero _)|apply And.intro)
 intro i hi
 conv=>whnf
 refine⟨fun h1=>?_,fun h1=>?_⟩
 ·have h1:i<l.length:=by
   have h:(i:Int)<l.length:=of_decide_eq_true h1
   omega
  obtain⟨r,hr⟩:∃ r,l.getD i default=r:=⟨_,rfl⟩
  have htk:l.take (i+1)=l.take i++[r]:=by rw[List.take_add_one,←hr,List.getD,List.getElem?_eq_getElem h1];rfl
  have hw1:IntKind.i64.wrap ((i:Int)+1)=((i+1:Nat):Int):=by rw[w64_in _ (by omega)];omega
  conv=>whnf
  refine⟨by omega,?_⟩
  conv=>whnf
  rw[Int.toNat_natCast,hr]
  refine⟨fun h2=>?_,fun h2=>?_⟩
  ·have hb:rightR r=false:=by unfold rightR;rw[show(r.cl == 1)=false by simpa using h2];rfl
   have hf:(l.take (i+1)).filter rightR=(l.take i).filter rightR:=by rw[htk,List.filter_append];simp[hb]
   conv=>whnf
   rw[hw1]
   refine⟨i+1,[0,1,2],h1,by omega,?_⟩
   rw[hf]
   conv=>whnf
   repeat'(first|exact ⟨⟩|exact rfl|exact subZ_self _|exact Or.inr rfl|exact fun _ _=>rfl|exact fun _ h=>absurd h (Nat.not_lt_zero _)|apply And.intro)
  ·have hcl:(r.cl == 1)=true:=by simpa using h2
   conv=>whnf
   refine .one (.data _ (reccheck_ok r) rfl rfl ?_)
   conv=>whnf
   cases hck:r.check with
   |false =>
    have hb:rightR r=false:=by unfold rightR;rw[hck,Bool.and_false]
    have hf:(l.take (i+1)).filter rightR=(l.take i).filter rightR:=by rw[htk,List.filter_append];simp[hb]
    refine brT rfl ?_
    conv=>whnf
    rw[hw1]
    refine⟨i+1,[0,1,2],h1,by omega,?_⟩
    rw[hf]
    conv=>whnf
    repeat'(first|exact ⟨⟩|exact rfl|exact subZ_self _|exact Or.inr rfl|exact fun _ _=>rfl|exact fun _ h=>absurd h (Nat.not_lt_zero _)|apply And.intro)
   |true =>
    have hb:rightR r=true:=by unfold rightR;rw[hck,hcl];rfl
    have hf:(l.take (i+1)).filter rightR=(l.take i).filter rightR++[r]:=by rw[htk,List.filter_append];simp[hb]
    have hll:((l.take i).filter rightR).length≤100000:=Nat.le_trans (List.length_filter_le _ _) (by simp;omega)
    refine brF rfl ?_
    conv=>whnf
    refine⟨by omega,?_⟩
    conv=>whnf
    rw[hw1]
    refine⟨i+1,[0,1,6],h1,by omega,?_⟩
    rw[hf]
    conv=>whnf
    repeat'(first|exact ⟨⟩|exact rfl|exact subZ_self _|exact Or.inr rfl|exact fun _ _=>rfl|exact fun _ h=>absurd h (Nat.not_lt_zero _)|apply And.intro)
    ·rw[List.length_append];rfl
    ·exact fun x hx=>rr_cat _ r x hx
 ·have h1:i=l.length:=by
   have h:¬ (i:Int)<l.length:=of_decide_eq_false h1
   omega
  subst h1
  rw[List.take_length]
  conv=>whnf
  refine⟨?_,rfl,.inr rfl,fun _ _=>rfl⟩
  cases l.filter rightR <;> rfl
end Go.Proofs.Ytnfoihdifohkeaa
namespace Go.Proofs.Ytnfoihdifohkeaa
open Go Go.Eng
structure St where
 nm:List UInt8
 ty:Int
 ttl:Int
 z:Bool
 data:List (List UInt8)
def St.no:St:=⟨[],0,0,true,[]⟩
instance:Inhabited St:=⟨St.no⟩
def St.V(s:St):SV:=setV s.nm s.ty s.ttl s.z s.data
def nearR(nm:List UInt8)(t:Int)(r:RR):Bool:=r.ty == t && (r.nm.length == nm.length && fold r.nm == fold nm)
def pickR(nm:List UInt8)(t:Int)(l:List RR):List RR:=(l.filter (nearR nm t)).filter rightR
def buildS(nm:List UInt8)(t:Int)(l:List RR):St:=⟨nm,t,minOf (l.getD 0 default).ttl l,false,buildD t l⟩
def findS(nm:List UInt8)(t:Int)(l:List RR):St × Int:=if isName nm then (if (pickR nm t l).isEmpty then (St.no,3) else (buildS nm t (pickR nm t l),0)) else (St.no,3)
set_option maxRecDepth 100000
set_option maxHeartbeats 8000000 in
theorem find_ok(nm:List UInt8)(t:Int)(z:Bool)(l:List RR)(hn:l.length≤100000)(hnm:nm.length≤100000)(hl:∀ r ∈ l,r.nm.length≤100000):FnOk Try.prog 27 [.d (.str nm),.d (.int .u16 t),.d (rrsD z l)] (.tup [(findS nm t l).1.V,.d (.int .i64 (findS nm t l).2)]):=by
 refine fnOk_of_run (TT:=TT) (IN:=lookI [(46,Try.f46,4)]) TT_ok (INok_cons INok_nil Try.func46 (by kernel_rfl) (by kernel_rfl)) mixed 1000 Try.func27 rfl (enters Try.func27 (by kernel_rfl) rfl) rfl 42 (by kernel_rfl) ?_
 conv=>whnf
 refine .one (.data _ (check_ok nm) rfl rfl ?_)
 by_cases hnn:isName nm
 ·rw[if_pos hnn]
  have hsp:findS nm t l=if (pickR nm t l).isEmpty then (St.no,3) else (buildS nm t (pickR nm t l),0):=if_pos hnn
  rw[hsp]
  conv=>whnf
  refine brF rfl ?_
  conv=>whnf
  refine .one (.data _ (fold_ok nm (by omega)) rfl rfl ?_)
  conv=>whnf
  refine .nilT 10 56 5 (rrs []) _ _ rfl ?_
  conv=>whnf
  refine .inv Nat (fun i=>i≤l.length) (fun i=>[(22,iV i),(10,.all 4)]) (fun i=>[(4,.row 56 5 ((l.take i).filter (nearR nm t)).length .iff (rrs ((l.take i).filter (nearR nm t))))]) (fun i=>l.length - i) ⟨0,[0,1,2,3,4],Nat.zero_le _,?_⟩ ?_
  ·conv=>whnf
   repeat'(first|exact ⟨⟩|exact rfl|exact subZ_self _|exact Or.inr rfl|exact fun _ _=>rfl|exact fun _ h=>absurd h (Nat.not_lt_zero _)|apply And.intro)
  intro i hi
  conv=>whnf
  refine⟨fun h1=>?_,fun h1=>?_⟩
  ·have h1:i<l.length:=by
    have h:(i:Int)<l.length:=of_decide_eq_true h1
    omega
   obtain⟨r,hr⟩:∃ r,l.getD i default=r:=⟨_,rfl⟩
   have hrl:l[i]? = some r:=by rw[←hr,List.getD,List.getElem?_eq_getElem h1];rfl
   have hrn:=hl r (List.mem_of_getElem? hrl)
   have htk:l.take (i+1)=l.take i++[r]:=by rw[List.take_add_one,hrl];rfl
   have hw1:IntKind.i64.wrap ((i:Int)+1)=((i+1:Nat):Int):=by rw[w64_in _ (by omega)];omega
   conv=>whnf
   refine⟨by omega,?_⟩
   conv=>whnf
   rw[Int.toNat_natCast,hr]
   refine⟨fun h2=>?_,fun h2=>?_⟩
   ·conv=>whnf
    refine⟨fun h3=>?_,fun h3=>?_⟩
    ·conv=>whnf
     refine .data _ (fold_ok r.nm (by omega)) rfl rfl ?_
     conv=>whnf
     refine⟨fun h4=>?_,fun h4=>?_⟩
     ·have hb:nearR nm t r=true:=by
       unfold nearR
       rw [lenEq] at h3;rw [h2,h3,h4];rfl
      have hf:(l.take (i+1)).filter (nearR nm t)=(l.take i).filter (nearR nm t)++[r]:=by rw[htk,List.filter_append];simp[hb]
      have hll:((l.take i).filter (nearR nm t)).length≤100000:=Nat.le_trans (List.length_filter_le _ _) (by simp;omega)
      conv=>whnf
      refine⟨by omega,?_⟩
      conv=>whnf
      rw[hw1]
      refine⟨i+1,[0,1,2,3,8],h1,by omega,?_⟩
      rw[hf]
      conv=>whnf
      repeat'(first|exact ⟨⟩|exact rfl|exact subZ_self _|exact Or.inr rfl|exact fun _ _=>rfl|exact fun _ h=>absurd h (Nat.not_lt_zero _)|apply And.intro)
      ·rw[List.length_append];rfl
      ·exact fun x hx=>rr_cat _ r x hx
     ·have hb:nearR nm t r=false:=by
       unfold nearR
       rw[h4,Bool.and_false,Bool.and_false]
      have hf:(l.take (i+1)).filter (nearR nm t)=(l.take i).filter (nearR nm t):=by rw[htk,List.filter_append];simp[hb]
      conv=>whnf
      repeat(first|(refine brF rfl ?_;conv=>whnf))
      rw[hw1]
      refine⟨i+1,[0,1,2,3,4],h1,by omega,?_⟩
      rw[hf]
      conv=>whnf
      repeat'(first|exact ⟨⟩|exact rfl|exact subZ_self _|exact Or.inr rfl|exact fun _ _=>rfl|exact fun _ h=>absurd h (Nat.not_lt_zero _)|apply And.intro)
    ·have hb:nearR nm t r=false:=by
      unfold nearR
      rw [lenEq] at h3;rw [h3,Bool.false_and,Bool.and_false]
     have hf:(l.take (i+1)).filter (nearR nm t)=(l.take i).filter (nearR nm t):=by rw[htk,List.filter_append];simp[hb]
     conv=>whnf
     repeat(first|(refine brF rfl ?_;conv=>whnf))
     rw[hw1]
     refine⟨i+1,[0,1,2,3,4],h1,by omega,?_⟩
     rw[hf]
     conv=>whnf
     repeat'(first|exact ⟨⟩|exact rfl|exact subZ_self _|exact Or.inr rfl|exact fun _ _=>rfl|exact fun _ h=>absurd h (Nat.not_lt_zero _)|apply And.intro)
   ·have hb:nearR nm t r=false:=by
     unfold nearR
     rw[h2,Bool.false_and]
    have hf:(l.take (i+1)).filter (nearR nm t)=(l.take i).filter (nearR nm t):=by rw[htk,List.filter_append];simp[hb]
    conv=>whnf
    repeat(first|(refine brF rfl ?_;conv=>whnf))
    rw[hw1]
    refine⟨i+1,[0,1,2,3,4],h1,by omega,?_⟩
    rw[hf]
    conv=>whnf
    repeat'(first|exact ⟨⟩|exact rfl|exact subZ_self _|exact Or.inr rfl|exact fun _ _=>rfl|exact fun _ h=>absurd h (Nat.not_lt_zero _)|apply And.intro)
  ·have h1:i=l.length:=by
    have h:¬ (i:Int)<l.length:=of_decide_eq_false h1
    omega
   subst h1
   rw[List.take_length]
   have hfl:(l.filter (nearR nm t)).length≤100000:=Nat.le_trans (List.length_filter_le _ _) hn
   have hpl:(pickR nm t l).length≤100000:=Nat.le_trans (List.length_filter_le _ _) hfl
   conv=>whnf
   refine .one (.frz _ _ [4] (sright_ok (Nat.beq (l.filter (nearR nm t)).length 0) (l.filter (nearR nm t))) ?_ rfl rfl ?_)
   ·conv=>whnf
    exact⟨rfl,rfl⟩
   conv=>whnf
   refine .one (.data _ (collect_ok _ (l.filter (nearR nm t)) hfl) rfl rfl ?_)
   rw[show(l.filter (nearR nm t)).filter rightR=pickR nm t l from rfl]
   generalize pickR nm t l=m at hpl ⊢
   cases m with
   |nil =>
    conv=>whnf
    refine brT rfl ?_
    conv=>whnf
    repeat'(first|exact ⟨⟩|exact rfl|exact⟨rfl,rfl,.inr rfl,fun _ _=>rfl⟩|exact⟨rfl,rfl,.inl rfl,fun i hi=>absurd hi (Nat.not_lt_zero _)⟩|apply And.intro)
   |cons r m =>
    conv=>whnf
    refine brF rfl ?_
    conv=>whnf
    refine .one (.data _ (build_ok nm t false (r :: m) (by simp) hpl) rfl rfl ?_)
    conv=>whnf
    repeat'(first|exact ⟨⟩|exact rfl|exact⟨rfl,rfl,.inr rfl,fun _ _=>rfl⟩|exact⟨rfl,rfl,.inl rfl,fun i hi=>absurd hi (Nat.not_lt_zero _)⟩|apply And.intro)
 ·rw[if_neg hnn]
  have hsp:findS nm t l=(St.no,3):=if_neg hnn
  rw[hsp]
  conv=>whnf
  refine brT rfl ?_
  conv=>whnf
  repeat'(first|exact ⟨⟩|exact rfl|exact⟨rfl,rfl,.inr rfl,fun _ _=>rfl⟩|exact⟨rfl,rfl,.inl rfl,fun i hi=>absurd hi (Nat.not_lt_zero _)⟩|apply And.intro)
end Go.Proofs.Ytnfoihdifohkeaa
namespace Go.Proofs.Ytnfoihdifohkeaa
open Go Go.Eng
theorem teq_len{a b:List (List UInt8)}(h:a.length≠b.length):(a == b)=false:=by
 cases e:a == b
 ·rfl
 ·exact absurd (congrArg List.length (eq_of_beq e)) h
def texD(z:Bool)(l:List (List UInt8)):DV:=.sl z l.length 1 (strs l)
set_option maxRecDepth 100000
set_option maxHeartbeats 4000000 in
theorem teq_ok(y z:Bool)(a b:List (List UInt8))(ha:a.length<4611686018427387904)(hb:b.length<4611686018427387904):FnOk Try.prog 67 [.d (texD y a),.d (texD z b)] (.d (.bool (a == b))):=by
 refine fnOk_of_run (TT:=TT) (IN:=lookI []) TT_ok INok_nil mixed 1000 Try.func67 rfl (enters Try.func67 (by kernel_rfl) rfl) rfl 24 (by kernel_rfl) ?_
 conv=>whnf
 refine⟨fun h1=>?_,fun h1=>?_⟩
 ·have h:a.length≠b.length:=by intro e;rw [e] at h1;simp at h1
  rw[teq_len h]
  conv=>whnf
  first|done|exact rfl
 have hl:a.length=b.length:=by simp at h1;omega
 conv=>whnf
 refine .inv Nat (fun i=>i≤a.length∧(a.drop i == b.drop i)=(a == b)) (fun i=>[(13,.d (.int .i64 i))]) (fun _=>[]) (fun i=>a.length - i) ⟨0,[],⟨Nat.zero_le _,rfl⟩,?_⟩ ?_
 ·conv=>whnf
  repeat'(first|exact ⟨⟩|exact rfl|exact fun _=>Iff.rfl|exact fun _ _=>rfl|exact renM_ent rfl _|apply And.intro)
 rintro i ⟨hi,hrest⟩
 conv=>whnf
 refine⟨fun c5=>?_,fun c5=>?_⟩
 ·have c5':i<a.length:=(by have h:(i:Int)<a.length:=of_decide_eq_true c5;omega)
  conv=>whnf
  refine⟨by omega,?_⟩
  conv=>whnf
  refine⟨by omega,?_⟩
  conv=>whnf
  obtain⟨q,hq⟩:∃ q,a[i]?.getD []=q:=⟨_,rfl⟩
  obtain⟨r,hr⟩:∃ r,b[i]?.getD []=r:=⟨_,rfl⟩
  rw[Int.toNat_natCast,hq,hr]
  have hda:a.drop i=q :: a.drop (i+1):=by
   rw[List.drop_eq_getElem_cons c5',←hq,List.getElem?_eq_getElem c5']
   rfl
  have hdb:b.drop i=r :: b.drop (i+1):=by
   rw[List.drop_eq_getElem_cons (by omega),←hr,List.getElem?_eq_getElem (by omega)]
   rfl
  have hst:(q == r && a.drop (i+1) == b.drop (i+1))=(a == b):=by rw[←hrest,hda,hdb];rfl
  cases he:q == r
  ·rw [he,Bool.false_and] at hst
   rw[←hst]
   refine brT rfl ?_
   conv=>whnf
   first|done|exact rfl
  ·rw [he,Bool.true_and] at hst
   refine brF rfl ?_
   conv=>whnf
   have hw1:IntKind.i64.wrap ((i:Int)+1)=((i+1:Nat):Int):=by rw[w64_in _ (by omega)];omega
   refine⟨i+1,[],⟨c5',hst⟩,by omega,?_⟩
   conv=>whnf
   rw[hw1]
   repeat'(first|exact ⟨⟩|exact rfl|exact fun _=>Iff.rfl|exact fun _ _=>rfl|exact renM_ent rfl _|apply And.intro)
 have hia:i=a.length:=(by have h:¬ (i:Int)<a.length:=of_decide_eq_false c5;omega)
 rw [List.drop_of_length_le (by omega),List.drop_of_length_le (by omega)] at hrest
 rw[←hrest]
 conv=>whnf
 exact rfl
def St.ok(s:St):Bool:=scheck s.nm s.ty s.ttl s.data
end Go.Proofs.Ytnfoihdifohkeaa
namespace Go.Proofs.Ytnfoihdifohkeaa
open Go Go.Eng
set_option maxRecDepth 100000
def rvF(l:List (List UInt8))(k j:Nat):List DV:=[.str (if j<k∨l.length≤j+k then (l[l.length - 1 - j]?).getD [] else (l[j]?).getD [])]
theorem rvF_zero(l:List (List UInt8))(j:Nat)(h:j<l.length):rvF l 0 j=strs l j:=by
 unfold rvF strs
 rw[if_neg (by omega)]
theorem rvF_end(l:List (List UInt8))(k j:Nat)(h:j<l.length)(hk:l.length≤2 * k+1):rvF l k j=strs l.reverse j:=by
 unfold rvF strs
 rw[List.getElem?_reverse h]
 split
 ·rfl
 ·rw[show l.length - 1 - j=j by omega]
set_option maxHeartbeats 4000000 in
theorem rev_ok(z:Z)(l:List (List UInt8))(hn:l.length≤1000000):COk Try.prog 82 [.all 0] [.row 9 1 l.length z (strs l)] (fun r k=>r = .tup []∧k=[.row 9 1 l.length z (strs l.reverse)]):=by
 refine cOk_of_run (TT:=TT) (IN:=lookI []) TT_ok INok_nil mixed 1000 Try.func82 rfl (enters Try.func82 (by kernel_rfl) rfl) 27 (by kernel_rfl) ?_
 conv=>whnf
 have e0:IntKind.i64.wrap ((l.length:Int) - 1)=(l.length:Int) - 1 - (0:Nat):=by rw[w64_in _ (by omega)];omega
 rw[e0]
 refine .inv Nat (fun k=>2 * k≤l.length) (fun k=>[(2,.d (.int .i64 k)),(3,.d (.int .i64 ((l.length:Int) - 1 - k)))]) (fun k=>[(0,.row 9 1 l.length z (rvF l k))]) (fun k=>l.length - k) ⟨0,[0],by omega,?_⟩ ?_
 ·conv=>whnf
  repeat'(first|exact ⟨⟩|exact rfl|exact subZ_self _|exact Or.inr rfl|exact fun _ _=>rfl|exact fun _ h=>absurd h (Nat.not_lt_zero _)|apply And.intro)
  exact fun j hj=>(rvF_zero l j hj).symm
 intro k hk
 conv=>whnf
 refine⟨fun h1=>?_,fun h1=>?_⟩
 ·have h1:(k:Int)<(l.length:Int) - 1 - k:=of_decide_eq_true h1
  have e1:((l.length:Int) - 1 - k).toNat=l.length - 1 - k:=by omega
  conv=>whnf
  refine⟨?_,?_,?_,?_⟩
  rotate_left 2
  ·conv=>whnf
   repeat'(first|exact⟨rfl,rfl⟩|(refine⟨⟨by omega,by omega⟩,?_⟩;conv=>whnf)|exact ⟨⟩|apply And.intro|(conv=>whnf))
  ·conv=>whnf
   refine⟨k+1,[0],by omega,by show l.length - (k+1)<l.length - k;omega,?_⟩
   have e3:IntKind.i64.wrap ((k:Int)+1)=((k+1:Nat):Int):=by rw[w64_in _ (by omega)];omega
   have e4:IntKind.i64.wrap ((l.length:Int) - 1 - k - 1)=(l.length:Int) - 1 - (k+1:Nat):=by rw[w64_in _ (by omega)];omega
   rw[e3,e4]
   conv=>whnf
   repeat'(first|exact ⟨⟩|exact rfl|exact subZ_self _|exact Or.inr rfl|exact fun _ _=>rfl|exact fun _ h=>absurd h (Nat.not_lt_zero _)|apply And.intro)
   intro j hj
   rw[e1,Int.toNat_natCast,if_neg (by omega),if_neg (by omega)]
   unfold oneF
   by_cases h2:j=l.length - 1 - k
   ·rw[if_pos h2,if_neg (by omega)]
    show[DV.str (l[k]?.getD [])]=_
    unfold rvF
    rw[if_pos (by omega),show l.length - 1 - j=k by omega]
   ·rw[if_neg h2]
    by_cases h3:j=k
    ·rw[if_pos h3]
     show[DV.str (l[l.length - 1 - k]?.getD [])]=_
     unfold rvF
     rw[if_pos (by omega),h3]
    ·rw[if_neg h3]
     unfold rvF
     by_cases h4:j<k∨l.length≤j+k
     ·rw[if_pos h4,if_pos (by omega)]
     ·rw[if_neg h4,if_neg (by omega)]
 ·have h1:¬ (k:Int)<(l.length:Int) - 1 - k:=of_decide_eq_false h1
  conv=>whnf
  refine⟨[0],_,_,rfl,rfl,?_,?_,rfl,rfl⟩
  ·exact rfl
  ·conv=>whnf
   repeat'(first|exact ⟨⟩|exact rfl|exact subZ_self _|exact Or.inr rfl|exact fun _ _=>rfl|exact fun _ h=>absurd h (Nat.not_lt_zero _)|apply And.intro)
   exact fun j hj=>(rvF_end l k j hj (by omega))
end Go.Proofs.Ytnfoihdifohkeaa
namespace Go.Proofs.Ytnfoihdifohkeaa
open Go Go.Eng
def riseN(n:List UInt8):List (List UInt8):=(fl n).reverse
set_option maxRecDepth 100000
theorem strs_take_cat{ls:List (List UInt8)}{i:Nat}{l:List UInt8}(h:ls[i]? = some l)(j:Nat)(hj:j<i+1):catF i (strs (ls.take i)) (chunk [DV.str l] 1) j=strs (ls.take i++[l]) j:=by
 have hi:=(List.getElem?_eq_some_iff.1 h).1
 have:=strs_cat (ls.take i) l (chunk [DV.str l] 1) rfl j (by rw[List.length_take];omega)
 rwa [List.length_take,Nat.min_eq_left (by omega)] at this
set_option maxHeartbeats 8000000 in
theorem rising_ok(n0:List UInt8)(hn0:isName n0):FnOk Try.prog 63 [.d (.str n0)] (.d (.sl (riseN n0).isEmpty (riseN n0).length 1 (strs (riseN n0)))):=by
 refine fnOk_of_run (TT:=TT) (IN:=lookI [(81,Try.f81,1),(91,Try.f91,2),(45,Try.f45,1),(68,Try.f68,2),(28,Try.f28,1),(50,Try.f50,2)]) TT_ok (INok_cons (INok_cons (INok_cons (INok_cons (INok_cons (INok_cons INok_nil Try.func50 (by kernel_rfl) (by kernel_rfl)) Try.func28 (by kernel_rfl) (by kernel_rfl)) Try.func68 (by kernel_rfl) (by kernel_rfl)) Try.func45 (by kernel_rfl) (by kernel_rfl)) Try.func91 (by kernel_rfl) (by kernel_rfl)) Try.func81 (by kernel_rfl) (by kernel_rfl)) mixed 1000 Try.func63 rfl (enters Try.func63 (by kernel_rfl) rfl) rfl 10 (by kernel_rfl) ?_
 conv=>whnf
 refine .one (.data _ (fold_ok n0 (by have:=hn0.2.1;omega)) rfl rfl ?_)
 have hn:isName (fold n0):=isName_fold hn0
 conv=>whnf
 refine .one (.data _ (check_ok (fold n0)) rfl rfl ?_)
 rw[if_pos hn]
 conv=>whnf
 refine brF rfl ?_
 have hlf:=labN_fold hn0
 generalize hnn:fold n0=n at hn hlf ⊢
 conv=>whnf
 have hflok:=fl_ok hn0
 obtain⟨hn1,hn2,hn3⟩:=labN_of hn
 have hend:∀ i,posN2 (labN n) i<n.length:=fun i=>by have:=pos_lt (labN n) i;rw [←hn3] at this;exact this
 have hbt:∀ i l,(labN n)[i]? = some l→bt n (posN2 (labN n) i)=l.length:=fun i l h=>by
  have:=bt_pos hn2 h
  rw [←hn3] at this;exact this
 have hbe:bt n (posN2 (labN n) (labN n).length)=0:=by
  have:=bt_end (labN n)
  rw [←hn3] at this;exact this
 have hll:=pos_end (labN n)
 rw [←hn3] at hll
 have hlab:∀ i l,(labN n)[i]? = some l→(n.drop (posN2 (labN n) i+1)).take l.length=l:=fun i l h=>by
  have:=label_at h
  rw [←hn3] at this;exact this
 generalize hls:labN n=ls at hn2 hn3 hend hbt hbe hll hlf hlab
 have hcnt:∀ i,i≤ls.length→i≤posN2 ls i:=fun i=>by
  induction i with
  |zero=>intro _;exact Nat.zero_le _
  |succ i ih =>
   intro h
   have:=ih (by omega)
   have:=pos_mono (ls:=ls) (i:=i) (j:=i+1) (by omega) h
   omega
 have hlc:=hcnt ls.length (Nat.le_refl _)
 refine .nilC 1 0 9 1 (strs []) _ _ _ _ rfl rfl ?_
 conv=>whnf
 refine .inv Nat (fun i=>i≤ls.length) (fun i=>[(3,iV (posN2 ls i))]) (fun i=>[(4,.cells 3 [iV (posN2 ls i)]),(7,.row 9 1 i .iff (strs (ls.take i)))]) (fun i=>ls.length - i) ⟨0,[0,1,2,3,4,5,6,7],Nat.zero_le _,?_⟩ ?_
 ·conv=>whnf
  repeat'(first|exact ⟨⟩|exact rfl|exact subZ_self _|exact Or.inr rfl|exact fun _ _=>rfl|exact fun _ h=>absurd h (Nat.not_lt_zero _)|apply And.intro)
 intro i hi
 have hp:=hend i
 conv=>whnf
 refine brT (decide_eq_true (by omega)) ?_
 conv=>whnf
 refine⟨by omega,?_⟩
 conv=>whnf
 rw[bt_eq,w64_in (bt n (posN2 ls i):Int) (by have:=bt_lt n (posN2 ls i);omega)]
 rcases Nat.lt_or_ge i ls.length with hlt|hge
 ·have hli:ls[i]? = some ls[i]:=List.getElem?_eq_getElem hlt
  have hb:=hbt i _ hli
  have hok:=hn2 _ (List.getElem_mem hlt)
  have hps:=posN2_succ hli
  have hp2:=hend (i+1)
  rw[hb]
  generalize ls[i]=l at hli hb hok hps
  obtain⟨ho1,ho2⟩:=hok
  refine brF (by rw[beq_eq_false_iff_ne];omega) ?_
  conv=>whnf
  refine brF (decide_eq_false (by omega)) ?_
  conv=>whnf
  have e1:IntKind.i64.wrap ((n.length:Int) - (posN2 ls i:Int))=((n.length - posN2 ls i:Nat):Int):=by rw[w64_in _ (by omega)];omega
  rw[e1]
  refine brF (decide_eq_false (by omega)) ?_
  conv=>whnf
  have e2:IntKind.i64.wrap ((posN2 ls i:Int)+IntKind.i64.wrap (1+(l.length:Int)))=((posN2 ls (i+1):Nat):Int):=by rw[w64_in (1+(l.length:Int)) (by omega),w64_in _ (by omega)];omega
  rw[e2]
  have e3:IntKind.i64.wrap ((posN2 ls i:Int)+1)=((posN2 ls i+1:Nat):Int):=by rw[w64_in _ (by omega)];omega
  rw[e3]
  refine⟨by omega,?_⟩
  conv=>whnf
  have hsub:sub n ((posN2 ls i+1:Nat):Int) ((posN2 ls (i+1):Nat):Int)=l:=by
   unfold sub
   rw[Int.toNat_natCast,Int.toNat_natCast]
   rw[show posN2 ls (i+1) - (posN2 ls i+1)=l.length by omega]
   exact hlab i l hli
  rw[hsub]
  refine⟨by omega,?_⟩
  conv=>whnf
  refine⟨i+1,[0,1,2,3,4,5,6,9],hlt,by omega,?_⟩
  conv=>whnf
  repeat'(first|exact ⟨⟩|exact rfl|exact subZ_self _|exact Or.inr rfl|exact fun _ _=>rfl|exact fun _ h=>absurd h (Nat.not_lt_zero _)|apply And.intro)
  exact fun j hj=>by rw[List.take_add_one,hli];exact strs_take_cat hli j hj
 ·have hil:i=ls.length:=by omega
  subst hil
  rw[hbe]
  conv=>whnf
  refine brT rfl ?_
  conv=>whnf
  refine .rel _ (COk.frameX (rev_ok .iff ls (by omega)) [7] rfl rfl (by rw[List.take_length];rfl)) (fun y ks' hR=>?_)
  obtain⟨_,_,⟨rfl,rfl⟩,rfl,rfl⟩:=hR
  conv=>whnf
  have hr:riseN n0=ls.reverse:=by unfold riseN;rw[hlf]
  rw[hr]
  refine⟨?_,List.length_reverse.symm,.inr rfl,fun _ _=>rfl⟩
  rw[Bool.eq_iff_iff,Nat.beq_eq,List.isEmpty_iff,List.reverse_eq_nil_iff,List.length_eq_zero_iff]
end Go.Proofs.Ytnfoihdifohkeaa
namespace Go.Proofs.Ytnfoihdifohkeaa
open Go Go.Eng
set_option maxRecDepth 100000
def cmpS(a b:List UInt8):Int:=if Op.bytesLess a b then -1 else if a=b then 0 else 1
def cmpLL:List (List UInt8)→List (List UInt8)→Int
 |[],[]=>0
 |[],_ :: _=>-1
 |_ :: _,[]=>1
 |a :: l,b :: m=>if cmpS a b≠0 then cmpS a b else cmpLL l m
theorem cmps_ok(a b:List UInt8):FnOk Try.prog 84 [.d (.str a),.d (.str b)] (.d (.int .i64 (cmpS a b))):=by
 refine fnOk_of_run (TT:=TT) (IN:=lookI [(94,Try.f94,1)]) TT_ok (INok_cons INok_nil Try.func94 (by kernel_rfl) (by kernel_rfl)) mixed 1000 Try.func84 rfl (enters Try.func84 (by kernel_rfl) rfl) rfl 18 (by kernel_rfl) ?_
 conv=>whnf
 refine brF (by simp) ?_
 conv=>whnf
 refine brF (by simp) ?_
 conv=>whnf
 unfold cmpS
 refine⟨fun h=>?_,fun h=>?_⟩
 ·rw[if_pos h]
  conv=>whnf
  try exact rfl
 rw[if_neg (by rw[h];decide)]
 conv=>whnf
 rw[h,Bool.false_or]
 by_cases e:a=b
 ·rw[if_pos e]
  refine brF (by simp[e]) ?_
  conv=>whnf
  try exact rfl
 ·rw[if_neg e]
  refine brT (by simp[e]) ?_
  conv=>whnf
  try exact rfl
set_option maxHeartbeats 4000000 in
theorem cmpll_ok(y z:Bool)(l m:List (List UInt8))(hl:l.length≤1000000)(hm:m.length≤1000000):FnOk Try.prog 66 [.d (.sl y l.length 1 (strs l)),.d (.sl z m.length 1 (strs m))] (.d (.int .i64 (cmpLL l m))):=by
 refine fnOk_of_run (TT:=TT) (IN:=lookI []) TT_ok INok_nil mixed 1000 Try.func66 rfl (enters Try.func66 (by kernel_rfl) rfl) rfl 34 (by kernel_rfl) ?_
 conv=>whnf
 refine .inv Nat (fun i=>i≤l.length∧i≤m.length∧cmpLL (l.drop i) (m.drop i)=cmpLL l m) (fun i=>[(11,iV i)]) (fun _=>[]) (fun i=>l.length - i) ⟨0,[],⟨Nat.zero_le _,Nat.zero_le _,rfl⟩,?_⟩ ?_
 ·conv=>whnf
  repeat'(first|exact ⟨⟩|exact rfl|exact fun _=>Iff.rfl|exact fun _ _=>rfl|exact renM_ent rfl _|apply And.intro)
 intro i hi
 obtain⟨hi1,hi2,hi3⟩:=hi
 have hw1:IntKind.i64.wrap ((i:Int)+1)=((i+1:Nat):Int):=by rw[w64_in _ (by omega)];omega
 conv=>whnf
 generalize cmpLL l m=Y at hi3 ⊢
 refine⟨fun c0=>?_,fun c0=>?_⟩
 ·have c0':i<l.length:=(by have h:(i:Int)<l.length:=of_decide_eq_true c0;omega)
  rw [List.drop_eq_getElem_cons c0'] at hi3
  conv=>whnf
  refine⟨by omega,?_⟩
  conv=>whnf
  by_cases hlt:i<m.length
  case neg =>
   rw [show m.drop i=[] from List.drop_eq_nil_of_le (by omega)] at hi3
   simp only [cmpLL] at hi3
   rw[←hi3]
   refine brT (decide_eq_true (by omega)) ?_
   conv=>whnf
   repeat'(first|exact ⟨⟩|exact rfl|exact fun _=>Iff.rfl|exact fun _ _=>rfl|exact renM_ent rfl _|apply And.intro)
  rw [List.drop_eq_getElem_cons hlt] at hi3
  refine brF (decide_eq_false (by omega)) ?_
  conv=>whnf
  refine⟨by omega,?_⟩
  conv=>whnf
  rw[Int.toNat_natCast,show l[i]?.getD []=l[i] by rw[List.getElem?_eq_getElem c0'];rfl,show m[i]?.getD []=m[i] by rw[List.getElem?_eq_getElem hlt];rfl]
  refine .one (.data _ (cmps_ok _ _) rfl rfl ?_)
  conv=>whnf
  simp only [cmpLL] at hi3
  by_cases hc:cmpS l[i] m[i]=0
  ·rw [if_neg (by simpa using hc)] at hi3
   refine brF (by rw[bne_eq_false_iff_eq];exact hc) ?_
   conv=>whnf
   rw[hw1]
   refine⟨i+1,[],⟨c0',hlt,hi3⟩,by omega,?_⟩
   conv=>whnf
   repeat'(first|exact ⟨⟩|exact rfl|exact fun _=>Iff.rfl|exact fun _ _=>rfl|exact renM_ent rfl _|apply And.intro)
  ·rw [if_pos hc] at hi3
   rw[←hi3]
   refine brT (by rw[bne_iff_ne];exact hc) ?_
   conv=>whnf
   repeat'(first|exact ⟨⟩|exact rfl|exact fun _=>Iff.rfl|exact fun _ _=>rfl|exact renM_ent rfl _|apply And.intro)
 ·have c0':i=l.length:=(by have h:¬ (i:Int)<l.length:=of_decide_eq_false c0;omega)
  rw [show l.drop i=[] from List.drop_eq_nil_of_le (by omega)] at hi3
  conv=>whnf
  by_cases hlt:i<m.length
  ·rw [List.drop_eq_getElem_cons hlt] at hi3
   simp only [cmpLL] at hi3
   rw[←hi3]
   refine brT (decide_eq_true (by omega)) ?_
   conv=>whnf
   repeat'(first|exact ⟨⟩|exact rfl|exact fun _=>Iff.rfl|exact fun _ _=>rfl|exact renM_ent rfl _|apply And.intro)
  ·rw [List.drop_eq_nil_of_le (by omega)] at hi3
   simp only [cmpLL] at hi3
   rw[←hi3]
   refine brF (decide_eq_false (by omega)) ?_
   conv=>whnf
   repeat'(first|exact ⟨⟩|exact rfl|exact fun _=>Iff.rfl|exact fun _ _=>rfl|exact renM_ent rfl _|apply And.intro)
theorem rise_len{n:List UInt8}(h:isName n):(riseN n).length≤255:=by
 obtain⟨h1,h2,h3⟩:=labN_of h
 unfold riseN
 rw[List.length_reverse,fl,List.length_map]
 have:=labs_len_ge (labN n)
 have e:(labs (labN n)).length+1=(mk (labN n)).length:=by rw[←labs_mk,List.length_append];rfl
 rw [←h3] at e
 omega
end Go.Proofs.Ytnfoihdifohkeaa
namespace Go.Proofs.Ytnfoihdifohkeaa
open Go Go.Eng
structure Cw{α:Type}(P:α→Prop)(c:α→α→Int):Prop where
 anti:∀ a b,P a→P b→(c a b<0↔0<c b a)
 trans:∀ a b d,P a→P b→P d→c a b≤0→c b d≤0→c a d≤0
theorem Cw.refl{α:Type}{P:α→Prop}{c:α→α→Int}(h:Cw P c)(a:α)(ha:P a):c a a=0:=by
 have:=h.anti a a ha ha
 omega
theorem Cw.lt_le{α:Type}{P:α→Prop}{c:α→α→Int}(h:Cw P c){a b d:α}(ha:P a)(hb:P b)(hd:P d)(h1:c a b≤0)(h2:c b d<0):c a d<0:=by
 have a1:=h.anti a d ha hd
 have a2:=h.anti b d hb hd
 have a3:=h.anti d a hd ha
 have:=h.trans d a b hd ha hb
 have a4:=h.anti d b hd hb
 omega
theorem Cw.le_lt{α:Type}{P:α→Prop}{c:α→α→Int}(h:Cw P c){a b d:α}(ha:P a)(hb:P b)(hd:P d)(h1:c a b<0)(h2:c b d≤0):c a d<0:=by
 have a1:=h.anti a d ha hd
 have a2:=h.anti a b ha hb
 have a3:=h.anti d a hd ha
 have:=h.trans b d a hb hd ha
 have a4:=h.anti b a hb ha
 omega
theorem Cw.map{α β:Type}{P:α→Prop}{Q:β→Prop}{c:β→β→Int}(h:Cw Q c)(f:α→β)(hf:∀ a,P a→Q (f a)):Cw P (fun a b=>c (f a) (f b)) :=
 ⟨fun a b ha hb=>h.anti _ _ (hf a ha) (hf b hb),fun a b d ha hb hd=>h.trans _ _ _ (hf a ha) (hf b hb) (hf d hd)⟩
theorem Cw.sgn{α:Type}{P:α→Prop}{c c':α→α→Int}(h:Cw P c)(hs:∀ a b,P a→P b→(c' a b<0↔c a b<0)∧(c' a b=0↔c a b=0)):Cw P c' where
 anti a b ha hb:=by
  have:=h.anti a b ha hb
  have:=hs a b ha hb
  have:=hs b a hb ha
  omega
 trans a b d ha hb hd:=by
  have:=h.trans a b d ha hb hd
  have:=hs a b ha hb
  have:=hs b d hb hd
  have:=hs a d ha hd
  omega
theorem cw_bytes:Cw (fun _=>True) Lib.compareBytes where
 anti a b _ _:=by
  have h1:=cmp_lt a b
  have h2:=cmp_lt b a
  have h3:=cmp_eq0 b a
  constructor
  ·intro h
   have e1:=h1.1 h
   have e2:=bl_asym a b e1
   have:¬ Lib.compareBytes b a<0:=fun h=>by rw [h2.1 h] at e2;cases e2
   have:¬ Lib.compareBytes b a=0:=fun h=>by rw [h3.1 h,bl_irr] at e1;cases e1
   omega
  ·intro h
   apply h1.2
   cases e:Op.bytesLess a b
   ·have:Op.bytesLess b a=false:=by
     cases e2:Op.bytesLess b a
     ·rfl
     ·have:=h2.2 e2;omega
    have:=h3.2 (bl_tri b a this e)
    omega
   ·rfl
 trans a b d _ _ _ h1 h2:=by
  have c1:=cmp_lt d a
  have hle:∀ x y:List UInt8,Lib.compareBytes x y≤0→Op.bytesLess y x=false:=fun x y h=>by
   cases e:Op.bytesLess y x
   ·rfl
   ·rcases Int.lt_or_eq_of_le h with h|h
    ·have:=bl_asym x y ((cmp_lt x y).1 h);rw [this] at e;cases e
    ·rw [(cmp_eq0 x y).1 h,bl_irr] at e;cases e
  have e:=bl_ntrans d b a (hle b d h2) (hle a b h1)
  cases e2:Op.bytesLess a d
  ·have:=(cmp_eq0 a d).2 (bl_tri a d e2 e);omega
  ·have:=(cmp_lt a d).2 e2;omega
theorem cmpS_eq(a b:List UInt8):(cmpS a b<0↔Lib.compareBytes a b<0)∧(cmpS a b=0↔Lib.compareBytes a b=0):=by
 have h1:=cmp_lt a b
 have h2:=cmp_eq0 a b
 unfold cmpS
 rw[h1,h2]
 cases e:Op.bytesLess a b
 ·simp only[Bool.false_eq_true,if_false]
  split <;> simp_all
 ·have:¬ a=b:=fun h=>by rw [h,bl_irr] at e;cases e
  simp[this]
theorem cw_S:Cw (fun _=>True) cmpS:=cw_bytes.sgn fun a b _ _=>cmpS_eq a b
theorem cmpLL_anti:∀ l m:List (List UInt8),cmpLL l m<0↔0<cmpLL m l
 |[],[]=>by simp[cmpLL]
 |[],_ :: _=>by simp[cmpLL]
 |_ :: _,[]=>by simp[cmpLL]
 |a :: l,b :: m=>by
  have ih:=cmpLL_anti l m
  have h1:=cw_S.anti a b trivial trivial
  have h2:=cw_S.anti b a trivial trivial
  simp only[cmpLL]
  split <;> split <;> omega
theorem cmpLL_trans:∀ l m n:List (List UInt8),cmpLL l m≤0→cmpLL m n≤0→cmpLL l n≤0
 |[],_,[]=>by simp[cmpLL]
 |[],_,_ :: _=>by simp[cmpLL]
 |_ :: _,[],_=>by simp[cmpLL]
 |_ :: _,_ :: _,[]=>by simp[cmpLL]
 |a :: l,b :: m,c :: n=>by
  have ih:=cmpLL_trans l m n
  have t1:=cw_S.trans a b c trivial trivial trivial
  have t3:=@Cw.lt_le _ _ _ cw_S a b c trivial trivial trivial
  have t4:=@Cw.le_lt _ _ _ cw_S a b c trivial trivial trivial
  simp only[cmpLL]
  split <;> split <;> split <;> omega
theorem cw_LL:Cw (fun _=>True) cmpLL:=⟨fun a b _ _=>cmpLL_anti a b,fun a b d _ _ _=>cmpLL_trans a b d⟩
theorem rise_fold{n:List UInt8}(h:isName n):fold n=mk (riseN n).reverse:=by
 unfold riseN
 rw[List.reverse_reverse]
 exact fold_fl h
theorem perm_nodup{α:Type}[DecidableEq α]:∀ {l m:List α},l.Nodup→m.Nodup→(∀ x,x ∈ l↔x ∈ m)→l.Perm m
 |[],m,_,_,h=>by
  have:m=[]:=List.eq_nil_iff_forall_not_mem.2 fun x hx=>by have:=(h x).2 hx;cases this
  rw[this]
 |a :: l,m,h1,h2,h=>by
  rw [List.nodup_cons] at h1
  have ha:a ∈ m:=(h a).1 (by simp)
  refine .trans (.cons a ?_) (List.perm_cons_erase ha).symm
  refine perm_nodup h1.2 (h2.erase a) fun x=>?_
  rw[h2.mem_erase_iff]
  constructor
  ·intro hx
   exact⟨fun e=>h1.1 (e ▸ hx),(h x).1 (by simp[hx])⟩
  ·rintro ⟨hx1,hx2⟩
   rcases List.mem_cons.1 ((h x).2 hx2) with e|hx
   ·exact absurd e hx1
   ·exact hx
theorem inj_perm{n:Nat}{q:Nat→Nat}(hq:Inj n q):((List.range n).map q).Perm (List.range n):=by
 refine perm_nodup ?_ List.nodup_range fun x=>?_
 ·unfold List.Nodup
  rw[List.pairwise_map]
  refine(List.nodup_range (n:=n)).imp_of_mem fun {a b} ha hb hab e=>?_
  exact hab (hq.un a b (List.mem_range.1 ha) (List.mem_range.1 hb) e)
 ·rw[List.mem_map,List.mem_range]
  constructor
  ·rintro ⟨i,hi,rfl⟩
   exact hq.lt i (List.mem_range.1 hi)
  ·intro hx
   obtain⟨i,hi,e⟩:=hq.surj x hx
   exact⟨i,List.mem_range.2 hi,e⟩
end Go.Proofs.Ytnfoihdifohkeaa
namespace Go.Proofs.Ytnfoihdifohkeaa
open Go Go.Eng
set_option maxRecDepth 100000
def cmpZ(L:List (List UInt8))(x y:Nat):Int:=cmpLL (riseN (L.getD x default)) (riseN (L.getD y default))
def leZ(L:List (List UInt8))(i j:Nat):Bool:=decide (cmpZ L i j<0) || (decide (cmpZ L i j=0) && decide (i≤j))
theorem leZ_iff(L:List (List UInt8))(i j:Nat):leZ L i j=true↔cmpZ L i j<0∨(cmpZ L i j=0∧i≤j):=by
 unfold leZ;simp
theorem leZ_trans(L:List (List UInt8))(a b c:Nat)(h1:leZ L a b=true)(h2:leZ L b c=true):leZ L a c=true:=by
 rw [leZ_iff] at *
 unfold cmpZ at *
 have t1:=cmpLL_trans (riseN (L.getD a default)) (riseN (L.getD b default)) (riseN (L.getD c default))
 have t2:=@Cw.lt_le _ _ _ cw_LL (riseN (L.getD a default)) (riseN (L.getD b default)) (riseN (L.getD c default)) trivial trivial trivial
 have t3:=@Cw.le_lt _ _ _ cw_LL (riseN (L.getD a default)) (riseN (L.getD b default)) (riseN (L.getD c default)) trivial trivial trivial
 omega
theorem leZ_total(L:List (List UInt8))(a b:Nat):(leZ L a b || leZ L b a)=true:=by
 rw[Bool.or_eq_true,leZ_iff,leZ_iff]
 unfold cmpZ
 have a1:=cmpLL_anti (riseN (L.getD a default)) (riseN (L.getD b default))
 have a2:=cmpLL_anti (riseN (L.getD b default)) (riseN (L.getD a default))
 omega
theorem leZ_anti(L:List (List UInt8))(a b:Nat)(h1:leZ L a b=true)(h2:leZ L b a=true):a=b:=by
 rw [leZ_iff] at *
 unfold cmpZ at *
 have a1:=cmpLL_anti (riseN (L.getD a default)) (riseN (L.getD b default))
 have a2:=cmpLL_anti (riseN (L.getD b default)) (riseN (L.getD a default))
 omega
theorem perm_one{α:Type}{le:α→α→Prop}(anti:∀ a b,le a b→le b a→a=b):∀ {l m:List α},l.Perm m→l.Pairwise le→m.Pairwise le→l=m
 |[],m,hp,_,_=>by rw[List.nil_perm.1 hp]
 |a :: l,[],hp,_,_=>by have:=hp.length_eq;simp at this
 |a :: l,b :: m,hp,h1,h2=>by
  have hab:a=b:=by
   rw [List.pairwise_cons] at h1 h2
   have ha:a ∈ b :: m:=hp.mem_iff.1 (by simp)
   have hb:b ∈ a :: l:=hp.mem_iff.2 (by simp)
   rcases List.mem_cons.1 ha with e|ha
   ·exact e
   rcases List.mem_cons.1 hb with e|hb
   ·exact e.symm
   exact anti a b (h1.1 b hb) (h2.1 a ha)
  subst hab
  rw [List.pairwise_cons] at h1 h2
  rw[perm_one anti hp.cons_inv h1.2 h2.2]
def sortI(L:List (List UInt8)):List Nat:=(List.range L.length).mergeSort (leZ L)
theorem sortI_perm(L:List (List UInt8)):(sortI L).Perm (List.range L.length):=List.mergeSort_perm _ _
theorem sortI_len(L:List (List UInt8)):(sortI L).length=L.length:=by rw[(sortI_perm L).length_eq,List.length_range]
theorem sortI_pw(L:List (List UInt8)):(sortI L).Pairwise fun a b=>leZ L a b=true:=List.pairwise_mergeSort (leZ_trans L) (leZ_total L) _
def sortP(L:List (List UInt8)):List (List UInt8):=(sortI L).map fun i=>L.getD i default
theorem sortP_len(L:List (List UInt8)):(sortP L).length=L.length:=by unfold sortP;rw[List.length_map,sortI_len]
theorem sortP_mem(L:List (List UInt8))(n:List UInt8):n ∈ sortP L↔n ∈ L:=by
 unfold sortP
 rw[List.mem_map]
 constructor
 ·rintro ⟨i,hi,rfl⟩
  have hi:=List.mem_range.1 ((sortI_perm L).mem_iff.1 hi)
  rw[List.getD_eq_getElem?_getD,List.getElem?_eq_getElem hi]
  exact List.getElem_mem hi
 ·intro h
  obtain⟨i,hi,rfl⟩:=List.mem_iff_getElem.1 h
  refine⟨i,(sortI_perm L).mem_iff.2 (List.mem_range.2 hi),?_⟩
  rw[List.getD_eq_getElem?_getD,List.getElem?_eq_getElem hi]
  rfl
theorem sortP_of(L:List (List UInt8))(q:Nat→Nat)(hq:Inj L.length q)(hr:Rise (LL fun x y=>decide (cmpZ L x y<0)) q 0 L.length):∀ i,i<L.length→L.getD (q i) default=(sortP L).getD i default:=by
 have e:(List.range L.length).map q=sortI L:=by
  refine perm_one (le:=fun a b=>leZ L a b=true) (leZ_anti L) ((inj_perm hq).trans (sortI_perm L).symm) ?_ (sortI_pw L)
  rw[List.pairwise_map,List.pairwise_iff_getElem]
  intro i j hi hj hij
  rw[List.getElem_range,List.getElem_range]
  simp only [List.length_range] at hi hj
  rw[leZ_iff]
  rcases hr i j (Nat.zero_le _) hij hj with h|⟨h,h2⟩
  ·exact .inl (of_decide_eq_true h)
  ·have h:¬ cmpZ L (q j) (q i)<0:=of_decide_eq_false h
   have a1:=cmpLL_anti (riseN (L.getD (q i) default)) (riseN (L.getD (q j) default))
   have a2:=cmpLL_anti (riseN (L.getD (q j) default)) (riseN (L.getD (q i) default))
   unfold cmpZ at *
   omega
 intro i hi
 unfold sortP
 rw[←e,List.map_map]
 have h2:(List.map ((fun i=>L.getD i default) ∘ q) (List.range L.length))[i]? = some (L.getD (q i) default):=by
  rw[List.getElem?_map,List.getElem?_range hi]
  rfl
 rw[List.getD_eq_getElem?_getD (l:=List.map _ _),h2]
 rfl
theorem weakZ(L:List (List UInt8)):Weak L.length fun x y=>decide (cmpZ L x y<0):=by
 unfold cmpZ
 refine⟨fun i j hi hj h=>?_,fun i j k hi hj hk h1 h2=>?_,fun i j k hi hj hk h1 h2=>?_⟩
 ·have a1:=cmpLL_anti (riseN (L.getD i default)) (riseN (L.getD j default))
  have:=of_decide_eq_true h
  exact decide_eq_false (by omega)
 ·have a1:=@Cw.lt_le _ _ _ cw_LL (riseN (L.getD i default)) (riseN (L.getD j default)) (riseN (L.getD k default)) trivial trivial trivial
  have h1:=of_decide_eq_true h1
  have h2:=of_decide_eq_true h2
  exact decide_eq_true (a1 (by omega) h2)
 ·have b1:=cmpLL_anti (riseN (L.getD j default)) (riseN (L.getD i default))
  have b2:=cmpLL_anti (riseN (L.getD k default)) (riseN (L.getD j default))
  have b3:=cmpLL_anti (riseN (L.getD i default)) (riseN (L.getD k default))
  have b4:=cmpLL_anti (riseN (L.getD i default)) (riseN (L.getD j default))
  have b5:=cmpLL_anti (riseN (L.getD j default)) (riseN (L.getD k default))
  have b6:=cmpLL_anti (riseN (L.getD k default)) (riseN (L.getD i default))
  have a4:=cmpLL_trans (riseN (L.getD k default)) (riseN (L.getD j default)) (riseN (L.getD i default))
  have h1:=of_decide_eq_false h1
  have h2:=of_decide_eq_false h2
  exact decide_eq_false (by omega)
def keepZ(P:List (List UInt8))(i:Nat):Bool:=i == 0 || riseN (P.getD i default) != riseN (P.getD (i - 1) default)
def onceU(P:List (List UInt8))(i:Nat):List (List UInt8):=((List.range i).filter (keepZ P)).map fun i=>P.getD i default
theorem onceU_next(P:List (List UInt8))(i:Nat):onceU P (i+1)=if keepZ P i then onceU P i++[P.getD i default] else onceU P i:=by
 unfold onceU
 rw[List.range_succ,List.filter_append]
 cases h:keepZ P i <;> simp[h]
theorem onceU_len(P:List (List UInt8)):∀ i,(onceU P i).length≤i
 |0=>Nat.le_refl 0
 |i+1=>by
  have:=onceU_len P i
  rw[onceU_next]
  split
  ·simp;omega
  ·omega
theorem onceU_mem{P:List (List UInt8)}{n:List UInt8}:∀ {i:Nat},i≤P.length→n ∈ onceU P i→n ∈ P
 |0,_,h=>by cases h
 |i+1,hi,h=>by
  rw [onceU_next] at h
  have hg:P.getD i default ∈ P:=by
   rw[List.getD_eq_getElem?_getD,List.getElem?_eq_getElem (by omega)]
   exact List.getElem_mem _
  split at h
  ·rcases List.mem_append.1 h with h|h
   ·exact onceU_mem (by omega) h
   ·simp only [List.mem_singleton] at h
    subst h
    exact hg
  ·exact onceU_mem (by omega) h
theorem onceU_has{P:List (List UInt8)}:∀ {i j:Nat},j<i→∃ n ∈ onceU P i,riseN n=riseN (P.getD j default)
 |0,_,h=>by omega
 |i+1,j,h=>by
  rw[onceU_next]
  by_cases hj:j<i
  ·obtain⟨n,hn,e⟩:=@onceU_has P i j hj
   refine⟨n,?_,e⟩
   split
   ·exact List.mem_append_left _ hn
   ·exact hn
  ·have hj:j=i:=by omega
   subst hj
   cases hk:keepZ P j with
   |true=>exact⟨P.getD j default,by simp,rfl⟩
   |false =>
    unfold keepZ at hk
    simp only [Bool.or_eq_false_iff,bne_eq_false_iff_eq,beq_eq_false_iff_ne] at hk
    obtain⟨n,hn,e⟩:=@onceU_has P j (j - 1) (by omega)
    exact⟨n,by simpa using hn,by rw[e,hk.2]⟩
def sortN(l:List (List UInt8)):List (List UInt8):=onceU (sortP (l.filter fun n=>decide (isName n))) (l.filter fun n=>decide (isName n)).length
theorem sortN_mem{l:List (List UInt8)}{n:List UInt8}(h:n ∈ sortN l):n ∈ l∧isName n:=by
 have h:=onceU_mem (by rw[sortP_len];exact Nat.le_refl _) h
 rw [sortP_mem] at h
 obtain⟨h1,h2⟩:=List.mem_filter.1 h
 exact⟨h1,of_decide_eq_true h2⟩
theorem sortN_has{l:List (List UInt8)}{n:List UInt8}(h:n ∈ l)(hn:isName n):∃ m ∈ sortN l,fold m=fold n:=by
 have h:n ∈ sortP (l.filter fun n=>decide (isName n)):=(sortP_mem _ _).2 (List.mem_filter.2 ⟨h,decide_eq_true hn⟩)
 obtain⟨j,hj,e⟩:=List.mem_iff_getElem.1 h
 obtain ⟨m,hm,e1⟩:=@onceU_has (sortP (l.filter fun n=>decide (isName n))) _ j (show j<(l.filter fun n=>decide (isName n)).length by rw [sortP_len] at hj;exact hj)
 refine⟨m,hm,?_⟩
 rw[rise_fold (sortN_mem hm).2,rise_fold hn,e1,List.getD_eq_getElem?_getD,List.getElem?_eq_getElem hj,←e]
 rfl
theorem sortN_len(l:List (List UInt8)):(sortN l).length≤l.length:=Nat.le_trans (onceU_len _ _) (List.length_filter_le _ _)
end Go.Proofs.Ytnfoihdifohkeaa
namespace Go.Proofs.Ytnfoihdifohkeaa
open Go Go.Eng
set_option maxRecDepth 100000
def plW(n:List UInt8):List DV:=[.str n,.sl (riseN n).isEmpty (riseN n).length 1 (strs (riseN n))]
def plV(n:List UInt8):SV:=.agg ((plW n).map .d)
theorem rise_short(n:List UInt8):(riseN n).length≤1000000:=by
 by_cases h:isName n
 ·have:=rise_len h;omega
 ·have e:labelsOf n=none:=by
   cases e:labelsOf n
   ·rfl
   ·exact absurd ((isName_labels n).2 (by rw[e];rfl)) h
  unfold riseN fl labN
  rw[e]
  simp
set_option maxHeartbeats 4000000 in
theorem zord_ok(a b:List UInt8):FnOk Try.prog 65 [plV a,plV b] (.d (.int .i64 (cmpLL (riseN a) (riseN b)))):=by
 refine fnOk_of_run (TT:=TT) (IN:=lookI []) TT_ok INok_nil mixed 1000 Try.func65 rfl (enters Try.func65 (by kernel_rfl) rfl) rfl 8 (by kernel_rfl) ?_
 conv=>whnf
 refine .one (.data _ (cmpll_ok _ _ _ _ (rise_short a) (rise_short b)) rfl rfl ?_)
 conv=>whnf
 repeat'(first|exact ⟨⟩|exact rfl|exact fun _=>Iff.rfl|exact fun _ _=>rfl|exact renM_ent rfl _|apply And.intro)
end Go.Proofs.Ytnfoihdifohkeaa
namespace Go.Proofs.Ytnfoihdifohkeaa
open Go Go.Eng
def zcel(L:List (List UInt8))(x:Nat):List DV:=plW (L.getD x default)
def zrowP(L:List (List UInt8))(n:Nat)(z:Z)(p:Nat→Nat):KB:=.row 144 2 n z (fun i=>zcel L (p i))
def zltC(c:Nat→Nat→Int)(x y:Nat):Bool:=decide (c x y<0)
theorem zoneF_cel L (q:Nat→Nat) (j y:Nat):oneF j 0 (zcel L y) (fun i=>zcel L (q i))=fun i=>zcel L (upd q j y i):=by
 funext i
 unfold oneF upd
 split
 ·rfl
 ·rfl
theorem zupd_two{α:Type}(q:Nat→α)(j k:Nat)(h:j<k):upd (upd q j (q k)) k (q j)=swp q j k 1:=by
 funext x;unfold upd swp;(try dsimp only);repeat' split
 all_goals first|rfl|(exfalso;omega)|(congr 1;omega)
theorem zputs_two(L:List (List UInt8))(q:Nat→Nat)(j k:Nat)(h:j<k):oneF k 0 (zcel L (q j)) (oneF j 0 (zcel L (q k)) (fun x=>zcel L (q x)))=fun x=>zcel L (swp q j k 1 x):=by
 rw[zoneF_cel,zoneF_cel,zupd_two q j k h]
theorem zputs_two'(L:List (List UInt8))(q:Nat→Nat)(j k:Nat)(h:j<k):oneF j 0 (zcel L (q k)) (oneF k 0 (zcel L (q j)) (fun x=>zcel L (q x)))=fun x=>zcel L (swp q j k 1 x):=by
 rw[zoneF_cel,zoneF_cel,←zupd_two q j k h]
 funext x;unfold upd;repeat' split
 all_goals first|rfl|omega|(congr 1;omega)
set_option maxRecDepth 100000
set_option maxHeartbeats 4000000 in
theorem zswap_ok(L:List (List UInt8))(n:Nat)(hn:n<1152921504606846976)(z:Z)(p:Nat→Nat)(a b m:Nat)(ha:a+m≤n)(hb:b+m≤n)(hab:a+m≤b):COk Try.prog 100 [.all 0,iV a,iV b,iV m,.any] [zrowP L n z p] (fun s k=>s = .tup []∧k=[zrowP L n z (swp p a b m)]):=by
 refine cOk_of_run (TT:=TT) (IN:=lookI []) TT_ok INok_nil mixed 1000 Try.func100 rfl (enters Try.func100 (by kernel_rfl) rfl) 33 (by kernel_rfl) ?_
 conv=>whnf
 refine .inv Nat (fun i=>i≤m) (fun i=>[(10,iV i)]) (fun i=>[(0,zrowP L n z (swp p a b i))]) (fun i=>m - i) ⟨0,[0],by omega,?_⟩ ?_
 ·conv=>whnf
  rw[swp_zero]
  repeat'(first|exact ⟨⟩|exact rfl|exact subZ_self _|exact Or.inr rfl|exact fun _ _=>rfl|exact fun _ h=>absurd h (Nat.not_lt_zero _)|apply And.intro)
 intro i hi
 conv=>whnf
 refine⟨fun h1=>?_,fun h1=>?_⟩
 ·have h1:i<m:=by
   have h:(i:Int)<m:=of_decide_eq_true h1
   omega
  have e1:IntKind.i64.wrap ((a:Int)+(i:Int))=((a+i:Nat):Int):=by rw[w64_in _ (by omega)];omega
  have e2:IntKind.i64.wrap ((b:Int)+(i:Int))=((b+i:Nat):Int):=by rw[w64_in _ (by omega)];omega
  conv=>whnf
  refine⟨?_,?_,?_,?_⟩
  rotate_left 2
  ·conv=>whnf
   rw[e1,e2]
   repeat'(first|exact⟨rfl,rfl⟩|(refine⟨⟨by omega,by omega⟩,?_⟩;conv=>whnf)|exact ⟨⟩|apply And.intro|(conv=>whnf))
  ·conv=>whnf
   refine⟨i+1,[0],by omega,by show m - (i+1)<m - i;omega,?_⟩
   have e3:IntKind.i64.wrap ((i:Int)+1)=((i+1:Nat):Int):=by rw[w64_in _ (by omega)];omega
   rw[e3]
   conv=>whnf
   repeat'(first|exact ⟨⟩|exact rfl|exact subZ_self _|exact Or.inr rfl|exact fun _ _=>rfl|exact fun _ h=>absurd h (Nat.not_lt_zero _)|apply And.intro)
   intro x hx
   rw[e1]
   exact(congrFun (zputs_two L (swp p a b i) (a+i) (b+i) (by omega)) x).trans (congrArg (fun f=>zcel L (f x)) (swp_one p a b i (by omega)))
 ·have h1:i=m:=by
   have h:¬ ((i:Int)<m):=of_decide_eq_false h1
   omega
  subst h1
  conv=>whnf
  refine⟨[0],_,_,rfl,rfl,?_,?_,rfl,rfl⟩
  ·exact rfl
  ·conv=>whnf
   repeat'(first|exact ⟨⟩|exact rfl|exact subZ_self _|exact Or.inr rfl|exact fun _ _=>rfl|exact fun _ h=>absurd h (Nat.not_lt_zero _)|apply And.intro)
set_option maxHeartbeats 4000000 in
theorem zrotate_ok(L:List (List UInt8))(n:Nat)(hn:n<1152921504606846976)(z:Z)(p:Nat→Nat)(a m b:Nat)(ha:a<m)(hb:m<b)(hbn:b≤n):COk Try.prog 98 [.all 0,iV a,iV m,iV b,.any] [zrowP L n z p] (fun s k=>s = .tup []∧k=[zrowP L n z (rot p a m b)]):=by
 refine cOk_of_run (TT:=TT) (IN:=lookI []) TT_ok INok_nil mixed 1000 Try.func98 rfl (enters Try.func98 (by kernel_rfl) rfl) 53 (by kernel_rfl) ?_
 have e1:IntKind.i64.wrap ((m:Int) - (a:Int))=((m - a:Nat):Int):=by rw[w64_in _ (by omega)];omega
 have e2:IntKind.i64.wrap ((b:Int) - (m:Int))=((b - m:Nat):Int):=by rw[w64_in _ (by omega)];omega
 conv=>whnf
 rw[e1,e2]
 refine .inv (Nat × Nat × (Nat→Nat)) (fun s=>0<s.1∧0<s.2.1∧s.1≤m - a∧s.2.1≤b - m∧rot s.2.2 (m - s.1) m (m+s.2.1)=rot p a m b) (fun s=>[(10,iV s.1),(11,iV s.2.1)]) (fun s=>[(0,zrowP L n z s.2.2)]) (fun s=>s.1+s.2.1) ⟨(m - a,b - m,p),[0],show 0<m - a∧0<b - m∧m - a≤m - a∧b - m≤b - m∧rot p (m - (m - a)) m (m+(b - m))=rot p a m b from⟨by omega,by omega,by omega,by omega,?_⟩,?_⟩ ?_
 ·rw[show m - (m - a)=a by omega,show m+(b - m)=b by omega]
 ·conv=>whnf
  repeat'(first|exact ⟨⟩|exact rfl|exact subZ_self _|exact Or.inr rfl|exact fun _ _=>rfl|exact fun _ h=>absurd h (Nat.not_lt_zero _)|apply And.intro)
 intro s hs
 obtain⟨i,j,q⟩:=s
 obtain⟨h0,h00,him,hjb,hq⟩:=hs
 dsimp only at h0 h00 him hjb hq
 conv=>whnf
 refine⟨fun h1=>?_,fun h1=>?_⟩
 ·have h1:¬ i=j:=fun e=>by subst e;simp at h1
  conv=>whnf
  refine⟨fun h2=>?_,fun h2=>?_⟩
  ·have h2:j<i:=by
    have h:(i:Int) > j:=of_decide_eq_true h2
    omega
   have e3:IntKind.i64.wrap ((m:Int) - (i:Int))=((m - i:Nat):Int):=by rw[w64_in _ (by omega)];omega
   conv=>whnf
   rw[e3]
   refine .rel _ (zswap_ok L n hn z q (m - i) m j (by omega) (by omega) (by omega)) (fun r ks' hR=>?_)
   obtain⟨rfl,rfl⟩:=hR
   have e4:IntKind.i64.wrap ((i:Int) - (j:Int))=((i - j:Nat):Int):=by rw[w64_in _ (by omega)];omega
   conv=>whnf
   rw[e4]
   refine⟨(i - j,j,swp q (m - i) m j),[0],(show 0<i - j∧0<j∧i - j≤m - a∧j≤b - m∧rot (swp q (m - i) m j) (m - (i - j)) m (m+j)=rot p a m b from⟨by omega,by omega,by omega,by omega,(rot_left q m i j h2 (by omega)).trans hq⟩),by show i - j+j<i+j;omega,?_⟩
   conv=>whnf
   repeat'(first|exact ⟨⟩|exact rfl|exact subZ_self _|exact Or.inr rfl|exact fun _ _=>rfl|exact fun _ h=>absurd h (Nat.not_lt_zero _)|apply And.intro)
  ·have h2:i<j:=by
    have h:¬ ((i:Int) > j):=of_decide_eq_false h2
    omega
   have e3:IntKind.i64.wrap ((m:Int) - (i:Int))=((m - i:Nat):Int):=by rw[w64_in _ (by omega)];omega
   have e5:IntKind.i64.wrap (IntKind.i64.wrap ((m:Int)+(j:Int)) - (i:Int))=((m+j - i:Nat):Int):=by rw[w64_in ((m:Int)+j) (by omega),w64_in _ (by omega)];omega
   conv=>whnf
   rw[e3,e5]
   refine .rel _ (zswap_ok L n hn z q (m - i) (m+j - i) i (by omega) (by omega) (by omega)) (fun r ks' hR=>?_)
   obtain⟨rfl,rfl⟩:=hR
   have e4:IntKind.i64.wrap ((j:Int) - (i:Int))=((j - i:Nat):Int):=by rw[w64_in _ (by omega)];omega
   conv=>whnf
   rw[e4]
   refine⟨(i,j - i,swp q (m - i) (m+j - i) i),[0],(show 0<i∧0<j - i∧i≤m - a∧j - i≤b - m∧rot (swp q (m - i) (m+j - i) i) (m - i) m (m+(j - i))=rot p a m b from⟨by omega,by omega,by omega,by omega,(rot_right q m i j h2 (by omega)).trans hq⟩),by show i+(j - i)<i+j;omega,?_⟩
   conv=>whnf
   repeat'(first|exact ⟨⟩|exact rfl|exact subZ_self _|exact Or.inr rfl|exact fun _ _=>rfl|exact fun _ h=>absurd h (Nat.not_lt_zero _)|apply And.intro)
 ·have h1:i=j:=by simp at h1;omega
  subst h1
  have e3:IntKind.i64.wrap ((m:Int) - (i:Int))=((m - i:Nat):Int):=by rw[w64_in _ (by omega)];omega
  conv=>whnf
  rw[e3]
  refine .rel _ (zswap_ok L n hn z q (m - i) m i (by omega) (by omega) (by omega)) (fun r ks' hR=>?_)
  obtain⟨rfl,rfl⟩:=hR
  rw[rot_same q m i (by omega),hq]
  conv=>whnf
  refine⟨[0],_,_,rfl,rfl,?_,?_,rfl,rfl⟩
  ·exact rfl
  ·conv=>whnf
   repeat'(first|exact ⟨⟩|exact rfl|exact subZ_self _|exact Or.inr rfl|exact fun _ _=>rfl|exact fun _ h=>absurd h (Nat.not_lt_zero _)|apply And.intro)
end Go.Proofs.Ytnfoihdifohkeaa
namespace Go.Proofs.Ytnfoihdifohkeaa
open Go Go.Eng
set_option maxRecDepth 100000
set_option maxHeartbeats 4000000 in
theorem zins_ok(L:List (List UInt8))(n:Nat)(hn:n<1152921504606846976)(z:Z)(p:Nat→Nat)(hw:Weak n (zltC (cmpZ L)))(hp:Inj n p)(a b:Nat)(hab:a≤b)(hb:b≤n)(hasc:∀ i j,a≤i→i<j→j<b→p i<p j):COk Try.prog 92 [.all 0,iV a,iV b,.fn 65 []] [zrowP L n z p] (fun s k=>s = .tup []∧∃ r,Merged (L:=LL (zltC (cmpZ L))) p r n a b∧k=[zrowP L n z r]):=by
 refine cOk_of_run (TT:=TT) (IN:=lookI []) TT_ok INok_nil mixed 1000 Try.func92 rfl (enters Try.func92 (by kernel_rfl) rfl) 49 (by kernel_rfl) ?_
 have e1:IntKind.i64.wrap ((a:Int)+1)=((a+1:Nat):Int):=by rw[w64_in _ (by omega)];omega
 conv=>whnf
 rw[e1]
 refine .inv (Nat × (Nat→Nat)) (fun s=>a+1≤s.1∧(s.1≤b∨(s.1=a+1∧s.2=p))∧Merged (L:=LL (zltC (cmpZ L))) p s.2 n a s.1) (fun s=>[(8,iV s.1)]) (fun s=>[(0,zrowP L n z s.2)]) (fun s=>n+1 - s.1) ⟨(a+1,p),[0],show a+1≤a+1∧(a+1≤b∨(a+1=a+1∧p=p))∧Merged (L:=LL (zltC (cmpZ L))) p p n a (a+1) from⟨by omega,.inr ⟨rfl,rfl⟩,.stay hp (fun i j _ _ _=>by omega)⟩,?_⟩ ?_
 ·conv=>whnf
  repeat'(first|exact ⟨⟩|exact rfl|exact subZ_self _|exact Or.inr rfl|exact fun _ _=>rfl|exact fun _ h=>absurd h (Nat.not_lt_zero _)|apply And.intro)
 intro s hs
 obtain⟨i,q⟩:=s
 obtain⟨hai,hib,hm⟩:=hs
 have hai:a+1≤i:=hai
 have hib:i≤b∨(i=a+1∧q=p):=hib
 have hm:Merged (L:=LL (zltC (cmpZ L))) p q n a i:=hm
 conv=>whnf
 refine⟨fun h1=>?_,fun h1=>?_⟩
 ·have h1:i<b:=by
   have h:(i:Int)<b:=of_decide_eq_true h1
   omega
  have asc:∀ t,a≤t→t<i→q t<q i:=fun t h3 h4=>by
   obtain⟨t',b1,b2,b3⟩:=hm.same.fwd t h3 h4
   rw[b3,hm.same.out i (by omega)]
   exact hasc t' i b1 b2 h1
  have next:∀ j,a≤j→j≤i→(j=a∨LL (zltC (cmpZ L)) (q (j - 1)) (q i))→(j=i∨LL (zltC (cmpZ L)) (q i) (q j))→Merged (L:=LL (zltC (cmpZ L))) p (rot q j i (i+1)) n a (i+1):=fun j h3 h4 h5 h6=>by
   have:=down_of hw.ord hm.inj (show i<n by omega) h3 h4 hm.rise h5 h6
   exact⟨this.inj,(hm.same.wide (Nat.le_refl _) (by omega)).trans this.same,this.rise⟩
  have e6:IntKind.i64.wrap ((i:Int)+1)=((i+1:Nat):Int):=by rw[w64_in _ (by omega)];omega
  conv=>whnf
  refine .inv Nat (fun j=>a≤j∧j≤i∧(j=i∨LL (zltC (cmpZ L)) (q i) (q j))) (fun j=>[(9,iV j)]) (fun j=>[(0,zrowP L n z (rot q j i (i+1)))]) (fun j=>j) ⟨i,[0],⟨by omega,by omega,.inl rfl⟩,?_⟩ ?_
  ·conv=>whnf
   rw[rot_id1 q i (i+1) (by omega)]
   repeat'(first|exact ⟨⟩|exact rfl|exact subZ_self _|exact Or.inr rfl|exact fun _ _=>rfl|exact fun _ h=>absurd h (Nat.not_lt_zero _)|apply And.intro)
  intro j hj
  obtain⟨haj,hji,hjL⟩:=hj
  conv=>whnf
  refine⟨fun h2=>?_,fun h2=>?_⟩
  ·have h2:a<j:=by
    have h:(j:Int) > a:=of_decide_eq_true h2
    omega
   have e2:IntKind.i64.wrap ((j:Int) - 1)=((j - 1:Nat):Int):=by rw[w64_in _ (by omega)];omega
   have e3:rot q j i (i+1) j=q i:=by rw[rot_a q (by omega) (by omega)];congr 1;omega
   have e4:rot q j i (i+1) (j - 1)=q (j - 1):=rot_o q (by omega) (by omega) (by omega)
   conv=>whnf
   refine⟨by omega,?_⟩
   conv=>whnf
   rw[e2]
   refine⟨by omega,?_⟩
   conv=>whnf
   rw[Int.toNat_natCast,Int.toNat_natCast,e3,e4]
   refine .data _ (zord_ok _ _) rfl rfl ?_
   conv=>whnf
   refine⟨fun h3=>?_,fun h3=>?_⟩
   ·have h3:zltC (cmpZ L) (q i) (q (j - 1))=true:=h3
    conv=>whnf
    refine⟨?_,?_,?_,?_⟩
    rotate_left 2
    ·conv=>whnf
     rw[e2]
     repeat'(first|exact⟨rfl,rfl⟩|(refine⟨⟨by omega,by omega⟩,?_⟩;conv=>whnf)|exact ⟨⟩|apply And.intro|(conv=>whnf))
    ·conv=>whnf
     rw[e2]
     refine⟨j - 1,[0],⟨by omega,by omega,.inr (.inl h3)⟩,by omega,?_⟩
     conv=>whnf
     repeat'(first|exact ⟨⟩|exact rfl|exact subZ_self _|exact Or.inr rfl|exact fun _ _=>rfl|exact fun _ h=>absurd h (Nat.not_lt_zero _)|apply And.intro)
     intro x hx
     rw[Int.toNat_natCast,Int.toNat_natCast]
     have:=zputs_two' L (rot q j i (i+1)) (j - 1) j (by omega)
     have e5:=rot_down q i (j - 1) (by omega)
     rw [show j - 1+1=j by omega] at e5
     exact(congrFun this x).trans (congrArg (fun f=>zcel L (f x)) e5)
   ·have h3:zltC (cmpZ L) (q i) (q (j - 1))=false:=h3
    have hL:LL (zltC (cmpZ L)) (q (j - 1)) (q i):=.inr ⟨h3,asc (j - 1) (by omega) (by omega)⟩
    conv=>whnf
    refine⟨(i+1,rot q j i (i+1)),[0],(show a+1≤i+1∧(i+1≤b∨(i+1=a+1∧rot q j i (i+1)=p))∧Merged (L:=LL (zltC (cmpZ L))) p (rot q j i (i+1)) n a (i+1) from⟨by omega,.inl (by omega),next j haj hji (.inr hL) hjL⟩),by show n+1 - (i+1)<n+1 - i;omega,?_⟩
    conv=>whnf
    rw[e6]
    repeat'(first|exact ⟨⟩|exact rfl|exact subZ_self _|exact Or.inr rfl|exact fun _ _=>rfl|exact fun _ h=>absurd h (Nat.not_lt_zero _)|apply And.intro)
  ·have h2:j=a:=by
    have h:¬ ((j:Int) > a):=of_decide_eq_false h2
    omega
   conv=>whnf
   refine⟨(i+1,rot q j i (i+1)),[0],(show a+1≤i+1∧(i+1≤b∨(i+1=a+1∧rot q j i (i+1)=p))∧Merged (L:=LL (zltC (cmpZ L))) p (rot q j i (i+1)) n a (i+1) from⟨by omega,.inl (by omega),next j haj hji (.inl h2) hjL⟩),by show n+1 - (i+1)<n+1 - i;omega,?_⟩
   conv=>whnf
   rw[e6]
   repeat'(first|exact ⟨⟩|exact rfl|exact subZ_self _|exact Or.inr rfl|exact fun _ _=>rfl|exact fun _ h=>absurd h (Nat.not_lt_zero _)|apply And.intro)
 ·have h1:b≤i:=by
   have h:¬ ((i:Int)<b):=of_decide_eq_false h1
   omega
  conv=>whnf
  refine⟨[0],_,_,rfl,rfl,?_,?_,rfl,q,?_,rfl⟩
  ·exact rfl
  ·conv=>whnf
   repeat'(first|exact ⟨⟩|exact rfl|exact subZ_self _|exact Or.inr rfl|exact fun _ _=>rfl|exact fun _ h=>absurd h (Nat.not_lt_zero _)|apply And.intro)
  ·rcases hib with h|h
   ·have:i=b:=by omega
    rw[←this];exact hm
   ·rw[h.2]
    exact .stay hp (fun i j _ _ _=>by omega)
end Go.Proofs.Ytnfoihdifohkeaa
namespace Go.Proofs.Ytnfoihdifohkeaa
open Go Go.Eng
theorem zrot_in(L:List (List UInt8))(n:Nat)(hn:n<1152921504606846976)(z:Z)(p:Nat→Nat)(a m b:Nat)(ha:a<m)(hb:m<b)(hbn:b≤n):COk Try.prog 98 [.all 0,iV a,iV m,iV b,.fn 65 []] [zrowP L n z p] (fun s k=>s = .tup []∧k=[zrowP L n z (rot p a m b)]):=by
 refine COk.anyA (COk.frame (zrotate_ok L n hn z p a m b ha hb hbn) [0] («as»:=[.all 0,iV a,iV m,iV b,.any]) rfl rfl rfl (fun s0 k0 h=>?_)) ⟨.inr rfl,.inr rfl,.inr rfl,.inr rfl,.inl rfl,True.intro⟩
 obtain⟨rfl,rfl⟩:=h
 exact⟨rfl,rfl⟩
theorem zhalf(i j:Nat)(h:i+j<9223372036854775808):IntKind.i64.wrap ((IntKind.u64.wrap (IntKind.i64.wrap ((i:Int)+(j:Int)))).fdiv (2 ^ (min (Int.toNat 1) IntKind.u64.bits)))=(((i+j) / 2:Nat):Int):=by
 rw[w64_in ((i:Int)+(j:Int)) (by omega),IntKind.wrap_u64]
 rw[show(2:Int) ^ (min (Int.toNat 1) IntKind.u64.bits)=2 from rfl,Int.fdiv_eq_ediv_of_nonneg _ (by omega)]
 rw[w64_in _ (by omega)]
 omega
set_option maxRecDepth 100000
set_option maxHeartbeats 8000000 in
theorem zsym_ok(L:List (List UInt8))(n:Nat)(hn:n<1152921504606846976)(z:Z)(hw:Weak n (zltC (cmpZ L))):∀ (k:Nat) (p:Nat→Nat) (a m b:Nat),b - a<k→Inj n p→a<m→m<b→b≤n→Rise (LL (zltC (cmpZ L))) p a m→Rise (LL (zltC (cmpZ L))) p m b→Sep p a m b →
 COk Try.prog 93 [.all 0,iV a,iV m,iV b,.fn 65 []] [zrowP L n z p] (fun s k=>s = .tup []∧∃ r,Merged (L:=LL (zltC (cmpZ L))) p r n a b∧k=[zrowP L n z r]):=by
 intro k
 induction k with
 |zero=>intro p a m b h;omega
 |succ k ih =>
 intro p a m b hk hp ham hmb hbn h1 h2 hs
 refine cOk_of_run (TT:=TT) (IN:=lookI []) TT_ok INok_nil mixed 1000 Try.func93 rfl (enters Try.func93 (by kernel_rfl) rfl) 215 (by kernel_rfl) ?_
 have e1:IntKind.i64.wrap ((m:Int) - (a:Int))=((m - a:Nat):Int):=by rw[w64_in _ (by omega)];omega
 have e2:IntKind.i64.wrap ((b:Int) - (m:Int))=((b - m:Nat):Int):=by rw[w64_in _ (by omega)];omega
 conv=>whnf
 rw[e1]
 refine⟨fun c1=>?_,fun c1=>?_⟩
 ·have c1:m=a+1:=by simp at c1;omega
  subst c1
  conv=>whnf
  refine .inv (Nat × Nat) (fun s=>a+1≤s.1∧s.1≤s.2∧s.2≤b∧(s.1=a+1∨LL (zltC (cmpZ L)) (p (s.1 - 1)) (p a))∧(s.2=b∨LL (zltC (cmpZ L)) (p a) (p s.2))) (fun s=>[(10,iV s.1),(11,iV s.2)]) (fun s=>[]) (fun s=>s.2 - s.1) ⟨(a+1,b),[0],⟨show a+1≤a+1 by omega,show a+1≤b by omega,show b≤b by omega,.inl rfl,.inl rfl⟩,?_⟩ ?_
  ·conv=>whnf
   repeat'(first|exact ⟨⟩|exact rfl|exact subZ_self _|exact Or.inr rfl|exact fun _ _=>rfl|exact fun _ h=>absurd h (Nat.not_lt_zero _)|apply And.intro)
  intro s hs2
  obtain⟨q1,q2,q3,q4,q5⟩:=hs2
  conv=>whnf
  generalize s.1=i at q1 q2 q4 ⊢
  generalize s.2=j at q2 q3 q5 ⊢
  refine⟨fun h3=>?_,fun h3=>?_⟩
  ·have h3:i<j:=by
    have h:(i:Int)<j:=of_decide_eq_true h3
    omega
   conv=>whnf
   refine⟨by omega,?_⟩
   conv=>whnf
   rw[zhalf i j (by omega)]
   have g1:i≤(i+j) / 2:=by omega
   have g2:(i+j) / 2<j:=by omega
   generalize (i+j) / 2=h at g1 g2 ⊢
   refine⟨by omega,?_⟩
   conv=>whnf
   refine⟨by omega,?_⟩
   conv=>whnf
   rw[Int.toNat_natCast,Int.toNat_natCast]
   refine .data _ (zord_ok _ _) rfl rfl ?_
   conv=>whnf
   refine⟨fun h4=>?_,fun h4=>?_⟩
   ·have h4:zltC (cmpZ L) (p h) (p a)=true:=h4
    conv=>whnf
    rw[show IntKind.i64.wrap ((h:Int)+1)=((h+1:Nat):Int) by rw[w64_in _ (by omega)];omega]
    refine⟨(h+1,j),[0],⟨show a+1≤h+1 by omega,show h+1≤j by omega,q3,.inr (.inl h4),q5⟩,by show j - (h+1)<j - i;omega,?_⟩
    conv=>whnf
    repeat'(first|exact ⟨⟩|exact rfl|exact subZ_self _|exact Or.inr rfl|exact fun _ _=>rfl|exact fun _ h=>absurd h (Nat.not_lt_zero _)|apply And.intro)
   ·have h4:zltC (cmpZ L) (p h) (p a)=false:=h4
    conv=>whnf
    refine⟨(i,h),[0],⟨q1,g1,show h≤b by omega,q4,.inr (.inr ⟨h4,hs a h (by omega) (by omega) (by omega) (by omega)⟩)⟩,by show h - i<j - i;omega,?_⟩
    conv=>whnf
    repeat'(first|exact ⟨⟩|exact rfl|exact subZ_self _|exact Or.inr rfl|exact fun _ _=>rfl|exact fun _ h=>absurd h (Nat.not_lt_zero _)|apply And.intro)
  ·have h3:i=j:=by
    have h:¬ (i:Int)<j:=of_decide_eq_false h3
    omega
   subst h3
   have hfin:=up_of hw.ord hp hbn q1 q3 h2 q4 q5
   have ei:IntKind.i64.wrap ((i:Int) - 1)=((i - 1:Nat):Int):=by rw[w64_in _ (by omega)];omega
   conv=>whnf
   refine .inv Nat (fun k=>a≤k∧k+1≤i) (fun k=>[(13,iV k)]) (fun k=>[(0,zrowP L n z (rot p a (a+1) (k+1)))]) (fun k=>i - k) ⟨a,[0],⟨by omega,by omega⟩,?_⟩ ?_
   ·conv=>whnf
    rw[rot_id2 p a (a+1) (by omega)]
    repeat'(first|exact ⟨⟩|exact rfl|exact subZ_self _|exact Or.inr rfl|exact fun _ _=>rfl|exact fun _ h=>absurd h (Nat.not_lt_zero _)|apply And.intro)
   intro k hk2
   obtain⟨r1,r2⟩:=hk2
   conv=>whnf
   rw[ei]
   refine⟨fun h3=>?_,fun h3=>?_⟩
   ·have h3:k<i - 1:=by
     have h:(k:Int)<((i - 1:Nat):Int):=of_decide_eq_true h3
     omega
    have ek:IntKind.i64.wrap ((k:Int)+1)=((k+1:Nat):Int):=by rw[w64_in _ (by omega)];omega
    conv=>whnf
    refine⟨?_,?_,?_,?_⟩
    rotate_left 2
    ·conv=>whnf
     rw[ek]
     repeat'(first|exact⟨rfl,rfl⟩|(refine⟨⟨by omega,by omega⟩,?_⟩;conv=>whnf)|exact ⟨⟩|apply And.intro|(conv=>whnf))
    ·conv=>whnf
     rw[ek]
     refine⟨k+1,[0],⟨by omega,by omega⟩,by omega,?_⟩
     conv=>whnf
     repeat'(first|exact ⟨⟩|exact rfl|exact subZ_self _|exact Or.inr rfl|exact fun _ _=>rfl|exact fun _ h=>absurd h (Nat.not_lt_zero _)|apply And.intro)
     intro x hx
     rw[Int.toNat_natCast,Int.toNat_natCast]
     have:=zputs_two L (rot p a (a+1) (k+1)) k (k+1) (by omega)
     exact(congrFun this x).trans (congrArg (fun f=>zcel L (f x)) (rot_up p a k (by omega)))
   ·have h3:k+1=i:=by
     have h:¬ (k:Int)<((i - 1:Nat):Int):=of_decide_eq_false h3
     omega
    rw[h3]
    conv=>whnf
    refine⟨[0],_,_,rfl,rfl,?_,?_,rfl,_,hfin,rfl⟩
    ·exact rfl
    ·conv=>whnf
     repeat'(first|exact ⟨⟩|exact rfl|exact subZ_self _|exact Or.inr rfl|exact fun _ _=>rfl|exact fun _ h=>absurd h (Nat.not_lt_zero _)|apply And.intro)
 have c1:¬ m=a+1:=by simp at c1;omega
 conv=>whnf
 rw[e2]
 refine⟨fun c2=>?_,fun c2=>?_⟩
 ·have c2:b=m+1:=by simp at c2;omega
  subst c2
  conv=>whnf
  refine .inv (Nat × Nat) (fun s=>a≤s.1∧s.1≤s.2∧s.2≤m∧(s.1=a∨LL (zltC (cmpZ L)) (p (s.1 - 1)) (p m))∧(s.2=m∨LL (zltC (cmpZ L)) (p m) (p s.2))) (fun s=>[(14,iV s.1),(15,iV s.2)]) (fun s=>[]) (fun s=>s.2 - s.1) ⟨(a,m),[0],⟨show a≤a by omega,show a≤m by omega,show m≤m by omega,.inl rfl,.inl rfl⟩,?_⟩ ?_
  ·conv=>whnf
   repeat'(first|exact ⟨⟩|exact rfl|exact subZ_self _|exact Or.inr rfl|exact fun _ _=>rfl|exact fun _ h=>absurd h (Nat.not_lt_zero _)|apply And.intro)
  intro s hs2
  obtain⟨q1,q2,q3,q4,q5⟩:=hs2
  conv=>whnf
  generalize s.1=i at q1 q2 q4 ⊢
  generalize s.2=j at q2 q3 q5 ⊢
  refine⟨fun h3=>?_,fun h3=>?_⟩
  ·have h3:i<j:=by
    have h:(i:Int)<j:=of_decide_eq_true h3
    omega
   conv=>whnf
   refine⟨by omega,?_⟩
   conv=>whnf
   rw[zhalf i j (by omega)]
   have g1:i≤(i+j) / 2:=by omega
   have g2:(i+j) / 2<j:=by omega
   generalize (i+j) / 2=h at g1 g2 ⊢
   refine⟨by omega,?_⟩
   conv=>whnf
   refine⟨by omega,?_⟩
   conv=>whnf
   rw[Int.toNat_natCast,Int.toNat_natCast]
   refine .data _ (zord_ok _ _) rfl rfl ?_
   conv=>whnf
   refine⟨fun h4=>?_,fun h4=>?_⟩
   ·have h4:zltC (cmpZ L) (p m) (p h)=false:=(by have h5:(!(zltC (cmpZ L) (p m) (p h)))=true:=h4;simpa using h5)
    conv=>whnf
    rw[show IntKind.i64.wrap ((h:Int)+1)=((h+1:Nat):Int) by rw[w64_in _ (by omega)];omega]
    refine⟨(h+1,j),[0],⟨show a≤h+1 by omega,show h+1≤j by omega,q3,.inr (.inr ⟨h4,hs h m (by omega) (by omega) (by omega) (by omega)⟩),q5⟩,by show j - (h+1)<j - i;omega,?_⟩
    conv=>whnf
    repeat'(first|exact ⟨⟩|exact rfl|exact subZ_self _|exact Or.inr rfl|exact fun _ _=>rfl|exact fun _ h=>absurd h (Nat.not_lt_zero _)|apply And.intro)
   ·have h4:zltC (cmpZ L) (p m) (p h)=true:=(by have h5:(!(zltC (cmpZ L) (p m) (p h)))=false:=h4;simpa using h5)
    conv=>whnf
    refine⟨(i,h),[0],⟨q1,g1,show h≤m by omega,q4,.inr (.inl h4)⟩,by show h - i<j - i;omega,?_⟩
    conv=>whnf
    repeat'(first|exact ⟨⟩|exact rfl|exact subZ_self _|exact Or.inr rfl|exact fun _ _=>rfl|exact fun _ h=>absurd h (Nat.not_lt_zero _)|apply And.intro)
  ·have h3:i=j:=by
    have h:¬ (i:Int)<j:=of_decide_eq_false h3
    omega
   subst h3
   have hfin:=down_of hw.ord hp (show m<n by omega) q1 q3 h1 q4 q5
   conv=>whnf
   refine .inv Nat (fun k=>i≤k∧k≤m) (fun k=>[(17,iV k)]) (fun k=>[(0,zrowP L n z (rot p k m (m+1)))]) (fun k=>k) ⟨m,[0],⟨by omega,by omega⟩,?_⟩ ?_
   ·conv=>whnf
    rw[rot_id1 p m (m+1) (by omega)]
    repeat'(first|exact ⟨⟩|exact rfl|exact subZ_self _|exact Or.inr rfl|exact fun _ _=>rfl|exact fun _ h=>absurd h (Nat.not_lt_zero _)|apply And.intro)
   intro k hk2
   obtain⟨r1,r2⟩:=hk2
   conv=>whnf
   refine⟨fun h3=>?_,fun h3=>?_⟩
   ·have h3:i<k:=by
     have h:(k:Int) > (i:Int):=of_decide_eq_true h3
     omega
    have ek:IntKind.i64.wrap ((k:Int) - 1)=((k - 1:Nat):Int):=by rw[w64_in _ (by omega)];omega
    conv=>whnf
    refine⟨?_,?_,?_,?_⟩
    rotate_left 2
    ·conv=>whnf
     rw[ek]
     repeat'(first|exact⟨rfl,rfl⟩|(refine⟨⟨by omega,by omega⟩,?_⟩;conv=>whnf)|exact ⟨⟩|apply And.intro|(conv=>whnf))
    ·conv=>whnf
     rw[ek]
     refine⟨k - 1,[0],⟨by omega,by omega⟩,by omega,?_⟩
     conv=>whnf
     repeat'(first|exact ⟨⟩|exact rfl|exact subZ_self _|exact Or.inr rfl|exact fun _ _=>rfl|exact fun _ h=>absurd h (Nat.not_lt_zero _)|apply And.intro)
     intro x hx
     rw[Int.toNat_natCast,Int.toNat_natCast]
     have:=zputs_two' L (rot p k m (m+1)) (k - 1) k (by omega)
     have e5:=rot_down p m (k - 1) (by omega)
     rw [show k - 1+1=k by omega] at e5
     exact(congrFun this x).trans (congrArg (fun f=>zcel L (f x)) e5)
   ·have h3:k=i:=by
     have h:¬ (k:Int) > (i:Int):=of_decide_eq_false h3
     omega
    rw[h3]
    conv=>whnf
    refine⟨[0],_,_,rfl,rfl,?_,?_,rfl,_,hfin,rfl⟩
    ·exact rfl
    ·conv=>whnf
     repeat'(first|exact ⟨⟩|exact rfl|exact subZ_self _|exact Or.inr rfl|exact fun _ _=>rfl|exact fun _ h=>absurd h (Nat.not_lt_zero _)|apply And.intro)
 have c2:¬ b=m+1:=by simp at c2;omega
 conv=>whnf
 refine⟨by omega,?_⟩
 conv=>whnf
 rw[zhalf a b (by omega)]
 rw[show IntKind.i64.wrap ((((a+b) / 2:Nat):Int)+(m:Int))=(((a+b) / 2+m:Nat):Int) by rw[w64_in _ (by omega)];omega]
 refine⟨fun c3=>?_,fun c3=>?_⟩
 have c3:(a+b) / 2<m:=by
  have h:(m:Int) > (((a+b) / 2:Nat):Int):=of_decide_eq_true c3
  omega
 conv=>whnf
 obtain⟨N,hN⟩:∃ N,N=(a+b) / 2+m:=⟨_,rfl⟩
 rw[←hN]
 obtain⟨s0,hs0⟩:∃ s0,s0=N - b:=⟨_,rfl⟩
 obtain⟨r0,hr0⟩:∃ r0,r0=(a+b) / 2:=⟨_,rfl⟩
 have f1:s0=a∨N - s0=b:=by omega
 have f2:r0=m∨N - r0=m:=by omega
 have f3:a≤s0∧s0≤r0∧r0≤m∧m≤N - r0∧N - s0≤b:=by omega
 have x1:IntKind.i64.wrap ((N:Int) - (b:Int))=(s0:Int):=by rw[w64_in _ (by omega)];omega
 have x2:IntKind.i64.wrap ((N:Int) - 1)=((N - 1:Nat):Int):=by rw[w64_in _ (by omega)];omega
 rw[x1,x2]
 rotate_left
 have c3:m≤(a+b) / 2:=by
  have h:¬ (m:Int) > (((a+b) / 2:Nat):Int):=of_decide_eq_false c3
  omega
 conv=>whnf
 obtain⟨N,hN⟩:∃ N,N=(a+b) / 2+m:=⟨_,rfl⟩
 rw[←hN]
 obtain⟨s0,hs0⟩:∃ s0,s0=a:=⟨_,rfl⟩
 obtain⟨r0,hr0⟩:∃ r0,r0=m:=⟨_,rfl⟩
 have f1:s0=a∨N - s0=b:=by omega
 have f2:r0=m∨N - r0=m:=by omega
 have f3:a≤s0∧s0≤r0∧r0≤m∧m≤N - r0∧N - s0≤b:=by omega
 have x2:IntKind.i64.wrap ((N:Int) - 1)=((N - 1:Nat):Int):=by rw[w64_in _ (by omega)];omega
 rw[x2]
 all_goals
  refine .inv (Nat × Nat) (fun s=>s0≤s.1∧s.1≤s.2∧s.2≤r0∧(s.1=s0∨LL (zltC (cmpZ L)) (p (s.1 - 1)) (p (N - s.1)))∧(s.2=r0∨LL (zltC (cmpZ L)) (p (N - 1 - s.2)) (p s.2))) (fun s=>[(20,iV s.1),(21,iV s.2)]) (fun s=>[]) (fun s=>s.2 - s.1) ⟨(s0,r0),[0],⟨show s0≤s0 by omega,show s0≤r0 by omega,show r0≤r0 by omega,.inl rfl,.inl rfl⟩,?_⟩ ?_
  ·subst hr0
   subst hs0
   conv=>whnf
   repeat'(first|exact ⟨⟩|exact rfl|exact subZ_self _|exact Or.inr rfl|exact fun _ _=>rfl|exact fun _ h=>absurd h (Nat.not_lt_zero _)|apply And.intro)
  intro st hst
  obtain⟨q1,q2,q3,q4,q5⟩:=hst
  conv=>whnf
  generalize st.1=s at q1 q2 q4 ⊢
  generalize st.2=j at q2 q3 q5 ⊢
  refine⟨fun h3=>?_,fun h3=>?_⟩
  ·have h3:s<j:=by
    have h:(s:Int)<j:=of_decide_eq_true h3
    omega
   conv=>whnf
   refine⟨by omega,?_⟩
   conv=>whnf
   rw[zhalf s j (by omega)]
   have g1:s≤(s+j) / 2:=by omega
   have g2:(s+j) / 2<j:=by omega
   generalize (s+j) / 2=h at g1 g2 ⊢
   rw[show IntKind.i64.wrap (((N - 1:Nat):Int) - (h:Int))=((N - 1 - h:Nat):Int) by rw[w64_in _ (by omega)];omega]
   refine⟨by omega,?_⟩
   conv=>whnf
   refine⟨by omega,?_⟩
   conv=>whnf
   rw[Int.toNat_natCast,Int.toNat_natCast]
   refine .data _ (zord_ok _ _) rfl rfl ?_
   conv=>whnf
   refine⟨fun h4=>?_,fun h4=>?_⟩
   ·have h4:zltC (cmpZ L) (p (N - 1 - h)) (p h)=false:=(by have h5:(!(zltC (cmpZ L) (p (N - 1 - h)) (p h)))=true:=h4;simpa using h5)
    conv=>whnf
    rw[show IntKind.i64.wrap ((h:Int)+1)=((h+1:Nat):Int) by rw[w64_in _ (by omega)];omega]
    refine⟨(h+1,j),[0],⟨show s0≤h+1 by omega,show h+1≤j by omega,q3,.inr (?_:LL (zltC (cmpZ L)) (p (h+1 - 1)) (p (N - (h+1)))),q5⟩,by show j - (h+1)<j - s;omega,?_⟩
    ·rw[show h+1 - 1=h by omega,show N - (h+1)=N - 1 - h by omega]
     exact .inr ⟨h4,hs h (N - 1 - h) (by omega) (by omega) (by omega) (by omega)⟩
    conv=>whnf
    repeat'(first|exact ⟨⟩|exact rfl|exact subZ_self _|exact Or.inr rfl|exact fun _ _=>rfl|exact fun _ h=>absurd h (Nat.not_lt_zero _)|apply And.intro)
   ·have h4:zltC (cmpZ L) (p (N - 1 - h)) (p h)=true:=(by have h5:(!(zltC (cmpZ L) (p (N - 1 - h)) (p h)))=false:=h4;simpa using h5)
    conv=>whnf
    refine⟨(s,h),[0],⟨q1,g1,show h≤r0 by omega,q4,.inr (.inl h4)⟩,by show h - s<j - s;omega,?_⟩
    conv=>whnf
    repeat'(first|exact ⟨⟩|exact rfl|exact subZ_self _|exact Or.inr rfl|exact fun _ _=>rfl|exact fun _ h=>absurd h (Nat.not_lt_zero _)|apply And.intro)
  have h3:s=j:=by
   have h:¬ (s:Int)<j:=of_decide_eq_false h3
   omega
  subst h3
  have hc:Cut (L:=LL (zltC (cmpZ L))) p a m b s (N - s):=cut_of hw.ord hp hbn h1 h2 (by omega) (by omega) (by omega) (by omega)
   (by
    rcases q4 with x|x
    ·rcases f1 with y|y
     ·exact .inl (by omega)
     ·exact .inr (.inl (by omega))
    ·exact .inr (.inr x))
   (by
    rcases q5 with x|x
    ·rcases f2 with y|y
     ·exact .inl (by omega)
     ·exact .inr (.inl (by omega))
    ·exact .inr (.inr (by rw[show N - s - 1=N - 1 - s by omega];exact x)))
  have hmid:(a+b) / 2=s+(N - s - m):=by omega
  have cl:=cut_left h1 h2 hs hc hmid
  have cr:=cut_right h1 h2 hs hc hmid
  have hrot:Inj n (rot p s m (N - s)):=hp.rot (by omega) (by omega) (by omega)
  have ee:IntKind.i64.wrap ((N:Int) - (s:Int))=((N - s:Nat):Int):=by rw[w64_in _ (by omega)];omega
  conv=>whnf
  rw[ee]
  by_cases k1:s<m∧m<N - s
  refine brT (decide_eq_true (by omega)) ?_
  conv=>whnf
  refine brT (decide_eq_true (by omega)) ?_
  conv=>whnf
  refine .rel _ (zrot_in L n hn z p s m (N - s) k1.1 k1.2 (by omega)) (fun r ks' hR=>?_)
  obtain⟨rfl,rfl⟩:=hR
  conv=>whnf
  rotate_left
  have eq:rot p s m (N - s)=p:=by
   rcases Nat.lt_or_ge s m with x|x
   ·rw[show N - s=m by omega];exact rot_id2 p s m (by omega)
   ·rw[show s=m by omega];exact rot_id1 p m _ (by omega)
  rw[show zrowP L n z p=zrowP L n z (rot p s m (N - s)) by rw[eq]]
  by_cases k0:s<m
  refine brT (decide_eq_true (by omega)) ?_
  conv=>whnf
  refine brF (decide_eq_false (by omega)) ?_
  conv=>whnf
  rotate_left
  refine brF (decide_eq_false (by omega)) ?_
  conv=>whnf
  all_goals
   by_cases k2:a<s∧s<(a+b) / 2
   refine brT (decide_eq_true (by omega)) ?_
   conv=>whnf
   refine brT (decide_eq_true (by omega)) ?_
   conv=>whnf
   refine .rel _ (ih (rot p s m (N - s)) a s ((a+b) / 2) (by omega) hrot k2.1 k2.2 (by omega) cl.1 cl.2.1 cl.2.2) (fun r ks' hR=>?_)
   obtain⟨rfl,r1,hr1,rfl⟩:=hR
   have hfin:∀ r2,Merged (L:=LL (zltC (cmpZ L))) r1 r2 n ((a+b) / 2) b→Merged (L:=LL (zltC (cmpZ L))) p r2 n a b:=fun r2 h=>merge_two h1 h2 hc hmid hr1 h
   conv=>whnf
   rotate_left
   obtain⟨r1,hr1,er⟩:∃ r1,Merged (L:=LL (zltC (cmpZ L))) (rot p s m (N - s)) r1 n a ((a+b) / 2)∧r1=rot p s m (N - s):=⟨_,.stay hrot (by
    rcases Nat.lt_or_ge a s with x|x
    ·exact cl.1.sub (Nat.le_refl _) (by omega)
    ·exact cl.2.1.sub (by omega) (Nat.le_refl _)),rfl⟩
   have hfin:∀ r2,Merged (L:=LL (zltC (cmpZ L))) r1 r2 n ((a+b) / 2) b→Merged (L:=LL (zltC (cmpZ L))) p r2 n a b:=fun r2 h=>merge_two h1 h2 hc hmid hr1 h
   rw[←er]
   clear er
   by_cases k0:a<s
   refine brT (decide_eq_true (by omega)) ?_
   conv=>whnf
   refine brF (decide_eq_false (by omega)) ?_
   conv=>whnf
   rotate_left
   refine brF (decide_eq_false (by omega)) ?_
   conv=>whnf
   all_goals
    by_cases k3:(a+b) / 2<N - s∧N - s<b
    refine brT (decide_eq_true (by omega)) ?_
    conv=>whnf
    refine brT (decide_eq_true (by omega)) ?_
    conv=>whnf
    refine .rel _ (ih r1 ((a+b) / 2) (N - s) b (by omega) hr1.inj k3.1 k3.2 hbn (cr.1.congr fun i x1 x2=>hr1.same.out i (by omega)) (cr.2.1.congr fun i x1 x2=>hr1.same.out i (by omega)) (cr.2.2.congr fun i x1 x2=>hr1.same.out i (by omega))) (fun r ks' hR=>?_)
    obtain⟨rfl,r2,hr2,rfl⟩:=hR
    conv=>whnf
    rotate_left
    have hr2:Merged (L:=LL (zltC (cmpZ L))) r1 r1 n ((a+b) / 2) b:=.stay hr1.inj (by
     rcases Nat.lt_or_ge ((a+b) / 2) (N - s) with x|x
     ·exact(cr.1.congr fun i x1 x2=>hr1.same.out i (by omega)).sub (Nat.le_refl _) (by omega)
     ·exact(cr.2.1.congr fun i x1 x2=>hr1.same.out i (by omega)).sub (by omega) (Nat.le_refl _))
    by_cases k0:(a+b) / 2<N - s
    refine brT (decide_eq_true (by omega)) ?_
    conv=>whnf
    refine brF (decide_eq_false (by omega)) ?_
    conv=>whnf
    rotate_left
    refine brF (decide_eq_false (by omega)) ?_
    conv=>whnf
    all_goals
     refine⟨[0],_,_,rfl,rfl,?_,?_,rfl,_,hfin _ hr2,rfl⟩
     ·exact rfl
     ·conv=>whnf
      repeat'(first|exact ⟨⟩|exact rfl|exact subZ_self _|exact Or.inr rfl|exact fun _ _=>rfl|exact fun _ h=>absurd h (Nat.not_lt_zero _)|apply And.intro)
end Go.Proofs.Ytnfoihdifohkeaa
namespace Go.Proofs.Ytnfoihdifohkeaa
open Go Go.Eng
set_option maxRecDepth 100000
set_option maxHeartbeats 8000000 in
theorem zstable_ok(L:List (List UInt8))(n:Nat)(hn:n<1152921504606846976)(z:Z)(hw:Weak n (zltC (cmpZ L))) :
 COk Try.prog 83 [.all 0,iV n,.fn 65 []] [zrowP L n z id] (fun s k=>s = .tup []∧∃ r,Inj n r∧Rise (LL (zltC (cmpZ L))) r 0 n∧k=[zrowP L n z r]):=by
 refine cOk_of_run (TT:=TT) (IN:=lookI []) TT_ok INok_nil mixed 1000 Try.func83 rfl (enters Try.func83 (by kernel_rfl) rfl) 60 (by kernel_rfl) ?_
 conv=>whnf
 refine .inv (Nat × (Nat→Nat)) (fun s=>s.1 * 20≤n∧Fst (LL (zltC (cmpZ L))) 20 n s.1 s.2) (fun s=>[(6,iV 20),(7,iV (s.1 * 20)),(8,iV (s.1 * 20+20))]) (fun s=>[(0,zrowP L n z s.2)]) (fun s=>n - s.1 * 20) ⟨(0,id),[0],⟨by show 0 * 20≤n;omega,Fst.zero 20 n⟩,?_⟩ ?_
 ·conv=>whnf
  repeat'(first|exact ⟨⟩|exact rfl|exact subZ_self _|exact Or.inr rfl|exact fun _ _=>rfl|exact fun _ h=>absurd h (Nat.not_lt_zero _)|apply And.intro)
 intro s hs
 obtain⟨h1,h2⟩:=hs
 conv=>whnf
 generalize s.1=q at h1 h2 ⊢
 generalize s.2=p at h2 ⊢
 refine⟨fun h3=>?_,fun h3=>?_⟩
 ·have h3:q * 20+20≤n:=by
   have h:((q * 20+20:Nat):Int)≤n:=of_decide_eq_true h3
   omega
  conv=>whnf
  refine .rel _ (zins_ok L n hn z p hw h2.inj (q * 20) (q * 20+20) (by omega) h3 (fun i j x1 x2 x3=>by rw[h2.rest i x1,h2.rest j (by omega)];exact x2)) (fun r ks' hR=>?_)
  obtain⟨rfl,r,hr,rfl⟩:=hR
  have e1:IntKind.i64.wrap (((q * 20+20:Nat):Int)+((20:Nat):Int))=(((q+1) * 20+20:Nat):Int):=by rw[w64_in _ (by omega)];omega
  have e2:q * 20+20=(q+1) * 20:=by omega
  conv=>whnf
  rw[e1,e2]
  refine⟨(q+1,r),[0],⟨by show(q+1) * 20≤n;omega,h2.next h3 (by omega) (.inr rfl) hr⟩,by show n - (q+1) * 20<n - q * 20;omega,?_⟩
  conv=>whnf
  repeat'(first|exact ⟨⟩|exact rfl|exact subZ_self _|exact Or.inr rfl|exact fun _ _=>rfl|exact fun _ h=>absurd h (Nat.not_lt_zero _)|apply And.intro)
 ·have h3:n<q * 20+20:=by
   have h:¬ ((q * 20+20:Nat):Int)≤n:=of_decide_eq_false h3
   omega
  conv=>whnf
  refine .rel _ (zins_ok L n hn z p hw h2.inj (q * 20) n h1 (Nat.le_refl _) (fun i j x1 x2 x3=>by rw[h2.rest i x1,h2.rest j (by omega)];exact x2)) (fun r ks' hR=>?_)
  obtain⟨rfl,r,hr,rfl⟩:=hR
  have h4:=h2.next (Nat.le_refl _) (by omega) (.inl rfl) hr
  conv=>whnf
  refine .inv (Nat × (Nat→Nat)) (fun s=>0<s.1∧s.1≤20+2 * n∧Inj n s.2∧Lc s.1 0 n s.2∧Rs (LL (zltC (cmpZ L))) s.1 0 n s.2) (fun s=>[(6,iV s.1)]) (fun s=>[(0,zrowP L n z s.2)]) (fun s=>n - s.1) ⟨(20,r),[0],⟨show 0<20 by omega,show 20≤20+2 * n by omega,h4.inj,h4.loc,?_⟩,?_⟩ ?_
  ·have:=h4.done
   rw [show min ((q+1) * 20) n=n by omega] at this
   exact this
  ·conv=>whnf
   repeat'(first|exact ⟨⟩|exact rfl|exact subZ_self _|exact Or.inr rfl|exact fun _ _=>rfl|exact fun _ h=>absurd h (Nat.not_lt_zero _)|apply And.intro)
  clear h1 h2 h3 h4 hr
  intro s hs
  obtain⟨h1,h2,h3,h4,h5⟩:=hs
  conv=>whnf
  generalize s.1=k at h1 h2 h4 h5 ⊢
  generalize s.2=p at h3 h4 h5 ⊢
  refine⟨fun h6=>?_,fun h6=>?_⟩
  ·have h6:k<n:=by
    have h:(k:Int)<n:=of_decide_eq_true h6
    omega
   have e1:IntKind.i64.wrap (2 * (k:Int))=((2 * k:Nat):Int):=by rw[w64_in _ (by omega)];omega
   conv=>whnf
   rw[e1]
   refine .inv (Nat × (Nat→Nat)) (fun s=>s.1≤n∧∃ q,s.1=q * (2 * k)∧Mg (LL (zltC (cmpZ L))) k n q s.2) (fun s=>[(7,iV s.1),(8,iV (s.1+2 * k))]) (fun s=>[(0,zrowP L n z s.2)]) (fun s=>n - s.1) ⟨(0,p),[0],⟨Nat.zero_le _,0,(Nat.zero_mul _).symm,Mg.begin h3 h4 h5⟩,?_⟩ ?_
   ·conv=>whnf
    rw[Nat.zero_add]
    repeat'(first|exact ⟨⟩|exact rfl|exact subZ_self _|exact Or.inr rfl|exact fun _ _=>rfl|exact fun _ h=>absurd h (Nat.not_lt_zero _)|apply And.intro)
   intro s hs
   obtain⟨g1,q,g2,g3⟩:=hs
   conv=>whnf
   generalize s.1=a at g1 g2 ⊢
   generalize s.2=p at g3 ⊢
   refine⟨fun h7=>?_,fun h7=>?_⟩
   ·have h7:a+2 * k≤n:=by
     have h:((a+2 * k:Nat):Int)≤n:=of_decide_eq_true h7
     omega
    have e2:IntKind.i64.wrap ((a:Int)+(k:Int))=((a+k:Nat):Int):=by rw[w64_in _ (by omega)];omega
    have e3:IntKind.i64.wrap (((a+2 * k:Nat):Int)+((2 * k:Nat):Int))=((a+2 * k+2 * k:Nat):Int):=by rw[w64_in _ (by omega)];omega
    conv=>whnf
    rw[e2]
    refine .rel _ (zsym_ok L n hn z hw (2 * k+1) p a (a+k) (a+2 * k) (by omega) g3.inj (by omega) (by omega) h7 (by rw[g2];exact g3.left (by omega)) (by rw[g2];exact g3.right (by omega) (by omega)) (by rw[g2];exact g3.sep (by omega) (by omega))) (fun r ks' hR=>?_)
    obtain⟨rfl,r,hr,rfl⟩:=hR
    have hn2:Mg (LL (zltC (cmpZ L))) k n (q+1) r:=g3.next h1 h7 (by omega) (by omega) (by omega) (by rw[←g2];exact hr)
    conv=>whnf
    rw[e1,e3]
    refine⟨(a+2 * k,r),[0],⟨h7,q+1,by show a+2 * k=(q+1) * (2 * k);rw[Nat.succ_mul q (2 * k),←g2],hn2⟩,by show n - (a+2 * k)<n - a;omega,?_⟩
    conv=>whnf
    repeat'(first|exact ⟨⟩|exact rfl|exact subZ_self _|exact Or.inr rfl|exact fun _ _=>rfl|exact fun _ h=>absurd h (Nat.not_lt_zero _)|apply And.intro)
   ·have h7:n<a+2 * k:=by
     have h:¬ ((a+2 * k:Nat):Int)≤n:=of_decide_eq_false h7
     omega
    have e2:IntKind.i64.wrap ((a:Int)+(k:Int))=((a+k:Nat):Int):=by rw[w64_in _ (by omega)];omega
    have e4:IntKind.i64.wrap ((k:Int) * 2)=((2 * k:Nat):Int):=by rw[w64_in _ (by omega)];omega
    conv=>whnf
    rw[e2]
    refine⟨fun h8=>?_,fun h8=>?_⟩
    ·have h8:a+k<n:=by
      have h:((a+k:Nat):Int)<n:=of_decide_eq_true h8
      omega
     conv=>whnf
     refine .rel _ (zsym_ok L n hn z hw (2 * k+1) p a (a+k) n (by omega) g3.inj (by omega) h8 (Nat.le_refl _) (by rw[g2];exact g3.left (by omega)) (by rw[g2];exact g3.right (Nat.le_refl _) (by omega)) (by rw[g2];exact g3.sep (Nat.le_refl _) (by omega))) (fun r ks' hR=>?_)
     obtain⟨rfl,r,hr,rfl⟩:=hR
     have hn2:Mg (LL (zltC (cmpZ L))) k n (q+1) r:=g3.next h1 (Nat.le_refl _) (by omega) (by omega) (by omega) (by rw[←g2];exact hr)
     have ho:=hn2.over h1 (by rw[Nat.succ_mul,←g2];omega)
     conv=>whnf
     rw[e4]
     refine⟨(2 * k,r),[0],⟨show 0<2 * k by omega,show 2 * k≤20+2 * n by omega,hn2.inj,ho.1,ho.2⟩,by show n - 2 * k<n - k;omega,?_⟩
     conv=>whnf
     repeat'(first|exact ⟨⟩|exact rfl|exact subZ_self _|exact Or.inr rfl|exact fun _ _=>rfl|exact fun _ h=>absurd h (Nat.not_lt_zero _)|apply And.intro)
    ·have h8:n≤a+k:=by
      have h:¬ ((a+k:Nat):Int)<n:=of_decide_eq_false h8
      omega
     have ho:=g3.over h1 (by rw[←g2];exact h8)
     conv=>whnf
     rw[e4]
     refine⟨(2 * k,p),[0],⟨show 0<2 * k by omega,show 2 * k≤20+2 * n by omega,g3.inj,ho.1,ho.2⟩,by show n - 2 * k<n - k;omega,?_⟩
     conv=>whnf
     repeat'(first|exact ⟨⟩|exact rfl|exact subZ_self _|exact Or.inr rfl|exact fun _ _=>rfl|exact fun _ h=>absurd h (Nat.not_lt_zero _)|apply And.intro)
  ·have h6:n≤k:=by
    have h:¬ (k:Int)<n:=of_decide_eq_false h6
    omega
   conv=>whnf
   refine⟨[0],_,_,rfl,rfl,?_,?_,rfl,p,h3,h5.all h6,rfl⟩
   ·exact rfl
   ·conv=>whnf
    repeat'(first|exact ⟨⟩|exact rfl|exact subZ_self _|exact Or.inr rfl|exact fun _ _=>rfl|exact fun _ h=>absurd h (Nat.not_lt_zero _)|apply And.intro)
set_option maxHeartbeats 8000000 in
theorem zsort_ok(L:List (List UInt8))(n:Nat)(hn:n<1152921504606846976)(z:Z)(hw:Weak n (zltC (cmpZ L))) :
 COk Try.prog 64 [.all 0,.fn 65 []] [zrowP L n z id] (fun s k=>s = .tup []∧∃ r,Inj n r∧Rise (LL (zltC (cmpZ L))) r 0 n∧k=[zrowP L n z r]):=by
 refine cOk_of_run (TT:=TT) (IN:=lookI []) TT_ok INok_nil mixed 1000 Try.func64 rfl (enters Try.func64 (by kernel_rfl) rfl) 7 (by kernel_rfl) ?_
 conv=>whnf
 refine .rel _ (zstable_ok L n hn z hw) (fun r ks' hR=>?_)
 obtain⟨rfl,r,hr,h2,rfl⟩:=hR
 conv=>whnf
 refine⟨[0],_,_,rfl,rfl,?_,?_,rfl,r,hr,h2,rfl⟩
 ·exact rfl
 ·conv=>whnf
  repeat'(first|exact ⟨⟩|exact rfl|exact subZ_self _|exact Or.inr rfl|exact fun _ _=>rfl|exact fun _ h=>absurd h (Nat.not_lt_zero _)|apply And.intro)
end Go.Proofs.Ytnfoihdifohkeaa
namespace Go.Proofs.Ytnfoihdifohkeaa
open Go Go.Eng
set_option maxRecDepth 100000
def plsZ(l:List (List UInt8)):Nat→List DV:=fun j=>plW (l.getD j default)
def nmsZ(l:List (List UInt8)):List (List UInt8):=l.filter fun n=>decide (isName n)
theorem plsZ_cat(l:List (List UInt8))(r:List UInt8):∀ i,i<l.length+1→catF l.length (plsZ l) (chunk (plW r) 2) i=plsZ (l++[r]) i:=fun i hi=>by
 unfold catF plsZ
 split
 ·rename_i h
  congr 1
  rw[List.getD_eq_getElem?_getD,List.getD_eq_getElem?_getD,List.getElem?_append_left h]
 ·have:i=l.length:=by omega
  subst this
  rw[Nat.sub_self,List.getD_eq_getElem?_getD,List.getElem?_append_right (Nat.le_refl _),Nat.sub_self]
  rfl
theorem nmsZ_next(l:List (List UInt8))(i:Nat)(n:List UInt8)(h:l[i]? = some n):nmsZ (l.take (i+1))=if isName n then nmsZ (l.take i)++[n] else nmsZ (l.take i):=by
 unfold nmsZ
 rw[List.take_add_one,h]
 by_cases hn:isName n <;> simp[hn]
set_option maxHeartbeats 8000000 in
theorem wsort_ok(z:Bool)(l:List (List UInt8))(hn:l.length≤100000):FnOk Try.prog 44 [.d (.sl z l.length 1 (strs l))] (.d (.sl (sortN l).isEmpty (sortN l).length 1 (strs (sortN l)))):=by
 refine fnOk_of_run (TT:=TT) (IN:=lookI []) TT_ok INok_nil mixed 1000 Try.func44 rfl (enters Try.func44 (by kernel_rfl) rfl) rfl 55 (by kernel_rfl) ?_
 conv=>whnf
 refine .nilT 3 144 2 (plsZ []) _ _ rfl ?_
 conv=>whnf
 refine .inv Nat (fun i=>i≤l.length) (fun i=>[(11,iV i),(3,.all 0)]) (fun i=>[(0,.row 144 2 (nmsZ (l.take i)).length .iff (plsZ (nmsZ (l.take i))))]) (fun i=>l.length - i) ⟨0,[0],Nat.zero_le _,?_⟩ ?_
 ·conv=>whnf
  repeat'(first|exact ⟨⟩|exact rfl|exact subZ_self _|exact Or.inr rfl|exact fun _ _=>rfl|exact fun _ h=>absurd h (Nat.not_lt_zero _)|apply And.intro)
 intro i hi
 conv=>whnf
 have hfl:(nmsZ (l.take i)).length≤i:=Nat.le_trans (List.length_filter_le _ _) (by rw[List.length_take];omega)
 refine⟨fun h1=>?_,fun h1=>?_⟩
 ·have h1:i<l.length:=by
   have h:(i:Int)<l.length:=of_decide_eq_true h1
   omega
  have hw1:IntKind.i64.wrap ((i:Int)+1)=((i+1:Nat):Int):=by rw[w64_in _ (by omega)];omega
  have hli:l[i]? = some (l[i]?.getD []):=by rw[List.getElem?_eq_getElem h1];rfl
  have hnx:=nmsZ_next l i _ hli
  conv=>whnf
  refine⟨by omega,?_⟩
  conv=>whnf
  rw[Int.toNat_natCast]
  generalize l[i]?.getD []=n at hli hnx ⊢
  refine .one (.data _ (check_ok n) rfl rfl ?_)
  by_cases hnn:isName n
  ·rw [if_pos hnn] at hnx ⊢
   conv=>whnf
   refine brT rfl ?_
   conv=>whnf
   refine .one (.data _ (rising_ok n hnn) rfl rfl ?_)
   conv=>whnf
   refine⟨by omega,?_⟩
   conv=>whnf
   rw[hw1]
   refine⟨i+1,[2],h1,by omega,?_⟩
   rw[hnx]
   conv=>whnf
   repeat'(first|exact ⟨⟩|exact rfl|exact subZ_self _|exact Or.inr rfl|exact fun _ _=>rfl|exact fun _ h=>absurd h (Nat.not_lt_zero _)|apply And.intro)
   ·simp
   ·exact plsZ_cat _ n
  ·rw [if_neg hnn] at hnx ⊢
   conv=>whnf
   refine brF rfl ?_
   conv=>whnf
   rw[hw1]
   refine⟨i+1,[0],h1,by omega,?_⟩
   rw[hnx]
   conv=>whnf
   repeat'(first|exact ⟨⟩|exact rfl|exact subZ_self _|exact Or.inr rfl|exact fun _ _=>rfl|exact fun _ h=>absurd h (Nat.not_lt_zero _)|apply And.intro)
 ·have h1:i=l.length:=by
   have h:¬ (i:Int)<l.length:=of_decide_eq_false h1
   omega
  subst h1
  rw[List.take_length]
  rw [List.take_length] at hfl
  conv=>whnf
  refine .rel _ (zsort_ok (nmsZ l) (nmsZ l).length (by omega) .iff (weakZ (nmsZ l))) (fun r ks' hR=>?_)
  obtain⟨rfl,q,hq,hrise,rfl⟩:=hR
  have hqs:=sortP_of (nmsZ l) q hq hrise
  conv=>whnf
  refine .nilT 6 9 1 (strs []) _ _ rfl ?_
  conv=>whnf
  refine .inv Nat (fun i=>i≤(nmsZ l).length) (fun i=>[(30,iV i),(6,.all 1)]) (fun i=>[(1,.row 9 1 (onceU (sortP (nmsZ l)) i).length .iff (strs (onceU (sortP (nmsZ l)) i)))]) (fun i=>(nmsZ l).length - i) ⟨0,[0,1],Nat.zero_le _,?_⟩ ?_
  ·conv=>whnf
   repeat'(first|exact ⟨⟩|exact rfl|exact subZ_self _|exact Or.inr rfl|exact fun _ _=>rfl|exact fun _ h=>absurd h (Nat.not_lt_zero _)|apply And.intro)
  intro i hi
  conv=>whnf
  refine⟨fun h1=>?_,fun h1=>?_⟩
  ·have h1:i<(nmsZ l).length:=by
    have h:(i:Int)<(nmsZ l).length:=of_decide_eq_true h1
    omega
   have hw1:IntKind.i64.wrap ((i:Int)+1)=((i+1:Nat):Int):=by rw[w64_in _ (by omega)];omega
   have hul:=onceU_len (sortP (nmsZ l)) i
   conv=>whnf
   refine⟨by omega,?_⟩
   conv=>whnf
   rw[Int.toNat_natCast,hqs i h1]
   have hnx:=onceU_next (sortP (nmsZ l)) i
   refine⟨fun h2=>?_,fun h2=>?_⟩
   ·have h2:i=0:=by simpa using h2
    have hk:keepZ (sortP (nmsZ l)) i=true:=by unfold keepZ;rw[h2];rfl
    rw [hk,if_pos rfl] at hnx
    conv=>whnf
    refine⟨by omega,?_⟩
    conv=>whnf
    rw[hw1]
    refine⟨i+1,[0,4],h1,by omega,?_⟩
    rw[hnx]
    conv=>whnf
    repeat'(first|exact ⟨⟩|exact rfl|exact subZ_self _|exact Or.inr rfl|exact fun _ _=>rfl|exact fun _ h=>absurd h (Nat.not_lt_zero _)|apply And.intro)
    ·simp
    ·exact strs_cat _ _ _ rfl
   ·have h2:i≠0:=by simpa using h2
    have hw2:IntKind.i64.wrap ((i:Int) - 1)=((i - 1:Nat):Int):=by rw[w64_in _ (by omega)];omega
    conv=>whnf
    rw[hw2]
    refine⟨by omega,?_⟩
    conv=>whnf
    rw[Int.toNat_natCast,hqs (i - 1) (by omega)]
    refine .data _ (teq_ok _ _ _ _ (by have:=rise_short ((sortP (nmsZ l)).getD i default);omega) (by have:=rise_short ((sortP (nmsZ l)).getD (i - 1) default);omega)) rfl rfl ?_
    conv=>whnf
    refine⟨fun h3=>?_,fun h3=>?_⟩
    ·have hk:keepZ (sortP (nmsZ l)) i=true:=by
      unfold keepZ
      rw[Bool.or_eq_true]
      exact .inr (by simpa using h3)
     rw [hk,if_pos rfl] at hnx
     conv=>whnf
     refine⟨by omega,?_⟩
     conv=>whnf
     rw[hw1]
     refine⟨i+1,[0,4],h1,by omega,?_⟩
     rw[hnx]
     conv=>whnf
     repeat'(first|exact ⟨⟩|exact rfl|exact subZ_self _|exact Or.inr rfl|exact fun _ _=>rfl|exact fun _ h=>absurd h (Nat.not_lt_zero _)|apply And.intro)
     ·simp
     ·exact strs_cat _ _ _ rfl
    ·have hk:keepZ (sortP (nmsZ l)) i=false:=by
      unfold keepZ
      rw[Bool.or_eq_false_iff]
      exact⟨by simpa using h2,by simpa using h3⟩
     rw [hk,if_neg (by decide)] at hnx
     conv=>whnf
     rw[hw1]
     refine⟨i+1,[0,1],h1,by omega,?_⟩
     rw[hnx]
     conv=>whnf
     repeat'(first|exact ⟨⟩|exact rfl|exact subZ_self _|exact Or.inr rfl|exact fun _ _=>rfl|exact fun _ h=>absurd h (Nat.not_lt_zero _)|apply And.intro)
  ·have h1:i=(nmsZ l).length:=by
    have h:¬ (i:Int)<(nmsZ l).length:=of_decide_eq_false h1
    omega
   subst h1
   conv=>whnf
   refine⟨?_,rfl,.inr rfl,fun _ _=>rfl⟩
   show(sortN l).length.beq 0=_
   cases sortN l <;> rfl
end Go.Proofs.Ytnfoihdifohkeaa
namespace Go.Proofs.Ytnfoihdifohkeaa
open Go Go.Eng
set_option maxRecDepth 100000
set_option maxRecDepth 100000
set_option maxHeartbeats 4000000 in
theorem lsame_ok(a b:List UInt8):FnOk Try.prog 8 [.d (.str a),.d (.str b)] (.d (.bool (sameN a b))):=by
 refine fnOk_of_run (TT:=TT) (IN:=lookI []) TT_ok INok_nil mixed 1000 Try.func8 rfl (enters Try.func8 (by kernel_rfl) rfl) rfl 25 (by kernel_rfl) ?_
 conv=>whnf
 cases h0:((a.length:Int) == (b.length:Int))
 ·have:sameN a b=false:=by
   cases hf:fold a == fold b
   ·unfold sameN;rw[hf,Bool.and_false,Bool.and_false]
   ·have:=congrArg List.length (eq_of_beq hf)
    rw [fold_len,fold_len] at this
    rw [this] at h0;simp at h0
  rw[this]
  refine brF rfl ?_
  conv=>whnf
  repeat(first|(refine brF rfl ?_;conv=>whnf))
  try exact rfl
 ·refine brT rfl ?_
  conv=>whnf
  refine .one (.data _ (check_ok a) rfl rfl ?_)
  by_cases ha:isName a
  ·rw[if_pos ha]
   conv=>whnf
   refine brT rfl ?_
   conv=>whnf
   refine .one (.data _ (check_ok b) rfl rfl ?_)
   by_cases hb:isName b
   ·rw[if_pos hb]
    conv=>whnf
    refine brT rfl ?_
    conv=>whnf
    refine .one (.data _ (fold_ok a (isName_short ha)) rfl rfl ?_)
    conv=>whnf
    refine .one (.data _ (fold_ok b (isName_short hb)) rfl rfl ?_)
    rw[show sameN a b=(fold a == fold b) by unfold sameN;rw[decide_eq_true ha,decide_eq_true hb];rfl]
    conv=>whnf
    try exact rfl
   ·rw[if_neg hb,show sameN a b=false by unfold sameN;rw[decide_eq_false hb,Bool.false_and,Bool.and_false]]
    conv=>whnf
    refine brF rfl ?_
    conv=>whnf
    repeat(first|(refine brF rfl ?_;conv=>whnf))
    try exact rfl
  ·rw[if_neg ha,show sameN a b=false by unfold sameN;rw[decide_eq_false ha,Bool.false_and]]
   conv=>whnf
   refine brF rfl ?_
   conv=>whnf
   repeat(first|(refine brF rfl ?_;conv=>whnf))
   try exact rfl
end Go.Proofs.Ytnfoihdifohkeaa
namespace Go.Proofs.Ytnfoihdifohkeaa
open Go Go.Eng
set_option maxRecDepth 100000
def cutZ(apex:List UInt8)(r:RR):Bool:=isNs r && !sameN r.nm apex
def cutsTo(z:Zo)(i:Nat):List (List UInt8):=((z.rrs.take i).filter (cutZ z.apex)).map (·.nm)
theorem cutsTo_next{z:Zo}{i:Nat}{r:RR}(h:z.rrs[i]? = some r):cutsTo z (i+1)=if cutZ z.apex r then cutsTo z i++[r.nm] else cutsTo z i:=by
 unfold cutsTo
 rw[List.take_add_one,h]
 cases hc:cutZ z.apex r <;> simp[hc]
theorem cutsTo_len(z:Zo)(i:Nat):(cutsTo z i).length≤i:=by
 unfold cutsTo
 rw[List.length_map]
 exact Nat.le_trans (List.length_filter_le _ _) (by rw[List.length_take];omega)
theorem cutsTo_end(z:Zo):cutsTo z z.rrs.length=z.cutL:=by
 unfold cutsTo
 rw[List.take_length]
 rfl
set_option maxHeartbeats 8000000 in
theorem cuts_ok(z:Zo)(S:List ((List UInt8 × Int × Int × List UInt8) × Nat))(N:List (List UInt8 × Hd))(hl:z.rrs.length≤100000) :
 COk Try.prog 25 [.ptr 0 0] (lookK z S N .free) (fun s k=>s = .d (.sl (sortN z.cutL).isEmpty (sortN z.cutL).length 1 (strs (sortN z.cutL)))∧k=lookK z S N .free):=by
 refine cOk_of_run (TT:=TT) (IN:=lookI []) TT_ok INok_nil mixed 1000 Try.func25 rfl (enters Try.func25 (by kernel_rfl) rfl) 37 (by kernel_rfl) ?_
 conv=>whnf
 refine .nilT 3 9 1 (strs []) _ _ rfl ?_
 conv=>whnf
 refine .inv Nat (fun i=>i≤z.rrs.length) (fun i=>[(12,iV i),(3,.all 3)]) (fun i=>[(3,.row 9 1 (cutsTo z i).length .iff (strs (cutsTo z i)))]) (fun i=>z.rrs.length - i) ⟨0,[0,1,2,3],Nat.zero_le _,?_⟩ ?_
 ·conv=>whnf
  repeat'(first|exact ⟨⟩|exact rfl|exact subZ_self _|exact Or.inr rfl|exact fun _ _=>rfl|exact fun _ h=>absurd h (Nat.not_lt_zero _)|apply And.intro)
  all_goals first
   |exact said_ren _
   |exact name_ren _
   |exact nameB_sub _ _ _
 intro i hi
 conv=>whnf
 refine⟨fun h1=>?_,fun h1=>?_⟩
 ·have h1:i<z.rrs.length:=by
   have h:(i:Int)<z.rrs.length:=of_decide_eq_true h1
   omega
  have hw1:IntKind.i64.wrap ((i:Int)+1)=((i+1:Nat):Int):=by rw[w64_in _ (by omega)];omega
  obtain⟨r,hr⟩:∃ r,z.rrs.getD i default=r:=⟨_,rfl⟩
  have hrl:z.rrs[i]? = some r:=by rw[←hr,List.getD,List.getElem?_eq_getElem h1];rfl
  have hnx:=cutsTo_next hrl
  have hcl:=cutsTo_len z i
  conv=>whnf
  refine⟨by omega,?_⟩
  conv=>whnf
  rw[Int.toNat_natCast,hr]
  refine⟨fun h2=>?_,fun h2=>?_⟩
  ·have h2:isNs r=true:=h2
   conv=>whnf
   refine .data _ (lsame_ok r.nm z.apex) rfl rfl ?_
   cases h3:sameN r.nm z.apex with
   |true =>
    rw [show cutZ z.apex r=false by unfold cutZ;rw [h2,h3];rfl,if_neg (by decide)] at hnx
    conv=>whnf
    refine brF rfl ?_
    conv=>whnf
    rw[hw1]
    refine⟨i+1,[0,1,2,3],h1,by omega,?_⟩
    rw[hnx]
    conv=>whnf
    repeat'(first|exact ⟨⟩|exact rfl|exact subZ_self _|exact Or.inr rfl|exact fun _ _=>rfl|exact fun _ h=>absurd h (Nat.not_lt_zero _)|apply And.intro)
    all_goals first
     |exact said_ren _
     |exact name_ren _
     |exact nameB_sub _ _ _
   |false =>
    rw [show cutZ z.apex r=true by unfold cutZ;rw [h2,h3];rfl,if_pos rfl] at hnx
    conv=>whnf
    refine brT rfl ?_
    conv=>whnf
    refine⟨by omega,?_⟩
    conv=>whnf
    rw[hw1]
    refine⟨i+1,[0,1,2,6],h1,by omega,?_⟩
    rw[hnx]
    conv=>whnf
    repeat'(first|exact ⟨⟩|exact rfl|exact subZ_self _|exact Or.inr rfl|exact fun _ _=>rfl|exact fun _ h=>absurd h (Nat.not_lt_zero _)|apply And.intro)
    all_goals first
     |exact said_ren _
     |exact name_ren _
     |(show _+1=(_++[_]).length;simp;done)
     |exact strs_cat _ _ _ rfl
  ·have h2:isNs r=false:=h2
   rw [show cutZ z.apex r=false by unfold cutZ;rw [h2];rfl,if_neg (by decide)] at hnx
   conv=>whnf
   rw[hw1]
   refine⟨i+1,[0,1,2,3],h1,by omega,?_⟩
   rw[hnx]
   conv=>whnf
   repeat'(first|exact ⟨⟩|exact rfl|exact subZ_self _|exact Or.inr rfl|exact fun _ _=>rfl|exact fun _ h=>absurd h (Nat.not_lt_zero _)|apply And.intro)
   all_goals first
    |exact said_ren _
    |exact name_ren _
    |exact nameB_sub _ _ _
 ·have h1:i=z.rrs.length:=by
   have h:¬ (i:Int)<z.rrs.length:=of_decide_eq_false h1
   omega
  subst h1
  rw[cutsTo_end]
  have hcl:z.cutL.length≤100000:=by rw[←cutsTo_end];exact Nat.le_trans (cutsTo_len _ _) hl
  conv=>whnf
  refine .one (.frz _ _ [3] (wsort_ok (Nat.beq z.cutL.length 0) z.cutL hcl) ?_ rfl rfl ?_)
  ·conv=>whnf
   exact⟨rfl,rfl⟩
  conv=>whnf
  refine⟨[0,1,2],_,lookK z S N .free,rfl,rfl,?_,?_,rfl,rfl⟩
  ·exact rfl
  ·conv=>whnf
   repeat'(first|exact ⟨⟩|exact rfl|exact subZ_self _|exact Or.inr rfl|exact fun _ _=>rfl|exact fun _ h=>absurd h (Nat.not_lt_zero _)|apply And.intro)
   all_goals first
    |exact said_ren _
    |exact name_ren _
    |exact nameB_sub _ _ _
end Go.Proofs.Ytnfoihdifohkeaa
namespace Go.Proofs.Ytnfoihdifohkeaa
open Go Go.Eng
set_option maxRecDepth 100000
def betterC(name c:List UInt8)(b:Option (List UInt8)):Option (List UInt8):=if withinN name c then (match b with
 |none=>some c
 |some y=>if countN c<countN y then some c else some y) else b
def bestC(name:List UInt8)(l:List (List UInt8)):Option (List UInt8):=l.foldl (fun b c=>betterC name c b) none
theorem bestC_snoc(name:List UInt8)(l:List (List UInt8))(c:List UInt8):bestC name (l++[c])=betterC name c (bestC name l):=by
 unfold bestC
 rw[List.foldl_append]
 rfl
theorem snocInd{α:Type}{P:List α→Prop}(h0:P [])(h1:∀ l a,P l→P (l++[a])):∀ l,P l:=fun l=>by
 rw[←l.reverse_reverse]
 induction l.reverse with
 |nil=>exact h0
 |cons a m ih=>rw[List.reverse_cons];exact h1 _ _ ih
theorem bestC_spec(name:List UInt8)(l:List (List UInt8)):match bestC name l with
 |none=>∀ c ∈ l,withinN name c=false
 |some b=>b ∈ l∧withinN name b=true∧∀ c ∈ l,withinN name c=true→countN b≤countN c:=by
 refine snocInd (P:=fun l=>match bestC name l with
  |none=>∀ c ∈ l,withinN name c=false
  |some b=>b ∈ l∧withinN name b=true∧∀ c ∈ l,withinN name c=true→countN b≤countN c) ?_ ?_ l
 ·exact fun c h=>by cases h
 ·intro l c ih
  rw[bestC_snoc]
  unfold betterC
  cases hw:withinN name c with
  |false =>
   rw[if_neg (by decide)]
   cases hb:bestC name l with
   |none =>
    rw [hb] at ih
    intro x hx
    rcases List.mem_append.1 hx with hx|hx
    ·exact ih x hx
    ·rw[List.mem_singleton.1 hx];exact hw
   |some b =>
    rw [hb] at ih
    refine⟨List.mem_append_left _ ih.1,ih.2.1,fun x hx hxw=>?_⟩
    rcases List.mem_append.1 hx with hx|hx
    ·exact ih.2.2 x hx hxw
    ·rw [List.mem_singleton.1 hx,hw] at hxw;cases hxw
  |true =>
   rw[if_pos rfl]
   cases hb:bestC name l with
   |none =>
    rw [hb] at ih
    refine⟨by simp,hw,fun x hx hxw=>?_⟩
    rcases List.mem_append.1 hx with hx|hx
    ·rw [ih x hx] at hxw;cases hxw
    ·rw[List.mem_singleton.1 hx];exact Nat.le_refl _
   |some b =>
    rw [hb] at ih
    simp only
    by_cases hc:countN c<countN b
    ·rw[if_pos hc]
     refine⟨by simp,hw,fun x hx hxw=>?_⟩
     rcases List.mem_append.1 hx with hx|hx
     ·have:=ih.2.2 x hx hxw;omega
     ·rw[List.mem_singleton.1 hx];exact Nat.le_refl _
    ·rw[if_neg hc]
     refine⟨List.mem_append_left _ ih.1,ih.2.1,fun x hx hxw=>?_⟩
     rcases List.mem_append.1 hx with hx|hx
     ·exact ih.2.2 x hx hxw
     ·rw[List.mem_singleton.1 hx];omega
theorem within_one{n a b:List UInt8}(ha:withinN n a=true)(hb:withinN n b=true)(h:countN a=countN b):fold a=fold b:=by
 have na:=within_name ha
 have nb:=within_name hb
 unfold withinN at ha hb
 simp only [Bool.and_eq_true,List.isSuffixOf_iff_suffix] at ha hb
 unfold countN at h
 rw [if_pos na.2,if_pos nb.2] at h
 have hl:(fl a).length=(fl b).length:=by unfold fl;rw[List.length_map,List.length_map];exact h
 have e:fl a=fl b:=by
  obtain⟨s,hs⟩:=ha.2.2
  obtain⟨t,ht⟩:=hb.2.2
  have:=hs.trans ht.symm
  exact(List.append_inj_right' this hl)
 rw[fold_fl na.2,fold_fl nb.2,e]
theorem topCut_none{name:List UInt8}:∀ {l:List (List UInt8)},topCut name l=none↔∀ c ∈ l,withinN name c=false
 |[]=>⟨fun _ c h=>(by cases h),fun _=>rfl⟩
 |c :: l=>by
  unfold topCut
  cases hw:withinN name c with
  |true =>
   rw[if_pos rfl]
   refine⟨fun h=>?_,fun h=>?_⟩
   ·split at h
    ·cases h
    ·split at h <;> cases h
   ·have:=h c (List.mem_cons_self ..)
    rw [hw] at this;cases this
  |false =>
   rw[if_neg (by decide),topCut_none]
   exact⟨fun h x hx=>by
    rcases List.mem_cons.1 hx with rfl|hx
    ·exact hw
    ·exact h x hx,fun h x hx=>h x (List.mem_cons_of_mem _ hx)⟩
theorem countN_congr{a b:List UInt8}(ha:isName a)(hb:isName b)(h:fold a=fold b):countN a=countN b:=by
 rw[←countN_fold ha,←countN_fold hb,h]
theorem best_cut{name:List UInt8}{l:List (List UInt8)}(hl:∀ c ∈ l,isName c):(bestC name (sortN l)).map fold=topCut name l:=by
 have hs:=bestC_spec name (sortN l)
 cases hb:bestC name (sortN l) with
 |none =>
  rw [hb] at hs
  refine(topCut_none.2 fun c hc=>?_).symm
  obtain⟨m,hm,e⟩:=sortN_has hc (hl c hc)
  cases hw:withinN name c
  ·rfl
  ·have:=within_of_fold (sortN_mem hm).2 e hw
   rw [hs m hm] at this;cases this
 |some b =>
  rw [hb] at hs
  obtain⟨h1,h2,h3⟩:=hs
  cases ht:topCut name l with
  |none =>
   have:=topCut_none.1 ht b (sortN_mem h1).1
   rw [h2] at this;cases this
  |some t =>
   obtain⟨⟨c,hc,e,hw⟩,hmin⟩:=topCut_some ht
   obtain⟨m,hm,em⟩:=sortN_has hc (hl c hc)
   have hmw:=within_of_fold (sortN_mem hm).2 em hw
   have a1:=h3 m hm hmw
   have a2:=hmin b (sortN_mem h1).1 h2
   have a3:=countN_congr (sortN_mem hm).2 (hl c hc) em
   have a4:countN t=countN c:=by rw[←e];exact countN_fold (hl c hc)
   rw[←e]
   exact congrArg some (within_one h2 hw (by omega))
end Go.Proofs.Ytnfoihdifohkeaa
namespace Go.Proofs.Ytnfoihdifohkeaa
open Go Go.Eng
abbrev Gp:=(List UInt8 × Int) × List RR
def addG:List Gp→(List UInt8 × Int)→RR→List Gp
 |[],k,r=>[(k,[r])]
 |(k',rs) :: G,k,r=>if k'=k then (k',rs++[r]) :: G else (k',rs) :: addG G k r
def plc(r:RR):List UInt8 × Int:=(fold r.nm,r.ty)
def goodR(r:RR):Bool:=rightR r && r.ty != 41
def stepG(G:List Gp)(r:RR):List Gp:=if goodR r then addG G (plc r) r else G
def St.enc(s:St):List DV:=[.str s.nm,.int .u16 s.ty,.int .u32 s.ttl,.sl s.z s.data.length 1 (strs s.data)]
def stsD(z:Bool)(l:List St):DV:=.sl z l.length 4 (fun i=>(l.getD i default).enc)
theorem st_cat(l:List St)(q:St)(j:Nat)(hj:j<l.length+1):catF l.length (fun j=>(l.getD j default).enc) (chunk q.enc 4) j=((l++[q]).getD j default).enc:=by
 show(if j<l.length then (l.getD j default).enc else chunk q.enc 4 (j - l.length))=_
 by_cases h:j<l.length
 ·rw[if_pos h,List.getD,List.getD,List.getElem?_append_left h]
 ·have:j=l.length:=by omega
  subst this
  rw[if_neg h,Nat.sub_self,List.getD,List.getElem?_append_right (Nat.le_refl _),Nat.sub_self]
  rfl
end Go.Proofs.Ytnfoihdifohkeaa
namespace Go.Proofs.Ytnfoihdifohkeaa
open Go Go.Eng
theorem buildD_len(t:Int)(l:List RR):(buildD t l).length≤64:=by unfold buildD;simp;omega
theorem rising_of{t:Int}:∀ (D:List (List UInt8)) (b:Bool) (last:List UInt8),(∀ d ∈ D,rcheck t d=true)→D.Pairwise (fun x y=>Op.bytesLess (rfold t x) (rfold t y)=true)→(b=true→∀ d ∈ D,Op.bytesLess last (rfold t d)=true)→rising t b last D=true
 |[],_,_=>fun _ _ _=>rfl
 |d :: D,b,last=>fun h1 h2 h3=>by
  obtain⟨h4,h5⟩:=List.pairwise_cons.1 h2
  have ih:=rising_of D true (rfold t d) (fun x hx=>h1 x (by simp[hx])) h5 (fun _ x hx=>h4 x hx)
  unfold rising
  rw[h1 d (by simp),ih]
  cases b with
  |false=>rfl
  |true =>
   have h6:=h3 rfl d (by simp)
   rw [bl_asym _ _ h6,show (rfold t d == last)=false from Bool.eq_false_iff.2 (fun e=>by rw [eq_of_beq e,bl_irr] at h6;cases h6)]
   rfl
theorem rising_to{t:Int}:∀ (D:List (List UInt8)) (b:Bool) (last:List UInt8),rising t b last D=true→(∀ d ∈ D,rcheck t d=true)∧D.Pairwise (fun x y=>Op.bytesLess (rfold t x) (rfold t y)=true)∧(b=true→∀ d ∈ D,Op.bytesLess last (rfold t d)=true)
 |[],_,_=>fun _=>⟨fun _ h=>(by cases h),.nil,fun _ _ h=>(by cases h)⟩
 |d :: D,b,last=>fun h=>by
  unfold rising at h
  simp only [Bool.and_eq_true] at h
  obtain⟨⟨h1,h2⟩,h3⟩:=h
  obtain⟨a1,a2,a3⟩:=rising_to D true (rfold t d) h3
  have hd:b=true→Op.bytesLess last (rfold t d)=true:=fun hb=>by
   rw [hb] at h2
   simp only [Bool.true_and,Bool.not_eq_true',Bool.or_eq_false_iff] at h2
   cases e:Op.bytesLess last (rfold t d)
   ·have:=bl_tri _ _ h2.1 e
    rw [this] at h2;simp at h2
   ·rfl
  refine⟨fun x hx=>?_,List.pairwise_cons.2 ⟨fun x hx=>a3 rfl x hx,a2⟩,fun hb x hx=>?_⟩
  ·rcases List.mem_cons.1 hx with rfl|hx
   ·exact h1
   ·exact a1 x hx
  ·rcases List.mem_cons.1 hx with rfl|hx
   ·exact hd hb
   ·exact bl_trans _ _ _ (hd hb) (a3 rfl x hx)
theorem St.ok_iff(s:St):s.ok=true↔isName s.nm∧s.ttl≤2147483647∧(0<s.data.length∧s.data.length≤64)∧(∀ d ∈ s.data,rcheck s.ty d=true)∧s.data.Pairwise (fun x y=>Op.bytesLess (rfold s.ty x) (rfold s.ty y)=true):=by
 unfold St.ok scheck
 simp only[Bool.and_eq_true,decide_eq_true_eq]
 constructor
 ·rintro ⟨⟨⟨h1,h2⟩,h3⟩,h4⟩
  obtain⟨a1,a2,_⟩:=rising_to _ _ _ h4
  exact⟨h1,h2,h3,a1,a2⟩
 ·rintro ⟨h1,h2,h3,h4,h5⟩
  exact⟨⟨⟨h1,h2⟩,h3⟩,rising_of _ _ _ h4 h5 (fun h=>by cases h)⟩
theorem minOf_le:∀ (l:List RR) (a:Int),minOf a l≤a∧∀ r ∈ l,minOf a l≤r.ttl
 |[],a=>⟨Int.le_refl _,fun _ h=>(by cases h)⟩
 |r :: l,a=>by
  have ih:=minOf_le l (if r.ttl<a then r.ttl else a)
  have e:minOf a (r :: l)=minOf (if r.ttl<a then r.ttl else a) l:=rfl
  rw[e]
  refine⟨?_,fun x hx=>?_⟩
  ·have:=ih.1
   split at this <;> omega
  ·rcases List.mem_cons.1 hx with rfl|hx
   ·have:=ih.1
    split at this <;> omega
   ·exact ih.2 x hx
theorem good_parts{r:RR}(h:goodR r=true):r.cl=1∧r.check=true∧r.ty≠41∧isName r.nm∧rcheck r.ty r.d=true∧r.ttl≤2147483647:=by
 unfold goodR rightR at h
 simp only [Bool.and_eq_true,bne_iff_ne,ne_eq,beq_iff_eq] at h
 obtain⟨⟨h1,h2⟩,h3⟩:=h
 have hc:=h2
 unfold RR.check at hc
 simp only [Bool.and_eq_true,decide_eq_true_eq,Bool.or_eq_true,beq_iff_eq] at hc
 exact⟨h1,h2,h3,hc.1.1,hc.1.2,hc.2.resolve_right h3⟩
theorem buildD_firsts(t:Int)(rs:List RR):Firsts (rfold t) (rs.map (·.d)) (firstsOf (rfold t) (rs.map (·.d))):=firsts_of _ _
theorem take_pairwise{α:Type}{R:α→α→Prop}{l:List α}(n:Nat)(h:l.Pairwise R):(l.take n).Pairwise R:=h.sublist (List.take_sublist n l)
end Go.Proofs.Ytnfoihdifohkeaa
