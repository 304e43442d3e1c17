/-
  What stable sorting by merging in place does to the places of elements. Plain lemmas. Of texts those that are the first of their folded text, in the order of these. Plain lemmas. Two names are one. hardtackref01.Split, Make, Check. No conditions. hardtackref01.Fold, Same. Conditions: lengths. hardtackref04: Parts, first, split, texts, Check. Conditions: data of no more than 2000000 bytes. hardtackref04.Names, Fold. Conditions: data no longer than 2000000. cache: what is held; the functions that change nothing: lives, placeOf, slices.Clone, copied. Conditions: lengths. The cache as known blocks: [the cache, its links, its map]. Plain lemmas. cache: hold, Get, Len over known blocks. Conditions: lengths, ranges of numbers. Rings of links: cut out, put in. Plain lemmas. A cache as the list of what it holds, that used last first. Plain lemmas. cache.hold of a cache that is not full, as the list of what it holds. Conditions: lengths, ranges of numbers; room. cache.Put, None of a cache that is not full, as the list of what it holds; the cache among other blocks. Conditions: ranges of numbers; room. cache.New of room 64, All, as the list of what is held. No conditions but those told. hardtackref13.Check; hardtackref14.of, better, put, Put. Conditions: data no longer than 2000000; room. hardtackref14.put, Put, New. Conditions: data no longer than 2000000; room for one more. hardtacklaw16.Held: both caches hold the same. Conditions: data no longer than 1048576. hardtacklaw38.DumpCache. Conditions: the listed variables (VOk); data no longer than 1048576.
-/
import Derived.Test.YtdfdlbnojmlpiaaGreatDoorB1
import Derived.Test.YtdfdlbnojmlpiaaGreatDoorM4
import Derived.Test.YtdfdlbnojmlpiaaGreatDoorB2
import Derived.Test.YtdfdlbnojmlpiaaGreatDoorB3
set_option linter.unusedVariables false
set_option linter.unusedSimpArgs false
namespace Go.Proofs.YtdfdlbnojmlpiaaGreatDoor
structure Inj(n:Nat)(p:Nat→Nat):Prop where
 lt:∀ i,i<n→p i<n
 un:∀ i j,i<n→j<n→p i=p j→i=j
structure Same(p q:Nat→Nat)(a b:Nat):Prop where
 out:∀ i,¬ (a≤i∧i<b)→q i=p i
 fwd:∀ i,a≤i→i<b→∃ j,a≤j∧j<b∧q i=p j
 bwd:∀ i,a≤i→i<b→∃ j,a≤j∧j<b∧p i=q j
theorem Same.refl(p:Nat→Nat)(a b:Nat):Same p p a b:=⟨fun _ _=>rfl,fun i h1 h2=>⟨i,h1,h2,rfl⟩,fun i h1 h2=>⟨i,h1,h2,rfl⟩⟩
theorem Same.trans{p q r:Nat→Nat}{a b:Nat}(h:Same p q a b)(k:Same q r a b):Same p r a b :=
 ⟨fun i hi=>(k.out i hi).trans (h.out i hi),fun i h1 h2=>by
  obtain⟨j,a1,a2,a3⟩:=k.fwd i h1 h2
  obtain⟨l,b1,b2,b3⟩:=h.fwd j a1 a2
  exact⟨l,b1,b2,a3.trans b3⟩,fun i h1 h2=>by
  obtain⟨j,a1,a2,a3⟩:=h.bwd i h1 h2
  obtain⟨l,b1,b2,b3⟩:=k.bwd j a1 a2
  exact⟨l,b1,b2,a3.trans b3⟩⟩
theorem Same.wide{p q:Nat→Nat}{a b a' b':Nat}(h:Same p q a b)(ha:a'≤a)(hb:b≤b'):Same p q a' b' :=
 ⟨fun i hi=>h.out i (fun e=>hi (by omega)),fun i h1 h2=>by
  by_cases hi:a≤i∧i<b
  ·obtain⟨j,a1,a2,a3⟩:=h.fwd i hi.1 hi.2
   exact⟨j,by omega,by omega,a3⟩
  ·exact⟨i,h1,h2,h.out i hi⟩,fun i h1 h2=>by
  by_cases hi:a≤i∧i<b
  ·obtain⟨j,a1,a2,a3⟩:=h.bwd i hi.1 hi.2
   exact⟨j,by omega,by omega,a3⟩
  ·exact⟨i,h1,h2,(h.out i hi).symm⟩⟩
section
variable(L:Nat→Nat→Prop)
def Rise(p:Nat→Nat)(a b:Nat):Prop:=∀ i j,a≤i→i<j→j<b→L (p i) (p j)
def Sep(p:Nat→Nat)(a m b:Nat):Prop:=∀ i j,a≤i→i<m→m≤j→j<b→p i<p j
variable{L}{n:Nat}{p:Nat→Nat}
theorem Rise.sub{a b a' b':Nat}(h:Rise L p a b)(ha:a≤a')(hb:b'≤b):Rise L p a' b':=fun i j h1 h2 h3=>h i j (by omega) h2 (by omega)
theorem Rise.congr{q:Nat→Nat}{a b:Nat}(h:Rise L p a b)(he:∀ i,a≤i→i<b→q i=p i):Rise L q a b:=fun i j h1 h2 h3=>by
 rw[he i h1 (by omega),he j (by omega) h3];exact h i j h1 h2 h3
structure Merged(p q:Nat→Nat)(n a b:Nat):Prop where
 inj:Inj n q
 same:Same p q a b
 rise:Rise L q a b
end
theorem Sep.congr{q p:Nat→Nat}{a m b:Nat}(h:Sep p a m b)(he:∀ i,a≤i→i<b→q i=p i):Sep q a m b:=fun i j h1 h2 h3 h4=>by
 by_cases hx:i<b
 ·by_cases hy:a≤j
  ·rw[he i h1 hx,he j hy h4];exact h i j h1 h2 h3 h4
  ·omega
 ·omega
theorem Merged.stay{L:Nat→Nat→Prop}{n a b:Nat}{q:Nat→Nat}(hi:Inj n q)(h:Rise L q a b):Merged (L:=L) q q n a b:=⟨hi,.refl _ _ _,h⟩
def Lc(k lo n:Nat)(p:Nat→Nat):Prop:=∀ i,lo≤i→i<n→p i / k=i / k
def Rs(L:Nat→Nat→Prop)(k lo hi:Nat)(p:Nat→Nat):Prop:=∀ i j,lo≤i→i<j→j<hi→i / k=j / k→L (p i) (p j)
theorem div_in{k c i:Nat}(h1:c * k≤i)(h2:i<c * k+k):i / k=c:=by
 have hk:0<k:=by omega
 apply Nat.le_antisymm
 ·exact Nat.lt_succ_iff.1 (Nat.div_lt_of_lt_mul (by rw[Nat.mul_comm];rw[Nat.succ_mul];exact h2))
 ·exact(Nat.le_div_iff_mul_le hk).2 h1
structure Mg(L:Nat→Nat→Prop)(k n c:Nat)(p:Nat→Nat):Prop where
 inj:Inj n p
 big:Lc (2 * k) 0 n p
 done:Rs L (2 * k) 0 (min (c * (2 * k)) n) p
 rest:Rs L k (c * (2 * k)) n p
 small:Lc k (c * (2 * k)) n p
theorem Mg.left{L:Nat→Nat→Prop}{k n c:Nat}{p:Nat→Nat}(h:Mg L k n c p)(hm:c * (2 * k)+k≤n):Rise L p (c * (2 * k)) (c * (2 * k)+k):=fun i j hi hij hj=>by
 have e:c * (2 * k)=(c * 2) * k:=by rw[Nat.mul_assoc]
 refine h.rest i j hi hij (by omega) ?_
 rw[div_in (c:=c * 2) (by omega) (by omega),div_in (c:=c * 2) (by omega) (by omega)]
theorem Mg.right{L:Nat→Nat→Prop}{k n c b:Nat}{p:Nat→Nat}(h:Mg L k n c p)(hb:b≤n)(hb2:b≤c * (2 * k)+2 * k):Rise L p (c * (2 * k)+k) b:=fun i j hi hij hj=>by
 have e:c * (2 * k)=(c * 2) * k:=by rw[Nat.mul_assoc]
 have e2:(c * 2+1) * k=(c * 2) * k+k:=by rw[Nat.succ_mul]
 refine h.rest i j (by omega) hij (by omega) ?_
 rw[div_in (c:=c * 2+1) (by omega) (by omega),div_in (c:=c * 2+1) (by omega) (by omega)]
theorem Mg.sep{L:Nat→Nat→Prop}{k n c b:Nat}{p:Nat→Nat}(h:Mg L k n c p)(hb:b≤n)(hb2:b≤c * (2 * k)+2 * k):Sep p (c * (2 * k)) (c * (2 * k)+k) b:=fun i j hi him hj hjb=>by
 have hk:0<k:=by omega
 have e:c * (2 * k)=(c * 2) * k:=by rw[Nat.mul_assoc]
 have e2:(c * 2+1) * k=(c * 2) * k+k:=by rw[Nat.succ_mul]
 have a1:=h.small i hi (by omega)
 have a2:=h.small j (by omega) (by omega)
 rw [div_in (c:=c * 2) (i:=i) (by omega) (by omega)] at a1
 rw [div_in (c:=c * 2+1) (i:=j) (by omega) (by omega)] at a2
 rcases Nat.lt_or_ge (p i) (p j) with hl|hl
 ·exact hl
 ·have:=Nat.div_le_div_right (c:=k) hl
  omega
theorem Mg.next{L:Nat→Nat→Prop}{k n c b:Nat}{p r:Nat→Nat}(hk:0<k)(h:Mg L k n c p)(hb:b≤n)(hb2:b≤c * (2 * k)+2 * k)(hb3:b=n∨b=c * (2 * k)+2 * k)(hab:c * (2 * k)≤b)(hr:Merged (L:=L) p r n (c * (2 * k)) b):Mg L k n (c+1) r:=by
 have e:(c+1) * (2 * k)=c * (2 * k)+2 * k:=by rw[Nat.succ_mul]
 refine⟨hr.inj,fun i hi hin=>?_,fun i j hi hij hj hd=>?_,fun i j hi hij hj hd=>?_,fun i hi hin=>?_⟩
 ·by_cases hc:c * (2 * k)≤i∧i<b
  ·obtain⟨j,b1,b2,b3⟩:=hr.same.fwd i hc.1 hc.2
   rw[b3,h.big j (by omega) (by omega),div_in (c:=c) b1 (by omega),div_in (c:=c) hc.1 (by omega)]
  ·rw[hr.same.out i hc];exact h.big i hi hin
 ·by_cases hc:c * (2 * k)≤i
  ·exact hr.rise i j hc hij (by omega)
  ·by_cases hjc:j<c * (2 * k)
   ·rw[hr.same.out i (by omega),hr.same.out j (by omega)]
    exact h.done i j hi hij (by omega) hd
   ·exfalso
    rw [div_in (c:=c) (i:=j) (by omega) (by omega)] at hd
    have:=Nat.div_mul_le_self i (2 * k)
    rw [hd] at this
    omega
 ·rw[hr.same.out i (by omega),hr.same.out j (by omega)]
  exact h.rest i j (by omega) hij hj hd
 ·rw[hr.same.out i (by omega)]
  exact h.small i (by omega) hin
theorem Mg.over{L:Nat→Nat→Prop}{k n c:Nat}{p:Nat→Nat}(hk:0<k)(h:Mg L k n c p)(hn:n≤c * (2 * k)+k):Lc (2 * k) 0 n p∧Rs L (2 * k) 0 n p:=by
 refine⟨h.big,fun i j hi hij hj hd=>?_⟩
 have e:c * (2 * k)=(c * 2) * k:=by rw[Nat.mul_assoc]
 by_cases hjc:j<c * (2 * k)
 ·exact h.done i j hi hij (by omega) hd
 ·have hj2:=div_in (k:=2 * k) (c:=c) (i:=j) (by omega) (by omega)
  by_cases hic:c * (2 * k)≤i
  ·refine h.rest i j hic hij hj ?_
   rw[div_in (c:=c * 2) (by omega) (by omega),div_in (c:=c * 2) (by omega) (by omega)]
  ·exfalso
   rw [hj2] at hd
   have:=Nat.div_mul_le_self i (2 * k)
   rw [hd] at this
   omega
structure Fst(L:Nat→Nat→Prop)(k n c:Nat)(p:Nat→Nat):Prop where
 inj:Inj n p
 loc:Lc k 0 n p
 done:Rs L k 0 (min (c * k) n) p
 rest:∀ i,c * k≤i→p i=i
theorem Fst.zero{L:Nat→Nat→Prop}(k n:Nat):Fst L k n 0 id:=⟨⟨fun i h=>h,fun i j _ _ h=>h⟩,fun i _ _=>rfl,fun i j hi hij hj _=>by omega,fun i _=>rfl⟩
theorem Fst.next{L:Nat→Nat→Prop}{k n c b:Nat}{p r:Nat→Nat}(h:Fst L k n c p)(hb:b≤n)(hb2:b≤c * k+k)(hb3:b=n∨b=c * k+k)(hr:Merged (L:=L) p r n (c * k) b):Fst L k n (c+1) r:=by
 have e:(c+1) * k=c * k+k:=by rw[Nat.succ_mul]
 refine⟨hr.inj,fun i hi hin=>?_,fun i j hi hij hj hd=>?_,fun i hi=>?_⟩
 ·by_cases hc:c * k≤i∧i<b
  ·obtain⟨j,b1,b2,b3⟩:=hr.same.fwd i hc.1 hc.2
   rw[b3,h.rest j b1,div_in (c:=c) b1 (by omega),div_in (c:=c) hc.1 (by omega)]
  ·rw[hr.same.out i hc];exact h.loc i hi hin
 ·by_cases hc:c * k≤i
  ·exact hr.rise i j hc hij (by omega)
  ·by_cases hjc:j<c * k
   ·rw[hr.same.out i (by omega),hr.same.out j (by omega)]
    exact h.done i j hi hij (by omega) hd
   ·exfalso
    rw [div_in (c:=c) (i:=j) (by omega) (by omega)] at hd
    have:=Nat.div_mul_le_self i k
    rw [hd] at this
    omega
 ·rw[hr.same.out i (by omega)]
  exact h.rest i (by omega)
theorem Rs.all{L:Nat→Nat→Prop}{k n:Nat}{p:Nat→Nat}(h:Rs L k 0 n p)(hk:n≤k):Rise L p 0 n:=fun i j hi hij hj=>h i j hi hij hj (by rw[Nat.div_eq_of_lt (by omega),Nat.div_eq_of_lt (by omega)])
end Go.Proofs.YtdfdlbnojmlpiaaGreatDoor
namespace Go.Proofs.YtdfdlbnojmlpiaaGreatDoor
open Go Go.Eng
theorem u8_tri(a b:UInt8)(h1:¬ a<b)(h2:¬ b<a):a=b:=by
 rw [UInt8.lt_iff_toNat_lt] at h1 h2
 exact UInt8.toNat_inj.1 (by omega)
theorem bl_irr:∀ a:List UInt8,Op.bytesLess a a=false
 |[]=>rfl
 |a :: l=>by
  have:¬ a<a:=by rw[UInt8.lt_iff_toNat_lt];omega
  simp[Op.bytesLess,this,bl_irr l]
theorem bl_trans:∀ a b c:List UInt8,Op.bytesLess a b=true→Op.bytesLess b c=true→Op.bytesLess a c=true
 |_,_,[]=>fun _ h=>by simp [Op.bytesLess] at h
 |_,[],_ :: _=>fun h _=>by simp [Op.bytesLess] at h
 |[],_ :: _,_ :: _=>fun _ _=>rfl
 |a :: l,b :: m,c :: n=>fun h k=>by
  have ih:=bl_trans l m n
  simp only [Op.bytesLess,Bool.or_eq_true,Bool.and_eq_true,decide_eq_true_eq,beq_iff_eq] at h k ⊢
  rcases h with h|⟨rfl,h⟩ <;> rcases k with k|⟨rfl,k⟩
  ·left;rw [UInt8.lt_iff_toNat_lt] at *;omega
  ·exact .inl h
  ·exact .inl k
  ·exact .inr ⟨rfl,ih h k⟩
theorem bl_asym(a b:List UInt8)(h:Op.bytesLess a b=true):Op.bytesLess b a=false:=by
 cases e:Op.bytesLess b a
 ·rfl
 ·have:=bl_trans a b a h e
  rw [bl_irr] at this;cases this
theorem bl_tri:∀ a b:List UInt8,Op.bytesLess a b=false→Op.bytesLess b a=false→a=b
 |[],[]=>fun _ _=>rfl
 |[],_ :: _=>fun h _=>by simp [Op.bytesLess] at h
 |_ :: _,[]=>fun _ h=>by simp [Op.bytesLess] at h
 |a :: l,b :: m=>fun h k=>by
  have ih:=bl_tri l m
  simp only [Op.bytesLess,Bool.or_eq_false_iff,Bool.and_eq_false_iff,decide_eq_false_iff_not,beq_eq_false_iff_ne] at h k
  have e:a=b:=u8_tri a b h.1 k.1
  subst e
  rw[ih (h.2.resolve_left (fun h=>h rfl)) (k.2.resolve_left (fun h=>h rfl))]
structure Firsts(F:List UInt8→List UInt8)(xs D:List (List UInt8)):Prop where
 rise:D.Pairwise (fun a b=>Op.bytesLess (F a) (F b)=true)
 mem:∀ x,x ∈ D↔∃ i:Nat,xs[i]? = some x∧∀ (j:Nat) (y:List UInt8),j<i→xs[j]? = some y→F y≠F x
theorem rise_uniq(F:List UInt8→List UInt8):∀ (A B:List (List UInt8)),A.Pairwise (fun a b=>Op.bytesLess (F a) (F b)=true)→B.Pairwise (fun a b=>Op.bytesLess (F a) (F b)=true)→(∀ x,x ∈ A↔x ∈ B)→A=B
 |[],[]=>fun _ _ _=>rfl
 |[],b :: B=>fun _ _ h=>by have:=(h b).2 (by simp);simp at this
 |a :: A,[]=>fun _ _ h=>by have:=(h a).1 (by simp);simp at this
 |a :: A,b :: B=>fun hA hB h=>by
  obtain⟨a1,a2⟩:=List.pairwise_cons.1 hA
  obtain⟨b1,b2⟩:=List.pairwise_cons.1 hB
  have e:a=b:=by
   rcases List.mem_cons.1 ((h a).1 (by simp)) with e|e
   ·exact e
   ·rcases List.mem_cons.1 ((h b).2 (by simp)) with e'|e'
    ·exact e'.symm
    ·have:=bl_asym _ _ (b1 a e)
     rw [a1 b e'] at this;cases this
  subst e
  have:A=B:=rise_uniq F A B a2 b2 fun x=>by
   constructor
   ·intro hx
    rcases List.mem_cons.1 ((h x).1 (List.mem_cons_of_mem _ hx)) with e|e
    ·subst e;have:=a1 x hx;rw [bl_irr] at this;cases this
    ·exact e
   ·intro hx
    rcases List.mem_cons.1 ((h x).2 (List.mem_cons_of_mem _ hx)) with e|e
    ·subst e;have:=b1 x hx;rw [bl_irr] at this;cases this
    ·exact e
  rw[this]
theorem Firsts.uniq{F:List UInt8→List UInt8}{xs A B:List (List UInt8)}(h:Firsts F xs A)(k:Firsts F xs B):A=B :=
 rise_uniq F A B h.rise k.rise fun x=>(h.mem x).trans (k.mem x).symm
theorem Firsts.self{F:List UInt8→List UInt8}{xs:List (List UInt8)}(h:xs.Pairwise (fun a b=>Op.bytesLess (F a) (F b)=true)):Firsts F xs xs:=by
 refine⟨h,fun x=>⟨fun hx=>?_,fun⟨i,hi,_⟩=>List.mem_of_getElem? hi⟩⟩
 obtain⟨i,hi⟩:=List.getElem?_of_mem hx
 refine⟨i,hi,fun j y hj hy e=>?_⟩
 obtain⟨hi1,rfl⟩:=List.getElem?_eq_some_iff.1 hi
 obtain⟨hj1,rfl⟩:=List.getElem?_eq_some_iff.1 hy
 have:=List.pairwise_iff_getElem.1 h j i hj1 hi1 hj
 rw [e,bl_irr] at this;cases this
theorem Firsts.cover{F:List UInt8→List UInt8}{xs D:List (List UInt8)}(h:Firsts F xs D):∀ (i:Nat) (y:List UInt8),xs[i]? = some y→∃ a ∈ D,F a=F y:=by
 intro i
 induction i using Nat.strongRecOn with
 |_ i ih =>
  intro y hy
  by_cases hx:∃ j z,j<i∧xs[j]? = some z∧F z=F y
  ·obtain⟨j,z,hj,hz,e⟩:=hx
   obtain⟨a,ha,e2⟩:=ih j hj z hz
   exact⟨a,ha,e2.trans e⟩
  ·exact⟨y,(h.mem y).2 ⟨i,hy,fun j z hj hz e=>hx ⟨j,z,hj,hz,e⟩⟩,rfl⟩
theorem Firsts.from{F:List UInt8→List UInt8}{xs D:List (List UInt8)}(h:Firsts F xs D){a:List UInt8}(ha:a ∈ D):∃ i:Nat,xs[i]? = some a:=by
 obtain⟨i,hi,_⟩:=(h.mem a).1 ha
 exact⟨i,hi⟩
theorem Firsts.skip{F:List UInt8→List UInt8}{xs D:List (List UInt8)}(h:Firsts F xs D){x a:List UInt8}(ha:a ∈ D)(e:F a=F x):Firsts F (xs++[x]) D:=by
 refine⟨h.rise,fun z=>(h.mem z).trans ⟨fun⟨i,hi,hf⟩=>?_,fun⟨i,hi,hf⟩=>?_⟩⟩
 ·have hil:=(List.getElem?_eq_some_iff.1 hi).1
  refine⟨i,by rw[List.getElem?_append_left hil];exact hi,fun j y hj hy=>hf j y hj ?_⟩
  rwa [List.getElem?_append_left (by omega)] at hy
 ·rcases Nat.lt_or_ge i xs.length with hl|hl
  ·rw [List.getElem?_append_left hl] at hi
   exact⟨i,hi,fun j y hj hy=>hf j y hj (by rw[List.getElem?_append_left (by omega)];exact hy)⟩
  ·exfalso
   obtain⟨q,hq⟩:=h.from ha
   have hql:=(List.getElem?_eq_some_iff.1 hq).1
   have hx:z=x:=by
    rw [List.getElem?_append_right hl] at hi
    have:i - xs.length=0:=by
     rcases Nat.eq_zero_or_pos (i - xs.length) with h|h
     ·exact h
     ·rw [List.getElem?_eq_none (by simp;omega)] at hi;cases hi
    rw [this] at hi
    exact(Option.some.inj hi).symm
   refine hf q a (by omega) (by rw[List.getElem?_append_left hql];exact hq) (by rw[hx];exact e)
theorem Firsts.put{F:List UInt8→List UInt8}{xs A B:List (List UInt8)}(h:Firsts F xs (A++B)){x:List UInt8}(hA:∀ a ∈ A,Op.bytesLess (F a) (F x)=true)(hB:∀ b ∈ B,Op.bytesLess (F x) (F b)=true):Firsts F (xs++[x]) (A++x :: B):=by
 have hr:=List.pairwise_append.1 h.rise
 have hno:∀ i y,xs[i]? = some y→F y≠F x:=fun i y hy e=>by
  obtain⟨a,ha,e2⟩:=h.cover i y hy
  rcases List.mem_append.1 ha with ha|ha
  ·have:=hA a ha;rw [e2,e,bl_irr] at this;cases this
  ·have:=hB a ha;rw [e2,e,bl_irr] at this;cases this
 refine⟨?_,fun z=>?_⟩
 ·refine List.pairwise_append.2 ⟨hr.1,List.pairwise_cons.2 ⟨hB,hr.2.1⟩,fun a ha b hb=>?_⟩
  rcases List.mem_cons.1 hb with rfl|hb
  ·exact hA a ha
  ·exact hr.2.2 a ha b hb
 ·have:z ∈ A++x :: B↔z ∈ A++B∨z=x:=by
   simp only[List.mem_append,List.mem_cons]
   constructor
   ·rintro (h|h|h)
    ·exact .inl (.inl h)
    ·exact .inr h
    ·exact .inl (.inr h)
   ·rintro ((h|h)|h)
    ·exact .inl h
    ·exact .inr (.inr h)
    ·exact .inr (.inl h)
  rw[this,h.mem z]
  constructor
  ·rintro (⟨i,hi,hf⟩|rfl)
   ·have hil:=(List.getElem?_eq_some_iff.1 hi).1
    refine⟨i,by rw[List.getElem?_append_left hil];exact hi,fun j y hj hy=>hf j y hj ?_⟩
    rwa [List.getElem?_append_left (by omega)] at hy
   ·refine⟨xs.length,by simp,fun j y hj hy=>hno j y ?_⟩
    rwa [List.getElem?_append_left hj] at hy
  ·rintro ⟨i,hi,hf⟩
   rcases Nat.lt_or_ge i xs.length with hl|hl
   ·left
    rw [List.getElem?_append_left hl] at hi
    exact⟨i,hi,fun j y hj hy=>hf j y hj (by rw[List.getElem?_append_left (by omega)];exact hy)⟩
   ·right
    rw [List.getElem?_append_right hl] at hi
    have:i - xs.length=0:=by
     rcases Nat.eq_zero_or_pos (i - xs.length) with h|h
     ·exact h
     ·rw [List.getElem?_eq_none (by simp;omega)] at hi;cases hi
    rw [this] at hi
    exact(Option.some.inj hi).symm
theorem Firsts.len{F:List UInt8→List UInt8}{xs D:List (List UInt8)}(h:Firsts F xs D)(hx:xs≠[]):0<D.length:=by
 cases xs with
 |nil=>exact absurd rfl hx
 |cons x l =>
  obtain⟨a,ha,_⟩:=h.cover 0 x rfl
  exact List.length_pos_of_mem ha
def insF(F:List UInt8→List UInt8):List (List UInt8)→List UInt8→List (List UInt8)
 |[],x=>[x]
 |d :: D,x=>if Op.bytesLess (F d) (F x) then d :: insF F D x else if F d=F x then d :: D else x :: d :: D
theorem insF_cases(F:List UInt8→List UInt8):∀ (D:List (List UInt8)) (x:List UInt8),D.Pairwise (fun a b=>Op.bytesLess (F a) (F b)=true) →
 (insF F D x=D∧∃ a ∈ D,F a=F x)∨∃ A B,D=A++B∧insF F D x=A++x :: B∧(∀ a ∈ A,Op.bytesLess (F a) (F x)=true)∧∀ b ∈ B,Op.bytesLess (F x) (F b)=true
 |[],x=>fun _=>.inr ⟨[],[],rfl,rfl,fun _ h=>(by cases h),fun _ h=>(by cases h)⟩
 |d :: D,x=>fun h=>by
  obtain⟨h1,h2⟩:=List.pairwise_cons.1 h
  unfold insF
  cases e:Op.bytesLess (F d) (F x)
  ·by_cases e2:F d=F x
   ·left
    rw[if_neg (by simp),if_pos e2]
    exact⟨rfl,d,by simp,e2⟩
   ·right
    rw[if_neg (by simp),if_neg e2]
    have e3:Op.bytesLess (F x) (F d)=true:=by
     cases e4:Op.bytesLess (F x) (F d)
     ·exact absurd (bl_tri _ _ e e4) e2
     ·rfl
    refine⟨[],d :: D,rfl,rfl,fun _ h=>by(cases h),fun b hb=>?_⟩
    rcases List.mem_cons.1 hb with rfl|hb
    ·exact e3
    ·exact bl_trans _ _ _ e3 (h1 b hb)
  ·rw[if_pos rfl]
   rcases insF_cases F D x h2 with⟨h3,a,ha,h4⟩|⟨A,B,h3,h4,h5,h6⟩
   ·left
    rw[h3]
    exact⟨rfl,a,by simp[ha],h4⟩
   ·right
    refine⟨d :: A,B,by rw[h3];rfl,by rw[h4];rfl,fun a ha=>?_,h6⟩
    rcases List.mem_cons.1 ha with rfl|ha
    ·exact e
    ·exact h5 a ha
theorem Firsts.ins{F:List UInt8→List UInt8}{xs D:List (List UInt8)}(h:Firsts F xs D)(x:List UInt8):Firsts F (xs++[x]) (insF F D x):=by
 rcases insF_cases F D x h.rise with⟨h3,a,ha,h4⟩|⟨A,B,h3,h4,h5,h6⟩
 ·rw[h3];exact h.skip ha h4
 ·rw[h4];exact Firsts.put (h3 ▸ h) h5 h6
end Go.Proofs.YtdfdlbnojmlpiaaGreatDoor
namespace Go.Proofs.YtdfdlbnojmlpiaaGreatDoor
open Go Go.Eng
def sameN(a b:List UInt8):Bool:=decide (isName a) && (decide (isName b) && fold a == fold b)
theorem fold_len(s:List UInt8):(fold s).length=s.length:=by simp[fold]
theorem isName_short{s:List UInt8}(h:isName s):s.length<9223372036854775808:=by have:=h.2.1;omega
end Go.Proofs.YtdfdlbnojmlpiaaGreatDoor
namespace Go.Proofs.YtdfdlbnojmlpiaaGreatDoor
open Go Go.Eng
def splitR:Option (List (List UInt8))→SV
 |none=>.tup [.any,.d .ff]
 |some l=>.tup [.d (.sl false l.length 1 (strs l)),.d .tt]
structure SpSt where
 at_:Nat
 l:List (List UInt8)
 m:Nat
set_option maxRecDepth 100000 in
set_option maxHeartbeats 4000000 in
theorem r1split_ok(s:List UInt8):FnOk Tryz.prog 112 [.d (.str s)] (splitR (labelsOf s)):=by
 refine fnOk_of_run (TT:=TT) (IN:=lookI []) TT_ok INok_nil mixed 1000 Tryz.func112 rfl (enters Tryz.func112 (by kernel_rfl) rfl) rfl 52 (by kernel_rfl) ?_
 conv=>whnf
 refine⟨fun h1=>?_,fun h1=>?_⟩
 ·have h1:(s.length:Int) > 255:=of_decide_eq_true h1
  have e:labelsOf s=none:=by unfold labelsOf;rw[if_pos (by omega)]
  rw[e]
  conv=>whnf
  repeat'(first|exact ⟨⟩|exact rfl|exact⟨rfl,rfl,.inr rfl,fun _ _=>rfl⟩|exact⟨rfl,rfl,.inl rfl,fun i hi=>absurd hi (Nat.not_lt_zero _)⟩|apply And.intro)
 have h1:¬ (s.length:Int) > 255:=of_decide_eq_false h1
 have e:labelsOf s=splitN (s.length+1) s:=by unfold labelsOf;rw[if_neg (by omega)]
 have hw:∀ n:Int,-9223372036854775808≤n∧n≤9223372036854775807→IntKind.i64.wrap n=n:=fun n h=>w64_in n h
 conv=>whnf
 refine .csT 4 0 9 1 (fun _=>[]) rfl rfl ?_
 refine .inv SpSt (fun x=>x.at_≤s.length∧s.length<x.at_+x.m∧x.l.length≤x.at_∧(splitN x.m (s.drop x.at_)).map (x.l ++ ·)=splitN (s.length+1) s) (fun x=>[(4,.all 1),(5,.d (.int .i64 x.at_))]) (fun x=>[(1,.row 9 1 x.l.length .no (strs x.l))]) (fun x=>s.length - x.at_) ⟨⟨0,[],s.length+1⟩,[0,1],⟨Nat.zero_le _,by show s.length<0+(s.length+1);omega,Nat.zero_le _,by simp⟩,?_⟩ ?_
 ·conv=>whnf
  repeat'(first|exact ⟨⟩|exact rfl|(intro i hi;exact absurd hi (Nat.not_lt_zero _))|exact fun _ _=>rfl|apply And.intro)
 intro x hx
 obtain⟨hk,hm,hll,hrest⟩:=hx
 conv=>whnf
 generalize x.at_=k at hk hm hll hrest ⊢
 generalize x.l=l at hll hrest ⊢
 generalize x.m=m at hm hrest ⊢
 have hdl:(s.drop k).length=s.length - k:=by simp
 have hd0:bt (s.drop k) 0=bt s k:=by rw[bt_drop];rfl
 have hbl:=bt_lt s k
 obtain⟨m',rfl⟩:∃ m',m=m'+1:=⟨m - 1,by omega⟩
 conv at hrest=>lhs;unfold splitN
 rw [hdl,hd0] at hrest
 refine⟨fun c0=>?_,fun c0=>?_⟩
 ·have c0':k<s.length:=(by have h:(k:Int)<s.length:=of_decide_eq_true c0;omega)
  rw [if_neg (by omega)] at hrest
  conv=>whnf
  refine⟨by omega,?_⟩
  conv=>whnf
  rw[bt_eq,hw _ (by omega)]
  refine⟨fun c1=>?_,fun c1=>?_⟩
  ·have c1:bt s k=0:=by
    have h:(bt s k:Int)=0:=by simpa using c1
    omega
   rw [if_pos c1] at hrest
   conv=>whnf
   rw[hw ((s.length:Int) - 1) (by omega)]
   by_cases hz:s.length - k=1
   ·rw [if_pos hz] at hrest
    rw[e,←hrest]
    conv=>whnf
    refine⟨?_,?_,True.intro⟩
    ·exact⟨rfl,by simp,.inr rfl,fun i hi=>by simp⟩
    ·show((k:Int) == (s.length:Int) - 1)=true
     simp
     omega
   ·rw [if_neg hz] at hrest
    rw[e,←hrest]
    conv=>whnf
    refine⟨True.intro,?_,True.intro⟩
    show((k:Int) == (s.length:Int) - 1)=false
    simp
    omega
  have c1:bt s k≠0:=by
   have h:(bt s k:Int)≠0:=by simpa using c1
   omega
  rw [if_neg c1] at hrest
  conv=>whnf
  refine⟨fun c2=>?_,fun c2=>?_⟩
  ·have c2:(bt s k:Int) > 63:=of_decide_eq_true c2
   rw [if_pos (.inl (by omega))] at hrest
   rw[e,←hrest]
   conv=>whnf
   exact⟨True.intro,rfl,True.intro⟩
  have c2:¬ (bt s k:Int) > 63:=of_decide_eq_false c2
  conv=>whnf
  rw[hw ((k:Int)+1) (by omega),hw ((k:Int)+1+bt s k) (by omega)]
  refine⟨fun c3=>?_,fun c3=>?_⟩
  ·have c3:(k:Int)+1+bt s k > s.length:=of_decide_eq_true c3
   rw [if_pos (.inr (by omega))] at hrest
   rw[e,←hrest]
   conv=>whnf
   exact⟨True.intro,rfl,True.intro⟩
  have c3:¬ (k:Int)+1+bt s k > s.length:=of_decide_eq_false c3
  rw [if_neg (by omega)] at hrest
  conv=>whnf
  rw[hw ((k:Int)+1) (by omega),hw ((k:Int)+1+bt s k) (by omega)]
  refine⟨by omega,?_⟩
  conv=>whnf
  refine⟨by omega,?_⟩
  conv=>whnf
  rw[hw (1+(bt s k:Int)) (by omega),hw ((k:Int)+(1+bt s k)) (by omega),show(k:Int)+(1+(bt s k:Int))=((k+(1+bt s k):Nat):Int) by omega]
  refine⟨⟨k+(1+bt s k),l++[(s.drop (k+1)).take (bt s k)],m'⟩,[0,3],⟨by show k+(1+bt s k)≤_;omega,by show s.length<k+(1+bt s k)+m';omega,by show(l++[_]).length≤k+(1+bt s k);rw[List.length_append];show l.length+1≤_;omega,?_⟩,by show s.length - (k+(1+bt s k))<s.length - k;omega,?_⟩
  ·rw[←hrest,List.drop_drop,List.drop_drop]
   simp[Function.comp_def]
  conv=>whnf
  repeat'(first|exact ⟨⟩|exact rfl|apply And.intro)
  ·simp
  ·refine strs_cat _ _ _ ?_
   show[DV.str _]=[DV.str _]
   congr 2
   unfold sub
   rw[show((k:Int)+1+(bt s k:Int)).toNat - ((k:Int)+1).toNat=bt s k by omega,show((k:Int)+1).toNat=k+1 by omega]
 ·have c0':k=s.length:=(by have h:¬ (k:Int)<s.length:=of_decide_eq_false c0;omega)
  rw [if_pos (by omega)] at hrest
  rw[e,←hrest]
  conv=>whnf
  exact⟨True.intro,rfl,True.intro⟩
set_option maxRecDepth 100000 in
theorem r1check_ok(s:List UInt8):FnOk Tryz.prog 53 [.d (.str s)] (.d (.int .i64 (if isName s then 0 else 2))):=by
 refine fnOk_of_run (TT:=TT) (IN:=lookI []) TT_ok INok_nil mixed 1000 Tryz.func53 rfl (enters Tryz.func53 (by kernel_rfl) rfl) rfl 11 (by kernel_rfl) ?_
 conv=>whnf
 refine .one (.data _ (r1split_ok s) rfl (by cases labelsOf s <;> rfl) ?_)
 have hn:=isName_labels s
 cases hl:labelsOf s with
 |none =>
  have:¬ isName s:=fun h=>by rw [hn,hl] at h;cases h
  rw[if_neg this]
  conv=>whnf
  try exact rfl
 |some ls =>
  have:isName s:=hn.2 (by rw[hl];rfl)
  rw[if_pos this]
  conv=>whnf
  try exact rfl
end Go.Proofs.YtdfdlbnojmlpiaaGreatDoor
namespace Go.Proofs.YtdfdlbnojmlpiaaGreatDoor
open Go Go.Eng
set_option maxRecDepth 100000
set_option maxHeartbeats 2000000 in
theorem r1fold_ok(s:List UInt8)(hs:s.length<9223372036854775808):FnOk Tryz.prog 118 [.d (.str s)] (.d (.str (fold s))):=by
 refine fnOk_of_run (TT:=TT) (IN:=lookI []) TT_ok INok_nil mixed 1000 Tryz.func118 rfl (enters Tryz.func118 (by kernel_rfl) rfl) rfl 28 (by kernel_rfl) ?_
 conv=>whnf
 refine .inv Nat (fun k=>k≤s.length) (fun k=>[(10,.d (.int .i64 k))]) (fun k=>[(0,.row 5 1 s.length .no (fun j=>[.int .u8 (mix s k j)]))]) (fun k=>s.length - k) ⟨0,[0],by omega,?_⟩ ?_
 ·conv=>whnf
  repeat'(first|exact ⟨⟩|exact rfl|apply And.intro)
  intro i hi
  simp[mix,bt_eq]
 intro k hk
 have hk1:k<s.length→IntKind.i64.wrap ((k:Int)+1)=((k+1:Nat):Int):=fun _=>by rw[w64_in _ (by omega)];omega
 conv=>whnf
 refine⟨fun hlt=>?_,fun hge=>?_⟩
 ·have hlt':k<s.length:=by simpa using hlt
  conv=>whnf
  refine⟨by simp;omega,?_⟩
  have hmk:mix s k (Int.toNat (k:Int))=(bt s k:Int):=by simp[mix]
  have hb:=bt_lt s k
  conv=>whnf
  have stay:¬ (65≤bt s k∧bt s k≤90)→∀ i,i<s.length→[DV.int IntKind.u8 (mix s k i)]=[DV.int IntKind.u8 (mix s (k+1) i)]:=fun hn i hi=>by
   unfold mix
   by_cases e:i=k
   ·subst e
    rw [if_neg (by omega),if_pos (by omega),low_nat,if_neg (by unfold bt at hn;exact hn)]
    rfl
   ·by_cases e2:i<k
    ·rw[if_pos e2,if_pos (by omega)]
    ·rw[if_neg e2,if_neg (by omega)]
  rw[hmk]
  refine⟨fun h1=>?_,fun h1=>?_⟩
  ·conv=>whnf
   refine⟨fun h2=>?_,fun h2=>?_⟩
   ·conv=>whnf
    refine⟨by simp;omega,?_⟩
    conv=>whnf
    refine⟨k+1,[0],by omega,by show s.length - (k+1)<s.length - k;omega,?_⟩
    conv=>whnf
    repeat'(first|exact ⟨⟩|exact rfl|apply And.intro)
    all_goals first
     |exact congrArg SV.d (congrArg (DV.int _) (hk1 hlt'))
     |exact stay (by simp at h1 h2;omega)
     |(
      intro i hi
      show oneF _ _ _ _ i=_
      unfold oneF mix
      simp at h1 h2
      by_cases e:i=k
      ·subst e
       simp only[Int.toNat_natCast,if_true,putD,List.set_cons_zero]
       rw [if_pos (by omega),low_nat,if_pos (by unfold bt at h1 h2;omega),IntKind.wrap_u8]
       unfold bt at *
       congr 2
       omega
      ·rw[if_neg (by simpa using e)]
       show[DV.int _ _]=[DV.int _ _]
       by_cases e2:i<k
       ·rw[if_pos e2,if_pos (by omega)]
       ·rw[if_neg e2,if_neg (by omega)])
   ·conv=>whnf
    refine⟨k+1,[0],by omega,by show s.length - (k+1)<s.length - k;omega,?_⟩
    conv=>whnf
    repeat'(first|exact ⟨⟩|exact rfl|apply And.intro)
    all_goals first
     |exact congrArg SV.d (congrArg (DV.int _) (hk1 hlt'))
     |exact stay (by simp at h1 h2;omega)
     |(
      intro i hi
      show oneF _ _ _ _ i=_
      unfold oneF mix
      simp at h1 h2
      by_cases e:i=k
      ·subst e
       simp only[Int.toNat_natCast,if_true,putD,List.set_cons_zero]
       rw [if_pos (by omega),low_nat,if_pos (by unfold bt at h1 h2;omega),IntKind.wrap_u8]
       unfold bt at *
       congr 2
       omega
      ·rw[if_neg (by simpa using e)]
       show[DV.int _ _]=[DV.int _ _]
       by_cases e2:i<k
       ·rw[if_pos e2,if_pos (by omega)]
       ·rw[if_neg e2,if_neg (by omega)])
  ·conv=>whnf
   refine⟨k+1,[0],by omega,by show s.length - (k+1)<s.length - k;omega,?_⟩
   conv=>whnf
   repeat'(first|exact ⟨⟩|exact rfl|apply And.intro)
   all_goals first
    |exact congrArg SV.d (congrArg (DV.int _) (hk1 hlt'))
    |exact stay (by simp at h1;omega)
    |(
     intro i hi
     show oneF _ _ _ _ i=_
     unfold oneF mix
     simp at h1
     by_cases e:i=k
     ·subst e
      simp only[Int.toNat_natCast,if_true,putD,List.set_cons_zero]
      rw [if_pos (by omega),low_nat,if_pos (by unfold bt at h1;omega),IntKind.wrap_u8]
      unfold bt at *
      congr 2
      omega
     ·rw[if_neg (by simpa using e)]
      show[DV.int _ _]=[DV.int _ _]
      by_cases e2:i<k
      ·rw[if_pos e2,if_pos (by omega)]
      ·rw[if_neg e2,if_neg (by omega)])
 ·have hke:k=s.length:=by simp at hge;omega
  subst hke
  conv=>whnf
  refine⟨fun i _=>⟨_,rfl⟩,?_⟩
  conv=>whnf
  refine congrArg DV.str ?_
  unfold bytesOf fold
  apply List.ext_getElem?
  intro i
  rw[List.getElem?_map,List.getElem?_map]
  by_cases hi:i<s.length
  ·rw[List.getElem?_range hi,List.getElem?_eq_getElem hi]
   simp[mix,hi]
  ·rw[List.getElem?_eq_none (by simp;omega),List.getElem?_eq_none (by omega)]
   rfl
set_option maxHeartbeats 4000000 in
theorem r1same_ok(a b:List UInt8):FnOk Tryz.prog 56 [.d (.str a),.d (.str b)] (.d (.bool (sameN a b))):=by
 refine fnOk_of_run (TT:=TT) (IN:=lookI []) TT_ok INok_nil mixed 1000 Tryz.func56 rfl (enters Tryz.func56 (by kernel_rfl) rfl) rfl 18 (by kernel_rfl) ?_
 conv=>whnf
 refine .one (.data _ (r1check_ok a) rfl rfl ?_)
 by_cases ha:isName a
 ·rw[if_pos ha]
  conv=>whnf
  refine brT rfl ?_
  conv=>whnf
  refine .one (.data _ (r1check_ok b) rfl rfl ?_)
  by_cases hb:isName b
  ·rw[if_pos hb]
   conv=>whnf
   refine brT rfl ?_
   conv=>whnf
   refine .one (.data _ (r1fold_ok a (isName_short ha)) rfl rfl ?_)
   conv=>whnf
   refine .one (.data _ (r1fold_ok b (isName_short hb)) rfl rfl ?_)
   rw[show sameN a b=(fold a == fold b) by unfold sameN;rw[decide_eq_true ha,decide_eq_true hb];rfl]
   conv=>whnf
   try exact rfl
  ·rw[if_neg hb,show sameN a b=false by unfold sameN;rw[decide_eq_false hb,Bool.false_and,Bool.and_false]]
   conv=>whnf
   refine brF rfl ?_
   conv=>whnf
   repeat(first|(refine brF rfl ?_;conv=>whnf))
   try exact rfl
 ·rw[if_neg ha,show sameN a b=false by unfold sameN;rw[decide_eq_false ha,Bool.false_and]]
  conv=>whnf
  refine brF rfl ?_
  conv=>whnf
  repeat(first|(refine brF rfl ?_;conv=>whnf))
  try exact rfl
end Go.Proofs.YtdfdlbnojmlpiaaGreatDoor
namespace Go.Proofs.YtdfdlbnojmlpiaaGreatDoor
open Go Go.Eng
theorem firstF_at(s t:List UInt8):∀ (ls pre:List (List UInt8)) (m:Nat),(∀ l ∈ pre,okL l)→(∀ l ∈ ls,okL l)→s=labs pre++(mk ls++t)→(labs pre++mk ls).length≤255→256≤m+(labs pre).length →
 firstF s m (labs pre).length=(labs pre++mk ls).length
 |[],pre,m,hp,_,hs,hl,hm=>by
  cases m with
  |zero=>rw [List.length_append] at hl;omega
  |succ m =>
   have hl1:(labs pre++mk []).length=(labs pre).length+1:=by rw[List.length_append];rfl
   have hb:bt s (labs pre).length=0:=by
    rw[hs]
    unfold bt
    rw[List.getElem?_append_right (Nat.le_refl _),Nat.sub_self]
    rfl
   have hsl:(labs pre).length<s.length:=by rw[hs,List.length_append];have:=mk_pos [];rw[List.length_append];omega
   have htk:s.take ((labs pre).length+1)=mk pre:=by
    have:labs pre++(mk []++t)=(labs pre++[0])++t:=by simp[mk]
    rw[hs,this,List.take_left' (by simp)]
    exact labs_mk pre
   unfold firstF
   rw[if_pos ⟨hsl,by omega⟩,if_pos hb,htk,if_pos ((isName_iff _).2 ⟨by rw[←labs_mk];simpa[mk] using hl,pre,hp,rfl⟩),hl1]
 |l :: ls,pre,m,hp,hls,hs,hl,hm=>by
  have hol:=hls l (List.mem_cons_self ..)
  have h1:=hol.1
  have hml:=mk_len_cons0 l ls
  have hmp:=mk_pos ls
  have hll:(labs (pre++[l])).length=(labs pre).length+1+l.length:=by rw[labs_snoc,List.length_append,lab_len];omega
  rw [List.length_append] at hl
  cases m with
  |zero=>omega
  |succ m =>
   have hb:bt s (labs pre).length=l.length:=by
    have:=bt_drop s (labs pre).length 0
    rw [Nat.add_zero] at this
    rw[←this,hs,List.drop_left]
    show bt (lab l++mk ls++t) 0=_
    rw[List.append_assoc]
    exact bt_lab l _ hol
   have hsl:(labs pre).length<s.length:=by rw[hs,List.length_append,List.length_append];omega
   have hcat:labs (pre++[l])++mk ls=labs pre++mk (l :: ls):=by rw[labs_snoc,List.append_assoc];rfl
   unfold firstF
   rw[if_pos ⟨hsl,by omega⟩,if_neg (by rw[hb];omega),hb,←hll]
   rw[firstF_at s t ls (pre++[l]) m (fun x hx=>by
    rcases List.mem_append.1 hx with hx|hx
    ·exact hp x hx
    ·rw[List.mem_singleton.1 hx];exact hol) (fun x hx=>hls x (List.mem_cons_of_mem _ hx)) (by
    rw[hs,←List.append_assoc,←List.append_assoc,hcat]) (by rw[hcat,List.length_append];exact hl) (by omega),hcat]
theorem firstN_of{s:List UInt8}{k:Nat}(hk:k≤s.length)(h:isName (s.take k)):firstN s=k:=by
 obtain⟨h1,ls,h2,h3⟩:=(isName_iff _).1 h
 have hlen:(mk ls).length=k:=by rw[←h3,List.length_take];omega
 have h1:(mk ls).length≤255:=by rw[←h3];exact h1
 have:=firstF_at s (s.drop k) ls [] 256 (fun l hl=>by cases hl) h2 (by show s=[]++(mk ls++s.drop k);rw[←h3];simp) (by show([]++mk ls).length≤255;simp;omega) (by omega)
 unfold firstN
 have e:([]++mk ls:List UInt8).length=k:=by simpa using hlen
 exact this.trans e
theorem firstN_none{s:List UInt8}(h:∀ k,k≤s.length→k≤255→¬ isName (s.take k)):firstN s=0:=by
 have hl:=firstN_le s
 cases hf:firstN s with
 |zero=>rfl
 |succ n =>
  have:=firstF_name s 256 0 (by show firstN s≠0;omega)
  exact absurd this (h _ hl.1 hl.2)
def partsR:Option (Nat × Nat × Nat)→SV
 |some p=>.tup [.d (.int .i64 (2 * p.1:Nat)),.d (.int .i64 p.2.1),.d (.int .i64 (4 * p.2.2:Nat)),.d .tt]
 |none=>.tup [.d (.int .i64 0),.d (.int .i64 0),.d (.int .i64 0),.d .ff]
set_option maxHeartbeats 4000000 in
theorem r4parts_ok(t:Int):FnOk Tryz.prog 114 [.d (.int .u16 t)] (partsR (formOf t)):=by
 refine fnOk_of_run (TT:=TT) (IN:=lookI []) TT_ok INok_nil mixed 1000 Tryz.func114 rfl (enters Tryz.func114 (by kernel_rfl) rfl) rfl 16 (by kernel_rfl) ?_
 have fin1:t=2∨t=5∨t=12→formOf t=some (0,1,0):=fun h=>by unfold formOf;rw[if_pos h]
 conv=>whnf
 refine⟨fun h1=>?_,fun h1=>?_⟩
 ·rw[fin1 (.inl (by simpa using h1))]
  conv=>whnf
  try (refine brT h1 ?_;conv=>whnf)
  repeat'(first|exact ⟨⟩|exact rfl|exact⟨rfl,rfl,.inr rfl,fun _ _=>rfl⟩|exact⟨rfl,rfl,.inl rfl,fun i hi=>absurd hi (Nat.not_lt_zero _)⟩|apply And.intro)
 simp only [beq_eq_false_iff_ne,ne_eq] at h1
 conv=>whnf
 refine⟨fun h2=>?_,fun h2=>?_⟩
 ·rw[fin1 (.inr (.inl (by simpa using h2)))]
  conv=>whnf
  try (refine brT h2 ?_;conv=>whnf)
  repeat'(first|exact ⟨⟩|exact rfl|exact⟨rfl,rfl,.inr rfl,fun _ _=>rfl⟩|exact⟨rfl,rfl,.inl rfl,fun i hi=>absurd hi (Nat.not_lt_zero _)⟩|apply And.intro)
 simp only [beq_eq_false_iff_ne,ne_eq] at h2
 conv=>whnf
 refine⟨fun h3=>?_,fun h3=>?_⟩
 ·rw[fin1 (.inr (.inr (by simpa using h3)))]
  conv=>whnf
  try (refine brT h3 ?_;conv=>whnf)
  repeat'(first|exact ⟨⟩|exact rfl|exact⟨rfl,rfl,.inr rfl,fun _ _=>rfl⟩|exact⟨rfl,rfl,.inl rfl,fun i hi=>absurd hi (Nat.not_lt_zero _)⟩|apply And.intro)
 simp only [beq_eq_false_iff_ne,ne_eq] at h3
 conv=>whnf
 refine⟨fun h4=>?_,fun h4=>?_⟩
 ·have:formOf t=some (1,1,0):=by unfold formOf;simp at h4;simp [h4]
  rw[this]
  conv=>whnf
  repeat'(first|exact ⟨⟩|exact rfl|exact⟨rfl,rfl,.inr rfl,fun _ _=>rfl⟩|exact⟨rfl,rfl,.inl rfl,fun i hi=>absurd hi (Nat.not_lt_zero _)⟩|apply And.intro)
 simp only [beq_eq_false_iff_ne,ne_eq] at h4
 conv=>whnf
 refine⟨fun h5=>?_,fun h5=>?_⟩
 ·have:formOf t=some (3,1,0):=by unfold formOf;simp at h5;simp [h5]
  rw[this]
  conv=>whnf
  repeat'(first|exact ⟨⟩|exact rfl|exact⟨rfl,rfl,.inr rfl,fun _ _=>rfl⟩|exact⟨rfl,rfl,.inl rfl,fun i hi=>absurd hi (Nat.not_lt_zero _)⟩|apply And.intro)
 simp only [beq_eq_false_iff_ne,ne_eq] at h5
 conv=>whnf
 refine⟨fun h6=>?_,fun h6=>?_⟩
 ·have:formOf t=some (0,2,5):=by unfold formOf;simp at h6;simp [h6]
  rw[this]
  conv=>whnf
  repeat'(first|exact ⟨⟩|exact rfl|exact⟨rfl,rfl,.inr rfl,fun _ _=>rfl⟩|exact⟨rfl,rfl,.inl rfl,fun i hi=>absurd hi (Nat.not_lt_zero _)⟩|apply And.intro)
 simp only [beq_eq_false_iff_ne,ne_eq] at h6
 have:formOf t=none:=by unfold formOf;simp[h1,h2,h3,h4,h5,h6]
 rw[this]
 conv=>whnf
 repeat'(first|exact ⟨⟩|exact rfl|exact⟨rfl,rfl,.inr rfl,fun _ _=>rfl⟩|exact⟨rfl,rfl,.inl rfl,fun i hi=>absurd hi (Nat.not_lt_zero _)⟩|apply And.intro)
def firstR(s:List UInt8):SV:=if firstN s=0 then .tup [.any,.d .ff] else .tup [.d (.str (s.take (firstN s))),.d .tt]
set_option maxRecDepth 100000 in
set_option maxHeartbeats 4000000 in
theorem r4first_ok(s:List UInt8)(_hs:s.length≤2000000):FnOk Tryz.prog 160 [.d (.str s)] (firstR s):=by
 refine fnOk_of_run (TT:=TT) (IN:=lookI []) TT_ok INok_nil mixed 1000 Tryz.func160 rfl (enters Tryz.func160 (by kernel_rfl) rfl) rfl 22 (by kernel_rfl) ?_
 conv=>whnf
 refine .inv Nat (fun i=>1≤i∧i≤256∧∀ j,j<i→j≤s.length→¬ isName (s.take j)) (fun i=>[(4,.d (.int .i64 i))]) (fun _=>[]) (fun i=>256 - i) ⟨1,[],⟨Nat.le_refl _,by omega,fun j hj _ h=>?_⟩,?_⟩ ?_
 ·have:j=0:=by omega
  subst this
  have:=h.1
  simp at this
 ·conv=>whnf
  repeat'(first|exact ⟨⟩|exact rfl|exact fun _=>Iff.rfl|exact fun _ _=>rfl|exact renM_ent rfl _|apply And.intro)
 intro i hi
 obtain⟨h1,h2,h3⟩:=hi
 conv=>whnf
 have done_:(s.length<i∨255<i)→firstR s = .tup [.any,.d .ff]:=fun hc=>by
  unfold firstR
  rw[if_pos (firstN_none fun k hk hk2=>h3 k (by omega) hk)]
 refine⟨fun c1=>?_,fun c1=>?_⟩
 ·have c1:(i:Int)≤s.length:=of_decide_eq_true c1
  conv=>whnf
  refine⟨fun c2=>?_,fun c2=>?_⟩
  ·have c2:(i:Int)≤255:=of_decide_eq_true c2
   conv=>whnf
   refine⟨by omega,?_⟩
   have hsub:sub s 0 (i:Int)=s.take i:=by unfold sub;simp
   rw[hsub]
   conv=>whnf
   refine .one (.data _ (r1check_ok (s.take i)) rfl rfl ?_)
   by_cases hn:isName (s.take i)
   ·have e:firstR s = .tup [.d (.str (s.take i)),.d .tt]:=by
     unfold firstR
     rw[firstN_of (by omega) hn,if_neg (by omega)]
    rw[if_pos hn,e]
    conv=>whnf
    refine brT rfl ?_
    conv=>whnf
    refine⟨by omega,?_⟩
    rw[hsub]
    conv=>whnf
    repeat'(first|exact ⟨⟩|exact rfl|exact⟨rfl,rfl,.inr rfl,fun _ _=>rfl⟩|exact⟨rfl,rfl,.inl rfl,fun i hi=>absurd hi (Nat.not_lt_zero _)⟩|apply And.intro)
   ·rw[if_neg hn]
    conv=>whnf
    refine brF rfl ?_
    conv=>whnf
    have hw1:IntKind.i64.wrap ((i:Int)+1)=((i+1:Nat):Int):=by rw[w64_in _ (by omega)];omega
    refine⟨i+1,[],⟨by omega,by omega,fun j hj hjl=>?_⟩,by omega,?_⟩
    ·by_cases hji:j=i
     ·rw[hji];exact hn
     ·exact h3 j (by omega) hjl
    conv=>whnf
    rw[hw1]
    repeat'(first|exact ⟨⟩|exact rfl|exact fun _=>Iff.rfl|exact fun _ _=>rfl|exact renM_ent rfl _|apply And.intro)
  ·have c2:¬ (i:Int)≤255:=of_decide_eq_false c2
   rw[done_ (.inr (by omega))]
   conv=>whnf
   repeat'(first|exact ⟨⟩|exact rfl|exact⟨rfl,rfl,.inr rfl,fun _ _=>rfl⟩|exact⟨rfl,rfl,.inl rfl,fun i hi=>absurd hi (Nat.not_lt_zero _)⟩|apply And.intro)
 ·have c1:¬ (i:Int)≤s.length:=of_decide_eq_false c1
  rw[done_ (.inl (by omega))]
  conv=>whnf
  repeat'(first|exact ⟨⟩|exact rfl|exact⟨rfl,rfl,.inr rfl,fun _ _=>rfl⟩|exact⟨rfl,rfl,.inl rfl,fun i hi=>absurd hi (Nat.not_lt_zero _)⟩|apply And.intro)
def splitP:Option (List UInt8 × List (List UInt8) × List UInt8)→SV
 |none=>.tup [.any,.any,.any,.d .ff]
 |some (x,l,r)=>.tup [.d (.str x),.d (.sl (Nat.beq l.length 0) l.length 1 (strs l)),.d (.str r),.d .tt]
structure R4St where
 i:Nat
 l:List (List UInt8)
 r:List UInt8
set_option maxRecDepth 100000 in
set_option maxHeartbeats 4000000 in
theorem r4split_ok(t:Int)(p:Nat × Nat × Nat)(hp:formOf t=some p)(s:List UInt8)(hs:s.length≤2000000):FnOk Tryz.prog 115 [.d (.int .u16 t),.d (.str s)] (splitP (cutF p.1 p.2.1 p.2.2 s)):=by
 refine fnOk_of_run (TT:=TT) (IN:=lookI []) TT_ok INok_nil mixed 1000 Tryz.func115 rfl (enters Tryz.func115 (by kernel_rfl) rfl) rfl 58 (by kernel_rfl) ?_
 obtain⟨p1,p2,p3⟩:=formOf_le hp
 have hpt:=r4parts_ok t
 rw [hp] at hpt
 conv=>whnf
 refine .one (.data _ hpt rfl rfl ?_)
 conv=>whnf
 refine⟨fun h1=>?_,fun h1=>?_⟩
 ·have h1:(s.length:Int)<(2 * p.1:Nat):=of_decide_eq_true h1
  have e:cutF p.1 p.2.1 p.2.2 s=none:=by unfold cutF;rw[if_pos (by omega)]
  rw[e]
  conv=>whnf
  repeat'(first|exact ⟨⟩|exact rfl|exact⟨rfl,rfl,.inr rfl,fun _ _=>rfl⟩|exact⟨rfl,rfl,.inl rfl,fun i hi=>absurd hi (Nat.not_lt_zero _)⟩|apply And.intro)
 have h1:¬ (s.length:Int)<(2 * p.1:Nat):=of_decide_eq_false h1
 have hcut:cutF p.1 p.2.1 p.2.2 s=(namesF p.2.1 (s.drop (2 * p.1))).bind fun q=>if q.2.length=4 * p.2.2 then some (s.take (2 * p.1),q.1,q.2) else none:=by unfold cutF;rw[if_neg (by omega)]
 have hsub0:sub s ((2 * p.1:Nat):Int) (s.length:Int)=s.drop (2 * p.1):=by
  unfold sub
  rw[Int.toNat_natCast,Int.toNat_natCast,List.take_of_length_le (by rw[List.length_drop];omega)]
 conv=>whnf
 refine⟨by omega,?_⟩
 rw[hsub0]
 conv=>whnf
 refine .nilT 13 9 1 (fun _=>[]) _ _ rfl ?_
 refine .inv R4St (fun x=>NAt p.2.1 (s.drop (2 * p.1)) x.i x.l x.r) (fun x=>[(12,.d (.str x.r)),(13,.all 0),(14,.d (.int .i64 x.i))]) (fun x=>[(0,.row 9 1 x.l.length .iff (strs x.l))]) (fun x=>p.2.1 - x.i) ⟨⟨0,[],s.drop (2 * p.1)⟩,[0],NAt.zero _ _,?_⟩ ?_
 ·conv=>whnf
  repeat'(first|exact ⟨⟩|exact rfl|(intro i hi;exact absurd hi (Nat.not_lt_zero _))|exact fun _ _=>rfl|apply And.intro)
 intro x hN
 conv=>whnf
 generalize x.i=i at hN ⊢
 generalize x.l=l at hN ⊢
 generalize x.r=r at hN ⊢
 have hlen:=hN.len
 have hile:=hN.le
 have hsh:=hN.short
 rw [List.length_drop] at hsh
 refine⟨fun c1=>?_,fun c1=>?_⟩
 ·have c1:(i:Int)<p.2.1:=of_decide_eq_true c1
  obtain⟨s1,s2⟩:=hN.step (by omega)
  have hf:=r4first_ok r (by omega)
  have hfl:=firstN_le r
  conv=>whnf
  by_cases h0:firstN r=0
  ·have e:cutF p.1 p.2.1 p.2.2 s=none:=by rw[hcut,s1 h0];rfl
   have ef:firstR r = .tup [.any,.d .ff]:=by unfold firstR;rw[if_pos h0]
   rw [ef] at hf
   refine .one (.data _ hf rfl rfl ?_)
   rw[e]
   conv=>whnf
   repeat'(first|exact ⟨⟩|exact rfl|exact⟨rfl,rfl,.inr rfl,fun _ _=>rfl⟩|exact⟨rfl,rfl,.inl rfl,fun i hi=>absurd hi (Nat.not_lt_zero _)⟩|apply And.intro)
  ·have ef:firstR r = .tup [.d (.str (r.take (firstN r))),.d .tt]:=by unfold firstR;rw[if_neg h0]
   rw [ef] at hf
   have htl:(r.take (firstN r)).length=firstN r:=by rw[List.length_take];omega
   have hsub1:sub r ((firstN r:Nat):Int) (r.length:Int)=r.drop (firstN r):=by
    unfold sub
    rw[Int.toNat_natCast,Int.toNat_natCast,List.take_of_length_le (by rw[List.length_drop];omega)]
   refine .one (.data _ hf rfl rfl ?_)
   conv=>whnf
   refine⟨by omega,?_⟩
   conv=>whnf
   rw[htl]
   refine⟨by omega,?_⟩
   rw[hsub1]
   have hw1:IntKind.i64.wrap ((i:Int)+1)=((i+1:Nat):Int):=by rw[w64_in _ (by omega)];omega
   conv=>whnf
   refine⟨⟨i+1,l++[r.take (firstN r)],r.drop (firstN r)⟩,[2],s2 h0,by show p.2.1 - (i+1)<p.2.1 - i;omega,?_⟩
   conv=>whnf
   rw[hw1]
   repeat'(first|exact ⟨⟩|exact rfl|apply And.intro)
   ·simp
   ·exact strs_cat _ _ _ rfl
 ·have c1:¬ (i:Int)<p.2.1:=of_decide_eq_false c1
  have hi:i=p.2.1:=by omega
  subst hi
  have hl:=hN.last
  have hsub2:sub s 0 ((2 * p.1:Nat):Int)=s.take (2 * p.1):=by unfold sub;rw[Int.toNat_natCast];simp
  conv=>whnf
  refine⟨by omega,?_⟩
  rw[hsub2]
  conv=>whnf
  by_cases hr:r.length=4 * p.2.2
  ·have e:cutF p.1 p.2.1 p.2.2 s=some (s.take (2 * p.1),l,r):=by rw[hcut,hl];show(if r.length=4 * p.2.2 then _ else _)=_;rw[if_pos hr]
   rw[e]
   conv=>whnf
   refine⟨rfl,⟨rfl,rfl,.inr rfl,fun _ _=>rfl⟩,rfl,?_,True.intro⟩
   show((r.length:Int) == ((4 * p.2.2:Nat):Int))=true
   simp
   omega
  ·have e:cutF p.1 p.2.1 p.2.2 s=none:=by rw[hcut,hl];show(if r.length=4 * p.2.2 then _ else _)=_;rw[if_neg hr]
   rw[e]
   conv=>whnf
   refine⟨True.intro,True.intro,True.intro,?_,True.intro⟩
   show((r.length:Int) == ((4 * p.2.2:Nat):Int))=false
   simp
   omega
set_option maxRecDepth 100000 in
set_option maxHeartbeats 4000000 in
theorem r4texts_ok(s:List UInt8)(hs:s.length≤2000000):FnOk Tryz.prog 113 [.d (.str s)] (.tup [.any,.d (.bool (textsOk s))]):=by
 refine fnOk_of_run (TT:=TT) (IN:=lookI []) TT_ok INok_nil mixed 1000 Tryz.func113 rfl (enters Tryz.func113 (by kernel_rfl) rfl) rfl 30 (by kernel_rfl) ?_
 conv=>whnf
 refine .nilT 4 9 1 (fun _=>[]) _ _ rfl ?_
 conv=>whnf
 refine .inv (Nat × List (List UInt8)) (fun p=>TAt s p.1 p.2) (fun p=>[(0,.d (.str (s.drop p.1))),(4,.all 0)]) (fun p=>[(0,.row 9 1 p.2.length .iff (strs p.2))]) (fun p=>s.length - p.1) ⟨(0,[]),[0],TAt.zero s,?_⟩ ?_
 ·conv=>whnf
  repeat'(first|exact ⟨⟩|exact rfl|apply And.intro)
  intro i hi
  exact absurd hi (by simp)
 intro p hk
 have hk0:p.1≤s.length:=hk.1
 have hk2:p.2.length≤p.1:=hk.2.1
 have hby:=bt_lt s p.1
 have hlen:(s.drop p.1).length=s.length - p.1:=by simp
 conv=>whnf
 refine⟨fun hne=>?_,fun heq=>?_⟩
 ·have hlt:p.1<s.length:=by
   rcases Nat.lt_or_ge p.1 s.length with e|e
   ·exact e
   ·rw [List.drop_eq_nil_of_le e] at hne;simp at hne
  obtain⟨e1,e2⟩:=TAt.step hk hlt
  have hb0:byteAt (s.drop p.1) 0=(bt s p.1:Int):=by
   rw[show(0:Int)=((0:Nat):Int) from rfl,bt_eq]
   simp[bt]
  conv=>whnf
  refine⟨by omega,?_⟩
  have hsz:IntKind.i64.wrap (1+IntKind.i64.wrap (byteAt (s.drop p.1) 0))=((1+bt s p.1:Nat):Int):=by rw[hb0];simp(disch:=omega) only[w64_in];omega
  conv=>whnf
  rw[hsz]
  refine⟨fun hgt=>?_,fun hle=>?_⟩
  ·conv=>whnf
   refine⟨True.intro,?_,True.intro⟩
   have:textsOk s=false:=by unfold textsOk;rw [e1 (by simp at hgt;omega)]
   rw[this]
   exact rfl
  ·have hle':p.1+1+bt s p.1≤s.length:=by simp at hle;omega
   conv=>whnf
   refine⟨by omega,?_⟩
   conv=>whnf
   refine⟨by omega,?_⟩
   conv=>whnf
   refine⟨by omega,?_⟩
   conv=>whnf
   refine⟨(p.1+1+bt s p.1,p.2++[(s.drop (p.1+1)).take (bt s p.1)]),[2],e2 hle',by show s.length - (p.1+1+bt s p.1)<s.length - p.1;omega,?_⟩
   conv=>whnf
   repeat'(first|exact ⟨⟩|exact rfl|apply And.intro)
   ·refine congrArg SV.d (congrArg DV.str ?_)
    show sub (s.drop p.1) _ _=s.drop (p.1+1+bt s p.1)
    simp only[sub,Int.toNat_natCast,List.drop_drop]
    rw[List.take_of_length_le (by simp;omega)]
    congr 1
    omega
   ·simp
   ·refine strs_cat _ _ _ ?_
    show[DV.str _]=[DV.str _]
    congr 2
    simp only[sub,Int.toNat_natCast,List.drop_drop]
    rw[show(1:Int).toNat=1 from rfl]
    congr 1
    omega
 ·have hke:p.1=s.length:=by
   simp at heq
   omega
  conv=>whnf
  refine⟨True.intro,?_,True.intro⟩
  have:textsOk s=decide (0<p.2.length):=by unfold textsOk;rw[TAt.last hk hke]
  rw[this]
  refine congrArg DV.bool ?_
  simp
set_option maxRecDepth 100000 in
set_option maxHeartbeats 4000000 in
theorem r4check_ok(t:Int)(s:List UInt8)(hs:s.length≤2000000):FnOk Tryz.prog 54 [.d (.int .u16 t),.d (.str s)] (.d (.int .i64 (errno (rcheck t s)))):=by
 refine fnOk_of_run (TT:=TT) (IN:=lookI []) TT_ok INok_nil mixed 1000 Tryz.func54 rfl (enters Tryz.func54 (by kernel_rfl) rfl) rfl 49 (by kernel_rfl) ?_
 conv=>whnf
 refine⟨fun h1=>?_,fun h1=>?_⟩
 ·have h1:t=1:=by simpa using h1
  have hg:rgood t s=((s.length:Int) == ((4:Nat):Int)):=by unfold rgood;rw[if_pos h1,lenEq]
  conv=>whnf
  refine⟨fun k1=>?_,fun k1=>?_⟩
  ·have hgood:rgood t s=false:=by rw[hg];simpa using k1
   have e:rcheck t s=false:=by unfold rcheck;rw[hgood,Bool.and_false]
   rw[e]
   conv=>whnf
   exact rfl
  have hgood:rgood t s=true:=by rw[hg];simpa using k1
  conv=>whnf
  refine⟨fun k2=>?_,fun k2=>?_⟩
  ·have k2:(s.length:Int) > 4096:=of_decide_eq_true k2
   have e:rcheck t s=false:=by unfold rcheck;rw[decide_eq_false (by omega)];rfl
   rw[e]
   conv=>whnf
   exact rfl
  ·have k2:¬ (s.length:Int) > 4096:=of_decide_eq_false k2
   have e:rcheck t s=true:=by unfold rcheck;rw[decide_eq_true (by omega),hgood];rfl
   rw[e]
   conv=>whnf
   exact rfl
 have h1:¬ t=1:=by simpa using h1
 conv=>whnf
 refine⟨fun h2=>?_,fun h2=>?_⟩
 ·have h2:t=28:=by simpa using h2
  have hg:rgood t s=((s.length:Int) == ((16:Nat):Int)):=by unfold rgood;rw[if_neg h1,if_pos h2,lenEq]
  conv=>whnf
  refine⟨fun k1=>?_,fun k1=>?_⟩
  ·have hgood:rgood t s=false:=by rw[hg];simpa using k1
   have e:rcheck t s=false:=by unfold rcheck;rw[hgood,Bool.and_false]
   rw[e]
   conv=>whnf
   exact rfl
  have hgood:rgood t s=true:=by rw[hg];simpa using k1
  conv=>whnf
  refine⟨fun k2=>?_,fun k2=>?_⟩
  ·have k2:(s.length:Int) > 4096:=of_decide_eq_true k2
   have e:rcheck t s=false:=by unfold rcheck;rw[decide_eq_false (by omega)];rfl
   rw[e]
   conv=>whnf
   exact rfl
  ·have k2:¬ (s.length:Int) > 4096:=of_decide_eq_false k2
   have e:rcheck t s=true:=by unfold rcheck;rw[decide_eq_true (by omega),hgood];rfl
   rw[e]
   conv=>whnf
   exact rfl
 have h2:¬ t=28:=by simpa using h2
 conv=>whnf
 refine⟨fun h3=>?_,fun h3=>?_⟩
 ·have h3:t=16:=by simpa using h3
  have hg:rgood t s=textsOk s:=by unfold rgood;rw[if_neg h1,if_neg h2,if_pos h3]
  conv=>whnf
  refine .one (.data _ (r4texts_ok s hs) rfl rfl ?_)
  conv=>whnf
  refine⟨fun k1=>?_,fun k1=>?_⟩
  ·have hgood:rgood t s=false:=by rw[hg];simpa using k1
   have e:rcheck t s=false:=by unfold rcheck;rw[hgood,Bool.and_false]
   rw[e]
   conv=>whnf
   exact rfl
  have hgood:rgood t s=true:=by rw[hg];simpa using k1
  conv=>whnf
  refine⟨fun k2=>?_,fun k2=>?_⟩
  ·have k2:(s.length:Int) > 4096:=of_decide_eq_true k2
   have e:rcheck t s=false:=by unfold rcheck;rw[decide_eq_false (by omega)];rfl
   rw[e]
   conv=>whnf
   exact rfl
  ·have k2:¬ (s.length:Int) > 4096:=of_decide_eq_false k2
   have e:rcheck t s=true:=by unfold rcheck;rw[decide_eq_true (by omega),hgood];rfl
   rw[e]
   conv=>whnf
   exact rfl
 have h3:¬ t=16:=by simpa using h3
 conv=>whnf
 have hpt:=r4parts_ok t
 cases hf:formOf t with
 |none =>
  have hgood:rgood t s=true:=by unfold rgood;rw[if_neg h1,if_neg h2,if_neg h3,hf]
  rw [hf] at hpt
  refine .one (.data _ hpt rfl rfl ?_)
  conv=>whnf
  refine⟨fun k2=>?_,fun k2=>?_⟩
  ·have k2:(s.length:Int) > 4096:=of_decide_eq_true k2
   have e:rcheck t s=false:=by unfold rcheck;rw[decide_eq_false (by omega)];rfl
   rw[e]
   conv=>whnf
   exact rfl
  ·have k2:¬ (s.length:Int) > 4096:=of_decide_eq_false k2
   have e:rcheck t s=true:=by unfold rcheck;rw[decide_eq_true (by omega),hgood];rfl
   rw[e]
   conv=>whnf
   exact rfl
 |some p =>
  rw [hf] at hpt
  have hsp:=r4split_ok t p hf s hs
  refine .one (.data _ hpt rfl rfl ?_)
  conv=>whnf
  cases hc:cutF p.1 p.2.1 p.2.2 s with
  |none =>
   have hgood:rgood t s=false:=by unfold rgood;rw[if_neg h1,if_neg h2,if_neg h3,hf];show(cutF p.1 p.2.1 p.2.2 s).isSome=false;rw[hc];rfl
   have e:rcheck t s=false:=by unfold rcheck;rw[hgood,Bool.and_false]
   rw [hc] at hsp
   refine .one (.data _ hsp rfl rfl ?_)
   rw[e]
   conv=>whnf
   repeat(first|(refine brF rfl ?_;conv=>whnf)|(refine brT rfl ?_;conv=>whnf))
   try exact rfl
  |some q =>
   obtain⟨x,l,r⟩:=q
   have hgood:rgood t s=true:=by unfold rgood;rw[if_neg h1,if_neg h2,if_neg h3,hf];show(cutF p.1 p.2.1 p.2.2 s).isSome=true;rw[hc];rfl
   rw [hc] at hsp
   refine .one (.data _ hsp rfl rfl ?_)
   conv=>whnf
   refine⟨fun k2=>?_,fun k2=>?_⟩
   ·have k2:(s.length:Int) > 4096:=of_decide_eq_true k2
    have e:rcheck t s=false:=by unfold rcheck;rw[decide_eq_false (by omega)];rfl
    rw[e]
    conv=>whnf
    exact rfl
   ·have k2:¬ (s.length:Int) > 4096:=of_decide_eq_false k2
    have e:rcheck t s=true:=by unfold rcheck;rw[decide_eq_true (by omega),hgood];rfl
    rw[e]
    conv=>whnf
    exact rfl
end Go.Proofs.YtdfdlbnojmlpiaaGreatDoor
namespace Go.Proofs.YtdfdlbnojmlpiaaGreatDoor
open Go Go.Eng
theorem formOf_pos{t:Int}{p:Nat × Nat × Nat}(h:formOf t=some p):0<p.2.1:=by
 unfold formOf at h
 repeat'(split at h)
 all_goals first|(cases h;decide)|cases h
theorem formOf_typ{t:Int}{p:Nat × Nat × Nat}(h:formOf t=some p):t≠1∧t≠28∧t≠16:=by
 refine⟨?_,?_,?_⟩ <;> (rintro rfl;cases h)
def namesR:Option (List UInt8 × List (List UInt8) × List UInt8)→SV
 |none=>nilS
 |some (_,l,_)=>.d (.sl (Nat.beq l.length 0) l.length 1 (strs l))
def lookP(t:Int)(s:List UInt8):Option (List UInt8 × List (List UInt8) × List UInt8):=(lookF t s).map (·.2)
theorem lookP_some{t:Int}{s:List UInt8}{p:Nat × Nat × Nat}(hf:formOf t=some p)(hr:rcheck t s=true):∃ q,cutF p.1 p.2.1 p.2.2 s=some q∧lookP t s=some q:=by
 obtain⟨n1,n2,n3⟩:=formOf_typ hf
 unfold rcheck rgood at hr
 rw [if_neg n1,if_neg n2,if_neg n3,hf] at hr
 simp only [Bool.and_eq_true,decide_eq_true_eq] at hr
 obtain⟨q,hq⟩:=Option.isSome_iff_exists.1 hr.2
 refine⟨q,hq,?_⟩
 unfold lookP lookF
 rw[if_pos hr.1,hf]
 show Option.map _ ((cutF p.1 p.2.1 p.2.2 s).map _)=_
 rw[hq];rfl
theorem lookP_bad{t:Int}{s:List UInt8}{p:Nat × Nat × Nat}(hf:formOf t=some p)(hr:rcheck t s=false):lookP t s=none:=by
 obtain⟨n1,n2,n3⟩:=formOf_typ hf
 unfold rcheck rgood at hr
 rw [if_neg n1,if_neg n2,if_neg n3,hf] at hr
 unfold lookP lookF
 split
 ·rename_i h
  rw [decide_eq_true h,Bool.true_and] at hr
  have:cutF p.1 p.2.1 p.2.2 s=none:=by
   have hr:(cutF p.1 p.2.1 p.2.2 s).isSome=false:=hr
   cases e:cutF p.1 p.2.1 p.2.2 s
   ·rfl
   ·rw [e] at hr;cases hr
  rw[hf]
  show Option.map _ ((cutF p.1 p.2.1 p.2.2 s).map _)=_
  rw[this];rfl
 ·rfl
theorem lookP_form{t:Int}{s:List UInt8}(hf:formOf t=none):lookP t s=none:=by
 unfold lookP lookF
 rw[hf];split <;> rfl
set_option maxRecDepth 100000
set_option maxHeartbeats 4000000 in
theorem r4names_ok(t:Int)(s:List UInt8)(hs:s.length≤2000000):FnOk Tryz.prog 119 [.d (.int .u16 t),.d (.str s)] (namesR (lookP t s)):=by
 refine fnOk_of_run (TT:=TT) (IN:=lookI []) TT_ok INok_nil mixed 1000 Tryz.func119 rfl (enters Tryz.func119 (by kernel_rfl) rfl) rfl 35 (by kernel_rfl) ?_
 have hpt:=r4parts_ok t
 cases hf:formOf t with
 |none =>
  rw [hf] at hpt
  rw[lookP_form hf]
  conv=>whnf
  refine .one (.data _ hpt rfl rfl ?_)
  conv=>whnf
  repeat(first|(refine brT rfl ?_;conv=>whnf))
  try exact rfl
  try repeat'(first|exact ⟨⟩|exact rfl|exact⟨rfl,rfl,.inr rfl,fun _ _=>rfl⟩|exact⟨rfl,rfl,.inl rfl,fun i hi=>absurd hi (Nat.not_lt_zero _)⟩|apply And.intro)
 |some p =>
  rw [hf] at hpt
  conv=>whnf
  refine .one (.data _ hpt rfl rfl ?_)
  conv=>whnf
  refine .one (.data _ (r4check_ok t s hs) rfl rfl ?_)
  cases hr:rcheck t s with
  |false =>
   rw[lookP_bad hf hr]
   conv=>whnf
   repeat(first|(refine brT rfl ?_;conv=>whnf))
   try exact rfl
   try repeat'(first|exact ⟨⟩|exact rfl|exact⟨rfl,rfl,.inr rfl,fun _ _=>rfl⟩|exact⟨rfl,rfl,.inl rfl,fun i hi=>absurd hi (Nat.not_lt_zero _)⟩|apply And.intro)
  |true =>
   obtain⟨q,hq,hl⟩:=lookP_some hf hr
   rw[hl]
   conv=>whnf
   refine brF rfl ?_
   conv=>whnf
   have hsp:=r4split_ok t p hf s hs
   rw [hq] at hsp
   refine .one (.data _ hsp rfl rfl ?_)
   conv=>whnf
   exact⟨rfl,rfl,.inr rfl,fun _ _=>rfl⟩
theorem rfold_none{t:Int}{s:List UInt8}(h:lookP t s=none):rfold t s=s:=by
 unfold lookP at h
 unfold rfold
 cases e:lookF t s with
 |none=>rfl
 |some q=>rw [e] at h;cases h
theorem rfold_some{t:Int}{s x r:List UInt8}{l:List (List UInt8)}(h:lookP t s=some (x,l,r)):rfold t s=x++fold l.flatten++r:=by
 unfold lookP at h
 unfold rfold
 cases e:lookF t s with
 |none=>rw [e] at h;cases h
 |some q =>
  rw [e] at h
  obtain⟨q1,q2⟩:=q
  have h:q2=(x,l,r):=Option.some.inj h
  subst h
  show x++fold (Lib.join l [])++r=_
  rw[join_nil]
set_option maxHeartbeats 4000000 in
theorem r4fold_ok(t:Int)(s:List UInt8)(hs:s.length≤2000000):FnOk Tryz.prog 57 [.d (.int .u16 t),.d (.str s)] (.d (.str (rfold t s))):=by
 refine fnOk_of_run (TT:=TT) (IN:=lookI []) TT_ok INok_nil mixed 1000 Tryz.func57 rfl (enters Tryz.func57 (by kernel_rfl) rfl) rfl 39 (by kernel_rfl) ?_
 conv=>whnf
 refine .one (.data _ (r4names_ok t s hs) (by cases lookP t s <;> rfl) (by cases lookP t s <;> rfl) ?_)
 cases hl:lookP t s with
 |none =>
  rw[rfold_none hl]
  conv=>whnf
  refine brT rfl ?_
  conv=>whnf
  try exact rfl
 |some q =>
  obtain⟨x,l,r⟩:=q
  have hft:∃ p,formOf t=some p:=by
   cases e:formOf t with
   |none=>rw [lookP_form e] at hl;cases hl
   |some p=>exact⟨p,rfl⟩
  obtain⟨p,hf⟩:=hft
  have hr:rcheck t s=true:=by
   cases e:rcheck t s
   ·rw [lookP_bad hf e] at hl;cases hl
   ·rfl
  obtain⟨q,hq,hl2⟩:=lookP_some hf hr
  rw [hl] at hl2
  have hqe:=Option.some.inj hl2
  subst hqe
  have hcat:l.length=p.2.1∧x.length+(l.flatten.length+r.length)≤2000000:=by
   unfold cutF at hq
   split at hq
   ·cases hq
   ·rename_i h2
    cases e:namesF p.2.1 (s.drop (2 * p.1)) with
    |none=>rw [e] at hq;cases hq
    |some w =>
     rw [e] at hq
     simp only [Option.bind_some] at hq
     split at hq
     ·simp only [Option.some.injEq,Prod.mk.injEq] at hq
      obtain⟨rfl,rfl,rfl⟩:=hq
      obtain⟨e1,e2⟩:=namesF_len _ _ w.1 w.2 e
      refine⟨e1,?_⟩
      rw[e2]
      simp;omega
     ·cases hq
  have hpos:=formOf_pos hf
  have hle100:=(formOf_le hf).2.1
  have hfol:∀ z:List UInt8,(fold z).length=z.length:=fold_len
  rw[rfold_some hl]
  conv=>whnf
  refine brF (by cases l with|nil=>simp at hcat;omega|cons a l=>simp;omega) ?_
  conv=>whnf
  have hsp:=r4split_ok t p hf s hs
  rw [hq] at hsp
  refine .one (.data _ hsp rfl rfl ?_)
  conv=>whnf
  refine .inv Nat (fun i=>i≤l.length) (fun i=>[(29,iV i),(6,.d (.str (x++fold (l.take i).flatten)))]) (fun _=>[]) (fun i=>l.length - i) ⟨0,[],Nat.zero_le _,?_⟩ ?_
  ·conv=>whnf
   rw[show x++fold (l.take 0).flatten=x by simp[fold]]
   repeat'(first|exact ⟨⟩|exact rfl|exact fun _=>Iff.rfl|exact fun _ _=>rfl|exact renM_ent rfl _|apply And.intro)
  intro i hi
  conv=>whnf
  refine⟨fun c5=>?_,fun c5=>?_⟩
  ·have c5':i<l.length:=(by have h:(i:Int)<l.length:=of_decide_eq_true c5;omega)
   have hw1:IntKind.i64.wrap ((i:Int)+1)=((i+1:Nat):Int):=by rw[w64_in _ (by omega)];omega
   obtain⟨y,hy⟩:∃ y,l[i]?.getD []=y:=⟨_,rfl⟩
   have hly:l[i]=y:=by rw[←hy,List.getElem?_eq_getElem c5'];rfl
   have htk:(l.take (i+1)).flatten=(l.take i).flatten++y:=by
    rw[List.take_add_one,List.getElem?_eq_getElem c5',hly];simp
   have hle:(l.take i).flatten.length+y.length≤2000000:=by
    have h1:l.flatten=(l.take (i+1)).flatten++(l.drop (i+1)).flatten:=by rw[←List.flatten_append,List.take_append_drop]
    have h2:=congrArg List.length h1
    rw [htk] at h2
    simp only [List.length_append] at h2
    omega
   conv=>whnf
   refine⟨by omega,?_⟩
   conv=>whnf
   rw[Int.toNat_natCast,hy]
   refine .one (.data _ (r1fold_ok y (by omega)) rfl rfl ?_)
   conv=>whnf
   refine⟨by rw[List.length_append,hfol,hfol];omega,?_⟩
   conv=>whnf
   rw[hw1]
   refine⟨i+1,[],c5',by omega,?_⟩
   rw[htk,show x++fold ((l.take i).flatten++y)=(x++fold (l.take i).flatten)++fold y by unfold fold;rw[List.map_append,List.append_assoc]]
   conv=>whnf
   repeat'(first|exact ⟨⟩|exact rfl|exact fun _=>Iff.rfl|exact fun _ _=>rfl|exact renM_ent rfl _|apply And.intro)
  ·have hia:i=l.length:=(by have h:¬ (i:Int)<l.length:=of_decide_eq_false c5;omega)
   subst hia
   rw[List.take_length]
   conv=>whnf
   refine⟨by rw[List.length_append,hfol];omega,?_⟩
   conv=>whnf
   try exact rfl
end Go.Proofs.YtdfdlbnojmlpiaaGreatDoor
namespace Go.Proofs.YtdfdlbnojmlpiaaGreatDoor
open Go Go.Eng
structure Th where
 nm:List UInt8
 ty:Int
 ttl:Int
 ni:Bool
 ln:Nat
 dg:Nat→List DV
 rk:Int
 no:Bool
 nb:Bool
 til:Int
def Th.cells(x:Th):List SV:=[.d (.str x.nm),.d (.int .u16 x.ty),.d (.int .u32 x.ttl),.d (.sl x.ni x.ln 1 x.dg),.d (.int .u8 x.rk),.d (.bool x.no),.d (.bool x.nb),.d (.int .i64 x.til)]
def Th.V(x:Th):SV:=.agg x.cells
set_option maxRecDepth 100000
set_option maxHeartbeats 4000000 in
theorem lives_gen(a0 a1 a2 a3 a4 a5 a6:DV)(til now:Int):FnOk Tryz.prog 96 [.agg [.d a0,.d a1,.d a2,.d a3,.d a4,.d a5,.d a6,.d (.int .i64 til)],.d (.int .i64 now)] (.d (.bool (decide (now<til)))):=by
 refine fnOk_of_run (TT:=TT) (IN:=lookI []) TT_ok INok_nil mixed 1000 Tryz.func96 rfl (enters Tryz.func96 (by kernel_rfl) rfl) rfl 7 (by kernel_rfl) ?_
 conv=>whnf
set_option maxHeartbeats 4000000 in
theorem placeOf_ok(s:List UInt8)(t:Int)(hs:s.length<9223372036854775808):FnOk Tryz.prog 95 [.d (.str s),.d (.int .u16 t)] (.agg [.d (.str (fold s)),.d (.int .u16 t)]):=by
 refine fnOk_of_run (TT:=TT) (IN:=lookI []) TT_ok INok_nil mixed 1000 Tryz.func95 rfl (enters Tryz.func95 (by kernel_rfl) rfl) rfl 7 (by kernel_rfl) ?_
 conv=>whnf
 refine .one (.data _ (fold_ok s hs) rfl rfl ?_)
 conv=>whnf
 repeat'(first|exact ⟨⟩|exact rfl|apply And.intro)
set_option maxHeartbeats 4000000 in
theorem clone_ok(b:Bool)(n:Nat)(f:Nat→List DV)(hb:b=true→n=0)(hl:n≤1099511627776):FnOk Tryz.prog 102 [.d (.sl b n 1 f)] (.d (.sl b n 1 f)):=by
 refine fnOk_of_run (TT:=TT) (IN:=lookI []) TT_ok INok_nil mixed 1000 Tryz.func102 rfl (enters Tryz.func102 (by kernel_rfl) rfl) rfl 7 (by kernel_rfl) ?_
 conv=>whnf
 refine⟨fun h=>?_,fun h=>?_⟩
 ·have h0:=hb h
  conv=>whnf
  refine⟨h.symm,h0.symm,.inl rfl,fun i hi=>absurd hi (by omega)⟩
 ·conv=>whnf
  refine⟨by omega,?_⟩
  conv=>whnf
  exact⟨h.symm,by omega,.inr rfl,fun i _=>by simp[catF]⟩
set_option maxHeartbeats 4000000 in
theorem copied_gen(nm:List UInt8)(ty ttl:Int)(b:Bool)(n:Nat)(f:Nat→List DV)(rk:Int)(x y:DV)(til:Int)(hb:b=true→n=0)(hl:n≤1099511627776):FnOk Tryz.prog 49 [.agg [.d (.str nm),.d (.int .u16 ty),.d (.int .u32 ttl),.d (.sl b n 1 f),.d (.int .u8 rk),.d x,.d y,.d (.int .i64 til)]] (.agg [.d (.str nm),.d (.int .u16 ty),.d (.int .u32 ttl),.d (.sl b n 1 f),.d (.int .u8 rk),.d x,.d y,.d (.int .i64 til)]):=by
 refine fnOk_of_run (TT:=TT) (IN:=lookI []) TT_ok INok_nil mixed 1000 Tryz.func49 rfl (enters Tryz.func49 (by kernel_rfl) rfl) rfl 11 (by kernel_rfl) ?_
 conv=>whnf
 refine .one (.data _ (clone_ok b n f hb hl) rfl rfl ?_)
 conv=>whnf
 repeat'(first|exact ⟨⟩|exact rfl|exact DEq_refl _|exact Or.inr rfl|exact fun _ _=>rfl|apply And.intro)
end Go.Proofs.YtdfdlbnojmlpiaaGreatDoor
namespace Go.Proofs.YtdfdlbnojmlpiaaGreatDoor
open Go Go.Eng
structure CSt where
 room:Int
 r:Nat
 dom:Nat→Prop
 nm:Nat→List UInt8
 ty:Nat→Int
 ttl:Nat→Int
 ni:Nat→Bool
 ln:Nat→Nat
 dg:Nat→Nat→List DV
 rk:Nat→Int
 no:Nat→Bool
 nb:Nat→Bool
 til:Nat→Int
 an:Nat→List UInt8
 ak:Nat→Int
 bf:Nat→Nat
 bh:Nat→Nat
 m:List (List UInt8 × Int × Nat)
def ent(i:Nat)(e:List UInt8 × Int × Nat):List DV × List SV:=([.str e.1,.int .u16 e.2.1],[.ap i e.2.2 0])
def entL(i:Nat):List (List UInt8 × Int × Nat)→List (List DV × List SV)
 |[]=>[]
 |e :: l=>ent i e :: entL i l
def CSt.cols(c:CSt)(i:Nat):List Col:=[.str c.nm,.int .u16 c.ty,.int .u32 c.ttl,.sl 1 c.ni c.ln c.dg,.int .u8 c.rk,.bool c.no,.bool c.nb,.int .i64 c.til,.str c.an,.int .u16 c.ak,.np i c.bf,.np i c.bh]
def CSt.ks(c:CSt)(j:Nat):List KB:=[.cells 171 [.d (.int .i64 c.room),.np (j+1) c.r,.map (j+2)],.arena 106 c.dom (c.cols (j+1)),.map [EK.str,EK.int .u16] true false (entL (j+1) c.m)]
def CSt.th(c:CSt)(q:Nat):Th:=⟨c.nm q,c.ty q,c.ttl q,c.ni q,c.ln q,c.dg q,c.rk q,c.no q,c.nb q,c.til q⟩
structure CSt.Wf(c:CSt):Prop where
 h0:¬ c.dom 0
 hr:c.dom c.r
 hbf:∀ n,c.dom n→c.dom (c.bf n)
 hbh:∀ n,c.dom n→c.dom (c.bh n)
 hm:∀ e ∈ c.m,c.dom e.2.2∧c.an e.2.2=e.1∧c.ak e.2.2=e.2.1∧(c.ni e.2.2=true→c.ln e.2.2=0)∧c.ln e.2.2≤100000∧c.til e.2.2≤9223372036854775807
def fnd{α:Type}:List (List UInt8 × Int × α)→List UInt8→Int→Option α
 |[],_,_=>none
 |e :: l,a,k=>if a=e.1∧k=e.2.1 then some e.2.2 else fnd l a k
def put{α:Type}:List (List UInt8 × Int × α)→List UInt8→Int→α→List (List UInt8 × Int × α)
 |[],a,k,x=>[(a,k,x)]
 |e :: l,a,k,x=>if a=e.1∧k=e.2.1 then (a,k,x) :: l else e :: put l a k x
def del{α:Type}:List (List UInt8 × Int × α)→List UInt8→Int→List (List UInt8 × Int × α)
 |[],_,_=>[]
 |e :: l,a,k=>if a=e.1∧k=e.2.1 then l else e :: del l a k
theorem keyEq_ent(a:List UInt8)(k:Int)(e:List UInt8 × Int × Nat)(i:Nat):keyEq [.str a,.int .u16 k] (ent i e).1=decide (a=e.1∧k=e.2.1):=by
 rw[Bool.eq_iff_iff]
 simp[ent,keyEq,dEq,kEq]
theorem find_ent(i:Nat)(l:List (List UInt8 × Int × Nat))(a:List UInt8)(k:Int):findM (entL i l) [.str a,.int .u16 k]=(fnd l a k).map (fun q=>[.ap i q 0]):=by
 induction l with
 |nil=>rfl
 |cons e l ih =>
  show(if keyEq [.str a,.int .u16 k] (ent i e).1 then some (ent i e).2 else findM (entL i l) [.str a,.int .u16 k])=_
  rw[keyEq_ent,ih,fnd]
  by_cases h:a=e.1∧k=e.2.1
  ·simp[h,ent]
  ·simp[h]
theorem put_ent(i:Nat)(l:List (List UInt8 × Int × Nat))(a:List UInt8)(k:Int)(q:Nat):putM (entL i l) [.str a,.int .u16 k] [.ap i q 0]=entL i (put l a k q):=by
 induction l with
 |nil=>rfl
 |cons e l ih =>
  show(if keyEq [.str a,.int .u16 k] (ent i e).1 then _ else ent i e :: putM (entL i l) [.str a,.int .u16 k] [.ap i q 0])=_
  rw[keyEq_ent,ih,put]
  by_cases h:a=e.1∧k=e.2.1
  ·simp[h,ent,entL]
  ·simp[h,entL]
theorem del_ent(i:Nat)(l:List (List UInt8 × Int × Nat))(a:List UInt8)(k:Int):delM (entL i l) [.str a,.int .u16 k]=entL i (del l a k):=by
 induction l with
 |nil=>rfl
 |cons e l ih =>
  show(if keyEq [.str a,.int .u16 k] (ent i e).1 then entL i l else ent i e :: delM (entL i l) [.str a,.int .u16 k])=_
  rw[keyEq_ent,ih,del]
  by_cases h:a=e.1∧k=e.2.1
  ·simp[h]
  ·simp[h,entL]
theorem entL_length(i:Nat)(l:List (List UInt8 × Int × Nat)):(entL i l).length=l.length:=by
 induction l with
 |nil=>rfl
 |cons e l ih=>simp[entL,ih]
theorem del_mem{α:Type}{l:List (List UInt8 × Int × α)}{a:List UInt8}{k:Int}{e:List UInt8 × Int × α}(h:e ∈ del l a k):e ∈ l:=by
 induction l with
 |nil=>cases h
 |cons x l ih =>
  simp only [del] at h
  split at h
  ·exact List.mem_cons_of_mem _ h
  ·rcases List.mem_cons.1 h with rfl|h
   ·exact List.mem_cons_self ..
   ·exact List.mem_cons_of_mem _ (ih h)
theorem put_mem{α:Type}{l:List (List UInt8 × Int × α)}{a:List UInt8}{k:Int}{x:α}{e:List UInt8 × Int × α}(h:e ∈ put l a k x):e=(a,k,x)∨e ∈ l:=by
 induction l with
 |nil=>exact .inl (by simpa[put] using h)
 |cons y l ih =>
  simp only [put] at h
  split at h
  ·rcases List.mem_cons.1 h with rfl|h
   ·exact .inl rfl
   ·exact .inr (List.mem_cons_of_mem _ h)
  ·rcases List.mem_cons.1 h with rfl|h
   ·exact .inr (List.mem_cons_self ..)
   ·exact(ih h).imp id (List.mem_cons_of_mem _)
end Go.Proofs.YtdfdlbnojmlpiaaGreatDoor
namespace Go.Proofs.YtdfdlbnojmlpiaaGreatDoor
open Go Go.Eng
theorem upd_dom{D:Nat→Prop}{f:Nat→Nat}{i v j:Nat}(hv:D v)(hf:j≠i→D (f j)):D (upd f i v j):=by
 unfold upd
 split
 ·exact hv
 ·rename_i h;exact hf h
theorem dom_ne{D:Nat→Prop}{n:Nat}(h0:¬ D 0)(h:D n):n≠0:=fun e=>h0 (e ▸ h)
def CSt.ring(c:CSt)(f g:Nat→Nat):CSt:={ c with bf:=f,bh:=g }
theorem CSt.Wf.ring{c:CSt}(h:c.Wf){f g:Nat→Nat}(hf:∀ n,c.dom n→c.dom (f n))(hg:∀ n,c.dom n→c.dom (g n)):(c.ring f g).Wf:=⟨h.h0,h.hr,hf,hg,h.hm⟩
theorem renM_ent{ρ:List Nat}{i p:Nat}(h:posN i ρ 0=some p)(l:List (List UInt8 × Int × Nat)):renM ρ (entL i l)=entL p l:=by
 induction l with
 |nil=>rfl
 |cons e l ih=>simp[entL,renM,ent,renL,renV,h,ih]
def CSt.add(c:CSt)(p:Nat)(x:Th)(f g:Nat→Nat)(m:List (List UInt8 × Int × Nat)):CSt :=
 ⟨c.room,c.r,fun q=>q=p∨c.dom q,upd c.nm p x.nm,upd c.ty p x.ty,upd c.ttl p x.ttl,upd c.ni p x.ni,upd c.ln p x.ln,upd c.dg p x.dg,upd c.rk p x.rk,upd c.no p x.no,upd c.nb p x.nb,upd c.til p x.til,upd c.an p (fold x.nm),upd c.ak p x.ty,f,g,put m (fold x.nm) x.ty p⟩
theorem ins_dom{D:Nat→Prop}{f g:Nat→Nat}{p r:Nat}(hrp:r≠p)(hr:D r)(hf:∀ n,D n→D (f n))(hg:∀ n,D n→D (g n)) :
 (∀ m,(m=p∨D m)→(upd (upd (upd f p 0) p r) (upd (upd (upd g p 0) p (upd g p 0 r)) (upd (upd f p 0) p r p) p p) p m=p∨D (upd (upd (upd f p 0) p r) (upd (upd (upd g p 0) p (upd g p 0 r)) (upd (upd f p 0) p r p) p p) p m))) ∧
 (∀ m,(m=p∨D m)→(upd (upd (upd g p 0) p (upd g p 0 r)) (upd (upd f p 0) p r p) p m=p∨D (upd (upd (upd g p 0) p (upd g p 0 r)) (upd (upd f p 0) p r p) p m))):=by
 have e1:upd (upd f p 0) p r p=r:=upd_same _ _ _
 have e2:upd g p 0 r=g r:=upd_other _ _ hrp
 rw[e1,e2]
 have e3:upd (upd (upd g p 0) p (g r)) r p p=g r:=by rw[upd_other _ _ (Ne.symm hrp),upd_same]
 rw[e3]
 refine⟨fun m hm=>?_,fun m hm=>?_⟩ <;> simp only[upd] <;> (repeat' split) <;> first
  |exact .inl rfl
  |exact .inr hr
  |exact .inr (hg _ hr)
  |exact .inr (hf _ (hm.resolve_left (by assumption)))
  |exact .inr (hg _ (hm.resolve_left (by assumption)))
theorem CSt.Wf.add{c:CSt}(h:c.Wf){p:Nat}(hp0:p≠0)(hpd:¬ c.dom p)(x:Th){f g:Nat→Nat}{m:List (List UInt8 × Int × Nat)}(hx:(x.ni=true→x.ln=0)∧x.ln≤100000∧x.til≤9223372036854775807)
 (hf:∀ m,(m=p∨c.dom m)→(f m=p∨c.dom (f m))) (hg:∀ m,(m=p∨c.dom m)→(g m=p∨c.dom (g m))) (hm:∀ e ∈ m,e ∈ c.m):(c.add p x f g m).Wf:=by
 refine⟨?_,.inr h.hr,hf,hg,fun e he=>?_⟩
 ·rintro (e|e)
  ·exact hp0 e.symm
  ·exact h.h0 e
 ·show(e.2.2=p∨c.dom e.2.2)∧upd c.an p (fold x.nm) e.2.2=e.1∧upd c.ak p x.ty e.2.2=e.2.1∧(upd c.ni p x.ni e.2.2=true→upd c.ln p x.ln e.2.2=0)∧upd c.ln p x.ln e.2.2≤100000∧upd c.til p x.til e.2.2≤9223372036854775807
  rcases put_mem he with rfl|he
  ·simpa[upd_same] using hx
  ·obtain⟨h1,h2⟩:=h.hm e (hm e he)
   have hne:e.2.2≠p:=fun q=>hpd (q ▸ h1)
   simp only[upd_other _ _ hne]
   exact⟨.inr h1,h2⟩
set_option maxRecDepth 100000
end Go.Proofs.YtdfdlbnojmlpiaaGreatDoor
namespace Go.Proofs.YtdfdlbnojmlpiaaGreatDoor
open Go Go.Eng
def Chn(f g:Nat→Nat):List Nat→Prop
 |a :: b :: l=>g a=b∧f b=a∧Chn f g (b :: l)
 |_=>True
structure Rng(f g:Nat→Nat)(r:Nat)(L:List Nat):Prop where
 nd:(r :: L).Nodup
 ch:Chn f g (r :: (L++[r]))
theorem Chn.app{f g:Nat→Nat}:∀ {X:List Nat} {a:Nat} {Y:List Nat},Chn f g (X++a :: Y)↔Chn f g (X++[a])∧Chn f g (a :: Y)
 |[],a,Y=>by simp[Chn]
 |[x],a,Y=>by
  cases Y with
  |nil=>simp[Chn]
  |cons y Y=>simp only[List.cons_append,List.nil_append,Chn,and_true];constructor <;> (intro h;simp_all)
 |x :: y :: X,a,Y=>by
  have ih:=Chn.app (f:=f) (g:=g) (X:=y :: X) (a:=a) (Y:=Y)
  simp only [List.cons_append,Chn] at ih ⊢
  rw[ih]
  simp only[and_assoc]
theorem Chn.congr{f g f' g':Nat→Nat}:∀ {W:List Nat},Chn f g W→(∀ x ∈ W.dropLast,g' x=g x)→(∀ x ∈ W.tail,f' x=f x)→Chn f' g' W
 |[],_,_,_=>trivial
 |[_],_,_,_=>trivial
 |a :: b :: l,h,hg,hf=>by
  obtain⟨h1,h2,h3⟩:=h
  refine⟨?_,?_,Chn.congr h3 (fun x hx=>hg x ?_) (fun x hx=>hf x (List.mem_cons_of_mem _ hx))⟩
  ·rw[hg a (by simp)];exact h1
  ·rw[hf b (by simp)];exact h2
  ·simp only[List.dropLast_cons_cons];exact List.mem_cons_of_mem _ hx
theorem Rng.cut{f g:Nat→Nat}{r q:Nat}{A B:List Nat}(h:Rng f g r (A++q :: B)):Rng (upd f (upd g (f q) (g q) q) (f q)) (upd g (f q) (g q)) r (A++B):=by
 obtain⟨nd,ch⟩:=h
 obtain⟨X,a,hX⟩:∃ X a,r :: A=X++[a]:=⟨(r :: A).dropLast,(r :: A).getLast (by simp),(List.dropLast_concat_getLast _).symm⟩
 obtain⟨b,Y,hY⟩:∃ b Y,B++[r]=b :: Y:=by
  cases B with
  |nil=>exact⟨r,[],rfl⟩
  |cons b B=>exact⟨b,B++[r],rfl⟩
 have e:r :: (A++q :: B++[r])=X++a :: q :: b :: Y:=by
  rw[show r :: (A++q :: B++[r])=(r :: A)++q :: (B++[r]) by simp,hX,hY]
  simp
 rw [e] at ch
 obtain⟨c1,c2⟩:=Chn.app.1 ch
 obtain⟨c3,c4,c5,c6,c7⟩:=c2
 have nd':((r :: A)++q :: B).Nodup:=nd
 rw [List.nodup_append] at nd'
 obtain⟨n1,n2,n3⟩:=nd'
 rw [List.nodup_cons] at n2
 have haA:a ∈ r :: A:=by rw[hX];simp
 have haq:a≠q:=fun e=>n3 a haA q (by simp) e
 have hbB:b ∈ B++[r]:=by rw[hY];simp
 have hrA:r ∉ A:=(List.nodup_cons.1 n1).1
 have hbA:b ∉ A:=fun hm=>by
  rcases List.mem_append.1 hbB with h|h
  ·exact n3 b (List.mem_cons_of_mem _ hm) b (List.mem_cons_of_mem _ h) rfl
  ·simp at h;subst h;exact hrA hm
 have haX:a ∉ X:=by
  rw [hX,List.nodup_append] at n1
  exact fun hm=>n1.2.2 a hm a (by simp) rfl
 have haB:a ∉ B:=fun hm=>n3 a haA a (List.mem_cons_of_mem _ hm) rfl
 have hrB:r ∉ B:=fun hm=>n3 r (by simp) r (List.mem_cons_of_mem _ hm) rfl
 have hbY:b ∉ Y:=fun hm=>by
  have:(B++[r]).Nodup:=by
   rw[List.nodup_append]
   exact ⟨n2.2,by simp,fun x hx y hy e'=>by simp at hy;rw [hy] at e';exact hrB (e' ▸ hx)⟩
  rw [hY] at this
  exact(List.nodup_cons.1 this).1 hm
 have hqa:upd g (f q) (g q) q=b:=by rw[c4,c5,upd_other _ _ (Ne.symm haq)];exact c5
 rw[hqa,c4,c5]
 refine⟨?_,?_⟩
 ·have:(r :: (A++B)).Sublist (r :: (A++q :: B)):=by simp
  exact this.nodup nd
 ·have e2:r :: (A++B++[r])=X++a :: b :: Y:=by
   rw[show r :: (A++B++[r])=(r :: A)++(B++[r]) by simp,hX,hY]
   simp
  rw[e2]
  refine Chn.app.2 ⟨c1.congr (fun x hx=>?_) (fun x hx=>?_),upd_same _ _ _,upd_same _ _ _,c7.congr (fun x hx=>?_) (fun x hx=>?_)⟩
  ·rw [List.dropLast_concat] at hx
   exact upd_other _ _ (fun e=>haX (e ▸ hx))
  ·rw [←hX] at hx
   exact upd_other _ _ (fun e=>hbA (e ▸ hx))
  ·rw [←hY,List.dropLast_concat] at hx
   exact upd_other _ _ (fun e=>haB (e ▸ hx))
  ·exact upd_other _ _ (fun e=>hbY (e ▸ hx))
theorem Rng.ins{f g:Nat→Nat}{r p:Nat}{L:List Nat}(h:Rng f g r L)(hp:p ∉ r :: L) :
 Rng (upd (upd (upd f p 0) p r) (upd (upd (upd g p 0) p (upd g p 0 r)) (upd (upd f p 0) p r p) p p) p) (upd (upd (upd g p 0) p (upd g p 0 r)) (upd (upd f p 0) p r p) p) r (p :: L):=by
 obtain⟨nd,ch⟩:=h
 obtain⟨b,Y,hY⟩:∃ b Y,L++[r]=b :: Y:=by
  cases L with
  |nil=>exact⟨r,[],rfl⟩
  |cons b B=>exact⟨b,B++[r],rfl⟩
 rw [hY] at ch
 obtain⟨c1,c2,c3⟩:=ch
 have hpr:p≠r:=fun e=>hp (e ▸ List.mem_cons_self ..)
 have hpL:p ∉ L:=fun hm=>hp (List.mem_cons_of_mem _ hm)
 have hrL:=(List.nodup_cons.1 nd).1
 have hbB:b ∈ L++[r]:=by rw[hY];simp
 have hpb:p≠b:=fun e=>by
  subst e
  rcases List.mem_append.1 hbB with h|h
  ·exact hpL h
  ·simp at h;exact hpr h
 have hbY:b ∉ Y:=fun hm=>by
  have:(L++[r]).Nodup:=by
   rw[List.nodup_append]
   exact ⟨(List.nodup_cons.1 nd).2,by simp,fun x hx y hy e'=>by simp at hy;rw [hy] at e';exact hrL (e' ▸ hx)⟩
  rw [hY] at this
  exact(List.nodup_cons.1 this).1 hm
 have e1:upd (upd f p 0) p r p=r:=upd_same _ _ _
 have e2:upd g p 0 r=b:=by rw[upd_other _ _ (Ne.symm hpr)];exact c1
 rw[e1,e2]
 have e3:upd (upd (upd g p 0) p b) r p p=b:=by rw[upd_other _ _ hpr,upd_same]
 rw[e3]
 refine⟨?_,?_⟩
 ·rw[List.nodup_cons,List.nodup_cons]
  refine⟨fun hm=>?_,hpL,(List.nodup_cons.1 nd).2⟩
  rcases List.mem_cons.1 hm with h|h
  ·exact hpr h.symm
  ·exact hrL h
 ·show Chn _ _ (r :: p :: (L++[r]))
  rw[hY]
  refine⟨upd_same _ _ _,?_,?_,upd_same _ _ _,c3.congr (fun x hx=>?_) (fun x hx=>?_)⟩
  ·rw[upd_other _ _ hpb,upd_same]
  ·rw[upd_other _ _ hpr,upd_same]
  ·rw [←hY,List.dropLast_concat] at hx
   have h1:x≠r:=fun e=>hrL (e ▸ hx)
   have h2:x≠p:=fun e=>hpL (e ▸ hx)
   rw[upd_other _ _ h1,upd_other _ _ h2,upd_other _ _ h2]
  ·have hxm:x ∈ L++[r]:=by rw[hY];exact List.mem_cons_of_mem _ hx
   have h1:x≠b:=fun e=>hbY (e ▸ hx)
   have h2:x≠p:=fun e=>by
    subst e
    rcases List.mem_append.1 hxm with h|h
    ·exact hpL h
    ·simp at h;exact hpr h
   rw[upd_other _ _ h1,upd_other _ _ h2,upd_other _ _ h2]
theorem Rng.next{f g:Nat→Nat}{r:Nat}{L:List Nat}(h:Rng f g r L){k:Nat}(hk:k≤L.length):g ((r :: L).getD k 0)=(L++[r]).getD k 0:=by
 have hc:∀ (W:List Nat) (a:Nat),Chn f g (a :: W)→∀ k,k<W.length→g ((a :: W).getD k 0)=W.getD k 0:=by
  intro W
  induction W with
  |nil=>intro a _ k hk;simp at hk
  |cons b W ih =>
   intro a ha k hk
   cases k with
   |zero=>exact ha.1
   |succ k =>
    have:=ih b ha.2.2 k (by simpa using hk)
    simpa using this
 have:=hc (L++[r]) r h.ch k (by simp;omega)
 have e:(r :: (L++[r])).getD k 0=(r :: L).getD k 0:=by
  rw[show r :: (L++[r])=(r :: L)++[r] from rfl,List.getD,List.getD,List.getElem?_append_left (by simp;omega)]
 rw[←e]
 exact this
end Go.Proofs.YtdfdlbnojmlpiaaGreatDoor
namespace Go.Proofs.YtdfdlbnojmlpiaaGreatDoor
open Go Go.Eng
set_option maxRecDepth 100000
def Held.th(h:Held):Th:=⟨h.nm,h.ty,h.ttl,h.z,h.data.length,strs h.data,h.rank,h.no,h.name,h.til⟩
def plEq(h y:Held):Bool:=decide (fold y.nm=fold h.nm∧y.ty=h.ty)
structure CSt.Rep(c:CSt)(L:List Nat)(H:List Held):Prop where
 wf:c.Wf
 ring:Rng c.bf c.bh c.r L
 dom:∀ q ∈ L,c.dom q∧c.an q=fold (c.nm q)∧c.ak q=c.ty q
 th:L.map c.th=H.map Held.th
 map:∀ a k,fnd c.m a k=L.find? (fun q=>decide (c.an q=a∧c.ak q=k))
 len:c.m.length≤L.length
 dist:H.Pairwise (fun y y'=>plEq y y'=false)
 good:∀ h ∈ H,(h.z=true→h.data.length=0)∧h.data.length≤100000
theorem fnd_put{α:Type}(l:List (List UInt8 × Int × α))(a:List UInt8)(k:Int)(x:α)(a':List UInt8)(k':Int):fnd (put l a k x) a' k'=if a'=a∧k'=k then some x else fnd l a' k':=by
 induction l with
 |nil=>simp only[put,fnd]
 |cons e l ih =>
  simp only[put]
  split
  ·rename_i h
   show(if a'=a∧k'=k then some x else fnd l a' k')=if a'=a∧k'=k then some x else (if a'=e.1∧k'=e.2.1 then some e.2.2 else fnd l a' k')
   rw[←h.1,←h.2]
   split <;> rfl
  ·rename_i h
   simp only[fnd,ih]
   by_cases h1:a'=a∧k'=k
   ·rw[if_neg (by rw[h1.1,h1.2];exact h),if_pos h1,if_pos h1]
   ·rw[if_neg h1,if_neg h1]
theorem fnd_del{α:Type}(l:List (List UInt8 × Int × α))(a:List UInt8)(k:Int)(a':List UInt8)(k':Int)(hne:¬ (a'=a∧k'=k)):fnd (del l a k) a' k'=fnd l a' k':=by
 induction l with
 |nil=>rfl
 |cons e l ih =>
  simp only[del]
  split
  ·rename_i h
   simp only[fnd]
   rw[if_neg (by rw[←h.1,←h.2];exact hne)]
  ·simp only[fnd,ih]
theorem put_len{α:Type}(l:List (List UInt8 × Int × α))(a:List UInt8)(k:Int)(x:α):(put l a k x).length≤l.length+1:=by
 induction l with
 |nil=>simp[put]
 |cons e l ih=>simp only[put];split <;> simp <;> omega
theorem del_len{α:Type}(l:List (List UInt8 × Int × α))(a:List UInt8)(k:Int){x:α}(h:fnd l a k=some x):(del l a k).length+1=l.length:=by
 induction l with
 |nil=>cases h
 |cons e l ih =>
  simp only [fnd] at h
  simp only[del]
  split
  ·simp
  ·rename_i hn
   rw [if_neg hn] at h
   simp[ih h]
theorem CSt.Rep.add{c:CSt}{L M:List Nat}{H H1:List Held}(hr:c.Rep L H){p:Nat}(hp0:p≠0)(hpd:¬ c.dom p)(h:Held){m1:List (List UInt8 × Int × Nat)}{f1 g1:Nat→Nat}
 (hh:(h.z=true→h.data.length=0)∧h.data.length≤100000∧h.til≤9223372036854775807)
 (hM:∀ q ∈ M,q ∈ L) (hring:Rng f1 g1 c.r M) (hth:M.map c.th=H1.map Held.th) (hmap:∀ a k,¬ (a=fold h.nm∧k=h.ty)→fnd m1 a k=M.find? (fun q=>decide (c.an q=a∧c.ak q=k)))
 (hlen:m1.length≤M.length) (hm:∀ e ∈ m1,e ∈ c.m) (hd:H1.Pairwise (fun y y'=>plEq y y'=false)) (hno:∀ y ∈ H1,plEq h y=false) (hH1:∀ y ∈ H1,y ∈ H) {F G:Nat→Nat}
 (hF:F=upd (upd (upd f1 p 0) p c.r) (upd (upd (upd g1 p 0) p (upd g1 p 0 c.r)) (upd (upd f1 p 0) p c.r p) p p) p) (hG:G=upd (upd (upd g1 p 0) p (upd g1 p 0 c.r)) (upd (upd f1 p 0) p c.r p) p)
 (hf1:∀ n,c.dom n→c.dom (f1 n)) (hg1:∀ n,c.dom n→c.dom (g1 n)):(c.add p h.th F G m1).Rep (p :: M) (h :: H1):=by
 have hne:∀ q ∈ M,q≠p:=fun q hq e=>hpd (e ▸ (hr.dom q (hM q hq)).1)
 have hrp:c.r≠p:=fun e=>hpd (e ▸ hr.wf.hr)
 obtain⟨hF1,hG1⟩:=ins_dom hrp hr.wf.hr hf1 hg1
 refine⟨hr.wf.add hp0 hpd h.th hh (by rw[hF];exact hF1) (by rw[hG];exact hG1) hm,?_,fun q hq=>?_,?_,fun a k=>?_,?_,?_,fun y hy=>?_⟩
 ·show Rng F G c.r (p :: M)
  rw[hF,hG]
  refine hring.ins (fun hm'=>?_)
  rcases List.mem_cons.1 hm' with e|e
  ·exact hrp e.symm
  ·exact hne p e rfl
 ·rcases List.mem_cons.1 hq with rfl|hq
  ·refine⟨.inl rfl,?_,?_⟩
   ·show upd c.an q (fold h.nm) q=fold (upd c.nm q h.nm q)
    rw[upd_same,upd_same]
   ·show upd c.ak q h.ty q=upd c.ty q h.ty q
    rw[upd_same,upd_same]
  ·obtain⟨d1,d2,d3⟩:=hr.dom q (hM q hq)
   have hn:=hne q hq
   refine⟨.inr d1,?_,?_⟩
   ·show upd c.an p (fold h.nm) q=fold (upd c.nm p h.nm q)
    rw[upd_other _ _ hn,upd_other _ _ hn];exact d2
   ·show upd c.ak p h.ty q=upd c.ty p h.ty q
    rw[upd_other _ _ hn,upd_other _ _ hn];exact d3
 ·rw[List.map_cons,List.map_cons,←hth]
  congr 1
  ·simp[CSt.th,CSt.add,upd_same,Held.th]
  ·refine List.map_congr_left fun q hq=>?_
   have hn:=hne q hq
   simp[CSt.th,CSt.add,upd_other _ _ hn]
 ·show fnd (put m1 (fold h.nm) h.ty p) a k=(p :: M).find? (fun q=>decide (upd c.an p (fold h.nm) q=a∧upd c.ak p h.ty q=k))
  rw[fnd_put,List.find?_cons,upd_same,upd_same]
  by_cases e:a=fold h.nm∧k=h.ty
  ·rw[if_pos e,decide_eq_true ⟨e.1.symm,e.2.symm⟩]
  ·rw[if_neg e,decide_eq_false (fun e'=>e ⟨e'.1.symm,e'.2.symm⟩),hmap a k e]
   show _=M.find? _
   have:∀ (N:List Nat),(∀ q ∈ N,q≠p)→N.find? (fun q=>decide (c.an q=a∧c.ak q=k))=N.find? (fun q=>decide (upd c.an p (fold h.nm) q=a∧upd c.ak p h.ty q=k)):=by
    intro N
    induction N with
    |nil=>intro _;rfl
    |cons x N ih =>
     intro hN
     have hx:=hN x (List.mem_cons_self ..)
     rw[List.find?_cons,List.find?_cons,upd_other _ _ hx,upd_other _ _ hx,ih (fun q hq=>hN q (List.mem_cons_of_mem _ hq))]
   exact this M hne
 ·show(put m1 (fold h.nm) h.ty p).length≤(p :: M).length
  have:=put_len m1 (fold h.nm) h.ty p
  rw[List.length_cons]
  omega
 ·rw[List.pairwise_cons]
  exact⟨hno,hd⟩
 ·rcases List.mem_cons.1 hy with rfl|hy
  ·exact⟨hh.1,hh.2.1⟩
  ·exact hr.good y (hH1 y hy)
theorem CSt.Rep.none{c:CSt}{L:List Nat}{H:List Held}(hr:c.Rep L H){h:Held}(hf:fnd c.m (fold h.nm) h.ty=none):∀ y ∈ H,plEq h y=false:=fun y hy=>by
 rw [hr.map] at hf
 have:y.th ∈ L.map c.th:=by rw[hr.th];exact List.mem_map_of_mem hy
 obtain⟨q,hq,e⟩:=List.mem_map.1 this
 have h1:=List.find?_eq_none.1 hf q hq
 obtain⟨_,d2,d3⟩:=hr.dom q hq
 have e1:c.nm q=y.nm:=congrArg Th.nm e
 have e2:c.ty q=y.ty:=congrArg Th.ty e
 rw [d2,d3,e1,e2] at h1
 unfold plEq
 simpa using h1
theorem CSt.Rep.some{c:CSt}{L:List Nat}{H:List Held}(hr:c.Rep L H){h:Held}{q:Nat}(hf:fnd c.m (fold h.nm) h.ty=some q):∃ A B HA y HB,L=A++q :: B∧H=HA++y :: HB∧A.map c.th=HA.map Held.th∧c.th q=y.th∧B.map c.th=HB.map Held.th ∧
 c.an q=fold h.nm∧c.ak q=h.ty∧plEq h y=true∧(∀ x ∈ HA++HB,plEq h x=false):=by
 rw [hr.map] at hf
 obtain⟨h1,A,B,rfl,h2⟩:=List.find?_eq_some_iff_append.1 hf
 have ht:=hr.th
 rw [List.map_append,List.map_cons] at ht
 obtain⟨HA,T,rfl,t1,t2⟩:=List.append_eq_map_iff.1 ht
 obtain⟨y,HB,rfl,t3,t4⟩:=List.map_eq_cons_iff.1 t2
 have h1:c.an q=fold h.nm∧c.ak q=h.ty:=by simpa using h1
 obtain⟨_,d2,d3⟩:=hr.dom q (by simp)
 have e1:y.nm=c.nm q:=congrArg Th.nm t3
 have e2:y.ty=c.ty q:=congrArg Th.ty t3
 have hy:fold y.nm=fold h.nm∧y.ty=h.ty:=by rw[e1,e2,←d2,←d3];exact h1
 refine⟨A,B,HA,y,HB,rfl,rfl,t1.symm,t3.symm,t4.symm,h1.1,h1.2,?_,fun x hx=>?_⟩
 ·unfold plEq;exact decide_eq_true hy
 ·have hd:=hr.dist
  rw [List.pairwise_append] at hd
  obtain⟨_,p2,p3⟩:=hd
  rw [List.pairwise_cons] at p2
  rcases List.mem_append.1 hx with hx|hx
  ·have:=p3 x hx y (List.mem_cons_self ..)
   unfold plEq at this ⊢
   rw [decide_eq_false_iff_not] at this ⊢
   rw [hy.1,hy.2] at this
   exact fun e=>this ⟨e.1.symm,e.2.symm⟩
  ·have:=p2.1 x hx
   unfold plEq at this ⊢
   rw [decide_eq_false_iff_not] at this ⊢
   rw [hy.1,hy.2] at this
   exact this
theorem filter_all{α:Type}{p:α→Bool}:∀ {l:List α},(∀ x ∈ l,p x=true)→l.filter p=l:=fun h=>List.filter_eq_self.2 h
end Go.Proofs.YtdfdlbnojmlpiaaGreatDoor
namespace Go.Proofs.YtdfdlbnojmlpiaaGreatDoor
open Go Go.Eng
def refH(H:List Held)(h:Held)(ttl now:Int):Bool:=decide (ttl=0) || (decide (now<0) || (decide (now > 4611686018427387904) || H.any (fun y=>plEq h y && (decide (now<y.til) && decide (h.rank<y.rank)))))
def HoldS(c:CSt)(H:List Held)(h:Held)(ttl now:Int)(s:SV)(k:List KB):Prop :=
 (refH H h ttl now=true∧s = .d .ff∧k=c.ks 0)∨(refH H h ttl now=false∧s = .d .tt∧∃ (c':CSt) (L':List Nat),k=c'.ks 0∧c'.Rep L' (h :: H.filter (fun y=>!plEq h y))∧c'.room=c.room)
set_option maxRecDepth 100000
set_option maxHeartbeats 16000000 in
theorem hold2_ok(c:CSt)(L:List Nat)(H:List Held)(hr:c.Rep L H)(hroom:(H.length:Int)<c.room)(h:Held)(ttl now:Int)(hb:h.z=true→h.data.length=0)(hl:h.data.length≤100000)(hnm:h.nm.length<9223372036854775808)(htt:0≤ttl∧ttl≤4294967295)(htil:h.til=now+ttl) :
 COk Tryz.prog 45 [.ptr 0 0,h.fV,.d (.int .u32 ttl),.d (.int .i64 now)] (c.ks 0) (HoldS c H h ttl now):=by
 have hw:=hr.wf
 refine cOk_of_run (TT:=TT) (IN:=lookI [(94,Tryz.f94,1),(97,Tryz.f97,2),(98,Tryz.f98,2),(155,Tryz.f155,1)]) TT_ok (INok_cons (INok_cons (INok_cons (INok_cons INok_nil Tryz.func155 (by kernel_rfl) (by kernel_rfl)) Tryz.func98 (by kernel_rfl) (by kernel_rfl)) Tryz.func97 (by kernel_rfl) (by kernel_rfl)) Tryz.func94 (by kernel_rfl) (by kernel_rfl)) mixed 1000 Tryz.func45 rfl (enters Tryz.func45 (by kernel_rfl) rfl) 104 (by kernel_rfl) ?_
 have hr0:c.r≠0:=dom_ne hw.h0 hw.hr
 conv=>whnf
 refine brF (by simp[hr0]) ?_
 conv=>whnf
 refine⟨fun h1=>?_,fun h1=>?_⟩
 ·have h1':ttl=0:=by simpa using h1
  conv=>whnf
  refine⟨[0,1,2],.d .ff,c.ks 0,rfl,rfl,rfl,?_,.inl ⟨?_,rfl,rfl⟩⟩
  ·repeat'(first|exact ⟨⟩|exact rfl|exact fun _=>Iff.rfl|exact fun _ _=>rfl|exact renM_ent rfl _|apply And.intro)
  ·unfold refH;rw[decide_eq_true h1'];rfl
 have h1':ttl≠0:=by simpa using h1
 conv=>whnf
 refine⟨fun h2=>?_,fun h2=>?_⟩
 ·have h2':now<0:=by simpa using h2
  conv=>whnf
  refine⟨[0,1,2],.d .ff,c.ks 0,rfl,rfl,rfl,?_,.inl ⟨?_,rfl,rfl⟩⟩
  ·repeat'(first|exact ⟨⟩|exact rfl|exact fun _=>Iff.rfl|exact fun _ _=>rfl|exact renM_ent rfl _|apply And.intro)
  ·unfold refH;rw[decide_eq_true h2',Bool.true_or,Bool.or_true]
 have h2':¬ now<0:=by simpa using h2
 conv=>whnf
 refine⟨fun h3=>?_,fun h3=>?_⟩
 ·have h3':now > 4611686018427387904:=by simpa using h3
  conv=>whnf
  refine⟨[0,1,2],.d .ff,c.ks 0,rfl,rfl,rfl,?_,.inl ⟨?_,rfl,rfl⟩⟩
  ·repeat'(first|exact ⟨⟩|exact rfl|exact fun _=>Iff.rfl|exact fun _ _=>rfl|exact renM_ent rfl _|apply And.intro)
  ·unfold refH;rw[decide_eq_true h3',Bool.true_or,Bool.or_true,Bool.or_true]
 have h3':¬ now > 4611686018427387904:=by simpa using h3
 have href:refH H h ttl now=H.any (fun y=>plEq h y && (decide (now<y.til) && decide (h.rank<y.rank))):=by
  unfold refH
  rw[decide_eq_false h1',decide_eq_false h2',decide_eq_false h3',Bool.false_or,Bool.false_or,Bool.false_or]
 conv=>whnf
 have hwr:IntKind.i64.wrap (now+IntKind.i64.wrap ttl)=h.til:=by
  rw[w64_in ttl (by omega),w64_in _ (by omega),htil]
 have hok:(h.z=true→h.data.length=0)∧h.data.length≤100000∧h.til≤9223372036854775807:=⟨hb,hl,by omega⟩
 refine .one (.data _ (placeOf_ok _ _ hnm) rfl rfl ?_)
 conv=>whnf
 refine⟨_,(find_ent 1 c.m (fold h.nm) h.ty),?_⟩
 rcases hq:fnd c.m (fold h.nm) h.ty with _|q
 ·have hno:∀ y ∈ H,plEq h y=false:=hr.none (h:=h) hq
  have hacc:refH H h ttl now=false:=by
   rw[href,List.any_eq_false]
   intro y hy
   rw[hno y hy]
   simp
  have hfil:H.filter (fun y=>!plEq h y)=H:=filter_all fun y hy=>by rw[hno y hy];rfl
  conv=>whnf
  have hfull:¬ ((c.m.length:Nat):Int) ≥ c.room:=by
   have:=hr.len
   have e:=congrArg List.length hr.th
   rw [List.length_map,List.length_map] at e
   omega
  refine brF (by rw[entL_length];exact decide_eq_false hfull) ?_
  conv=>whnf
  have hf1:=hw.hbf
  have hg1:=hw.hbh
  rw[hwr]
  refine .data _ (copied_gen _ _ _ _ _ _ _ _ _ _ hb (by omega)) rfl rfl ?_
  conv=>whnf
  intro p hp0 hpd
  have hrp:c.r≠p:=fun e=>hpd (e ▸ hw.hr)
  conv=>whnf
  repeat(refine And.intro (by first|exact hr0|exact Or.inl rfl|exact Or.inr hw.hr|(refine dom_ne hw.h0 ?_;first|(simpa[upd,hrp,Ne.symm hrp] using hw.hr)|(simpa[upd,hrp,Ne.symm hrp] using hg1 _ hw.hr))|(refine Or.inr ?_;first|(simpa[upd,hrp,Ne.symm hrp] using hw.hr)|(simpa[upd,hrp,Ne.symm hrp] using hg1 _ hw.hr))) ?_;conv=>whnf)
  refine⟨_,put_ent 1 _ _ _ _,?_⟩
  conv=>whnf
  have hR:=hr.add hp0 hpd h (m1:=c.m) (f1:=c.bf) (g1:=c.bh) hok (fun q hq=>hq) hr.ring hr.th (fun a k _=>hr.map a k) hr.len (fun e he=>he) hr.dist hno (fun y hy=>hy) rfl rfl hf1 hg1
  refine⟨[0,1,2],.d .tt,(c.add p h.th _ _ c.m).ks 0,rfl,rfl,rfl,?_,.inr ⟨hacc,rfl,_,p :: L,rfl,by rw[hfil];exact hR,rfl⟩⟩
  repeat'(first|exact ⟨⟩|exact rfl|exact fun _=>Iff.rfl|exact fun _ _=>rfl|exact renM_ent rfl _|apply And.intro)
 ·obtain⟨A,B,HA,y,HB,rfl,rfl,t1,t2,t3,a1,a2,hpy,hno⟩:=hr.some (h:=h) hq
  have hqd:c.dom q:=(hr.dom q (by simp)).1
  have hq0:=dom_ne hw.h0 hqd
  have e1:c.til q=y.til:=congrArg Th.til t2
  have e2:c.rk q=y.rank:=congrArg Th.rk t2
  have hany:(HA++y :: HB).any (fun y=>plEq h y && (decide (now<y.til) && decide (h.rank<y.rank)))=(decide (now<y.til) && decide (h.rank<y.rank)):=by
   rw[List.any_append,List.any_cons,hpy,Bool.true_and]
   have n1:HA.any (fun y=>plEq h y && (decide (now<y.til) && decide (h.rank<y.rank)))=false:=List.any_eq_false.2 fun x hx=>by rw[hno x (List.mem_append.2 (.inl hx))];simp
   have n2:HB.any (fun y=>plEq h y && (decide (now<y.til) && decide (h.rank<y.rank)))=false:=List.any_eq_false.2 fun x hx=>by rw[hno x (List.mem_append.2 (.inr hx))];simp
   rw[n1,n2,Bool.false_or,Bool.or_false]
  have hfil:(HA++y :: HB).filter (fun y=>!plEq h y)=HA++HB:=by
   rw[List.filter_append,List.filter_cons,hpy]
   simp only[Bool.not_true,Bool.false_eq_true,if_false]
   rw[filter_all fun x hx=>by rw[hno x (List.mem_append.2 (.inl hx))];rfl,filter_all fun x hx=>by rw[hno x (List.mem_append.2 (.inr hx))];rfl]
  rw [hany] at href
  have hkey:c.an q=fold h.nm∧c.ak q=h.ty:=⟨a1,a2⟩
  have hm1:∀ e ∈ del c.m (c.an q) (c.ak q),e ∈ c.m:=fun e he=>del_mem he
  have hf1:∀ n,c.dom n→c.dom (upd c.bf (upd c.bh (c.bf q) (c.bh q) q) (c.bf q) n):=fun n hn=>upd_dom (hw.hbf _ hqd) (fun _=>hw.hbf _ hn)
  have hg1:∀ n,c.dom n→c.dom (upd c.bh (c.bf q) (c.bh q) n):=fun n hn=>upd_dom (hw.hbh _ hqd) (fun _=>hw.hbh _ hn)
  have hdist:(HA++HB).Pairwise (fun y y'=>plEq y y'=false):=by
   refine List.Pairwise.sublist ?_ hr.dist
   simp
  have hmap:∀ a k,¬ (a=fold h.nm∧k=h.ty)→fnd (del c.m (c.an q) (c.ak q)) a k=(A++B).find? (fun q=>decide (c.an q=a∧c.ak q=k)):=fun a k hne=>by
   rw[fnd_del _ _ _ _ _ (by rw[a1,a2];exact hne),hr.map a k,List.find?_append,List.find?_append,List.find?_cons,decide_eq_false (by rw[a1,a2];exact fun e=>hne ⟨e.1.symm,e.2.symm⟩)]
  have hlen:(del c.m (c.an q) (c.ak q)).length≤(A++B).length:=by
   have:=del_len c.m (c.an q) (c.ak q) (x:=q) (by rw[hkey.1,hkey.2];exact hq)
   have h2:=hr.len
   simp only [List.length_append,List.length_cons] at h2 ⊢
   omega
  conv=>whnf
  refine⟨hqd,?_⟩
  conv=>whnf
  refine .data _ (lives_gen _ _ _ _ _ _ _ _ _) rfl rfl ?_
  conv=>whnf
  refine⟨fun h4=>?_,fun h4=>?_⟩
  ·have h4':now<y.til:=by rw[←e1];exact of_decide_eq_true h4
   conv=>whnf
   refine⟨hqd,?_⟩
   conv=>whnf
   refine⟨fun h5=>?_,fun h5=>?_⟩
   ·have h5':h.rank<y.rank:=by rw[←e2];exact of_decide_eq_true h5
    conv=>whnf
    refine⟨[0,1,2],.d .ff,c.ks 0,rfl,rfl,rfl,?_,.inl ⟨by rw[href,decide_eq_true h4',decide_eq_true h5'];rfl,rfl,rfl⟩⟩
    repeat'(first|exact ⟨⟩|exact rfl|exact fun _=>Iff.rfl|exact fun _ _=>rfl|exact renM_ent rfl _|apply And.intro)
   ·have h5':¬ h.rank<y.rank:=by rw[←e2];exact of_decide_eq_false h5
    have hacc:refH (HA++y :: HB) h ttl now=false:=by rw[href,decide_eq_false h5',Bool.and_false]
    conv=>whnf
    repeat(refine And.intro (by first|exact hr0|exact hw.hr|exact hqd|exact hq0|(repeat'(first|assumption|exact hw.hr|apply hw.hbf|apply hw.hbh|(refine upd_dom ?_ (fun _=>?_))|exact dom_ne hw.h0 (by repeat'(first|assumption|exact hw.hr|apply hw.hbf|apply hw.hbh|(refine upd_dom ?_ (fun _=>?_))))))) ?_;conv=>whnf)
    refine⟨_,del_ent 1 c.m _ _,?_⟩
    conv=>whnf
    rw[hwr]
    refine .data _ (copied_gen _ _ _ _ _ _ _ _ _ _ hb (by omega)) rfl rfl ?_
    conv=>whnf
    have hring:=hr.ring.cut
    generalize upd c.bf (upd c.bh (c.bf q) (c.bh q) q) (c.bf q)=f1 at hf1 hring ⊢
    generalize upd c.bh (c.bf q) (c.bh q)=g1 at hg1 hring ⊢
    intro p hp0 hpd
    have hrp:c.r≠p:=fun e=>hpd (e ▸ hw.hr)
    conv=>whnf
    repeat(refine And.intro (by first|exact hr0|exact Or.inl rfl|exact Or.inr hw.hr|(refine dom_ne hw.h0 ?_;first|(simpa[upd,hrp,Ne.symm hrp] using hw.hr)|(simpa[upd,hrp,Ne.symm hrp] using hg1 _ hw.hr))|(refine Or.inr ?_;first|(simpa[upd,hrp,Ne.symm hrp] using hw.hr)|(simpa[upd,hrp,Ne.symm hrp] using hg1 _ hw.hr))) ?_;conv=>whnf)
    refine⟨_,put_ent 1 _ _ _ _,?_⟩
    conv=>whnf
    have hR:=hr.add hp0 hpd h (M:=A++B) (H1:=HA++HB) (m1:=del c.m (c.an q) (c.ak q)) hok (fun x hx=>by rcases List.mem_append.1 hx with hx|hx <;> simp[hx]) hring (by rw[List.map_append,List.map_append,t1,t3]) hmap hlen hm1 hdist hno (fun x hx=>by rcases List.mem_append.1 hx with hx|hx <;> simp[hx]) rfl rfl hf1 hg1
    refine⟨[0,1,2],.d .tt,(c.add p h.th _ _ (del c.m (c.an q) (c.ak q))).ks 0,rfl,rfl,rfl,?_,.inr ⟨hacc,rfl,_,p :: (A++B),rfl,by rw[hfil];exact hR,rfl⟩⟩
    repeat'(first|exact ⟨⟩|exact rfl|exact fun _=>Iff.rfl|exact fun _ _=>rfl|exact renM_ent rfl _|apply And.intro)
  ·have h4':¬ now<y.til:=by rw[←e1];exact of_decide_eq_false h4
   have hacc:refH (HA++y :: HB) h ttl now=false:=by rw[href,decide_eq_false h4',Bool.false_and]
   conv=>whnf
   repeat(refine And.intro (by first|exact hr0|exact hw.hr|exact hqd|exact hq0|(repeat'(first|assumption|exact hw.hr|apply hw.hbf|apply hw.hbh|(refine upd_dom ?_ (fun _=>?_))|exact dom_ne hw.h0 (by repeat'(first|assumption|exact hw.hr|apply hw.hbf|apply hw.hbh|(refine upd_dom ?_ (fun _=>?_))))))) ?_;conv=>whnf)
   refine⟨_,del_ent 1 c.m _ _,?_⟩
   conv=>whnf
   rw[hwr]
   refine .data _ (copied_gen _ _ _ _ _ _ _ _ _ _ hb (by omega)) rfl rfl ?_
   conv=>whnf
   have hring:=hr.ring.cut
   generalize upd c.bf (upd c.bh (c.bf q) (c.bh q) q) (c.bf q)=f1 at hf1 hring ⊢
   generalize upd c.bh (c.bf q) (c.bh q)=g1 at hg1 hring ⊢
   intro p hp0 hpd
   have hrp:c.r≠p:=fun e=>hpd (e ▸ hw.hr)
   conv=>whnf
   repeat(refine And.intro (by first|exact hr0|exact Or.inl rfl|exact Or.inr hw.hr|(refine dom_ne hw.h0 ?_;first|(simpa[upd,hrp,Ne.symm hrp] using hw.hr)|(simpa[upd,hrp,Ne.symm hrp] using hg1 _ hw.hr))|(refine Or.inr ?_;first|(simpa[upd,hrp,Ne.symm hrp] using hw.hr)|(simpa[upd,hrp,Ne.symm hrp] using hg1 _ hw.hr))) ?_;conv=>whnf)
   refine⟨_,put_ent 1 _ _ _ _,?_⟩
   conv=>whnf
   have hR:=hr.add hp0 hpd h (M:=A++B) (H1:=HA++HB) (m1:=del c.m (c.an q) (c.ak q)) hok (fun x hx=>by rcases List.mem_append.1 hx with hx|hx <;> simp[hx]) hring (by rw[List.map_append,List.map_append,t1,t3]) hmap hlen hm1 hdist hno (fun x hx=>by rcases List.mem_append.1 hx with hx|hx <;> simp[hx]) rfl rfl hf1 hg1
   refine⟨[0,1,2],.d .tt,(c.add p h.th _ _ (del c.m (c.an q) (c.ak q))).ks 0,rfl,rfl,rfl,?_,.inr ⟨hacc,rfl,_,p :: (A++B),rfl,by rw[hfil];exact hR,rfl⟩⟩
   repeat'(first|exact ⟨⟩|exact rfl|exact fun _=>Iff.rfl|exact fun _ _=>rfl|exact renM_ent rfl _|apply And.intro)
end Go.Proofs.YtdfdlbnojmlpiaaGreatDoor
namespace Go.Proofs.YtdfdlbnojmlpiaaGreatDoor
open Go Go.Eng
set_option maxRecDepth 100000
theorem mapM_ent2(σ:Nat→Nat)(l:List (List UInt8 × Int × Nat))(h:σ 1=1):mapM σ (entL 1 l)=entL 1 l:=by
 induction l with
 |nil=>rfl
 |cons e l ih=>simp[entL,mapM,ent,mapL,mapV,h,ih]
theorem mapB_ks2(c:CSt)(N:Nat):mapB (sig [0,1,2] N) (c.ks 0)=c.ks 0:=by
 show[_,_,KB.map [EK.str,EK.int IntKind.u16] true false (mapM (sig [0,1,2] N) (entL 1 c.m))]=_
 rw[mapM_ent2 _ _ rfl]
 rfl
theorem cks2{P:Program}{f:FuncId}{al:List SV}{c:CSt}{R:SV→List KB→Prop}(h:COk P f al (c.ks 0) R)(rest:List KB)(ha:∀ N,mapL (sig [0,1,2] N) al=al)(hR:∀ s k,R s k→(∃ c':CSt,k=c'.ks 0)∧∀ N,mapV (sig [0,1,2] N) s=s) :
 COk P f al (c.ks 0++rest) (fun s k=>∃ c':CSt,k=c'.ks 0++rest∧R s (c'.ks 0)):=by
 refine h.frame [0,1,2] ?_ (ha _) ?_ (fun s0 k0 h0=>?_)
 ·rw[lenB_eq]
  show okN (rest.length+3) [0,1,2]=true
  have:∀ n i,i≤2→Nat.ble (i+1) (n+3)=true:=fun n i hi=>Nat.ble_eq_true_of_le (by omega)
  simp only[okN,memN,this _ 0 (by omega),this _ 1 (by omega),this _ 2 (by omega)]
 ·rw[mapB_ks2];rfl
 ·obtain⟨⟨c',rfl⟩,hs⟩:=hR s0 k0 h0
  rw[hs,mapB_ks2]
  refine⟨c',?_,h0⟩
  unfold putBs
  rw[appB_eq,dropB_eq]
  show _++[]=_
  rw[List.append_nil]
  rfl
def AccS(c:CSt)(H:List Held)(h:Held)(acc:Bool)(s:SV)(k:List KB):Prop :=
 (acc=false∧s = .d .ff∧k=c.ks 0)∨(acc=true∧s = .d .tt∧∃ (c':CSt) (L':List Nat),k=c'.ks 0∧c'.Rep L' (h :: H.filter (fun y=>!plEq h y))∧c'.room=c.room)
theorem acc_of{c:CSt}{H:List Held}{h:Held}{ttl now:Int}{s:SV}{k:List KB}(hs:HoldS c H h ttl now s k):AccS c H h (!refH H h ttl now) s k:=by
 rcases hs with⟨h1,h2,h3⟩|⟨h1,h2,h3⟩
 ·exact .inl ⟨by rw[h1];rfl,h2,h3⟩
 ·exact .inr ⟨by rw[h1];rfl,h2,h3⟩
theorem acc_ks{c:CSt}{H:List Held}{h:Held}{acc:Bool}(s:SV)(k:List KB)(h:AccS c H h acc s k):(∃ c':CSt,k=c'.ks 0)∧∀ N,mapV (sig [0,1,2] N) s=s:=by
 rcases h with⟨_,rfl,rfl⟩|⟨_,rfl,c',_,rfl,_⟩
 ·exact⟨⟨c,rfl⟩,fun _=>rfl⟩
 ·exact⟨⟨c',rfl⟩,fun _=>rfl⟩
def okPut(nm:List UInt8)(ty ttl:Int)(l:List (List UInt8))(k:Int):Bool:=scheck nm ty ttl l && (ty != 0 && decide (1≤k∧k≤4))
def mn(a b:Int):Int:=if b<a then b else a
set_option maxHeartbeats 8000000 in
theorem put2_ok(c:CSt)(L:List Nat)(H:List Held)(hr:c.Rep L H)(hroom:(H.length:Int)<c.room)(nm:List UInt8)(ty ttl:Int)(b:Bool)(l:List (List UInt8))(k now:Int)(hb:b=true→l.length=0)(httl:0≤ttl) :
 COk Tryz.prog 43 [.ptr 0 0,setV nm ty ttl b l,.d (.int .u8 k),.d (.int .i64 now)] (c.ks 0) (AccS c H ⟨nm,ty,ttl,b,l,k,false,false,now+mn ttl 604800⟩ (okPut nm ty ttl l k && !refH H ⟨nm,ty,ttl,b,l,k,false,false,now+mn ttl 604800⟩ (mn ttl 604800) now)):=by
 refine cOk_of_run (TT:=TT) (IN:=lookI []) TT_ok INok_nil mixed 1000 Tryz.func43 rfl (enters Tryz.func43 (by kernel_rfl) rfl) 30 (by kernel_rfl) ?_
 conv=>whnf
 refine .one (.data _ (scheck_ok nm ty ttl b l) rfl rfl ?_)
 conv=>whnf
 have hbad:okPut nm ty ttl l k=false→AccS c H ⟨nm,ty,ttl,b,l,k,false,false,now+mn ttl 604800⟩ (okPut nm ty ttl l k && !refH H ⟨nm,ty,ttl,b,l,k,false,false,now+mn ttl 604800⟩ (mn ttl 604800) now) (.d .ff) (c.ks 0):=fun h=>.inl ⟨by rw[h];rfl,rfl,rfl⟩
 refine⟨fun h1=>?_,fun h1=>?_⟩
 ·have hk:okPut nm ty ttl l k=false:=by
   cases hs:scheck nm ty ttl l
   ·simp[okPut,hs]
   ·rw [hs] at h1;cases h1
  conv=>whnf
  refine⟨[0,1,2],.d .ff,c.ks 0,rfl,rfl,rfl,?_,hbad hk⟩
  repeat'(first|exact ⟨⟩|exact rfl|exact fun _=>Iff.rfl|exact fun _ _=>rfl|exact renM_ent rfl _|apply And.intro)
 have hs:scheck nm ty ttl l=true:=by
  cases hs:scheck nm ty ttl l
  ·rw [hs] at h1;cases h1
  ·rfl
 conv=>whnf
 refine⟨fun h2=>?_,fun h2=>?_⟩
 ·have hk:okPut nm ty ttl l k=false:=by
   have:ty=0:=by simpa using h2
   simp[okPut,this]
  conv=>whnf
  refine⟨[0,1,2],.d .ff,c.ks 0,rfl,rfl,rfl,?_,hbad hk⟩
  repeat'(first|exact ⟨⟩|exact rfl|exact fun _=>Iff.rfl|exact fun _ _=>rfl|exact renM_ent rfl _|apply And.intro)
 conv=>whnf
 refine⟨fun h3=>?_,fun h3=>?_⟩
 ·have hk:okPut nm ty ttl l k=false:=by
   have:k<1:=by simpa using h3
   have:¬ 1≤k:=by omega
   simp[okPut,this]
  conv=>whnf
  refine⟨[0,1,2],.d .ff,c.ks 0,rfl,rfl,rfl,?_,hbad hk⟩
  repeat'(first|exact ⟨⟩|exact rfl|exact fun _=>Iff.rfl|exact fun _ _=>rfl|exact renM_ent rfl _|apply And.intro)
 conv=>whnf
 refine⟨fun h4=>?_,fun h4=>?_⟩
 ·have hk:okPut nm ty ttl l k=false:=by
   have:k > 4:=by simpa using h4
   have:¬ k≤4:=by omega
   simp[okPut,this]
  conv=>whnf
  refine⟨[0,1,2],.d .ff,c.ks 0,rfl,rfl,rfl,?_,hbad hk⟩
  repeat'(first|exact ⟨⟩|exact rfl|exact fun _=>Iff.rfl|exact fun _ _=>rfl|exact renM_ent rfl _|apply And.intro)
 have hk:okPut nm ty ttl l k=true:=by
  have a2:¬ ty=0:=by simpa using h2
  have a3:¬ k<1:=by simpa using h3
  have a4:¬ k > 4:=by simpa using h4
  simp[okPut,hs,a2]
  omega
 have hsc:=hs
 simp only [scheck,Bool.and_eq_true,decide_eq_true_eq] at hsc
 have hnm:nm.length<9223372036854775808:=by
  have:=hsc.1.1.1.2.1
  omega
 conv=>whnf
 refine .rel _ (cks2 (((hold2_ok c L H hr hroom ⟨nm,ty,ttl,b,l,k,false,false,now+mn ttl 604800⟩ (mn ttl 604800) now hb (by show l.length≤100000;omega) hnm (by unfold mn;split <;> omega) rfl).imp fun _ _=>acc_of).convA (args':=[.ptr 0 0,.agg [.d (.str nm),.d (.int .u16 ty),.d (.int .u32 ttl),.d (.sl b l.length 1 (strs l)),.d (.int .u8 k),.d .ff,.d .ff],.d (.int .u32 (mn ttl 604800)),.d (.int .i64 now)]) ⟨.refl _,.aggL ⟨.refl _,.refl _,.refl _,.refl _,.refl _,.d .fb,.d .fb,True.intro⟩,.refl _,.refl _,True.intro⟩) _ (fun _=>rfl) acc_ks) (fun r ks' hR=>?_)
 obtain⟨c',rfl,hR⟩:=hR
 conv=>whnf
 refine⟨[0,1,2],r,c'.ks 0,rfl,rfl,?_,?_,?_⟩
 ·rcases hR with⟨_,rfl,_⟩|⟨_,rfl,_⟩ <;> exact rfl
 ·repeat'(first|exact ⟨⟩|exact rfl|exact fun _=>Iff.rfl|exact fun _ _=>rfl|exact renM_ent rfl _|apply And.intro)
 ·rw[hk,Bool.true_and];exact hR
def okNone(nm:List UInt8)(ty:Int)(all:Bool):Bool:=decide (isName nm) && (all || ty != 0)
def noneH(nm:List UInt8)(ty ttl:Int)(all:Bool)(now:Int):Held:=⟨nm,if all then 0 else ty,ttl,true,[],4,true,all,now+mn ttl 10800⟩
set_option maxHeartbeats 8000000 in
theorem none2_ok(c:CSt)(L:List Nat)(H:List Held)(hr:c.Rep L H)(hroom:(H.length:Int)<c.room)(nm:List UInt8)(ty:Int)(all:Bool)(ttl now:Int)(httl:0≤ttl) :
 COk Tryz.prog 10 [.ptr 0 0,.d (.str nm),.d (.int .u16 ty),.d (.bool all),.d (.int .u32 ttl),.d (.int .i64 now)] (c.ks 0) (AccS c H (noneH nm ty ttl all now) (okNone nm ty all && !refH H (noneH nm ty ttl all now) (mn ttl 10800) now)):=by
 refine cOk_of_run (TT:=TT) (IN:=lookI []) TT_ok INok_nil mixed 1000 Tryz.func10 rfl (enters Tryz.func10 (by kernel_rfl) rfl) 32 (by kernel_rfl) ?_
 conv=>whnf
 refine .one (.data _ (check_ok nm) rfl rfl ?_)
 have hbad:okNone nm ty all=false→AccS c H (noneH nm ty ttl all now) (okNone nm ty all && !refH H (noneH nm ty ttl all now) (mn ttl 10800) now) (.d .ff) (c.ks 0):=fun h=>.inl ⟨by rw[h];rfl,rfl,rfl⟩
 by_cases hn:isName nm
 ·rw[if_pos hn]
  have hnm:nm.length<9223372036854775808:=by have:=hn.2.1;omega
  conv=>whnf
  refine brF rfl ?_
  conv=>whnf
  cases all
  ·refine⟨fun h2=>?_,fun h2=>?_⟩
   ·have hk:okNone nm ty false=false:=by
     have:ty=0:=by simpa using h2
     simp[okNone,this]
    conv=>whnf
    refine brT rfl ?_
    conv=>whnf
    refine⟨[0,1,2],.d .ff,c.ks 0,rfl,rfl,rfl,?_,hbad hk⟩
    repeat'(first|exact ⟨⟩|exact rfl|exact fun _=>Iff.rfl|exact fun _ _=>rfl|exact renM_ent rfl _|apply And.intro)
   ·have hk:okNone nm ty false=true:=by
     have:¬ ty=0:=by simpa using h2
     simp[okNone,this,hn]
    conv=>whnf
    refine brF rfl ?_
    conv=>whnf
    refine .rel _ (cks2 (((hold2_ok c L H hr hroom (noneH nm ty ttl false now) (mn ttl 10800) now (fun _=>rfl) (Nat.zero_le _) hnm (by unfold mn;split <;> omega) rfl).imp fun _ _=>acc_of).convA (args':=[.ptr 0 0,.agg [.d (.str nm),.d (.int .u16 ty),.d (.int .u32 ttl),nilS,.d (.int .u8 4),.d .tt,.d (.bool false)],.d (.int .u32 (mn ttl 10800)),.d (.int .i64 now)]) ⟨.refl _,.aggL ⟨.refl _,.refl _,.refl _,.none _ _ _ _ _,.refl _,.d .tb,.refl _,True.intro⟩,.refl _,.refl _,True.intro⟩) _ (fun _=>rfl) acc_ks) (fun r ks' hR=>?_)
    obtain⟨c',rfl,hR⟩:=hR
    conv=>whnf
    refine⟨[0,1,2],r,c'.ks 0,rfl,rfl,?_,?_,?_⟩
    ·rcases hR with⟨_,rfl,_⟩|⟨_,rfl,_⟩ <;> exact rfl
    ·repeat'(first|exact ⟨⟩|exact rfl|exact fun _=>Iff.rfl|exact fun _ _=>rfl|exact renM_ent rfl _|apply And.intro)
    ·rw[hk,Bool.true_and];exact hR
  ·refine⟨fun h2=>?_,fun h2=>?_⟩
   ·have hk:okNone nm ty true=true:=by simp[okNone,hn]
    conv=>whnf
    refine brF rfl ?_
    conv=>whnf
    refine brT rfl ?_
    conv=>whnf
    refine .rel _ (cks2 (((hold2_ok c L H hr hroom (noneH nm ty ttl true now) (mn ttl 10800) now (fun _=>rfl) (Nat.zero_le _) hnm (by unfold mn;split <;> omega) rfl).imp fun _ _=>acc_of).convA (args':=[.ptr 0 0,.agg [.d (.str nm),.d (.int .u16 0),.d (.int .u32 ttl),nilS,.d (.int .u8 4),.d .tt,.d (.bool true)],.d (.int .u32 (mn ttl 10800)),.d (.int .i64 now)]) ⟨.refl _,.aggL ⟨.refl _,.refl _,.refl _,.none _ _ _ _ _,.refl _,.d .tb,.refl _,True.intro⟩,.refl _,.refl _,True.intro⟩) _ (fun _=>rfl) acc_ks) (fun r ks' hR=>?_)
    obtain⟨c',rfl,hR⟩:=hR
    conv=>whnf
    refine⟨[0,1,2],r,c'.ks 0,rfl,rfl,?_,?_,?_⟩
    ·rcases hR with⟨_,rfl,_⟩|⟨_,rfl,_⟩ <;> exact rfl
    ·repeat'(first|exact ⟨⟩|exact rfl|exact fun _=>Iff.rfl|exact fun _ _=>rfl|exact renM_ent rfl _|apply And.intro)
    ·rw[hk,Bool.true_and];exact hR
   ·have hk:okNone nm ty true=true:=by simp[okNone,hn]
    conv=>whnf
    refine brT rfl ?_
    conv=>whnf
    refine .rel _ (cks2 (((hold2_ok c L H hr hroom (noneH nm ty ttl true now) (mn ttl 10800) now (fun _=>rfl) (Nat.zero_le _) hnm (by unfold mn;split <;> omega) rfl).imp fun _ _=>acc_of).convA (args':=[.ptr 0 0,.agg [.d (.str nm),.d (.int .u16 0),.d (.int .u32 ttl),nilS,.d (.int .u8 4),.d .tt,.d (.bool true)],.d (.int .u32 (mn ttl 10800)),.d (.int .i64 now)]) ⟨.refl _,.aggL ⟨.refl _,.refl _,.refl _,.none _ _ _ _ _,.refl _,.d .tb,.refl _,True.intro⟩,.refl _,.refl _,True.intro⟩) _ (fun _=>rfl) acc_ks) (fun r ks' hR=>?_)
    obtain⟨c',rfl,hR⟩:=hR
    conv=>whnf
    refine⟨[0,1,2],r,c'.ks 0,rfl,rfl,?_,?_,?_⟩
    ·rcases hR with⟨_,rfl,_⟩|⟨_,rfl,_⟩ <;> exact rfl
    ·repeat'(first|exact ⟨⟩|exact rfl|exact fun _=>Iff.rfl|exact fun _ _=>rfl|exact renM_ent rfl _|apply And.intro)
    ·rw[hk,Bool.true_and];exact hR
 ·rw[if_neg hn]
  have hk:okNone nm ty all=false:=by simp[okNone,hn]
  conv=>whnf
  refine brT rfl ?_
  conv=>whnf
  refine⟨[0,1,2],.d .ff,c.ks 0,rfl,rfl,rfl,?_,hbad hk⟩
  repeat'(first|exact ⟨⟩|exact rfl|exact fun _=>Iff.rfl|exact fun _ _=>rfl|exact renM_ent rfl _|apply And.intro)
end Go.Proofs.YtdfdlbnojmlpiaaGreatDoor
namespace Go.Proofs.YtdfdlbnojmlpiaaGreatDoor
open Go Go.Eng
def c00:CSt:=⟨0,0,fun _=>False,fun _=>[],fun _=>0,fun _=>0,fun _=>true,fun _=>0,fun _ _=>[],fun _=>0,fun _=>false,fun _=>false,fun _=>0,fun _=>[],fun _=>0,fun _=>0,fun _=>0,[]⟩
set_option maxRecDepth 100000
set_option maxHeartbeats 8000000 in
theorem new2_ok:COk Tryz.prog 40 [.d (.int .i64 64)] [] (fun s k=>s = .tup [.ptr 0 0,.d (.int .i64 0)]∧∃ c:CSt,k=c.ks 0∧c.Rep [] []∧c.room=64):=by
 refine cOk_of_run_arena (TT:=TT) (IN:=lookI [(89,Tryz.f89,1)]) TT_ok (INok_cons INok_nil Tryz.func89 (by kernel_rfl) (by kernel_rfl)) mixed 1000 Tryz.func40 rfl (enters Tryz.func40 (by kernel_rfl) rfl) 106 (c00.cols 0) 11 (by kernel_rfl) ?_
 conv=>whnf
 repeat(first|(refine brF rfl ?_;conv=>whnf)|(refine brT rfl ?_;conv=>whnf))
 intro p hp0 _
 conv=>whnf
 refine⟨.inl rfl,?_⟩
 conv=>whnf
 refine⟨.inl rfl,?_⟩
 conv=>whnf
 let c:CSt:=⟨64,p,fun q=>q=p∨False,upd c00.nm p [],upd c00.ty p 0,upd c00.ttl p 0,upd c00.ni p true,upd c00.ln p 0,upd c00.dg p (fun _=>[]),upd c00.rk p 0,upd c00.no p false,upd c00.nb p false,upd c00.til p 0,upd c00.an p [],upd c00.ak p 0,upd (upd c00.bf p 0) p p,upd (upd c00.bh p 0) p p,[]⟩
 have hw:c.Wf:=by
  refine⟨fun e=>e.elim (fun e=>hp0 e.symm) id,.inl rfl,fun n hn=>?_,fun n hn=>?_,fun e he=>by cases he⟩
  ·have:n=p:=hn.resolve_right id
   exact .inl (by show upd _ p p n=p;rw[this,upd_same])
  ·have:n=p:=hn.resolve_right id
   exact .inl (by show upd _ p p n=p;rw[this,upd_same])
 have hR:c.Rep [] []:=⟨hw,⟨by simp,by
  show upd (upd c00.bh p 0) p p p=p∧upd (upd c00.bf p 0) p p p=p∧True
  exact⟨upd_same _ _ _,upd_same _ _ _,trivial⟩⟩,(fun q hq=>by cases hq),rfl,(fun _ _=>rfl),Nat.le_refl _,List.Pairwise.nil,(fun h hh=>by cases hh)⟩
 refine⟨[3,0,2],.tup [.ptr 0 0,.d (.int .i64 0)],c.ks 0,rfl,rfl,rfl,?_,rfl,c,rfl,hR,rfl⟩
 repeat'(first|exact ⟨⟩|exact rfl|exact fun _=>Iff.rfl|exact fun _ _=>rfl|exact renM_ent rfl _|apply And.intro)
theorem held_at{H:List Held}{i:Nat}{y:Held}(h:H[i]? = some y)(j:Nat)(hj:j<i+1):catF i (fun j=>(H.getD j default).enc) (chunk y.enc 8) j=(H.getD j default).enc:=by
 unfold catF
 split
 ·rfl
 ·have:j=i:=by omega
  subst this
  rw[Nat.sub_self,List.getD,h]
  rfl
set_option maxHeartbeats 8000000 in
theorem all2_ok(c:CSt)(L:List Nat)(H:List Held)(hr:c.Rep L H)(hl:H.length≤4096):COk Tryz.prog 12 [.ptr 0 0] (c.ks 0) (fun s k=>s = .all 3∧k=c.ks 0++[.row 77 8 H.length .iff (fun i=>(H.getD i default).enc)]):=by
 refine cOk_of_run (TT:=TT) (IN:=lookI [(48,Tryz.f48,1),(101,Tryz.f101,2),(94,Tryz.f94,1)]) TT_ok (INok_cons (INok_cons (INok_cons INok_nil Tryz.func94 (by kernel_rfl) (by kernel_rfl)) Tryz.func101 (by kernel_rfl) (by kernel_rfl)) Tryz.func48 (by kernel_rfl) (by kernel_rfl)) mixed 1000 Tryz.func12 rfl (enters Tryz.func12 (by kernel_rfl) rfl) 23 (by kernel_rfl) ?_
 have hw:=hr.wf
 have hr0:c.r≠0:=dom_ne hw.h0 hw.hr
 conv=>whnf
 refine brF (by simp[hr0]) ?_
 conv=>whnf
 repeat(refine And.intro (by first|exact hr0|exact hw.hr|exact hqd|exact hq0|(repeat'(first|assumption|exact hw.hr|apply hw.hbf|apply hw.hbh|(refine upd_dom ?_ (fun _=>?_))|exact dom_ne hw.h0 (by repeat'(first|assumption|exact hw.hr|apply hw.hbf|apply hw.hbh|(refine upd_dom ?_ (fun _=>?_))))))) ?_;conv=>whnf)
 have hLH:L.length=H.length:=by have e:=congrArg List.length hr.th;rwa [List.length_map,List.length_map] at e
 have hrL:c.r ∉ L:=(List.nodup_cons.1 hr.ring.nd).1
 have h0:c.bh c.r=(L++[c.r]).getD 0 0:=hr.ring.next (Nat.zero_le _)
 rw[h0]
 refine .nilC 3 0 77 8 (fun i=>(([]:List Held).getD i default).enc) _ _ _ _ rfl rfl ?_
 refine .inv Nat (fun i=>i≤L.length) (fun i=>[(3,.np 1 ((L++[c.r]).getD i 0))]) (fun i=>[(3,.cells 29 [.all 6]),(6,.row 77 8 i .iff (fun j=>(H.getD j default).enc))]) (fun i=>L.length - i) ⟨0,[0,1,2,3,4,5,6],Nat.zero_le _,?_⟩ ?_
 ·conv=>whnf
  repeat'(first|exact ⟨⟩|exact rfl|exact(fun _ _ _ _ h=>⟨packed_stable _,h⟩)|exact fun _=>Iff.rfl|exact fun _ _=>rfl|apply And.intro)
  all_goals first|exact renM_ent rfl _|exact fun i hi=>absurd hi (Nat.not_lt_zero _)
 intro i hi
 obtain⟨n,hn⟩:∃ n,(L++[c.r]).getD i 0=n:=⟨_,rfl⟩
 rw[hn]
 have hdn:c.dom n:=by
  rcases Nat.lt_or_ge i L.length with h|h
  ·have:L[i]? = some n:=by rw[←hn,List.getD,List.getElem?_append_left h,List.getElem?_eq_getElem h];rfl
   exact(hr.dom n (List.mem_of_getElem? this)).1
  ·have e:i=L.length:=by omega
   rw[←hn,e,List.getD,List.getElem?_append_right (Nat.le_refl _),Nat.sub_self]
   exact hw.hr
 conv=>whnf
 repeat(refine And.intro (by first|exact hr0|exact hw.hr|exact⟨fun _=>hdn,fun _=>hw.hr⟩) ?_;conv=>whnf)
 by_cases hi1:i<L.length
 case neg =>
  have hi2:i=L.length:=by omega
  have hnr:n=c.r:=by rw[←hn,hi2,List.getD,List.getElem?_append_right (Nat.le_refl _),Nat.sub_self];rfl
  refine brF (by rw[hnr];simp) ?_
  conv=>whnf
  rw[hi2,hLH]
  refine⟨[0,1,2,6],.all 3,c.ks 0++[.row 77 8 H.length .iff (fun i=>(H.getD i default).enc)],rfl,rfl,rfl,?_,rfl,rfl⟩
  repeat'(first|exact ⟨⟩|exact rfl|exact(fun _ _ _ _ h=>⟨packed_stable _,h⟩)|exact fun _=>Iff.rfl|exact fun _ _=>rfl|apply And.intro)
  all_goals exact renM_ent rfl _
 have hnL:L[i]? = some n:=by
  rw[←hn,List.getD,List.getElem?_append_left hi1,List.getElem?_eq_getElem hi1];rfl
 have hnm:n ∈ L:=List.mem_of_getElem? hnL
 have hnr:n≠c.r:=fun e=>hrL (e ▸ hnm)
 have hnd:c.dom n:=(hr.dom n hnm).1
 have hn0:n≠0:=dom_ne hw.h0 hnd
 obtain⟨y,hy⟩:∃ y,H.getD i default=y:=⟨_,rfl⟩
 have hyi:H[i]? = some y:=by rw[←hy,List.getD,List.getElem?_eq_getElem (by omega)];rfl
 have hym:y ∈ H:=List.mem_of_getElem? hyi
 have hty:c.th n=y.th:=by
  have e:=congrArg (fun l=>l[i]?) hr.th
  simp only [List.getElem?_map,hnL,hyi,Option.map_some,Option.some.injEq] at e
  exact e
 have t1:c.nm n=y.nm:=congrArg Th.nm hty
 have t2:c.ty n=y.ty:=congrArg Th.ty hty
 have t3:c.ttl n=y.ttl:=congrArg Th.ttl hty
 have t4:c.ni n=y.z:=congrArg Th.ni hty
 have t5:c.ln n=y.data.length:=congrArg Th.ln hty
 have t6:c.dg n=strs y.data:=congrArg Th.dg hty
 have t7:c.rk n=y.rank:=congrArg Th.rk hty
 have t8:c.no n=y.no:=congrArg Th.no hty
 have t9:c.nb n=y.name:=congrArg Th.nb hty
 have t10:c.til n=y.til:=congrArg Th.til hty
 have hnext:c.bh n=(L++[c.r]).getD (i+1) 0:=by
  have:=hr.ring.next (k:=i+1) (by omega)
  rw[←this]
  show c.bh n=c.bh ((c.r :: L).getD (i+1) 0)
  rw[List.getD,List.getElem?_cons_succ,hnL]
  rfl
 refine brT (by simp[hnr]) ?_
 conv=>whnf
 repeat(refine And.intro (by first|exact hn0|exact hnd|exact hr0|exact hw.hr) ?_;conv=>whnf)
 refine .data _ (copied_gen _ _ _ _ _ _ _ _ _ _ (by rw[t4,t5];exact(hr.good y hym).1) (by have:=(hr.good y hym).2;omega)) rfl rfl ?_
 conv=>whnf
 repeat(refine And.intro (by first|exact hn0|exact hnd|exact hr0|exact hw.hr) ?_;conv=>whnf)
 refine⟨by omega,?_⟩
 conv=>whnf
 refine⟨i+1,[0,1,2,3,4,5,8],hi1,by omega,?_⟩
 rw[←hnext]
 conv=>whnf
 repeat'(first|exact ⟨⟩|exact rfl|exact(fun _ _ _ _ h=>⟨packed_stable _,h⟩)|exact fun _=>Iff.rfl|exact fun _ _=>rfl|apply And.intro)
 all_goals first
  |exact renM_ent rfl _
  |(
   intro j hj
   rw[t1,t2,t3,t4,t5,t6,t7,t8,t9,t10]
   exact held_at hyi j hj)
  |trace_state
end Go.Proofs.YtdfdlbnojmlpiaaGreatDoor
namespace Go.Proofs.YtdfdlbnojmlpiaaGreatDoor
open Go Go.Eng
set_option maxRecDepth 100000
def lastF(t:Int)(l:List (List UInt8)):Nat→List UInt8
 |0=>[]
 |j+1=>rfold t (l[j]?.getD [])
theorem ge_bl(a b:List UInt8):(Op.bytesLess b a || b == a) = !(Op.bytesLess a b):=by
 cases h1:Op.bytesLess a b
 ·cases h2:Op.bytesLess b a
  ·have:=bl_tri b a h2 h1
   simp[this]
  ·rfl
 ·have h2:=bl_asym a b h1
  rw[h2]
  have:b≠a:=fun e=>by rw [e,bl_irr] at h1;cases h1
  simpa using this
set_option maxHeartbeats 16000000 in
theorem r13chk_ok(nm:List UInt8)(ty ttl:Int)(z:Bool)(l:List (List UInt8))(hl:∀ d ∈ l,d.length≤2000000):FnOk Tryz.prog 90 [setV nm ty ttl z l] (.d (.int .i64 (errno (scheck nm ty ttl l)))):=by
 refine fnOk_of_run (TT:=TT) (IN:=lookI []) TT_ok INok_nil mixed 1000 Tryz.func90 rfl (enters Tryz.func90 (by kernel_rfl) rfl) rfl 59 (by kernel_rfl) ?_
 have hs:scheck nm ty ttl l=(decide (isName nm) && decide (ttl≤2147483647) && decide (0<l.length∧l.length≤64) && rising ty false [] l):=rfl
 conv=>whnf
 refine .one (.data _ (r1check_ok nm) rfl rfl ?_)
 by_cases h1:isName nm
 case neg =>
  rw[hs,decide_eq_false h1,if_neg h1]
  conv=>whnf
  repeat(first|(refine brF rfl ?_;conv=>whnf)|(refine brT rfl ?_;conv=>whnf))
  repeat'(first|exact ⟨⟩|exact rfl|exact fun _=>Iff.rfl|exact fun _ _=>rfl|exact renM_ent rfl _|apply And.intro)
 rw [decide_eq_true h1,Bool.true_and] at hs
 rw[if_pos h1]
 conv=>whnf
 repeat(first|(refine brF rfl ?_;conv=>whnf)|(refine brT rfl ?_;conv=>whnf))
 by_cases h2:ttl≤2147483647
 case neg =>
  rw[hs,decide_eq_false h2]
  refine brT (decide_eq_true (by omega)) ?_
  conv=>whnf
  repeat(first|(refine brF rfl ?_;conv=>whnf)|(refine brT rfl ?_;conv=>whnf))
  repeat'(first|exact ⟨⟩|exact rfl|exact fun _=>Iff.rfl|exact fun _ _=>rfl|exact renM_ent rfl _|apply And.intro)
 rw [decide_eq_true h2,Bool.true_and] at hs
 refine brF (decide_eq_false (by omega)) ?_
 conv=>whnf
 by_cases h3:0<l.length
 case neg =>
  rw[hs,show decide (0<l.length∧l.length≤64)=false from decide_eq_false (fun h=>h3 h.1),Bool.false_and]
  refine brT (decide_eq_true (by omega)) ?_
  conv=>whnf
  repeat(first|(refine brF rfl ?_;conv=>whnf)|(refine brT rfl ?_;conv=>whnf))
  repeat'(first|exact ⟨⟩|exact rfl|exact fun _=>Iff.rfl|exact fun _ _=>rfl|exact renM_ent rfl _|apply And.intro)
 refine brF (decide_eq_false (by omega)) ?_
 conv=>whnf
 by_cases h4:l.length≤64
 case neg =>
  rw[hs,show decide (0<l.length∧l.length≤64)=false from decide_eq_false (fun h=>h4 h.2),Bool.false_and]
  refine brT (decide_eq_true (by omega)) ?_
  conv=>whnf
  repeat'(first|exact ⟨⟩|exact rfl|exact fun _=>Iff.rfl|exact fun _ _=>rfl|exact renM_ent rfl _|apply And.intro)
 refine brF (decide_eq_false (by omega)) ?_
 rw [show decide (0<l.length∧l.length≤64)=true from decide_eq_true ⟨h3,h4⟩,Bool.true_and] at hs
 conv=>whnf
 obtain⟨R,hR⟩:∃ R,R=rising ty false [] l:=⟨_,rfl⟩
 rw [←hR] at hs
 refine .inv Nat (fun i=>i≤l.length∧rising ty (decide (0<i)) (lastF ty l i) (l.drop i)=R) (fun i=>[(29,iV i)]) (fun _=>[]) (fun i=>l.length - i) ⟨0,[0],⟨Nat.zero_le _,hR.symm⟩,?_⟩ ?_
 ·conv=>whnf
  repeat'(first|exact ⟨⟩|exact rfl|exact fun _=>Iff.rfl|exact fun _ _=>rfl|exact renM_ent rfl _|apply And.intro)
 rintro i ⟨hi,hrest⟩
 have hw1:IntKind.i64.wrap ((i:Int)+1)=((i+1:Nat):Int):=by rw[w64_in _ (by omega)];omega
 conv=>whnf
 refine⟨fun c5=>?_,fun c5=>?_⟩
 ·have c5':i<l.length:=(by have h:(i:Int)<l.length:=of_decide_eq_true c5;omega)
  obtain⟨d,hd⟩:∃ d,l[i]?.getD []=d:=⟨_,rfl⟩
  have hda:l.drop i=d :: l.drop (i+1):=by
   rw[List.drop_eq_getElem_cons c5',←hd,List.getElem?_eq_getElem c5']
   rfl
  have hdm:d ∈ l:=List.mem_of_mem_drop (i:=i) (by rw[hda];simp)
  have hlast:lastF ty l (i+1)=rfold ty d:=by show rfold ty (l[i]?.getD [])=_;rw[hd]
  rw [hda] at hrest
  unfold rising at hrest
  rw [←hlast] at hrest
  conv=>whnf
  refine⟨by omega,?_⟩
  conv=>whnf
  rw[Int.toNat_natCast,hd]
  refine .data _ (r4check_ok ty d (hl d hdm)) rfl rfl ?_
  cases hc:rcheck ty d with
  |false =>
   rw [hc,Bool.false_and,Bool.false_and] at hrest
   rw[hs,←hrest]
   conv=>whnf
   repeat(first|(refine brF rfl ?_;conv=>whnf)|(refine brT rfl ?_;conv=>whnf))
   repeat'(first|exact ⟨⟩|exact rfl|exact fun _=>Iff.rfl|exact fun _ _=>rfl|exact renM_ent rfl _|apply And.intro)
  |true =>
   rw [hc,Bool.true_and] at hrest
   conv=>whnf
   repeat(first|(refine brF rfl ?_;conv=>whnf)|(refine brT rfl ?_;conv=>whnf))
   cases i with
   |zero =>
    refine brF (decide_eq_false (by omega)) ?_
    conv=>whnf
    repeat(first|(refine brF rfl ?_;conv=>whnf)|(refine brT rfl ?_;conv=>whnf))
    rw[hw1]
    refine⟨1,[0],⟨c5',?_⟩,by omega,?_⟩
    ·rw[←hrest]
     rfl
    conv=>whnf
    repeat'(first|exact ⟨⟩|exact rfl|exact fun _=>Iff.rfl|exact fun _ _=>rfl|exact renM_ent rfl _|apply And.intro)
   |succ j =>
    refine brT (decide_eq_true (by omega)) ?_
    obtain⟨e,he⟩:∃ e,l[j]?.getD []=e:=⟨_,rfl⟩
    have hem:e ∈ l:=by
     rw[←he,List.getElem?_eq_getElem (by omega)]
     exact List.getElem_mem _
    have hle:lastF ty l (j+1)=rfold ty e:=by show rfold ty (l[j]?.getD [])=_;rw[he]
    have hw2:IntKind.i64.wrap (((j+1:Nat):Int) - 1)=(j:Int):=by rw[w64_in _ (by omega)];omega
    conv=>whnf
    rw[hw2]
    refine⟨by omega,?_⟩
    conv=>whnf
    rw[Int.toNat_natCast,he]
    refine .data _ (r4fold_ok ty e (hl e hem)) rfl rfl ?_
    conv=>whnf
    refine .data _ (r4fold_ok ty d (hl d hdm)) rfl rfl ?_
    rw [hle,hlast,decide_eq_true (by omega),Bool.true_and,ge_bl,Bool.not_not] at hrest
    cases hb:Op.bytesLess (rfold ty e) (rfold ty d) with
    |false =>
     rw [hb,Bool.false_and] at hrest
     rw[hs,←hrest]
     refine brT (by rw[hb];rfl) ?_
     conv=>whnf
     repeat'(first|exact ⟨⟩|exact rfl|exact fun _=>Iff.rfl|exact fun _ _=>rfl|exact renM_ent rfl _|apply And.intro)
    |true =>
     rw [hb,Bool.true_and] at hrest
     refine brF (by rw[hb];rfl) ?_
     conv=>whnf
     rw[hw1]
     refine⟨j+1+1,[0],⟨c5',?_⟩,by omega,?_⟩
     ·rw[←hrest,hlast]
      simp
     conv=>whnf
     repeat'(first|exact ⟨⟩|exact rfl|exact fun _=>Iff.rfl|exact fun _ _=>rfl|exact renM_ent rfl _|apply And.intro)
 ·have hia:i=l.length:=(by have h:¬ (i:Int)<l.length:=of_decide_eq_false c5;omega)
  rw [List.drop_of_length_le (by omega)] at hrest
  unfold rising at hrest
  rw[hs,←hrest]
  conv=>whnf
  repeat'(first|exact ⟨⟩|exact rfl|exact fun _=>Iff.rfl|exact fun _ _=>rfl|exact renM_ent rfl _|apply And.intro)
def ofH(nm:List UInt8)(ty:Int)(x:Held):Bool:=decide (x.ty=ty) && sameN x.nm nm
set_option maxHeartbeats 4000000 in
theorem r14of_ok(x:Held)(nm:List UInt8)(ty:Int):FnOk Tryz.prog 153 [x.V,.d (.str nm),.d (.int .u16 ty)] (.d (.bool (ofH nm ty x))):=by
 refine fnOk_of_run (TT:=TT) (IN:=lookI []) TT_ok INok_nil mixed 1000 Tryz.func153 rfl (enters Tryz.func153 (by kernel_rfl) rfl) rfl 18 (by kernel_rfl) ?_
 conv=>whnf
 by_cases h1:x.ty=ty
 ·rw[show ofH nm ty x=sameN x.nm nm by unfold ofH;rw[decide_eq_true h1];rfl]
  refine brT (beq_iff_eq.2 h1) ?_
  conv=>whnf
  refine .one (.data _ (r1same_ok x.nm nm) rfl rfl ?_)
  conv=>whnf
  repeat'(first|exact ⟨⟩|exact rfl|exact fun _=>Iff.rfl|exact fun _ _=>rfl|exact renM_ent rfl _|apply And.intro)
 ·rw[show ofH nm ty x=false by unfold ofH;rw[decide_eq_false h1];rfl]
  refine brF (beq_eq_false_iff_ne.2 h1) ?_
  conv=>whnf
  repeat'(first|exact ⟨⟩|exact rfl|exact fun _=>Iff.rfl|exact fun _ _=>rfl|exact renM_ent rfl _|apply And.intro)
def w14(room:Int)(z:Bool)(H:List Held):SV:=.agg [.d (.int .i64 room),.d (heldsD z H)]
def betP(nm:List UInt8)(ty k now:Int)(x:Held):Bool:=ofH nm ty x && (decide (now<x.til) && decide (x.rank > k))
set_option maxHeartbeats 8000000 in
theorem r14better_ok(room:Int)(z:Bool)(H:List Held)(nm:List UInt8)(ty k now:Int)(hl:H.length≤1000000):FnOk Tryz.prog 91 [w14 room z H,.d (.str nm),.d (.int .u16 ty),.d (.int .u8 k),.d (.int .i64 now)] (.d (.bool (H.any (betP nm ty k now)))):=by
 refine fnOk_of_run (TT:=TT) (IN:=lookI []) TT_ok INok_nil mixed 1000 Tryz.func91 rfl (enters Tryz.func91 (by kernel_rfl) rfl) rfl 33 (by kernel_rfl) ?_
 conv=>whnf
 refine .inv Nat (fun i=>i≤H.length∧(H.drop i).any (betP nm ty k now)=H.any (betP nm ty k now)) (fun i=>[(16,iV i)]) (fun _=>[]) (fun i=>H.length - i) ⟨0,[0],⟨Nat.zero_le _,rfl⟩,?_⟩ ?_
 ·conv=>whnf
  repeat'(first|exact ⟨⟩|exact rfl|exact fun _=>Iff.rfl|exact fun _ _=>rfl|exact renM_ent rfl _|apply And.intro)
 rintro i ⟨hi,hrest⟩
 have hw1:IntKind.i64.wrap ((i:Int)+1)=((i+1:Nat):Int):=by rw[w64_in _ (by omega)];omega
 conv=>whnf
 refine⟨fun c5=>?_,fun c5=>?_⟩
 ·have c5':i<H.length:=(by have h:(i:Int)<H.length:=of_decide_eq_true c5;omega)
  obtain⟨q,hq⟩:∃ q,H.getD i default=q:=⟨_,rfl⟩
  have hda:H.drop i=q :: H.drop (i+1):=by
   rw[List.drop_eq_getElem_cons c5',←hq,List.getD,List.getElem?_eq_getElem c5']
   rfl
  rw [hda,List.any_cons] at hrest
  conv=>whnf
  refine⟨by omega,?_⟩
  conv=>whnf
  rw[Int.toNat_natCast,hq]
  refine .one (.data _ (r14of_ok q nm ty) rfl rfl ?_)
  have hb:betP nm ty k now q=(ofH nm ty q && (decide (now<q.til) && decide (q.rank > k))):=rfl
  have goOn:betP nm ty k now q=false→(H.drop (i+1)).any (betP nm ty k now)=H.any (betP nm ty k now):=fun h=>by rw [h,Bool.false_or] at hrest;exact hrest
  cases h1:ofH nm ty q with
  |false =>
   have:=goOn (by rw[hb,h1];rfl)
   conv=>whnf
   repeat(first|(refine brF rfl ?_;conv=>whnf)|(refine brT rfl ?_;conv=>whnf))
   rw[hw1]
   refine⟨i+1,[0],⟨c5',this⟩,by omega,?_⟩
   conv=>whnf
   repeat'(first|exact ⟨⟩|exact rfl|exact fun _=>Iff.rfl|exact fun _ _=>rfl|exact renM_ent rfl _|apply And.intro)
  |true =>
   conv=>whnf
   repeat(first|(refine brF rfl ?_;conv=>whnf)|(refine brT rfl ?_;conv=>whnf))
   by_cases h2:now<q.til
   case neg =>
    have:=goOn (by rw[hb,h1,decide_eq_false h2];rfl)
    refine brF (decide_eq_false h2) ?_
    conv=>whnf
    repeat(first|(refine brF rfl ?_;conv=>whnf)|(refine brT rfl ?_;conv=>whnf))
    rw[hw1]
    refine⟨i+1,[0],⟨c5',this⟩,by omega,?_⟩
    conv=>whnf
    repeat'(first|exact ⟨⟩|exact rfl|exact fun _=>Iff.rfl|exact fun _ _=>rfl|exact renM_ent rfl _|apply And.intro)
   refine brT (decide_eq_true h2) ?_
   conv=>whnf
   by_cases h3:q.rank > k
   case neg =>
    have:=goOn (by rw[hb,h1,decide_eq_false h3];simp)
    refine brF (decide_eq_false h3) ?_
    conv=>whnf
    rw[hw1]
    refine⟨i+1,[0],⟨c5',this⟩,by omega,?_⟩
    conv=>whnf
    repeat'(first|exact ⟨⟩|exact rfl|exact fun _=>Iff.rfl|exact fun _ _=>rfl|exact renM_ent rfl _|apply And.intro)
   rw [show betP nm ty k now q=true by rw [hb,h1,decide_eq_true h2,decide_eq_true h3];rfl,Bool.true_or] at hrest
   rw[←hrest]
   refine brT (decide_eq_true h3) ?_
   conv=>whnf
   repeat'(first|exact ⟨⟩|exact rfl|exact fun _=>Iff.rfl|exact fun _ _=>rfl|exact renM_ent rfl _|apply And.intro)
 ·have hia:i=H.length:=(by have h:¬ (i:Int)<H.length:=of_decide_eq_false c5;omega)
  rw [List.drop_of_length_le (by omega)] at hrest
  rw[←hrest]
  conv=>whnf
  repeat'(first|exact ⟨⟩|exact rfl|exact fun _=>Iff.rfl|exact fun _ _=>rfl|exact renM_ent rfl _|apply And.intro)
end Go.Proofs.YtdfdlbnojmlpiaaGreatDoor
namespace Go.Proofs.YtdfdlbnojmlpiaaGreatDoor
open Go Go.Eng
set_option maxRecDepth 100000
def notOf(h:Held)(x:Held):Bool:=!ofH h.nm h.ty x
structure P14 where
 i:Nat
 m:List Held
def p14S(m:List Held):SV:=match m with
 |[]=>.cs 3 0 1 1
 |_ :: _=>.all 4
def p14K(h:Held)(m:List Held):KB:=match m with
 |[]=>.gone
 |x :: r=>.row 77 8 (r.length+2) .no (fun j=>((h :: x :: r).getD j default).enc)
def p14C(h:Held)(m:List Held):KB:=match m with
 |[]=>.cells 77 (h.enc.map .d)
 |_ :: _=>.gone
theorem held_two(h q:Held)(j:Nat)(hj:j<2):catF 1 (chunk h.enc 8) (chunk q.enc 8) j=([h,q].getD j default).enc:=by
 match j,hj with
 |0,_=>rfl
 |1,_=>rfl
theorem filter_next{α:Type}(p:α→Bool){l:List α}{i:Nat}{x:α}(h:l[i]? = some x):(l.take (i+1)).filter p=(l.take i).filter p++(if p x then [x] else []):=by
 rw[List.take_add_one,h,List.filter_append]
 cases hp:p x <;> simp[hp]
set_option maxHeartbeats 16000000 in
theorem r14put_ok(room:Int)(z:Bool)(H:List Held)(h:Held)(hl:(H.length:Int)<room)(hr:room≤4096):FnOk Tryz.prog 92 [w14 room z H,h.V] (w14 room false (h :: H.filter (notOf h))):=by
 refine fnOk_of_run (TT:=TT) (IN:=lookI []) TT_ok INok_nil mixed 1000 Tryz.func92 rfl (enters Tryz.func92 (by kernel_rfl) rfl) rfl 40 (by kernel_rfl) ?_
 conv=>whnf
 refine .pad ?_
 refine .inv P14 (fun x=>x.i≤H.length∧x.m=(H.take x.i).filter (notOf h)) (fun x=>[(13,iV x.i),(5,p14S x.m),(9,.any)]) (fun x=>[(3,p14C h x.m),(4,p14K h x.m)]) (fun x=>H.length - x.i) ⟨⟨0,[]⟩,[0,1,2,3,4],⟨Nat.zero_le _,rfl⟩,?_⟩ ?_
 ·conv=>whnf
  repeat'(first|exact ⟨⟩|exact rfl|exact(fun _ _ _ _ h=>⟨packed_stable _,h⟩)|exact fun _=>Iff.rfl|exact fun _ _=>rfl|apply And.intro)
 rintro x ⟨hi,hm⟩
 have hml:x.m.length≤H.length:=by rw[hm];exact Nat.le_trans (List.length_filter_le ..) (by rw[List.length_take];omega)
 generalize x.i=i at hi hm ⊢
 generalize x.m=m at hm hml ⊢
 have hw1:i<H.length→IntKind.i64.wrap ((i:Int)+1)=((i+1:Nat):Int):=fun h=>by rw[w64_in _ (by omega)];omega
 rcases m with _|⟨x0,m⟩
 all_goals
  conv=>whnf
  refine⟨fun c5=>?_,fun c5=>?_⟩
  ·have c5':i<H.length:=(by have h:(i:Int)<H.length:=of_decide_eq_true c5;omega)
   obtain⟨q,hq⟩:∃ q,H.getD i default=q:=⟨_,rfl⟩
   have hqi:H[i]? = some q:=by rw[←hq,List.getD,List.getElem?_eq_getElem c5'];rfl
   have hnx:=filter_next (notOf h) hqi
   rw [←hm] at hnx
   conv=>whnf
   refine⟨by omega,?_⟩
   conv=>whnf
   rw[Int.toNat_natCast,hq]
   refine .one (.data _ (r14of_ok q h.nm h.ty) rfl rfl ?_)
   cases hof:ofH h.nm h.ty q with
   |true =>
    have hno:notOf h q=false:=by unfold notOf;rw[hof];rfl
    rw [hno] at hnx
    conv=>whnf
    repeat(first|(refine brF rfl ?_;conv=>whnf)|(refine brT rfl ?_;conv=>whnf))
    rw[hw1 c5']
    first
     |refine⟨⟨i+1,x0 :: m⟩,[0,1,2,3,4],⟨c5',by rw[hnx];simp⟩,by show H.length - (i+1)<H.length - i;omega,?_⟩
     |refine⟨⟨i+1,[]⟩,[0,1,2,3,4],⟨c5',by rw[hnx];simp⟩,by show H.length - (i+1)<H.length - i;omega,?_⟩
    conv=>whnf
    repeat'(first|exact ⟨⟩|exact rfl|exact(fun _ _ _ _ h=>⟨packed_stable _,h⟩)|exact fun _=>Iff.rfl|exact fun _ _=>rfl|apply And.intro)
   |false =>
    have hno:notOf h q=true:=by unfold notOf;rw[hof];rfl
    rw [hno] at hnx
    conv=>whnf
    repeat(first|(refine brF rfl ?_;conv=>whnf)|(refine brT rfl ?_;conv=>whnf))
    refine ⟨by first|decide|(simp only [List.length_cons] at hml;omega),?_⟩
    conv=>whnf
    rw[hw1 c5']
    first
     |refine⟨⟨i+1,x0 :: m++[q]⟩,[0,1,2,3,7],⟨c5',by rw[hnx];simp⟩,by show H.length - (i+1)<H.length - i;omega,?_⟩
     |refine⟨⟨i+1,[]++[q]⟩,[0,1,2,3,7],⟨c5',by rw[hnx];simp⟩,by show H.length - (i+1)<H.length - i;omega,?_⟩
    conv=>whnf
    repeat'(first|exact ⟨⟩|exact rfl|exact(fun _ _ _ _ h=>⟨packed_stable _,h⟩)|exact fun _=>Iff.rfl|exact fun _ _=>rfl|apply And.intro)
    all_goals first
     |exact(show m.length+2+1=(m++[q]).length+2 by simp)
     |exact fun j hj=>held_two h q j hj
     |exact fun j hj=>held_cat (h :: x0 :: m) q j hj
  ·have c5':i=H.length:=(by have h:¬ (i:Int)<H.length:=of_decide_eq_false c5;omega)
   subst c5'
   rw [List.take_length] at hm
   rw[←hm]
   conv=>whnf
   first
    |rw [show (if room<((m.length+2:Nat):Int) then room else ((m.length+2:Nat):Int))=((m.length+2:Nat):Int) from if_neg (by simp only [List.length_cons] at hml;omega)]
    |rw[show(if room<((1:Nat):Int) then room else ((1:Nat):Int))=((1:Nat):Int) from if_neg (by omega)]
   refine⟨by first|exact⟨by omega,by omega,by omega,by omega,.inr rfl⟩|exact⟨by omega,by omega,by omega⟩,?_⟩
   conv=>whnf
   repeat'(first|exact ⟨⟩|exact rfl|exact fun _=>Iff.rfl|exact fun _ _=>rfl|exact renM_ent rfl _|apply And.intro)
   all_goals first
    |exact(show(0:Nat)<8 by decide)
    |exact .inr rfl
    |(show 0+(((m.length+2:Nat):Int) - 0).toNat≤m.length+2;omega)
    |(
     intro j hj
     have hj:j<(((1:Nat):Int) - 0).toNat:=hj
     have:j=0:=by omega
     subst this
     rfl)
    |(
     intro j hj
     show((h :: x0 :: m).getD (0+j) default).enc=_
     rw[Nat.zero_add])
theorem r14new_ok:FnOk Tryz.prog 41 [.d (.int .i64 64)] (.tup [w14 64 true [],.d (.bool true)]):=by
 refine fnOk_of_run (TT:=TT) (IN:=lookI []) TT_ok INok_nil mixed 1000 Tryz.func41 rfl (enters Tryz.func41 (by kernel_rfl) rfl) rfl 11 (by kernel_rfl) ?_
 conv=>whnf
 repeat(first|(refine brF rfl ?_;conv=>whnf)|(refine brT rfl ?_;conv=>whnf))
 repeat'(first|exact ⟨⟩|exact rfl|exact fun _=>Iff.rfl|exact fun _ _=>rfl|exact renM_ent rfl _|apply And.intro)
 all_goals first|exact .inl rfl|exact .inr rfl|exact fun i hi=>absurd hi (Nat.not_lt_zero _)
def put14(H:List Held)(nm:List UInt8)(ty ttl:Int)(l:List (List UInt8))(k now:Int):Bool:=scheck nm ty ttl l && (ty != 0 && (decide (1≤k) && (decide (k≤4) && (ttl != 0 && (decide (0≤now) && (decide (now≤4611686018427387904) && !H.any (betP nm ty k now)))))))
def put14V(room:Int)(b:Bool)(H:List Held)(h:Held):Bool→SV
 |true=>.tup [w14 room false (h :: H.filter (notOf h)),.d (.bool true)]
 |false=>.tup [w14 room b H,.d (.bool false)]
def new14(nm:List UInt8)(ty ttl:Int)(z:Bool)(l:List (List UInt8))(k now:Int):Held:=⟨nm,ty,ttl,z,l,k,false,false,now+(if 604800<ttl then 604800 else ttl)⟩
set_option maxHeartbeats 16000000 in
theorem r14Put_ok(room:Int)(b:Bool)(H:List Held)(nm:List UInt8)(ty ttl:Int)(z:Bool)(l:List (List UInt8))(k now:Int)(hl:(H.length:Int)<room)(hr:room≤4096)(hd:∀ d ∈ l,d.length≤2000000)(httl:0≤ttl∧ttl≤4294967295) :
 FnOk Tryz.prog 42 [w14 room b H,setV nm ty ttl z l,.d (.int .u8 k),.d (.int .i64 now)] (put14V room b H (new14 nm ty ttl z l k now) (put14 H nm ty ttl l k now)):=by
 refine fnOk_of_run (TT:=TT) (IN:=lookI []) TT_ok INok_nil mixed 1000 Tryz.func42 rfl (enters Tryz.func42 (by kernel_rfl) rfl) rfl 58 (by kernel_rfl) ?_
 have hp:put14 H nm ty ttl l k now=(scheck nm ty ttl l && (ty != 0 && (decide (1≤k) && (decide (k≤4) && (ttl != 0 && (decide (0≤now) && (decide (now≤4611686018427387904) && !H.any (betP nm ty k now)))))))):=rfl
 conv=>whnf
 refine .one (.data _ (r13chk_ok nm ty ttl z l hd) rfl rfl ?_)
 cases h1:scheck nm ty ttl l with
 |false =>
  rw[show put14 H nm ty ttl l k now=false by rw[hp,h1];rfl]
  conv=>whnf
  repeat(first|(refine brF rfl ?_;conv=>whnf)|(refine brT rfl ?_;conv=>whnf))
  repeat'(first|exact ⟨⟩|exact rfl|exact fun _=>Iff.rfl|exact fun _ _=>rfl|exact renM_ent rfl _|apply And.intro)
  all_goals first|exact .inl rfl|exact .inr rfl|exact fun i hi=>absurd hi (Nat.not_lt_zero _)|exact fun i _=>rfl
 |true =>
  rw [h1,Bool.true_and] at hp
  conv=>whnf
  repeat(first|(refine brF rfl ?_;conv=>whnf)|(refine brT rfl ?_;conv=>whnf))
  by_cases h2:ty=0
  ·rw[show put14 H nm ty ttl l k now=false by rw[hp,h2];rfl]
   refine brT (beq_iff_eq.2 h2) ?_
   conv=>whnf
   repeat(first|(refine brF rfl ?_;conv=>whnf)|(refine brT rfl ?_;conv=>whnf))
   repeat'(first|exact ⟨⟩|exact rfl|exact fun _=>Iff.rfl|exact fun _ _=>rfl|exact renM_ent rfl _|apply And.intro)
   all_goals first|exact .inl rfl|exact .inr rfl|exact fun i hi=>absurd hi (Nat.not_lt_zero _)|exact fun i _=>rfl
  rw [show (ty != 0)=true from bne_iff_ne.2 h2,Bool.true_and] at hp
  refine brF (beq_eq_false_iff_ne.2 h2) ?_
  conv=>whnf
  by_cases h3:1≤k
  case neg =>
   rw[show put14 H nm ty ttl l k now=false by rw[hp,decide_eq_false h3];rfl]
   refine brT (decide_eq_true (by omega)) ?_
   conv=>whnf
   repeat(first|(refine brF rfl ?_;conv=>whnf)|(refine brT rfl ?_;conv=>whnf))
   repeat'(first|exact ⟨⟩|exact rfl|exact fun _=>Iff.rfl|exact fun _ _=>rfl|exact renM_ent rfl _|apply And.intro)
   all_goals first|exact .inl rfl|exact .inr rfl|exact fun i hi=>absurd hi (Nat.not_lt_zero _)|exact fun i _=>rfl
  rw [decide_eq_true h3,Bool.true_and] at hp
  refine brF (decide_eq_false (by omega)) ?_
  conv=>whnf
  by_cases h4:k≤4
  case neg =>
   rw[show put14 H nm ty ttl l k now=false by rw[hp,decide_eq_false h4];rfl]
   refine brT (decide_eq_true (by omega)) ?_
   conv=>whnf
   repeat(first|(refine brF rfl ?_;conv=>whnf)|(refine brT rfl ?_;conv=>whnf))
   repeat'(first|exact ⟨⟩|exact rfl|exact fun _=>Iff.rfl|exact fun _ _=>rfl|exact renM_ent rfl _|apply And.intro)
   all_goals first|exact .inl rfl|exact .inr rfl|exact fun i hi=>absurd hi (Nat.not_lt_zero _)|exact fun i _=>rfl
  rw [decide_eq_true h4,Bool.true_and] at hp
  refine brF (decide_eq_false (by omega)) ?_
  conv=>whnf
  by_cases h5:ttl=0
  ·rw[show put14 H nm ty ttl l k now=false by rw[hp,h5];rfl]
   refine brT (beq_iff_eq.2 h5) ?_
   conv=>whnf
   repeat(first|(refine brF rfl ?_;conv=>whnf)|(refine brT rfl ?_;conv=>whnf))
   repeat'(first|exact ⟨⟩|exact rfl|exact fun _=>Iff.rfl|exact fun _ _=>rfl|exact renM_ent rfl _|apply And.intro)
   all_goals first|exact .inl rfl|exact .inr rfl|exact fun i hi=>absurd hi (Nat.not_lt_zero _)|exact fun i _=>rfl
  rw [show (ttl != 0)=true from bne_iff_ne.2 h5,Bool.true_and] at hp
  refine brF (beq_eq_false_iff_ne.2 h5) ?_
  conv=>whnf
  by_cases h6:0≤now
  case neg =>
   rw[show put14 H nm ty ttl l k now=false by rw[hp,decide_eq_false h6];rfl]
   refine brT (decide_eq_true (by omega)) ?_
   conv=>whnf
   repeat(first|(refine brF rfl ?_;conv=>whnf)|(refine brT rfl ?_;conv=>whnf))
   repeat'(first|exact ⟨⟩|exact rfl|exact fun _=>Iff.rfl|exact fun _ _=>rfl|exact renM_ent rfl _|apply And.intro)
   all_goals first|exact .inl rfl|exact .inr rfl|exact fun i hi=>absurd hi (Nat.not_lt_zero _)|exact fun i _=>rfl
  rw [decide_eq_true h6,Bool.true_and] at hp
  refine brF (decide_eq_false (by omega)) ?_
  conv=>whnf
  by_cases h7:now≤4611686018427387904
  case neg =>
   rw[show put14 H nm ty ttl l k now=false by rw[hp,decide_eq_false h7];rfl]
   refine brT (decide_eq_true (by omega)) ?_
   conv=>whnf
   repeat(first|(refine brF rfl ?_;conv=>whnf)|(refine brT rfl ?_;conv=>whnf))
   repeat'(first|exact ⟨⟩|exact rfl|exact fun _=>Iff.rfl|exact fun _ _=>rfl|exact renM_ent rfl _|apply And.intro)
   all_goals first|exact .inl rfl|exact .inr rfl|exact fun i hi=>absurd hi (Nat.not_lt_zero _)|exact fun i _=>rfl
  rw [decide_eq_true h7,Bool.true_and] at hp
  refine brF (decide_eq_false (by omega)) ?_
  conv=>whnf
  refine .one (.data _ (r14better_ok room b H nm ty k now (by omega)) rfl rfl ?_)
  cases h8:H.any (betP nm ty k now) with
  |true =>
   rw[show put14 H nm ty ttl l k now=false by rw[hp,h8];rfl]
   conv=>whnf
   repeat(first|(refine brF rfl ?_;conv=>whnf)|(refine brT rfl ?_;conv=>whnf))
   repeat'(first|exact ⟨⟩|exact rfl|exact fun _=>Iff.rfl|exact fun _ _=>rfl|exact renM_ent rfl _|apply And.intro)
   all_goals first|exact .inl rfl|exact .inr rfl|exact fun i hi=>absurd hi (Nat.not_lt_zero _)|exact fun i _=>rfl
  |false =>
   rw[show put14 H nm ty ttl l k now=true by rw[hp,h8];rfl]
   conv=>whnf
   repeat(first|(refine brF rfl ?_;conv=>whnf)|(refine brT rfl ?_;conv=>whnf))
   have hmn:(if 604800<ttl then (604800:Int) else ttl)≤604800∧0≤(if 604800<ttl then (604800:Int) else ttl):=by split <;> omega
   have hwr:IntKind.i64.wrap (now+IntKind.i64.wrap (if 604800<ttl then 604800 else ttl))=now+(if 604800<ttl then 604800 else ttl):=by
    rw[w64_in (if 604800<ttl then (604800:Int) else ttl) (by omega),w64_in _ (by omega)]
   rw[hwr]
   refine .one (.data _ ((r14put_ok room b H (new14 nm ty ttl z l k now) hl hr).convA (args':=[w14 room b H,.agg [.d (.str nm),.d (.int .u16 ty),.d (.int .u32 ttl),.d (.sl z l.length 1 (strs l)),.d (.int .u8 k),.d .ff,.d .ff,.d (.int .i64 (now+(if 604800<ttl then 604800 else ttl)))]]) ⟨.refl _,.aggL ⟨.refl _,.refl _,.refl _,.refl _,.refl _,.d .fb,.d .fb,.refl _,trivial⟩,trivial⟩) rfl rfl ?_)
   conv=>whnf
   repeat'(first|exact ⟨⟩|exact rfl|exact fun _=>Iff.rfl|exact fun _ _=>rfl|exact renM_ent rfl _|apply And.intro)
   all_goals first|exact .inl rfl|exact .inr rfl|exact fun i hi=>absurd hi (Nat.not_lt_zero _)|exact fun i _=>rfl
end Go.Proofs.YtdfdlbnojmlpiaaGreatDoor
namespace Go.Proofs.YtdfdlbnojmlpiaaGreatDoor
open Go Go.Eng
set_option maxRecDepth 100000
theorem mapM_q(σ:Nat→Nat)(i:Nat)(l:List (List UInt8 × Int × Nat)):mapM σ (entL i l)=entL (σ i) l:=by
 induction l with
 |nil=>rfl
 |cons e l ih=>simp[entL,mapM,ent,mapL,mapV,ih]
theorem mapB_q(c:CSt){σ:Nat→Nat}{p:Nat}(h1:σ 1=p+1)(h2:σ 2=p+2):mapB σ (c.ks 0)=c.ks p:=by
 show[KB.cells 171 [.d (.int .i64 c.room),.np (σ 1) c.r,.map (σ 2)],KB.arena 106 c.dom [.str c.nm,.int .u16 c.ty,.int .u32 c.ttl,.sl 1 c.ni c.ln c.dg,.int .u8 c.rk,.bool c.no,.bool c.nb,.int .i64 c.til,.str c.an,.int .u16 c.ak,.np (σ 1) c.bf,.np (σ 1) c.bh],KB.map [EK.str,EK.int IntKind.u16] true false (mapM σ (entL 1 c.m))]=_
 rw[mapM_q,h1,h2]
 rfl
theorem ckq{P:Program}{f:FuncId}{al al':List SV}{c:CSt}{Q:SV→CSt→Prop}(h:COk P f al (c.ks 0) (fun s k=>∃ c1,k=CSt.ks c1 0∧Q s c1))(pre rest:List KB)(σ:Nat→Nat)(hσ:σ=sig (List.range' pre.length 3) (pre.length+(3+rest.length)))(ha:mapL σ al=al') :
 COk P f al' (pre++(c.ks pre.length++rest)) (fun s k=>∃ s0 c1,Q s0 c1∧s=mapV σ s0∧k=pre++(CSt.ks c1 pre.length++rest)):=by
 have h1:σ 1=pre.length+1:=by rw[hσ];rfl
 have h2:σ 2=pre.length+2:=by rw[hσ];rfl
 have:=h.among pre rest (σ:=σ) (fun s k hs=>by obtain⟨c',rfl,_⟩:=hs;exact Nat.le_refl _) hσ
 rw [mapB_q c h1 h2,ha] at this
 refine this.imp fun s k ⟨s0,k1,⟨c',hk1,hr⟩,hs,hk⟩=>?_
 subst hk1
 refine⟨s0,c',hr,hs,?_⟩
 rw[hk,show(c'.ks 0).take (c.ks 0).length=c'.ks 0 from rfl,show(c'.ks 0).drop (c.ks 0).length=[] from rfl,mapB_q c' h1 h2]
 show pre++(c'.ks pre.length++(rest++[]))=_
 rw[List.append_nil]
def CSt.klq(c:CSt)(p:Nat):List (Nat × KB):=[(p,.cells 171 [.d (.int .i64 c.room),.np (p+1) c.r,.map (p+2)]),(p+1,.arena 106 c.dom (c.cols (p+1))),(p+2,.map [EK.str,EK.int .u16] true false (entL (p+1) c.m))]
theorem newq(pre:List KB):COk Tryz.prog 40 [.d (.int .i64 64)] pre (fun s k=>s = .tup [.ptr pre.length 0,.d (.int .i64 0)]∧∃ c:CSt,k=pre++c.ks pre.length∧c.Rep [] []∧c.room=64):=by
 have:=new2_ok.among pre [] (fun s k _=>Nat.zero_le _) rfl
 have e:pre++(mapB (sig (List.range' pre.length ([]:List KB).length) (pre.length+(([]:List KB).length+([]:List KB).length))) []++[])=pre:=by simp[mapB]
 rw [e] at this
 refine this.imp fun s k ⟨s0,k1,⟨hr,c,hc,h1,h2⟩,hs,hk⟩=>?_
 subst hr hc
 refine⟨hs,c,?_,h1,h2⟩
 rw[hk]
 show pre++([]++([]++mapB _ (c.ks 0)))=_
 rw[mapB_q c (σ:=sig (List.range' pre.length ([]:List KB).length) (pre.length+(([]:List KB).length+([]:List KB).length))) (p:=pre.length) rfl rfl]
 rfl
def accL(H:List Held)(h:Held):Bool→List Held
 |true=>h :: H.filter (fun y=>!plEq h y)
 |false=>H
def PutQ(H:List Held)(h:Held)(acc:Bool)(room:Int)(s:SV)(c1:CSt):Prop:=∃ L1,s = .d (match acc with|true=>.tt|false=>.ff)∧c1.Rep L1 (accL H h acc)∧c1.room=room
theorem accQ{c:CSt}{L:List Nat}{H:List Held}(hr:c.Rep L H){h:Held}{acc:Bool}{s:SV}{k:List KB}(ha:AccS c H h acc s k):∃ c1,k=CSt.ks c1 0∧PutQ H h acc c.room s c1:=by
 rcases ha with⟨rfl,rfl,rfl⟩|⟨rfl,rfl,c',L',rfl,h1,h2⟩
 ·exact⟨c,rfl,L,rfl,hr,rfl⟩
 ·exact⟨c',rfl,L',rfl,h1,h2⟩
structure Pu where
 nm:List UInt8
 ty:Int
 ttl:Int
 z:Bool
 data:List (List UInt8)
 rank:Int
 now:Int
instance:Inhabited Pu:=⟨⟨[],0,0,true,[],0,0⟩⟩
def Pu.enc(p:Pu):List DV:=[.str p.nm,.int .u16 p.ty,.int .u32 p.ttl,.sl p.z p.data.length 1 (strs p.data),.int .u8 p.rank,.int .i64 p.now]
def pusD(z:Bool)(l:List Pu):DV:=.sl z l.length 6 (fun i=>(l.getD i default).enc)
structure Pu.Ok(p:Pu):Prop where
 ty:0≤p.ty∧p.ty≤65535
 z:p.z=true→p.data.length=0
 ttl:0≤p.ttl∧p.ttl≤4294967295
 d:∀ d ∈ p.data,d.length≤2000000
def Pu.held(p:Pu):Held:=⟨p.nm,p.ty,p.ttl,p.z,p.data,p.rank,false,false,p.now+mn p.ttl 604800⟩
def Good(H:List Held):Prop:=∀ h ∈ H,h.ok=true∧h.In
theorem ok_name{h:Held}(hk:h.ok=true):isName h.nm:=held_name hk
theorem of_pl{H:List Held}(hg:Good H){h:Held}(hn:isName h.nm):∀ y ∈ H,ofH h.nm h.ty y=plEq h y:=fun y hy=>by
 have hy1:=ok_name (hg y hy).1
 unfold ofH plEq sameN
 rw[decide_eq_true hy1,decide_eq_true hn,Bool.true_and,Bool.true_and,Bool.eq_iff_iff]
 simp only[Bool.and_eq_true,decide_eq_true_eq,beq_iff_eq]
 exact And.comm
theorem any_congr{α:Type}{p q:α→Bool}:∀ {l:List α},(∀ x ∈ l,p x=q x)→l.any p=l.any q
 |[],_=>rfl
 |a :: l,h=>by rw[List.any_cons,List.any_cons,h a (List.mem_cons_self ..),any_congr (l:=l) fun x hx=>h x (List.mem_cons_of_mem _ hx)]
theorem acc_eq{H:List Held}(hg:Good H)(p:Pu):(okPut p.nm p.ty p.ttl p.data p.rank && !refH H p.held (mn p.ttl 604800) p.now)=put14 H p.nm p.ty p.ttl p.data p.rank p.now:=by
 unfold okPut put14
 cases h1:scheck p.nm p.ty p.ttl p.data with
 |false=>rfl
 |true =>
  have hn:isName p.nm:=by
   unfold scheck at h1
   simp only [Bool.and_eq_true,decide_eq_true_eq] at h1
   exact h1.1.1.1
  have hany:H.any (betP p.nm p.ty p.rank p.now)=H.any (fun y=>plEq p.held y && (decide (p.now<y.til) && decide (p.held.rank<y.rank))):=any_congr fun y hy=>by
   unfold betP
   rw[show ofH p.nm p.ty y=plEq p.held y from of_pl hg (h:=p.held) hn y hy]
   rfl
  rw[hany]
  unfold refH
  generalize H.any (fun y=>plEq p.held y && (decide (p.now<y.til) && decide (p.held.rank<y.rank)))=A
  have hmn:(mn p.ttl 604800=0)↔p.ttl=0:=by unfold mn;split <;> omega
  rw[Bool.true_and,Bool.true_and,Bool.eq_iff_iff]
  simp only[Bool.and_eq_true,Bool.not_eq_true',Bool.or_eq_false_iff,decide_eq_false_iff_not,decide_eq_true_eq,bne_iff_ne,hmn]
  constructor
  ·rintro ⟨⟨a1,a2,a3⟩,a4,a5,a6,a7⟩
   exact⟨a1,a2,a3,a4,by omega,by omega,a7⟩
  ·rintro ⟨a1,a2,a3,a4,a5,a6,a7⟩
   exact⟨⟨a1,a2,a3⟩,a4,by omega,by omega,a7⟩
theorem filt_eq{H:List Held}(hg:Good H){h:Held}(hn:isName h.nm):H.filter (notOf h)=H.filter (fun y=>!plEq h y) :=
 List.filter_congr fun y hy=>by unfold notOf;rw[of_pl hg hn y hy]
theorem good_put{H:List Held}(hg:Good H)(p:Pu)(hp:p.Ok)(h:put14 H p.nm p.ty p.ttl p.data p.rank p.now=true):Good (p.held :: H.filter (fun y=>!plEq p.held y)):=fun x hx=>by
 rcases List.mem_cons.1 hx with rfl|hx
 ·unfold put14 at h
  simp only [Bool.and_eq_true,decide_eq_true_eq,bne_iff_ne] at h
  obtain⟨h1,h2,h3,h4,h5,h6,h7,h8⟩:=h
  have hmn:0≤mn p.ttl 604800∧mn p.ttl 604800≤604800:=by have:=hp.ttl;unfold mn;split <;> omega
  have ht:0≤p.held.til∧p.held.til≤4611686018428436480:=by
   show 0≤p.now+mn p.ttl 604800∧p.now+mn p.ttl 604800≤4611686018428436480
   omega
  refine⟨?_,⟨hp.ty,hp.ttl,?_,?_⟩⟩
  ·rw[Held.ok_set ht rfl]
   show(decide (false=false∧1≤p.rank∧p.rank≤4) && scheck p.nm p.ty p.ttl p.data)=true
   rw[h1,decide_eq_true ⟨rfl,h3,h4⟩]
   rfl
  ·show 0≤p.rank∧p.rank≤255;omega
  ·omega
 ·exact hg x (List.mem_filter.1 hx).1
structure HSt where
 i:Nat
 c:CSt
 L:List Nat
 H:List Held
 z:Bool
def HeldR(s:SV)(k:List KB):Prop:=∃ (c:CSt) (L:List Nat) (H:List Held) (zz:Bool),s = .tup [.ptr 0 0,w14 64 zz H,.d .tt]∧k=c.ks 0∧c.Rep L H∧c.room=64∧H.length≤40∧Good H
set_option maxHeartbeats 16000000 in
theorem held16_ok(z:Bool)(l:List Pu)(hl:l.length≤1048576)(hok:∀ p ∈ l,p.Ok):COk Tryz.prog 9 [.d (pusD z l)] [] HeldR:=by
 refine cOk_of_run (TT:=TT) (IN:=lookI []) TT_ok INok_nil mixed 1000 Tryz.func9 rfl (enters Tryz.func9 (by kernel_rfl) rfl) 76 (by kernel_rfl) ?_
 conv=>whnf
 refine .rel _ (newq [_]) (fun r ks' hR=>?_)
 obtain⟨rfl,c,rfl,hr0,hroom0⟩:=hR
 conv=>whnf
 refine .one (.data _ r14new_ok rfl rfl ?_)
 conv=>whnf
 repeat(first|(refine brF rfl ?_;conv=>whnf)|(refine brT rfl ?_;conv=>whnf))
 refine .inv HSt (fun x=>x.i≤l.length∧x.i≤40∧x.c.Rep x.L x.H∧x.c.room=64∧x.H.length≤x.i∧Good x.H) (fun x=>[(30,iV x.i)]) (fun x=>x.c.klq 1++[(4,.cells 31 [.d (.int .i64 64),.d (heldsD x.z x.H)])]) (fun x=>l.length - x.i) ⟨⟨0,c,[],[],true⟩,[0,1,2,3,4],⟨Nat.zero_le _,Nat.zero_le _,hr0,hroom0,Nat.le_refl _,fun h hh=>by cases hh⟩,?_⟩ ?_
 ·conv=>whnf
  repeat'(first|exact ⟨⟩|exact rfl|exact(fun _ _ _ _ h=>⟨packed_stable _,h⟩)|exact fun _=>Iff.rfl|exact fun _ _=>rfl|apply And.intro)
  all_goals exact renM_ent rfl _
 rintro x ⟨k1,k2,k3,k4,k5,k6⟩
 generalize x.i=i at k1 k2 k5 ⊢
 generalize x.c=c at k3 k4 ⊢
 generalize x.L=L at k3 ⊢
 generalize x.H=H at k3 k5 k6 ⊢
 generalize x.z=zz
 conv=>whnf
 refine⟨fun c5=>?_,fun c5=>?_⟩
 ·have c5':i<l.length:=(by have h:(i:Int)<l.length:=of_decide_eq_true c5;omega)
  have hw1:IntKind.i64.wrap ((i:Int)+1)=((i+1:Nat):Int):=by rw[w64_in _ (by omega)];omega
  obtain⟨p,hp⟩:∃ p,l.getD i default=p:=⟨_,rfl⟩
  have hpi:l[i]? = some p:=by rw[←hp,List.getD,List.getElem?_eq_getElem c5'];rfl
  have hpo:=hok p (List.mem_of_getElem? hpi)
  conv=>whnf
  refine⟨by omega,?_⟩
  conv=>whnf
  rw[Int.toNat_natCast,hp]
  by_cases h1:i=40
  ·refine brT (by rw[beq_iff_eq];omega) ?_
   conv=>whnf
   repeat(first|(refine brF rfl ?_;conv=>whnf)|(refine brT rfl ?_;conv=>whnf))
   conv=>whnf
   refine⟨[1,2,3],.tup [.ptr 0 0,w14 64 zz H,.d .tt],c.ks 0,rfl,rfl,rfl,?_,c,L,H,_,rfl,rfl,k3,k4,by omega,k6⟩
   repeat'(first|exact ⟨⟩|exact rfl|exact(fun _ _ _ _ h=>⟨packed_stable _,h⟩)|exact fun _=>Iff.rfl|exact fun _ _=>rfl|apply And.intro)
   all_goals exact renM_ent rfl _
  refine brF (by rw[beq_eq_false_iff_ne];omega) ?_
  conv=>whnf
  by_cases h2:p.data.length > 100
  ·refine brT (decide_eq_true (by omega)) ?_
   conv=>whnf
   repeat(first|(refine brF rfl ?_;conv=>whnf)|(refine brT rfl ?_;conv=>whnf))
   conv=>whnf
   refine⟨[1,2,3],.tup [.ptr 0 0,w14 64 zz H,.d .tt],c.ks 0,rfl,rfl,rfl,?_,c,L,H,_,rfl,rfl,k3,k4,by omega,k6⟩
   repeat'(first|exact ⟨⟩|exact rfl|exact(fun _ _ _ _ h=>⟨packed_stable _,h⟩)|exact fun _=>Iff.rfl|exact fun _ _=>rfl|apply And.intro)
   all_goals exact renM_ent rfl _
  refine brF (decide_eq_false (by omega)) ?_
  conv=>whnf
  by_cases h3:p.nm.length > 1000
  ·refine brT (decide_eq_true (by omega)) ?_
   conv=>whnf
   refine⟨[1,2,3],.tup [.ptr 0 0,w14 64 zz H,.d .tt],c.ks 0,rfl,rfl,rfl,?_,c,L,H,_,rfl,rfl,k3,k4,by omega,k6⟩
   repeat'(first|exact ⟨⟩|exact rfl|exact(fun _ _ _ _ h=>⟨packed_stable _,h⟩)|exact fun _=>Iff.rfl|exact fun _ _=>rfl|apply And.intro)
   all_goals exact renM_ent rfl _
  refine brF (decide_eq_false (by omega)) ?_
  conv=>whnf
  refine .one (.data _ (r14Put_ok 64 zz H p.nm p.ty p.ttl p.z p.data p.rank p.now (by omega) (by decide) hpo.d hpo.ttl) rfl (by cases put14 H p.nm p.ty p.ttl p.data p.rank p.now <;> rfl) ?_)
  have hPut:COk Tryz.prog 43 [.ptr 0 0,setV p.nm p.ty p.ttl p.z p.data,.d (.int .u8 p.rank),.d (.int .i64 p.now)] (c.ks 0) (fun s k=>∃ c1,k=CSt.ks c1 0∧PutQ H p.held (put14 H p.nm p.ty p.ttl p.data p.rank p.now) c.room s c1):=by
   rw[←acc_eq k6 p]
   exact(put2_ok c L H k3 (by omega) p.nm p.ty p.ttl p.z p.data p.rank p.now hpo.z hpo.ttl.1).imp fun _ _ h=>accQ k3 h
  cases hput:put14 H p.nm p.ty p.ttl p.data p.rank p.now with
  |false =>
   rw [hput] at hPut
   conv=>whnf
   refine .rel _ (ckq hPut [_] [_,_,_] _ rfl rfl) (fun r ks' hR=>?_)
   obtain⟨_,c1,⟨L1,rfl,hr1,hroom1⟩,rfl,rfl⟩:=hR
   conv=>whnf
   repeat(first|(refine brF rfl ?_;conv=>whnf)|(refine brT rfl ?_;conv=>whnf))
   rw[hw1]
   refine⟨⟨i+1,c1,L1,H,zz⟩,[0,1,2,3,4],⟨c5',by show i+1≤40;omega,hr1,by rw[hroom1,k4],by show H.length≤i+1;omega,k6⟩,by show l.length - (i+1)<l.length - i;omega,?_⟩
   conv=>whnf
   repeat'(first|exact ⟨⟩|exact rfl|exact(fun _ _ _ _ h=>⟨packed_stable _,h⟩)|exact fun _=>Iff.rfl|exact fun _ _=>rfl|apply And.intro)
   all_goals exact renM_ent rfl _
  |true =>
   rw [hput] at hPut
   have hn:isName p.held.nm:=ok_name (good_put k6 p hpo hput p.held (List.mem_cons_self ..)).1
   have hfe:H.filter (notOf (new14 p.nm p.ty p.ttl p.z p.data p.rank p.now))=H.filter (fun y=>!plEq p.held y):=filt_eq k6 (h:=p.held) hn
   have hfl:(H.filter (fun y=>!plEq p.held y)).length≤H.length:=List.length_filter_le ..
   have hgp:=good_put k6 p hpo hput
   unfold put14V
   rw[hfe]
   conv=>whnf
   refine .rel _ (ckq hPut [_] [_,_,_] _ rfl rfl) (fun r ks' hR=>?_)
   obtain⟨_,c1,⟨L1,rfl,hr1,hroom1⟩,rfl,rfl⟩:=hR
   conv=>whnf
   repeat(first|(refine brF rfl ?_;conv=>whnf)|(refine brT rfl ?_;conv=>whnf))
   rw[hw1]
   refine⟨⟨i+1,c1,L1,p.held :: H.filter (fun y=>!plEq p.held y),false⟩,[0,1,2,3,4],⟨c5',by show i+1≤40;omega,hr1,by rw[hroom1,k4],by show(H.filter (fun y=>!plEq p.held y)).length+1≤i+1;omega,hgp⟩,by show l.length - (i+1)<l.length - i;omega,?_⟩
   conv=>whnf
   repeat'(first|exact ⟨⟩|exact rfl|exact(fun _ _ _ _ h=>⟨packed_stable _,h⟩)|exact fun _=>Iff.rfl|exact fun _ _=>rfl|apply And.intro)
   all_goals exact renM_ent rfl _
 ·conv=>whnf
  refine⟨[1,2,3],.tup [.ptr 0 0,w14 64 zz H,.d .tt],c.ks 0,rfl,rfl,rfl,?_,c,L,H,_,rfl,rfl,k3,k4,by omega,k6⟩
  repeat'(first|exact ⟨⟩|exact rfl|exact(fun _ _ _ _ h=>⟨packed_stable _,h⟩)|exact fun _=>Iff.rfl|exact fun _ _=>rfl|apply And.intro)
  all_goals exact renM_ent rfl _
end Go.Proofs.YtdfdlbnojmlpiaaGreatDoor
namespace Go.Proofs.YtdfdlbnojmlpiaaGreatDoor
open Go Go.Eng
set_option maxRecDepth 100000
def texD(z:Bool)(l:List (List UInt8)):DV:=.sl z l.length 1 (strs l)
theorem good_none{H:List Held}(hg:Good H){nm:List UInt8}{ty ttl:Int}{all:Bool}{now:Int}(hty:0≤ty∧ty≤65535)(httl:0≤ttl∧ttl≤4294967295)(hnow:0≤now∧now≤100)
 (h:(okNone nm ty all && !refH H (noneH nm ty ttl all now) (mn ttl 10800) now)=true):Good (noneH nm ty ttl all now :: H.filter (fun y=>!plEq (noneH nm ty ttl all now) y)):=fun x hx=>by
 rcases List.mem_cons.1 hx with rfl|hx
 ·simp only [Bool.and_eq_true,Bool.not_eq_true'] at h
  obtain⟨h1,h2⟩:=h
  unfold okNone at h1
  simp only [Bool.and_eq_true,decide_eq_true_eq] at h1
  obtain⟨hn,h3⟩:=h1
  unfold refH at h2
  simp only [Bool.or_eq_false_iff,decide_eq_false_iff_not] at h2
  have hmn:(mn ttl 10800=0)↔ttl=0:=by unfold mn;split <;> omega
  have hm2:0≤mn ttl 10800∧mn ttl 10800≤10800:=by unfold mn;split <;> omega
  have ht0:ttl≠0:=fun e=>h2.1 (hmn.2 e)
  have ht:0≤(noneH nm ty ttl all now).til∧(noneH nm ty ttl all now).til≤4611686018428436480:=by
   show 0≤now+mn ttl 10800∧now+mn ttl 10800≤4611686018428436480
   omega
  have htt:0≤(noneH nm ty ttl all now).ty∧(noneH nm ty ttl all now).ty≤65535:=by
   show 0≤(if all then 0 else ty)∧(if all then 0 else ty)≤65535
   cases all
   ·exact hty
   ·show(0:Int)≤0∧(0:Int)≤65535;decide
  refine⟨?_,⟨htt,httl,⟨by show(0:Int)≤4;decide,by show(4:Int)≤255;decide⟩,by omega⟩⟩
  rw[Held.ok_no ht rfl]
  have e:(1≤(noneH nm ty ttl all now).ttl∧(noneH nm ty ttl all now).data.length=0∧(noneH nm ty ttl all now).rank=4∧(noneH nm ty ttl all now).name=decide ((noneH nm ty ttl all now).ty=0)):=by
   refine⟨by show 1≤ttl;omega,rfl,rfl,?_⟩
   show all=decide ((if all then 0 else ty)=0)
   cases all
   ·have:ty≠0:=by simpa using h3
    simp[this]
   ·rfl
  rw[decide_eq_true e,Bool.true_and]
  exact decide_eq_true hn
 ·exact hg x (List.mem_filter.1 hx).1
theorem fit_of{h:Held}(hk:h.ok=true):h.data.length≤64∧∀ d ∈ h.data,d.length≤4096:=by
 have htil:0≤h.til∧h.til≤4611686018428436480:=by
  apply Classical.byContradiction
  intro hc
  rw [Held.ok_til hc] at hk;cases hk
 cases hno:h.no with
 |false =>
  rw [Held.ok_set htil hno] at hk
  simp only [Bool.and_eq_true] at hk
  have hs:=hk.2
  unfold scheck at hs
  simp only [Bool.and_eq_true,decide_eq_true_eq] at hs
  exact⟨hs.1.2.2,rising_len hs.2⟩
 |true =>
  rw [Held.ok_no htil hno] at hk
  simp only [Bool.and_eq_true,decide_eq_true_eq] at hk
  have hd:h.data=[]:=List.length_eq_zero_iff.1 hk.1.2.1
  rw[hd]
  exact⟨by decide,fun d hd=>by cases hd⟩
theorem allq(c:CSt)(L:List Nat)(H:List Held)(hr:c.Rep L H)(hl:H.length≤4096)(rest:List KB):COk Tryz.prog 12 [.ptr 0 0] (c.ks 0++rest) (fun s k=>s = .all (3+rest.length)∧k=c.ks 0++(rest++[.row 77 8 H.length .iff (fun i=>(H.getD i default).enc)])):=by
 obtain⟨σ,hσ⟩:∃ σ,σ=sig (List.range' 0 3) (0+(3+rest.length)):=⟨_,rfl⟩
 have h:=(all2_ok c L H hr hl).among [] rest (σ:=σ) (fun s k h=>by rw[h.2,List.length_append];exact Nat.le_add_right _ _) hσ
 have m1:mapB σ (c.ks 0)=c.ks 0:=mapB_q c (p:=0) (by rw[hσ];rfl) (by rw[hσ];rfl)
 have m2:mapL σ [.ptr 0 0]=[.ptr 0 0]:=by rw[hσ];rfl
 rw [m1,m2] at h
 refine COk.imp (show COk Tryz.prog 12 [.ptr 0 0] (c.ks 0++rest) _ from h) fun s k ⟨s0,k1,h12,hs,hk⟩=>?_
 obtain⟨h1,h2⟩:=h12
 subst h1 h2
 refine⟨?_,?_⟩
 ·rw[hs,hσ]
  show SV.all (sig [0,1,2] (0+(3+rest.length)) 3)=SV.all (3+rest.length)
  rw[Nat.zero_add]
  rfl
 ·rw[hk,show(c.ks 0++[KB.row 77 8 H.length .iff (fun i=>(H.getD i default).enc)]).take (c.ks 0).length=c.ks 0 from rfl,m1]
  rfl
structure NSt where
 i:Nat
 c:CSt
 L:List Nat
 H:List Held
set_option maxHeartbeats 16000000 in
theorem dcache_ok(z:Bool)(l:List Pu)(hl:l.length≤1048576)(hok:∀ p ∈ l,p.Ok)(zn:Bool)(names:List (List UInt8))(ty ttl:Int)(hty:0≤ty∧ty≤65535)(httl:0≤ttl∧ttl≤4294967295) :
 FnOk Tryz.prog 3 [.d (pusD z l),.d (texD zn names),.d (.int .u16 ty),.d (.int .u32 ttl)] (.d (.bool true)):=by
 refine fnOk_of_run (TT:=TT) (IN:=lookI []) TT_ok INok_nil mixed 1000 Tryz.func3 rfl (enters Tryz.func3 (by kernel_rfl) rfl) rfl 74 (by kernel_rfl) ?_
 conv=>whnf
 refine .one (.data _ dlives_ok rfl rfl ?_)
 conv=>whnf
 repeat(first|(refine brF rfl ?_;conv=>whnf)|(refine brT rfl ?_;conv=>whnf))
 by_cases h20:names.length > 20
 ·refine brT (decide_eq_true (by omega)) ?_
  conv=>whnf
  repeat'(first|exact ⟨⟩|exact rfl|exact fun _=>Iff.rfl|exact fun _ _=>rfl|exact renM_ent rfl _|apply And.intro)
 refine brF (decide_eq_false (by omega)) ?_
 conv=>whnf
 refine .rel _ (held16_ok z l hl hok) (fun r ks' hR=>?_)
 obtain⟨c,L,H,w,rfl,rfl,hr,hroom,hH,hg⟩:=hR
 conv=>whnf
 repeat(first|(refine brF rfl ?_;conv=>whnf)|(refine brT rfl ?_;conv=>whnf))
 refine .inv NSt (fun x=>x.i≤names.length∧x.c.Rep x.L x.H∧x.c.room=64∧x.H.length≤40+x.i∧Good x.H) (fun x=>[(37,iV x.i)]) (fun x=>x.c.klq 0) (fun x=>names.length - x.i) ⟨⟨0,c,L,H⟩,[0,1,2,3],⟨Nat.zero_le _,hr,hroom,hH,hg⟩,?_⟩ ?_
 ·conv=>whnf
  repeat'(first|exact ⟨⟩|exact rfl|exact(fun _ _ _ _ h=>⟨packed_stable _,h⟩)|exact fun _=>Iff.rfl|exact fun _ _=>rfl|apply And.intro)
  all_goals exact renM_ent rfl _
 clear hr hroom hH hg
 rintro x ⟨k1,k3,k4,k5,k6⟩
 generalize x.i=i at k1 k5 ⊢
 generalize x.c=c at k3 k4 ⊢
 generalize x.L=L at k3 ⊢
 generalize x.H=H at k3 k5 k6 ⊢
 conv=>whnf
 refine⟨fun c5=>?_,fun c5=>?_⟩
 ·have c5':i<names.length:=(by have h:(i:Int)<names.length:=of_decide_eq_true c5;omega)
  have hw1:IntKind.i64.wrap ((i:Int)+1)=((i+1:Nat):Int):=by rw[w64_in _ (by omega)];omega
  obtain⟨n,hn⟩:∃ n,names[i]?.getD []=n:=⟨_,rfl⟩
  conv=>whnf
  refine⟨by omega,?_⟩
  conv=>whnf
  rw[Int.toNat_natCast,hn]
  by_cases h1:n.length > 1000
  ·refine brT (decide_eq_true (by omega)) ?_
   conv=>whnf
   repeat'(first|exact ⟨⟩|exact rfl|exact fun _=>Iff.rfl|exact fun _ _=>rfl|exact renM_ent rfl _|apply And.intro)
  refine brF (decide_eq_false (by omega)) ?_
  conv=>whnf
  refine⟨by decide,?_⟩
  conv=>whnf
  obtain⟨al,hal⟩:∃ al,al=((i:Int).tmod 2 == 1):=⟨_,rfl⟩
  rw[←hal]
  clear hal
  have hN:COk Tryz.prog 10 [.ptr 0 0,.d (.str n),.d (.int .u16 ty),.d (.bool al),.d (.int .u32 ttl),.d (.int .i64 i)] (c.ks 0) (fun s k=>∃ c1,k=CSt.ks c1 0∧PutQ H (noneH n ty ttl al i) (okNone n ty al && !refH H (noneH n ty ttl al i) (mn ttl 10800) i) c.room s c1) :=
   (none2_ok c L H k3 (by omega) n ty al ttl i httl.1).imp fun _ _ h=>accQ k3 h
  have hgn:=good_none k6 hty httl (nm:=n) (all:=al) (now:=(i:Int)) (by omega)
  generalize (okNone n ty al && !refH H (noneH n ty ttl al i) (mn ttl 10800) i)=acc at hN hgn
  have hgl:Good (accL H (noneH n ty ttl al i) acc):=by
   cases acc
   ·exact k6
   ·exact hgn rfl
  have hll:(accL H (noneH n ty ttl al i) acc).length≤40+(i+1):=by
   cases acc
   ·show H.length≤_;omega
   ·show(H.filter _).length+1≤_
    have:=List.length_filter_le (fun y=>!plEq (noneH n ty ttl al i) y) H
    omega
  refine .rel _ (ckq hN [] [_] _ rfl rfl) (fun r ks' hR=>?_)
  obtain⟨_,c1,⟨L1,rfl,hr1,hroom1⟩,rfl,rfl⟩:=hR
  conv=>whnf
  rw[hw1]
  refine⟨⟨i+1,c1,L1,accL H (noneH n ty ttl al i) acc⟩,[0,1,2,3],⟨c5',hr1,by rw[hroom1,k4],hll,hgl⟩,by show names.length - (i+1)<names.length - i;omega,?_⟩
  conv=>whnf
  repeat'(first|exact ⟨⟩|exact rfl|exact(fun _ _ _ _ h=>⟨packed_stable _,h⟩)|exact fun _=>Iff.rfl|exact fun _ _=>rfl|apply And.intro)
  all_goals exact renM_ent rfl _
 ·have c5':i=names.length:=(by have h:¬ (i:Int)<names.length:=of_decide_eq_false c5;omega)
  have hfit:∀ h ∈ H,h.Fit:=fun h hh=>⟨(k6 h hh).2,by have:=(fit_of (k6 h hh).1).1;omega,fun d hd=>by have:=(fit_of (k6 h hh).1).2 d hd;omega⟩
  have hpre:∀ i,(linesT (H.take i)).length≤60000000:=fun i=>by
   have:=lines_len (N:=1000000) (H.take i) (fun h hh=>by
    have hm:=List.mem_of_mem_take hh
    have hf:=fit_of (k6 h hm).1
    exact heldT_len (k6 h hm).2 (k6 h hm).1 (by omega) (fun d hd=>by have:=hf.2 d hd;omega))
   rw [List.length_take] at this
   omega
  have hall:H.all Held.ok=true:=List.all_eq_true.2 fun h hh=>(k6 h hh).1
  have ht:textH H=(linesT H,0):=by unfold textH;rw[if_neg (by omega),if_pos hall]
  have hlen:(linesT H).length≤60000000:=by have:=hpre H.length;rwa [List.take_length] at this
  have c1:=dtext_ok (Nat.beq H.length 0) H hfit (fun i _=>Nat.le_trans (hpre i) (by decide))
  rw [ht] at c1
  obtain⟨m,h1,h2,h3,h4⟩:=parseD_fwd H (linesT H).length [] (fun h hh=>k6 h hh) (Nat.le_refl _) (by show 0+H.length≤4096;omega)
  have c2:=dparse_ok (linesT H) (by omega)
  rw [h1] at c2
  have c3:=d14same_ok m.isEmpty (Nat.beq H.length 0) m H (by omega) (fun h hh=>by
   obtain⟨g,hg,e⟩:=h4 h hh
   have:=(fit_of (k6 g hg).1).1
   rw[e];omega) (fun h hh=>by have:=(fit_of (k6 h hh).1).1;omega)
  rw [h2] at c3
  conv=>whnf
  refine .rel _ (allq c L H k3 (by omega) [_]) (fun r ks' hR=>?_)
  obtain⟨rfl,rfl⟩:=hR
  conv=>whnf
  refine .one (.view (.tup [.d (.str (linesT H)),.d (.int .i64 0)]) _ [4] c1 ?_ rfl rfl ?_)
  ·conv=>whnf
   exact⟨rfl,rfl⟩
  conv=>whnf
  refine .one (.data _ c2 rfl rfl ?_)
  conv=>whnf
  repeat(first|(refine brF rfl ?_;conv=>whnf)|(refine brT rfl ?_;conv=>whnf))
  refine .rel _ (allq c L H k3 (by omega) [_,_]) (fun r ks' hR=>?_)
  obtain⟨rfl,rfl⟩:=hR
  conv=>whnf
  refine .one (.view (.d (.bool true)) _ [5] c3 ?_ rfl rfl ?_)
  ·conv=>whnf
   exact⟨rfl,rfl⟩
  conv=>whnf
  repeat'(first|exact ⟨⟩|exact rfl|exact fun _=>Iff.rfl|exact fun _ _=>rfl|exact renM_ent rfl _|apply And.intro)
end Go.Proofs.YtdfdlbnojmlpiaaGreatDoor
