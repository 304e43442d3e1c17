/-
  Part of the proof: lemmas about the functions that the row calls, and about the steps of a run. Conditions: those ahead of each lemma.
-/
import Derived.Test.YtoefgnnkajhmiaaGreatDoorQ3
import Derived.Test.YtoefgnnkajhmiaaGreatDoorQ2
import Derived.Test.YtoefgnnkajhmiaaGreatDoorQ1
set_option linter.unusedVariables false
set_option linter.unusedSimpArgs false
set_option maxRecDepth 100000
set_option maxHeartbeats 64000000
namespace Go.Proofs.YtoefgnnkajhmiaaGreatDoor
open Go Go.Eng
theorem jt5(a b:Ls):r1wI a b=qv a b:=by
 unfold r1wI;cases hA:ja a with
 |none =>
  have:¬ qa a:=λh=>by have:=(wy a).1 h;rw [hA] at this;cases this
  unfold qv;rw[po this];rfl
 |some l =>
  cases hB:ja b with
  |none =>
   have:¬ qa b:=λh=>by have:=(wy b).1 h;rw [hB] at this;cases this
   unfold qv;rw[po this,lx,l8]
  |some m =>
   have ha:qa a:=(wy a).2 (by rw[hA];rfl);have hb:qa b:=(wy b).2 (by rw[hB];rfl);have ea:labN a=l:=jc6 hA;have eb:labN b=m:=jc6 hB;have hl:=(y5 ha).2.1;have hm:=(y5 hb).2.1;rw [ea] at hl;rw [eb] at hm;have ebf:fold b=mk (m.map fold):=by rw[u0 hb];unfold fl;rw[eb]
   have edf:fold (mk (l.drop (l.length - m.length)))=mk ((l.drop (l.length - m.length)).map fold):=je8 λx hx=>hl x (d8 hx)
   rw[my,withinN_iff];show(decide (m.length<=l.length) && (fold (mk (l.drop (l.length - m.length))) == fold b))=true↔_;simp only[p7,lr,oy];unfold fl;rw[ea,eb,edf,ebf];constructor
   ·intro ⟨h1,h2⟩;refine⟨ha,hb,l.length - m.length,om,?_⟩;have h3:=qv8 (λx hx=>by obtain⟨y,hy,rfl⟩:=gv.1 hx;exact jo4 (hl y (d8 hy))) (λx hx=>by obtain⟨y,hy,rfl⟩:=gv.1 hx;exact jo4 (hm y hy)) h2;rw[<-List.map_drop];exact h3
   ·intro ⟨_,_,j,hj,h⟩;have h2:=congrArg List.length h;rw [ou,mq,mq] at h2;have h1:m.length<=l.length:=om
    refine⟨h1,?_⟩;rw[List.map_drop,show l.length - m.length=j by omega,h]
theorem jf8(a:Ls):r1cI a=qu a:=by
 unfold r1cI qu labN;cases hA:ja a with
 |none =>
  have:¬ qa a:=λh=>by have:=(wy a).1 h;rw [hA] at this;cases this
  rw[if_neg this]
 |some l =>
  have ha:qa a:=(wy a).2 (by rw[hA];rfl);rw[if_pos ha];rfl
def subN(a b:Ls):Bool:=qv a b && !qp a b
theorem jt4(a b:Ls):decide (r2dI a b > 0)=subN a b:=by
 unfold r2dI subN;rw[jt5,jf8,jf8];cases hw:qv a b with
 |false=>rfl
 |true =>
  rw[if_pos rfl,p9];obtain⟨ha,hb⟩:=ye hw;cases hs:qp a b with
  |false =>
   have:=qx4 hw hs;exact pn om
  |true =>
   rw [xd ha hb] at hs;have:=yu7 ha hb (oy.1 hs);exact po om
theorem sub_spec{a b:Ls}:subN a b=true↔qv a b=true/\qp a b=false:=by unfold subN;simp
theorem xd0{D:List Ls}{n x:Ls}(h:x ∈ D):x ∈ insB D n:=by
 unfold insB;split
 ·exact h
 ·rw [<-f9 (cntB n D) D] at h;rcases ow.1 h with h|h
  ·exact ao _ h
  ·exact List.mem_append_right _ (.tail _ h)
theorem xl8{D:List Ls}{n:Ls}(hn:qa n):∃ c ∈ insB D n,qp c n=true:=by
 unfold insB;split
 ·rename_i h;refine⟨_,?_,h.2⟩;rw[List.getD,pp h.1];exact oz h.1
 ·exact⟨n,List.mem_append_right _ (.head _),zs6 hn⟩
theorem qq9:∀ l:List Ls,(∀ n ∈ l,qa n->∃ c ∈ zv l,qp c n=true)/\∀ c ∈ zv l,c ∈ l/\qa c :=
 xr2 ⟨λn hn=>(by cases hn),λc hc=>(by cases hc)⟩ λl a ih=>by
  rw[yd4];obtain⟨h1,h2⟩:=ih;constructor
  ·intro n hn hnn;rcases ow.1 hn with hn|hn
   ·obtain⟨c,hc,hs⟩:=h1 n hn hnn;refine⟨c,?_,hs⟩;split
    ·exact xd0 hc
    ·exact hc
   ·obtain rfl:=m9.1 hn;rw[if_pos hnn];exact xl8 hnn
  ·intro c hc;by_cases ha:qa a
   ·rw [if_pos ha] at hc;rcases yt4 hc with hc|rfl
    ·exact⟨ao _ (h2 c hc).1,(h2 c hc).2⟩
    ·exact⟨List.mem_append_right _ (.head _),ha⟩
   ·rw [if_neg ha] at hc;exact⟨ao _ (h2 c hc).1,(h2 c hc).2⟩
def ownR(a:Ls)(r:RR):Bool:=r.check && (r.cl == 1 && (r.ty != 41 && (r.ttl != 0 && (qv r.nm a && !(r.ty == 6 && !qp r.nm a)))))
def wp(r x:RR):Bool:=(x.ty == r.ty && wq x r) || (r.ty == 5 && qp x.nm r.nm)
def k7(r:RR)(c:Ls):Bool:=(qp r.nm c && (!qz r && r.ty != 2)) || (subN r.nm c && !qz r)
def xr(z:Zo)(i:Nat)(r:RR)(C:List Ls):Bool:=ownR z.apex r && (((List.range z.rrs.length).all λj=>j == i || !wp r (z.rrs.getD j default)) && C.all λc=>!k7 r c)
def vf(l:List RR):Nat:=(l.filter yg).length
def vi(a:Ls)(l:List RR):Nat:=(l.filter λr=>isNs r && qp r.nm a).length
def chkR(z:Zo):Bool:=decide (qa z.apex) && (decide (z.rrs.length<=256) && (((List.range z.rrs.length).all λi=>xr z i (z.rrs.getD i default) (c22 z)) && (vf z.rrs == 1 && vi z.apex z.rrs != 0)))
theorem yo6{z:Zo}{c:Ls}:c ∈ c22 z->∃ q ∈ z.rrs,q.nm=c/\q.ty=2/\subN c z.apex=true:=λh=>by
 have h1:=((qq9 _).2 c h).1;unfold t22 at h1;obtain⟨q,hq,rfl⟩:=gv.1 h1;obtain⟨hq,hp⟩:=ct.1 hq;unfold p22 at hp;rw [jt4] at hp;simp only [p7,oy] at hp;exact⟨q,lv hq,rfl,hp.1,hp.2⟩
theorem yu6{z:Zo}{q:RR}(hq:q ∈ z.rrs)(ht:q.ty=2)(hs:subN q.nm z.apex=true):∃ c ∈ c22 z,qp c q.nm=true:=by
 refine(qq9 _).1 q.nm ?_ (ye (sub_spec.1 hs).1).1;unfold t22;refine gv.2 ⟨q,ct.2 ⟨by rw[mu];exact hq,?_⟩,rfl⟩;unfold p22;rw[jt4,hs,ht];rfl
theorem jo3:∀ l:List RR,uf l=true↔l.Pairwise λa b=>keyZ b≠keyZ a
 |[]=>⟨λ_=>.nil,λ_=>rfl⟩
 |r :: l=>by
  show((l.all λx=>keyZ x != keyZ r) && uf l)=true↔_;rw[p7,jo3 l,dw,o7];simp only[bne_iff_ne,ne_eq]
theorem xe6(p:RR->Bool)(l:List RR)(n:Ls){i:Nat}(hi:i<l.length):cntZ p l n=cntZ p (l.take i) n+(if fold l[i].nm=n/\p l[i]=true then 1 else 0)+cntZ p (l.drop (i+1)) n:=by
 have e:l=l.take i++l[i] :: l.drop (i+1):=by rw[<-lu hi,f9]
 have e2:cntZ p (l.take i++l[i] :: l.drop (i+1)) n=cntZ p (l.take i) n+(if fold l[i].nm=n/\p l[i]=true then 1 else 0)+cntZ p (l.drop (i+1)) n:=by
  unfold cntZ;rw[b7,pq,List.filter_cons];by_cases h:fold l[i].nm=n/\p l[i]=true
  ·rw[if_pos h,if_pos (by simp[h.1,h.2]),pw];omega
  ·rw[if_neg h,if_neg (by simpa using h)];omega
 rw[<-e2,<-e]
theorem qo1{p:RR->Bool}{l:List RR}{n:Ls}(h:0<cntZ p l n):∃ r ∈ l,fold r.nm=n/\p r=true:=by
 unfold cntZ at h;obtain⟨r,hr⟩:=List.exists_mem_of_length_pos h;obtain⟨h1,h2⟩:=ct.1 hr;simp only [p7,oy] at h2;exact⟨r,h1,h2⟩
theorem zb2{l:List RR}{n:Ls}{i:Nat}(hi:i<l.length)(h:fold l[i].nm=n):1<cntZ anyR l n↔∃ j,∃ hj:j<l.length,j≠i/\fold l[j].nm=n:=by
 rw[xe6 anyR l n hi,if_pos ⟨h,rfl⟩];constructor
 ·intro hc;by_cases h1:0<cntZ anyR (l.take i) n
  ·obtain⟨r,hr,e,_⟩:=qo1 h1;obtain⟨j,hj,rfl⟩:=mr.1 hr;rw [o4] at hj;rw [List.getElem_take] at e;exact⟨j,om,om,e⟩
  ·obtain⟨r,hr,e,_⟩:=qo1 (show 0<cntZ anyR (l.drop (i+1)) n by omega);obtain⟨j,hj,rfl⟩:=mr.1 hr;rw [ou] at hj;rw [List.getElem_drop] at e;exact⟨i+1+j,om,om,e⟩
 ·intro ⟨j,hj,hne,e⟩;rcases ox j i with h1|h1
  ·have:=qu9 (p:=anyR) (l:=l.take i) (r:=l[j]) (mr.2 ⟨j,by rw[o4];omega,List.getElem_take⟩) rfl e;omega
  ·have:=qu9 (p:=anyR) (l:=l.drop (i+1)) (r:=l[j]) (mr.2 ⟨j - (i+1),by rw[ou];omega,by rw[List.getElem_drop];congr 1;omega⟩) rfl e;omega
theorem zb3{p:RR->Bool}{l:List RR}{n:Ls}(h:∀ x ∈ l,fold x.nm=n->p x=true):cntZ anyR l n=cntZ p l n:=by
 unfold cntZ;congr 1;apply List.filter_congr;intro x hx;by_cases e:fold x.nm=n
 ·simp[anyR,h x hx e]
 ·have e2:(fold x.nm == n)=false:=by simpa using e
  show(fold x.nm == n && anyR x)=(fold x.nm == n && p x);rw[e2];rfl
theorem zd9{p q:RR->Bool}{l:List RR}{n:Ls}(h:∀ x,p x=true->q x=false):cntZ p l n+cntZ q l n=cntZ (λx=>p x || q x) l n:=by
 unfold cntZ;induction l with
 |nil=>rfl
 |cons x l ih =>
  rw[List.filter_cons,List.filter_cons,List.filter_cons];show List.length (if (fold x.nm == n && p x)=true then _ else _)+List.length (if (fold x.nm == n && q x)=true then _ else _)=List.length (if (fold x.nm == n && (p x || q x))=true then _ else _);have:=h x;by_cases e:fold x.nm=n
  ·rw[e,beq_self_eq_true];cases hp:p x with
   |true =>
    rw[this hp];have ih:_=(List.filter (λr=>fold r.nm == n && (p r || q r)) l).length:=ih;simp only[p9,Bool.or_false,if_true,fx,if_false,pw];omega
   |false =>
    cases hq:q x with
    |true =>
     have ih:_=(List.filter (λr=>fold r.nm == n && (p r || q r)) l).length:=ih;simp only[p9,Bool.or_true,if_true,fx,if_false,pw];omega
    |false =>
     simp only[l8,Bool.or_false,fx,if_false];exact ih
  ·have e2:(fold x.nm == n)=false:=by simpa using e
   rw[e2];simp only[lx,fx,if_false];exact ih
theorem yy2(x:RR)(h:isNs x=true):qz x=false:=by
 unfold isNs at h;unfold qz;rw [oy] at h;rw[h];rfl
theorem yu9{l:List RR}{name top:Ls}(ht:fold top=top)(hn:qa top)(H:∀ u,fold u=u->0<cntZ isNs l u->u≠name->qv name u=true->qu top<qu u->cntZ anyR l name=cntZ qz l name) :
 ∀ (k:Nat) (u:Ls),u.length<=k->fold u=u->qv name u=true->qv u top=true->yx l name top (upsF k u)=true
 |0,u,hk,_,_,_=>rfl
 |k+1,u,hk,hf,hw,hwt=>by
  have hun:=(ye hwt).1;have e1:yx l name top (upsF (k+1) u)=if u=top then true else if u≠name/\0<cntZ isNs l u then cntZ anyR l name == cntZ qz l name else yx l name top (if u=[0] then [] else upsF k (u.drop (1+bt u 0))):=rfl;rw[e1];by_cases hut:u=top
  ·rw[if_pos hut]
  rw[if_neg hut];have hlt:qu top<qu u:=qx4 hwt (by
   rw[xd hun hn,hf,ht];simpa using hut)
  split
  ·rename_i h;rw[oy];exact H u hf h.2 h.1 hw hlt
  ·have h0:u≠[0]:=λe=>by rw [e,yh6] at hlt;omega
   rw[if_neg h0];have hbt:=x8 hun h0;have hu1:=yi5 hwt h0 hlt;refine yu9 ht hn H k (upN u) (by unfold upN;rw[ou];omega) (za1 hf) ?_ hu1;exact within_suf.2 ⟨(ye hw).1,(ye hu1).1,by
    obtain⟨_,_,h3⟩:=within_suf.1 hw;obtain⟨l0,hl⟩:=zc2 hun h0;have hfu:fl u=fold l0 :: fl (upN u):=by unfold fl;rw[hl];rfl
    rw [hfu] at h3;exact(List.suffix_cons _ _).trans h3⟩
theorem yk1{x r:RR}(hx:x.check=true)(hr:r.check=true):(x.ty == r.ty && wq x r)=(keyZ x == keyZ r):=by
 unfold wq keyZ;rw[hx,hr,my];simp only[p7,oy,p9,Bool.and_true,Prod.mk.injEq];exact⟨λ⟨h1,h2,_,h3,h4⟩=>⟨h2,h1,h3,h4⟩,λ⟨h1,h2,h3,h4⟩=>⟨h2,h1,h2,h3,h4⟩⟩
theorem take_parts{a:Ls}{r:RR}:yz a r=true↔r.cl=1/\r.ty≠41/\r.ttl≠0/\r.check=true/\qv r.nm a=true:=by
 unfold yz;simp only[p7,oy,bne_iff_ne,ne_eq]
theorem own_parts{a:Ls}{r:RR}:ownR a r=true↔yz a r=true/\(r.ty=6->qp r.nm a=true):=by
 rw[take_parts];unfold ownR;simp only[p7,oy,bne_iff_ne,ne_eq,dp,r8,oo,Bool.not_eq_false'];constructor
 ·intro ⟨h1,h2,h3,h4,h5,h6⟩;exact⟨⟨h2,h3,h4,h1,h5⟩,λe=>h6.resolve_left λh=>h e⟩
 ·intro ⟨⟨h1,h2,h3,h4,h5⟩,h6⟩;refine⟨h4,h1,h2,h3,h5,?_⟩;by_cases e:r.ty=6
  ·exact .inr (h6 e)
  ·exact .inl e
structure RightR(z:Zo):Prop where
 own:∀ r ∈ z.rrs,ownR z.apex r=true
 clash:∀ i (hi:i<z.rrs.length) j (hj:j<z.rrs.length),j≠i->wp z.rrs[i] z.rrs[j]=false
 under:∀ r ∈ z.rrs,∀ c ∈ c22 z,k7 r c=false
theorem zz6(z:Zo):((List.range z.rrs.length).all λi=>xr z i (z.rrs.getD i default) (c22 z))=true↔RightR z:=by
 have hg:∀ i (hi:i<z.rrs.length),z.rrs.getD i default=z.rrs[i]:=λi hi=>by rw[List.getD,pp hi];rfl
 rw[o7];constructor
 ·intro h;have h':∀ i (hi:i<z.rrs.length),xr z i z.rrs[i] (c22 z)=true:=λi hi=>by have:=h i (o8.2 hi);rwa [hg i hi] at this
  unfold xr at h';simp only [p7,o7] at h';refine⟨λr hr=>?_,λi hi j hj hne=>?_,λr hr c hc=>?_⟩
  ·obtain⟨i,hi,rfl⟩:=mr.1 hr;exact(h' i hi).1
  ·have:=(h' i hi).2.1 j (o8.2 hj);rw [hg j hj] at this;simpa[hne] using this
  ·obtain⟨i,hi,rfl⟩:=mr.1 hr;have:=(h' i hi).2.2 c hc;simpa using this
 ·intro H i hi;have hi:=o8.1 hi;rw[hg i hi];unfold xr;simp only[p7,o7];refine⟨H.own _ (oz hi),λj hj=>?_,λc hc=>?_⟩
  ·have hj:=o8.1 hj;rw[hg j hj];by_cases e:j=i
   ·simp[e]
   ·rw[H.clash i hi j hj e];simp
  ·rw[H.under _ (oz hi) c hc];rfl
theorem xv7(z:Zo):chkR z=z.ok:=by
 unfold chkR Zo.ok;by_cases hn:qa z.apex
 case neg=>rw[po hn];rfl
 rw[pn hn,p9,p9];congr 1;rw[my,p7,zz6];simp only[p7,o7];have hat:=qd9 z.apex;have hln:∀ r,yz z.apex r=true->(qp r.nm z.apex=true↔fold r.nm=fold z.apex):=λr hr=>by
  rw[xd (ye (take_parts.1 hr).2.2.2.2).1 hn,oy]
 have hsv:(∀ r ∈ z.rrs,yz z.apex r=true)->vi z.apex z.rrs=cntZ isNs z.rrs (fold z.apex):=λht=>by
  unfold vi cntZ;congr 1;apply List.filter_congr;intro x hx;rw[my,p7,p7,hln x (ht x hx),oy,and_comm]
 have hhd:(∀ r ∈ z.rrs,r.ty=6->fold r.nm=fold z.apex)->vf z.rrs=cntZ yg z.rrs (fold z.apex):=λht=>by
  unfold vf cntZ;congr 1;apply List.filter_congr;intro x hx;cases h:yg x with
  |false=>simp
  |true=>simp[ht x hx (by simpa[yg] using h)]
 constructor
 ·intro ⟨H,h1,h2⟩;have ht:∀ r ∈ z.rrs,yz z.apex r=true:=λr hr=>(own_parts.1 (H.own r hr)).1
  have h6:∀ r ∈ z.rrs,r.ty=6->fold r.nm=fold z.apex:=λr hr e=>(hln r (ht r hr)).1 ((own_parts.1 (H.own r hr)).2 e)
  refine⟨ht,?_,?_⟩
  ·rw[jo3,az];intro i j hi hj hij e;have:=H.clash i hi j hj om;unfold wp at this;rw [yk1 (take_parts.1 (ht _ (oz hj))).2.2.2.1 (take_parts.1 (ht _ (oz hi))).2.2.2.1,e,beq_self_eq_true] at this;cases this
  ·unfold kf;rw[<-hhd h6,<-hsv ht,h1,h2,p9,p9,o7];intro r hr;obtain⟨p1,p2,p3,p4,p5⟩:=take_parts.1 (ht r hr);have hrn:=(ye p5).1;have hcut:∀ q ∈ z.rrs,q.ty=2->fold q.nm≠fold z.apex->∃ c ∈ c22 z,qp c q.nm=true:=λq hq e hne =>
    yu6 hq e (sub_spec.2 ⟨(take_parts.1 (ht q hq)).2.2.2.2,by
     cases hs:qp q.nm z.apex with
     |false=>rfl
     |true=>exact absurd ((hln q (ht q hq)).1 hs) hne⟩)
   unfold qx;rw[if_neg]
   ·split
    ·rfl
    ·rename_i hnt;rw[if_neg]
     ·unfold upsN;rw[if_pos (wi hrn)];refine yu9 hat (wi hn) (λu hu hc hne hw hlt=>?_) _ _ (pu _) (qd9 _) ?_ ?_
      ·obtain⟨q,hq,e1,e2⟩:=qo1 hc;have e2:q.ty=2:=by simpa[isNs] using e2
       have hqn:=(ye (take_parts.1 (ht q hq)).2.2.2.2).1;obtain ⟨c,hcC,hs⟩:=hcut q hq e2 (λe=>by rw [<-e1,e] at hlt;omega);refine zb3 λx hx ex=>?_
       have hxn:=(ye (take_parts.1 (ht x hx)).2.2.2.2).1;have hun:=H.under x hx c hcC;unfold k7 at hun;have hcn:=((qq9 _).2 c hcC).2;rw [xd hcn hqn,oy] at hs;have hsub:subN x.nm c=true:=sub_spec.2 ⟨by
        rw[jx3 hcn (ye hw).2 (by rw[hs,e1,hu]),ji7 hxn (ye hw).1 (by rw[ex,qd9])];exact hw,by
        rw[xd hxn hcn,oo,ex,hs,e1];exact λe=>hne e.symm⟩
       rw [hsub] at hun;cases ha:qz x with
       |true=>rfl
       |false=>rw [ha] at hun;simp at hun
      ·exact within_suf.2 ⟨wi hrn,wi hrn,List.suffix_refl _⟩
      ·rw[yc9 hn,ji7 (wi hrn) hrn (qd9 _)];exact p5
     ·rintro (h|⟨h,hlt⟩)
      ·obtain⟨q,hq,e1,e2⟩:=qo1 h;exact hnt (by rw[<-e1];exact h6 q hq (by simpa[yg] using e2))
      ·obtain⟨q,hq,e1,e2⟩:=qo1 h;have hqn:=(ye (take_parts.1 (ht q hq)).2.2.2.2).1;obtain⟨c,hcC,hs⟩:=hcut q hq (by simpa[isNs] using e2) (by rw[e1];exact hnt);have hcn:=((qq9 _).2 c hcC).2;rw [xd hcn hqn,oy] at hs;rw [zd9 yy2] at hlt;refine absurd (zb3 (p:=λx=>isNs x || qz x) (n:=fold r.nm) λx hx ex=>?_) (Nat.ne_of_gt hlt);have hxn:=(ye (take_parts.1 (ht x hx)).2.2.2.2).1;have hun:=H.under x hx c hcC;unfold k7 at hun;rw [show qp x.nm c=true by rw [xd hxn hcn,oy,ex,hs,e1]] at hun;show(isNs x || qz x)=true;unfold isNs;cases ha:qz x with
       |true=>simp
       |false =>
        rw [ha] at hun;simp only [p9,Bool.not_false,cp,bne_eq_false_iff_eq] at hun;rw[hun.1];rfl
   ·intro ⟨ha,hb⟩;obtain⟨q,hq,e1,e2⟩:=qo1 ha;obtain⟨i,hi,rfl⟩:=mr.1 hq;obtain⟨j,hj,hne,e⟩:=(zb2 hi e1).1 hb;have:=H.clash i hi j hj hne;unfold wp at this;have hjn:=(ye (take_parts.1 (ht _ (oz hj))).2.2.2.2).1;have hin:=(ye (take_parts.1 (ht _ (oz hi))).2.2.2.2).1;rw [xd hjn hin,e,e1,beq_self_eq_true,Bool.and_true] at this;unfold wm at e2;rw [e2,Bool.or_true] at this;cases this
 ·intro ⟨ht,h1,h2⟩;unfold kf at h2;simp only [p7,o7] at h2;obtain⟨hs1,hs2,hf⟩:=h2;have h6:∀ r ∈ z.rrs,r.ty=6->fold r.nm=fold z.apex:=λr hr e=>by
   apply Classical.byContradiction;intro hne;have:=hf r hr;unfold qx at this;split at this
   ·cases this
   ·rw [if_pos (.inl (qu9 hr (by simp [yg,e]) rfl))] at this;cases this
  refine⟨⟨λr hr=>own_parts.2 ⟨ht r hr,λe=>(hln r (ht r hr)).2 (h6 r hr e)⟩,λi hi j hj hne=>?_,λr hr c hc=>?_⟩,by rw[hhd h6];exact hs1,by rw[hsv ht];exact hs2⟩
  ·have ti:=take_parts.1 (ht _ (oz hi));have tj:=take_parts.1 (ht _ (oz hj));unfold wp;rw[yk1 tj.2.2.2.1 ti.2.2.2.1,xd (ye tj.2.2.2.2).1 (ye ti.2.2.2.2).1,cp];constructor
   ·rw [jo3,az] at h1;rw[oo];rcases Nat.lt_or_gt_of_ne hne with h|h
    ·exact λe=>h1 j i hj hi h e.symm
    ·exact h1 i j hi hj h
   ·rw[r8,oo,oo];by_cases e5:z.rrs[i].ty=5
    ·refine .inr λe=>?_
     have:=hf _ (oz hi);unfold qx at this;rw [if_pos ⟨qu9 (oz hi) (by simp [wm,e5]) rfl,(zb2 hi rfl).2 ⟨j,hj,hne,e⟩⟩] at this;cases this
    ·exact .inl e5
  ·obtain⟨q,hq,rfl,e2,hsu⟩:=yo6 hc;obtain⟨hw,hsm⟩:=sub_spec.1 hsu;have hqn:=(ye hw).1;have hrn:=(ye (take_parts.1 (ht r hr)).2.2.2.2).1;have hqt:fold q.nm≠fold z.apex:=λe=>by rw [(hln q (ht q hq)).2 e] at hsm;cases hsm
   have hqc:=qx4 hw hsm;have hns:=qu9 (p:=isNs) hq (by simp[isNs,e2]) rfl;unfold k7;rw[cp];constructor
   ·rw[xd hrn hqn];by_cases e:fold r.nm=fold q.nm
    ·have:=hf r hr;unfold qx at this;split at this
     ·cases this
     ·rw [if_neg (by rw [e];exact hqt)] at this;split at this
      ·cases this
      ·rename_i hx;have hx:=λh=>hx (.inr ⟨by rw[e];exact hns,h⟩)
       rw [zd9 yy2] at hx;cases ha:qz r with
       |true=>simp
       |false =>
        cases h2:(r.ty != 2) with
        |false=>simp
        |true =>
         refine absurd (ze0 (p:=λx=>isNs x || qz x) hr ?_ rfl) hx;show(isNs r || qz r)=false;rw[ha,Bool.or_false];unfold isNs;simpa using h2
    ·rw[oo.2 e];rfl
   ·cases hsb:subN r.nm q.nm with
    |false=>rfl
    |true =>
     obtain⟨hw1,hs1⟩:=sub_spec.1 hsb;have hne:fold r.nm≠fold q.nm:=by rw [xd hrn hqn,oo] at hs1;exact hs1
     have hrc:=qx4 hw1 hs1;have:=hf r hr;unfold qx at this;split at this
     ·cases this
     ·rw [if_neg (λe=>by have:=yu7 hrn hn e;omega)] at this;split at this
      ·cases this
      ·unfold upsN at this;rw [if_pos (wi hrn)] at this;have hc:=yo9 (l:=z.rrs) (name:=fold r.nm) (top:=fold z.apex) (c0:=fold q.nm) hns hne (by rw[qz0 hn,qz0 hqn];exact hqc) (qd9 _) _ (fold r.nm) (pu _) (by rw[yc9 hqn,ji7 (wi hrn) hrn (qd9 _)];exact hw1) (qd9 _) this;cases ha:qz r with
       |true=>rfl
       |false=>exact absurd (ze0 (p:=qz) hr ha rfl) (by rw[hc];exact cq _)
theorem zn8(z:Zo)(hz:z.Fit)(hzl:z.rrs.length<=100000)(ha:z.apex.length<=100000)(i:Nat)(hi:i<z.rrs.length)(y:Bool)(C:List Ls)(hC:C.length<=100000)(hCl:∀ x ∈ C,x.length<=100000) :
 FnOk Tryz.prog 91 [z.V,iV i,.d (.sl y C.length 1 (strs C))] (.d (.bool (xr z i (z.rrs.getD i default) C))):=by
 refine qi (TT:=TT) (IN:=qd []) qe qg mixed 1000 Tryz.func91 rfl (qb Tryz.func91 (by kernel_rfl) rfl) rfl 129 (by kernel_rfl) ?_;obtain⟨r,hr⟩:∃ r,z.rrs.getD i default=r:=⟨_,rfl⟩;have hrl:z.rrs[i]? = some r:=by rw[<-hr,List.getD,pp hi];rfl
 obtain⟨hrn,hrd⟩:=hz r (ov hrl);rw[hr];have c1:=qz8 r om;have c2:=jj6 r.nm z.apex om;have c3:=qd6 r.nm z.apex;rw [jt5] at c2;generalize hF:xr z i r C=F;have hno:ownR z.apex r=false->F=false:=λh=>by rw[<-hF];unfold xr;rw[h];rfl
 conv=>whnf
 refine⟨om,?_⟩;conv=>whnf
 rw[pr,hr];have how0:ownR z.apex r=(r.check && (r.cl == 1 && (r.ty != 41 && (r.ttl != 0 && (qv r.nm z.apex && !(r.ty == 6 && !qp r.nm z.apex)))))):=rfl;obtain⟨O,hO⟩:∃ O,ownR z.apex r=O:=⟨_,rfl⟩;rw [hO] at hno how0;cases hk:r.check;case false =>
  rw [hk] at c1 how0;refine oD c1 rfl rfl ?_;conv=>whnf
  repeat((first|apply Fr|apply Tr);conv=>whnf)
  rw[hno how0];all_goals exact rfl
 rw [hk] at c1 how0;refine oD c1 rfl rfl ?_;conv=>whnf
 repeat((first|apply Fr|apply Tr);conv=>whnf)
 cases hcl:r.cl == 1
 case false =>
  rw [hcl] at how0;refine brT (by unfold bne;rw[hcl];rfl) ?_;conv=>whnf
  repeat((first|apply Fr|apply Tr);conv=>whnf)
  rw[hno how0];all_goals exact rfl
 refine brF (by unfold bne;rw[hcl];rfl) ?_;conv=>whnf
 cases h41:r.ty == 41
 case true =>
  rw [hcl,show (r.ty != 41)=false by unfold bne;rw [h41];rfl] at how0;apply Tr;conv=>whnf
  repeat((first|apply Fr|apply Tr);conv=>whnf)
  rw[hno how0];all_goals exact rfl
 apply Fr;conv=>whnf
 cases htt:r.ttl == 0
 case true =>
  rw [hcl,show (r.ty != 41)=true by unfold bne;rw [h41];rfl,show (r.ttl != 0)=false by unfold bne;rw [htt];rfl] at how0;apply Tr;conv=>whnf
  repeat((first|apply Fr|apply Tr);conv=>whnf)
  rw[hno how0];all_goals exact rfl
 apply Fr;conv=>whnf
 rw [hcl,show (r.ty != 41)=true by unfold bne;rw [h41];rfl,show (r.ttl != 0)=true by unfold bne;rw [htt];rfl] at how0;refine oD c2 rfl rfl ?_;cases hwi:qv r.nm z.apex
 case false =>
  rw [hwi] at how0;conv=>whnf
  repeat((first|apply Fr|apply Tr);conv=>whnf)
  rw[hno how0];all_goals exact rfl
 rw [hwi] at how0;conv=>whnf
 repeat((first|apply Fr|apply Tr);conv=>whnf)
 cases h6:r.ty == 6
 case' false =>
  rw [h6] at how0;have how:ownR z.apex r=true:=hO.trans how0;clear how0 hno;apply Fr;conv=>whnf
  repeat((first|apply Fr|apply Tr);conv=>whnf)
 case' true =>
  rw [h6] at how0;apply Tr;conv=>whnf
  refine oD c3 rfl rfl ?_;cases hsa:qp r.nm z.apex
  case false =>
   rw [hsa] at how0;conv=>whnf
   repeat((first|apply Fr|apply Tr);conv=>whnf)
   rw[hno how0];all_goals exact rfl
  rw [hsa] at how0;have how:ownR z.apex r=true:=hO.trans how0;clear how0 hno;conv=>whnf
  repeat((first|apply Fr|apply Tr);conv=>whnf)
 all_goals
  refine .inv Nat (λj=>j<=z.rrs.length/\((List.range j).all λk=>k == i || !wp r (z.rrs.getD k default))=true) (λj=>[(60,iV j)]) (λj=>[]) (λj=>z.rrs.length - j) ⟨0,[0,1],⟨pv _,rfl⟩,?_⟩ ?_
  ·exact rY2
  intro j hj;obtain⟨hj,hto⟩:=hj;conv=>whnf
  refine⟨λh1=>?_,λh1=>?_⟩
  ·have h1:j<z.rrs.length:=by
    have h:(j:Int)<z.rrs.length:=px h1;omega
   have hw2:=w64s j om;obtain⟨r2,hr2⟩:∃ r2,z.rrs.getD j default=r2:=⟨_,rfl⟩;have hrl2:z.rrs[j]? = some r2:=by rw[<-hr2,List.getD,pp h1];rfl
   obtain⟨hrn2,hrd2⟩:=hz r2 (ov hrl2);have c4:=zt1 r2 r om om;have c5:=qd6 r2.nm r.nm;have hbad:(j == i || !wp r r2)=false->F=false:=λhu=>by
    rw[<-hF];unfold xr;rw[show((List.range z.rrs.length).all λk=>k == i || !wp r (z.rrs.getD k default))=false from dx.2 ⟨j,o8.2 h1,by rw[hr2,hu];decide⟩,lx,l8]
   have hgo:(j == i || !wp r r2)=true->((List.range (j+1)).all λk=>k == i || !wp r (z.rrs.getD k default))=true:=λhu=>by
    rw[List.range_succ,dn,hto];show(true && ((j == i || !wp r (z.rrs.getD j default)) && true))=true;rw[hr2,hu];rfl
   have hun:(j == i || !wp r r2)=(j == i || !((r2.ty == r.ty && wq r2 r) || (r.ty == 5 && qp r2.nm r.nm))):=rfl;conv=>whnf
   refine⟨om,?_⟩;conv=>whnf
   rw[pr,hr2];generalize (j == i || !wp r r2)=U at hbad hgo hun;have hji:((j:Int) != (i:Int)) = !(j == i):=by
    by_cases e:j=i
    ·subst e;simp
    ·rw[show(j == i)=false by simpa using e,show((j:Int) != (i:Int))=true by simp;omega]
     rfl
   cases he:j == i
   case true =>
    rw [he] at hji hun;refine brF hji ?_;conv=>whnf
    repeat((first|apply Fr|apply Tr);conv=>whnf)
    rw[hw2];refine⟨j+1,[0,1],⟨h1,hgo hun⟩,om,?_⟩;conv=>whnf
    repeat'(first|exact ⟨⟩|exact rfl|exact ql _|exact .inr rfl|exact λ_ _=>rfl|exact noI|apply And.intro)
   rw [he] at hji hun;refine brT hji ?_;conv=>whnf
   have tail:∀ p:Bool,(r2.ty == r.ty && wq r2 r)=false->(r.ty == 5 && qp r2.nm r.nm)=p->U = !p:=λp e1 e2=>by rw[hun,e1,e2];rfl
   cases hs:r2.ty == r.ty
   case' false =>
    rw [hs] at tail hun;apply Fr;conv=>whnf
    repeat((first|apply Fr|apply Tr);conv=>whnf)
   case' true =>
    apply Tr;conv=>whnf
    refine oD c4 rfl rfl ?_;cases hd:wq r2 r
    case true =>
     rw [hs,hd] at hun;conv=>whnf
     repeat((first|apply Fr|apply Tr);conv=>whnf)
     exact hbad hun
    rw [hs,hd] at tail hun;conv=>whnf
    repeat((first|apply Fr|apply Tr);conv=>whnf)
   all_goals
    cases h5:r.ty == 5
    case false =>
     rw [h5] at tail;apply Fr;conv=>whnf
     repeat((first|apply Fr|apply Tr);conv=>whnf)
     rw[hw2];refine⟨j+1,[0,1],⟨h1,hgo (tail false rfl rfl)⟩,om,?_⟩;conv=>whnf
     repeat'(first|exact ⟨⟩|exact rfl|exact ql _|exact .inr rfl|exact λ_ _=>rfl|exact noI|apply And.intro)
    apply Tr;conv=>whnf
    refine oD c5 rfl rfl ?_;cases hm:qp r2.nm r.nm
    case true =>
     rw [h5,hm] at tail;conv=>whnf
     repeat((first|apply Fr|apply Tr);conv=>whnf)
     exact hbad (tail true rfl rfl)
    rw [h5,hm] at tail;conv=>whnf
    repeat((first|apply Fr|apply Tr);conv=>whnf)
    rw[hw2];refine⟨j+1,[0,1],⟨h1,hgo (tail false rfl rfl)⟩,om,?_⟩;conv=>whnf
    repeat'(first|exact ⟨⟩|exact rfl|exact ql _|exact .inr rfl|exact λ_ _=>rfl|exact noI|apply And.intro)
  ·have h1:j=z.rrs.length:=by
    have h:¬ (j:Int)<z.rrs.length:=py h1;omega
   have hcl2:=hto;rw [h1] at hcl2;clear hto;conv=>whnf
   cases ht1:r.ty == 1
   case' true =>
    have hA:qz r=true:=by unfold qz;rw[ht1];rfl
    apply Tr;conv=>whnf
   case' false =>
    apply Fr;conv=>whnf
    have hA0:qz r=(r.ty == 28):=by unfold qz;rw[ht1];rfl
    cases ht2:r.ty == 28
    case' true=>have hA:qz r=true:=by rw[hA0,ht2]
    case' false=>have hA:qz r=false:=by rw[hA0,ht2]
   all_goals
    refine .inv Nat (λj=>j<=C.length/\((C.take j).all λc=>!k7 r c)=true) (λj=>[(103,iV j)]) (λj=>[]) (λj=>C.length - j) ⟨0,[0,1],⟨pv _,rfl⟩,?_⟩ ?_
    ·exact rY2
    intro j hj;obtain⟨hj,hto⟩:=hj;conv=>whnf
    refine⟨λh1=>?_,λh1=>?_⟩
    ·have h1:j<C.length:=by
      have h:(j:Int)<C.length:=px h1;omega
     have hw2:=w64s j om;obtain⟨x,hx⟩:∃ x,C[j]?.getD []=x:=⟨_,rfl⟩;have hxm:C[j]? = some x:=by rw[<-hx,pp h1];rfl
     have hxl:x.length<=100000:=hCl x (ov hxm);have c4:=qd6 r.nm x;have c5:=ye5 r.nm x om;have hbad:k7 r x=true->F=false:=λhu=>by
      rw[<-hF];unfold xr;rw[show(C.all λc=>!k7 r c)=false from dx.2 ⟨x,ov hxm,by rw[hu];decide⟩,l8,l8]
     have hgo:k7 r x=false->((C.take (j+1)).all λc=>!k7 r c)=true:=λhu=>by
      rw[o3,hxm];show((C.take j++[x]).all λc=>!k7 r c)=true;rw[dn,hto];show(true && (!k7 r x && true))=true;rw[hu];rfl
     have hun:k7 r x=((qp r.nm x && (!qz r && r.ty != 2)) || (decide (r2dI r.nm x > 0) && !qz r)):=by rw[jt4];rfl
     rw [hA] at hun;conv=>whnf
     refine⟨om,?_⟩;conv=>whnf
     rw[pr,hx];generalize k7 r x=U at hbad hgo hun;cases hs:qp r.nm x <;> cases hd:decide (r2dI r.nm x > 0) <;> cases h2:(r.ty != 2)
     all_goals
      rw [hs] at c4 hun;rw [hd,h2] at hun;refine oD c4 rfl rfl ?_;conv=>whnf
      repeat(first
       |(refine oD c5 rfl rfl ?_;conv=>whnf)
       |(apply Tr;conv=>whnf)
       |(apply Fr;conv=>whnf)
       |(refine brT h2 ?_;conv=>whnf)
       |(refine brF h2 ?_;conv=>whnf)
       |(refine brT hd ?_;conv=>whnf)
       |(refine brF hd ?_;conv=>whnf))
      first
       |exact hbad hun
       |(
        rw[hw2];refine⟨j+1,[0,1],⟨h1,hgo hun⟩,om,?_⟩;conv=>whnf
        repeat'(first|exact ⟨⟩|exact rfl|exact ql _|exact .inr rfl|exact λ_ _=>rfl|exact noI|apply And.intro)
        done)
    ·have h1:j=C.length:=by
      have h:¬ (j:Int)<C.length:=py h1;omega
     rw [h1,mu] at hto;rw[show F=true by rw[<-hF];unfold xr;rw[how,hcl2,hto];rfl];conv=>whnf
     all_goals exact rfl
theorem zb7(z:Zo):(c22 z).length<=z.rrs.length:=gn (yj8 _) (yx1 z _)
theorem zv3{l:List RR}{i:Nat}{r:RR}(h:l[i]? = some r):vf (l.take (i+1))=vf (l.take i)+(if r.ty == 6 then 1 else 0):=by
 unfold vf;rw[o3,h];show((l.take i++[r]).filter yg).length=_;rw[b7,pq];congr 1;unfold yg;cases hc:r.ty == 6 <;> simp[hc]
theorem zz0{a:Ls}{l:List RR}{i:Nat}{r:RR}(h:l[i]? = some r):vi a (l.take (i+1))=vi a (l.take i)+(if r.ty == 2 && qp r.nm a then 1 else 0):=by
 unfold vi;rw[o3,h];show((l.take i++[r]).filter λr=>isNs r && qp r.nm a).length=_;rw[b7,pq];congr 1;unfold isNs;cases hc:(r.ty == 2 && qp r.nm a) with
 |true=>rw[List.filter_cons,if_pos hc];rfl
 |false=>rw[List.filter_cons,if_neg (by rw[hc];decide)];rfl
theorem xm7(l:List RR)(i:Nat):vf (l.take i)<=i:=gn (cx _ _) (by rw[o4];omega)
theorem xr4(a:Ls)(l:List RR)(i:Nat):vi a (l.take i)<=i:=gn (cx _ _) (by rw[o4];omega)
theorem jy8(z:Zo)(hz:z.Fit)(hzl:z.rrs.length<=100000)(ha:z.apex.length<=100000) :
 FnOk Tryz.prog 52 [z.V] (.d (.int .i64 (if z.ok then 0 else 2))):=by
 refine qi (TT:=TT) (IN:=qd []) qe qg mixed 1000 Tryz.func52 rfl (qb Tryz.func52 (by kernel_rfl) rfl) rfl 56 (by kernel_rfl) ?_;rw[<-xv7];have hc:=zb7 z;have hcm:∀ x ∈ c22 z,x.length<=100000:=λx hx=>by have:=(yj7 hx).2.1;omega
 have hcu:=ye6 z hzl ha;obtain⟨C,hC⟩:∃ C,c22 z=C:=⟨_,rfl⟩;rw [hC] at hc hcm hcu;generalize hK:chkR z=K;unfold chkR at hK;rw [hC] at hK;conv=>whnf
 refine oD (qd4 z.apex) rfl rfl ?_;by_cases hn:qa z.apex;case neg =>
  rw [po hn] at hK;rw[if_neg hn,<-show false=K from hK];conv=>whnf
  apply Tr;conv=>whnf
  all_goals exact rfl
 rw[if_pos hn];rw [pn hn] at hK;conv=>whnf
 apply Fr;conv=>whnf
 refine⟨λh1=>?_,λh1=>?_⟩
 ·have h1:¬ z.rrs.length<=256:=by
   have h:(z.rrs.length:Int) > 256:=px h1;omega
  rw [po h1] at hK;rw[<-show false=K from hK];conv=>whnf
  all_goals exact rfl
 have h1:z.rrs.length<=256:=by
  have h:¬ (z.rrs.length:Int) > 256:=py h1;omega
 rw [pn h1] at hK;conv=>whnf
 refine oD hcu rfl rfl ?_;conv=>whnf
 refine .inv Nat (λi=>i<=z.rrs.length/\((List.range i).all λi=>xr z i (z.rrs.getD i default) C)=true) (λi=>[(23,iV i),(4,iV (vf (z.rrs.take i))),(5,iV (vi z.apex (z.rrs.take i)))]) (λi=>[]) (λi=>z.rrs.length - i) ⟨0,[0],⟨pv _,rfl⟩,?_⟩ ?_
 ·exact rY2
 intro i hi;obtain⟨hi,hto⟩:=hi;have l1:=xm7 z.rrs i;have l2:=xr4 z.apex z.rrs i;conv=>whnf
 refine⟨λh2=>?_,λh2=>?_⟩
 ·have h2:i<z.rrs.length:=by
   have h:(i:Int)<z.rrs.length:=px h2;omega
  have hw1:=w64s i om;have hwa:IntKind.i64.wrap ((vf (z.rrs.take i):Int)+1)=((vf (z.rrs.take i)+1:Nat):Int):=by rw[qc _ om];omega
  have hwb:IntKind.i64.wrap ((vi z.apex (z.rrs.take i):Int)+1)=((vi z.apex (z.rrs.take i)+1:Nat):Int):=by rw[qc _ om];omega
  obtain⟨r,hr⟩:∃ r,z.rrs.getD i default=r:=⟨_,rfl⟩;have hrl:z.rrs[i]? = some r:=by rw[<-hr,List.getD,pp h2];rfl
  have n1:=zv3 hrl;have n2:=zz0 (a:=z.apex) hrl;have c5:=qd6 r.nm z.apex;have c6:=zn8 z hz hzl ha i h2 C.isEmpty C om hcm;rw [hr] at c6;conv=>whnf
  refine⟨om,?_⟩;conv=>whnf
  rw[pr,hr];refine oD c6 rfl rfl ?_;cases hf:xr z i r C
  case false =>
   rw [show ((List.range z.rrs.length).all λi=>xr z i (z.rrs.getD i default) C)=false from dx.2 ⟨i,o8.2 h2,by rw [hr,hf];decide⟩] at hK;rw[<-show false=K from hK];conv=>whnf
   repeat((first|apply Fr|apply Tr);conv=>whnf)
   all_goals exact rfl
  have hgo:((List.range (i+1)).all λi=>xr z i (z.rrs.getD i default) C)=true:=by
   rw[List.range_succ,dn,hto];show(true && (xr z i (z.rrs.getD i default) C && true))=true;rw[hr,hf];rfl
  generalize vf (z.rrs.take i)=A at hwa n1 l1 ⊢;generalize vi z.apex (z.rrs.take i)=B at hwb n2 l2 ⊢;conv=>whnf
  repeat((first|apply Fr|apply Tr);conv=>whnf)
  cases h6:r.ty == 6 <;> cases h7:r.ty == 2 <;> cases h8:qp r.nm z.apex
  all_goals
   rw [h6] at n1;rw [h7,h8] at n2;rw [h8] at c5;repeat(first
    |(refine oD c5 rfl rfl ?_;conv=>whnf)
    |(apply Tr;conv=>whnf)
    |(apply Fr;conv=>whnf)
    |(refine brT h7 ?_;conv=>whnf)
    |(refine brF h7 ?_;conv=>whnf))
   try rw[hwa]
   try rw[hwb]
   rw[hw1];refine⟨i+1,[0],⟨h2,hgo⟩,om,?_⟩;rw[n1,n2];conv=>whnf
   repeat'(first|exact ⟨⟩|exact rfl|exact ql _|exact .inr rfl|exact λ_ _=>rfl|exact noI|apply And.intro)
 ·have h2:i=z.rrs.length:=by
   have h:¬ (i:Int)<z.rrs.length:=py h2;omega
  rw [h2] at hto l1 l2 ⊢;rw [mu] at l1 l2 ⊢;rw [hto] at hK;generalize vf z.rrs=A at hK l1 ⊢;generalize vi z.apex z.rrs=B at hK l2 ⊢;by_cases hA:A=1
  case neg =>
   rw [show (A == 1)=false by simpa using hA] at hK;rw[<-show false=K from hK];conv=>whnf
   refine brT (by rw[bne_iff_ne];omega) ?_;conv=>whnf
   repeat((first|apply Fr|apply Tr);conv=>whnf)
   all_goals exact rfl
  rw [show (A == 1)=true by simpa using hA] at hK;by_cases hB:B=0
  ·rw [show (B != 0)=false by simpa using hB] at hK;rw[<-show false=K from hK];conv=>whnf
   refine brF (by rw[bne_eq_false_iff_eq];omega) ?_;conv=>whnf
   refine brT (by rw[oy];omega) ?_;conv=>whnf
   all_goals exact rfl
  ·rw [show (B != 0)=true by simpa using hB] at hK;rw[<-show true=K from hK];conv=>whnf
   refine brF (by rw[bne_eq_false_iff_eq];omega) ?_;conv=>whnf
   refine brF (by rw[oo];omega) ?_;conv=>whnf
   all_goals exact rfl
def abS(zs:List Zo)(n:Ls)(i:Nat)(b:Option Nat)(k:Nat):Option Nat :=
 if (k != i && (qv n (zs.getD k default).apex && (match b with
  |none=>true
  |some y=>decide (qu (zs.getD k default).apex > qu (zs.getD y default).apex))))=true then some k else b
def abR(zs:List Zo)(n:Ls)(i m:Nat):Option Nat:=(List.range m).foldl (abS zs n i) none
def fewI:Option Nat->Int
 |none=>-1
 |some k=>k
theorem qt9(zs:List Zo)(n:Ls)(i m:Nat):abR zs n i (m+1)=abS zs n i (abR zs n i m) m:=by
 unfold abR;rw[List.range_succ,List.foldl_append];rfl
theorem ze5(zs:List Zo)(n:Ls)(i:Nat)(b:Option Nat)(k:Nat):abS zs n i b k=some k\/abS zs n i b k=b:=by
 unfold abS;exact(Decidable.em _).elim (λh=>.inl (if_pos h)) (λh=>.inr (if_neg h))
theorem jg6(zs:List Zo)(n:Ls)(i:Nat):∀ m k,abR zs n i m=some k->k<m
 |0,k,h=>by cases h
 |m+1,k,h=>by
  rw [qt9] at h;rcases ze5 zs n i (abR zs n i m) m with e|e
  ·rw [e] at h;cases h;omega
  ·rw [e] at h;have:=jg6 zs n i m k h;omega
theorem zn7(f:Fo)(hf:f.Fit)(i:Nat)(hi:i<f.zones.length)(hl:f.zones.length<=100000):FnOk Tryz.prog 55 [f.V,iV i] (.d (.int .i64 (fewI (abR f.zones (f.zones.getD i default).apex i f.zones.length)))):=by
 refine qi (TT:=TT) (IN:=qd []) qe qg mixed 1000 Tryz.func55 rfl (qb Tryz.func55 (by kernel_rfl) rfl) rfl 48 (by kernel_rfl) ?_;obtain⟨x,hx⟩:∃ x,f.zones.getD i default=x:=⟨_,rfl⟩;rw[hx];conv=>whnf
 refine .inv Nat (λm=>m<=f.zones.length) (λm=>[(11,iV m),(5,.d (.int .i64 (fewI (abR f.zones x.apex i m))))]) (λm=>[]) (λm=>f.zones.length - m) ⟨0,[0],pv _,?_⟩ ?_
 ·exact rY2
 intro m hm;have hlt:=jg6 f.zones x.apex i m;have hnx:=qt9 f.zones x.apex i m;conv=>whnf
 refine⟨λh1=>?_,λh1=>?_⟩
 ·have h1:m<f.zones.length:=by
   have h:(m:Int)<f.zones.length:=px h1;omega
  have hw1:=w64s m om;obtain⟨z,hz⟩:∃ z,f.zones.getD m default=z:=⟨_,rfl⟩;have hzl:f.zones[m]? = some z:=by rw[<-hz,List.getD,pp h1];rfl
  have hza:=(hf z (ov hzl)).1;have c1:=jj6 x.apex z.apex om;rw [jt5] at c1;have c2:=qz9 z.apex;rw [jf8] at c2;unfold abS at hnx;rw [hz] at hnx;have hmi:((m:Int) != (i:Int))=(m != i):=by
   by_cases e:m=i
   ·subst e;simp
   ·rw[show(m != i)=true by simpa using e];simp;omega
  conv=>whnf
  refine⟨om,?_⟩;conv=>whnf
  rw[pr,hz];cases hme:m != i
  case false =>
   rw [hme,lx,if_neg (by decide)] at hnx;refine brF (by rw[hmi,hme]) ?_;conv=>whnf
   repeat((first|apply Fr|apply Tr);conv=>whnf)
   rw[hw1];refine⟨m+1,[0],h1,om,?_⟩;rw[hnx];conv=>whnf
   repeat'(first|exact ⟨⟩|exact rfl|exact ql _|exact .inr rfl|exact λ_ _=>rfl|exact noI|apply And.intro)
  rw [hme,p9] at hnx;refine brT (by rw[hmi,hme]) ?_;conv=>whnf
  refine⟨om,?_⟩;conv=>whnf
  rw[pr,hx];refine .data _ c1 rfl rfl ?_;cases hwi:qv x.apex z.apex
  case false =>
   rw [hwi,lx,if_neg (by decide)] at hnx;conv=>whnf
   repeat((first|apply Fr|apply Tr);conv=>whnf)
   rw[hw1];refine⟨m+1,[0],h1,om,?_⟩;rw[hnx];conv=>whnf
   repeat'(first|exact ⟨⟩|exact rfl|exact ql _|exact .inr rfl|exact λ_ _=>rfl|exact noI|apply And.intro)
  rw [hwi,p9] at hnx;conv=>whnf
  repeat((first|apply Fr|apply Tr);conv=>whnf)
  cases hb:abR f.zones x.apex i m with
  |none =>
   rw [hb,if_pos rfl] at hnx;conv=>whnf
   repeat((first|apply Fr|apply Tr);conv=>whnf)
   rw[hw1];refine⟨m+1,[0],h1,om,?_⟩;rw[hnx];conv=>whnf
   repeat'(first|exact ⟨⟩|exact rfl|exact ql _|exact .inr rfl|exact λ_ _=>rfl|exact noI|apply And.intro)
  |some y =>
   have hy:=hlt y hb;rw [hb] at hnx;obtain⟨u,hu⟩:∃ u,f.zones.getD y default=u:=⟨_,rfl⟩;have c3:=qz9 u.apex;rw [jf8] at c3;have hnx:abR f.zones x.apex i (m+1)=if decide (qu z.apex > qu (f.zones.getD y default).apex)=true then some m else some y:=hnx;rw [hu] at hnx;rw[show fewI (some y)=((y:Nat):Int) from rfl];conv=>whnf
   refine brF (po om) ?_;conv=>whnf
   refine .data _ c2 rfl rfl ?_;conv=>whnf
   refine⟨om,?_⟩;conv=>whnf
   rw[pr,hu];refine .data _ c3 rfl rfl ?_;conv=>whnf
   refine⟨λh4=>?_,λh4=>?_⟩
   ·have h4:qu z.apex > qu u.apex:=by
     have h:(qu z.apex:Int) > qu u.apex:=px h4;omega
    rw [if_pos (pn h4)] at hnx;conv=>whnf
    rw[hw1];refine⟨m+1,[0],h1,om,?_⟩;rw[hnx];conv=>whnf
    repeat'(first|exact ⟨⟩|exact rfl|exact ql _|exact .inr rfl|exact λ_ _=>rfl|exact noI|apply And.intro)
   ·have h4:¬ qu z.apex > qu u.apex:=by
     have h:¬ (qu z.apex:Int) > qu u.apex:=py h4;omega
    rw [if_neg (by rw [po h4];decide)] at hnx;conv=>whnf
    rw[hw1];refine⟨m+1,[0],h1,om,?_⟩;rw[hnx];conv=>whnf
    repeat'(first|exact ⟨⟩|exact rfl|exact ql _|exact .inr rfl|exact λ_ _=>rfl|exact noI|apply And.intro)
 ·have h1:m=f.zones.length:=by
   have h:¬ (m:Int)<f.zones.length:=py h1;omega
  rw[h1];conv=>whnf
  all_goals exact rfl
theorem zn9(z:Zo)(hz:z.Fit)(hzl:z.rrs.length<=100000)(ha:z.apex.length<=100000)(hok:z.ok=true):FnOk Tryz.prog 93 [z.V] (.d (.sl (c22 z).isEmpty (c22 z).length 1 (strs (c22 z)))):=by
 have c1:=jy8 z hz hzl ha;have c2:=ye6 z hzl ha;rw [hok] at c1;refine qi (TT:=TT) (IN:=qd []) qe qg mixed 1000 Tryz.func93 rfl (qb Tryz.func93 (by kernel_rfl) rfl) rfl 7 (by kernel_rfl) ?_;conv=>whnf
 refine oD c1 rfl rfl ?_;conv=>whnf
 repeat((first|apply Fr|apply Tr);conv=>whnf)
 refine oD c2 rfl rfl ?_;conv=>whnf
 exact⟨rfl,rfl,.inr rfl,λ_ _=>rfl⟩
def qc4(z:Zo)(n:Ls):Bool:=(c22 z).any λc=>qp c n
theorem xa5(z:Zo)(hz:z.Fit)(hzl:z.rrs.length<=100000)(ha:z.apex.length<=100000)(hok:z.ok=true)(n:Ls):FnOk Tryz.prog 54 [z.V,.d (.str n)] (.d (.bool (qc4 z n))):=by
 have c1:=zn9 z hz hzl ha hok;have hc:=zb7 z;refine qi (TT:=TT) (IN:=qd []) qe qg mixed 1000 Tryz.func54 rfl (qb Tryz.func54 (by kernel_rfl) rfl) rfl 16 (by kernel_rfl) ?_;unfold qc4;generalize c22 z=C at c1 hc ⊢;conv=>whnf
 refine oD c1 rfl rfl ?_;conv=>whnf
 refine .inv Nat (λi=>i<=C.length/\((C.take i).any λc=>qp c n)=false) (λi=>[(10,iV i)]) (λi=>[]) (λi=>C.length - i) ⟨0,[0],⟨pv _,rfl⟩,?_⟩ ?_
 ·exact rY2
 intro i hi;obtain⟨hi,hto⟩:=hi;conv=>whnf
 refine⟨λh1=>?_,λh1=>?_⟩
 ·have h1:i<C.length:=by
   have h:(i:Int)<C.length:=px h1;omega
  have hw1:=w64s i om;obtain⟨x,hx⟩:∃ x,C[i]?.getD []=x:=⟨_,rfl⟩;have hxm:C[i]? = some x:=by rw[<-hx,pp h1];rfl
  have c2:=qd6 x n;have hbad:qp x n=true->(C.any λc=>qp c n)=true:=λe=>ar.2 ⟨x,ov hxm,e⟩
  have hgo:qp x n=false->((C.take (i+1)).any λc=>qp c n)=false:=λe=>by
   rw[o3,hxm];show((C.take i++[x]).any λc=>qp c n)=false;rw[List.any_append,hto];show(false || (qp x n || false))=false;rw[e];rfl
  generalize (C.any λc=>qp c n)=K at hbad ⊢;conv=>whnf
  refine⟨om,?_⟩;conv=>whnf
  rw[pr,hx];refine oD c2 rfl rfl ?_;cases hs:qp x n with
  |true =>
   rw[hbad hs];conv=>whnf
   repeat((first|apply Fr|apply Tr);conv=>whnf)
   all_goals exact rfl
  |false =>
   conv=>whnf
   repeat((first|apply Fr|apply Tr);conv=>whnf)
   rw[hw1];refine⟨i+1,[0],⟨h1,hgo hs⟩,om,?_⟩;conv=>whnf
   repeat'(first|exact ⟨⟩|exact rfl|exact ql _|exact .inr rfl|exact λ_ _=>rfl|exact noI|apply And.intro)
 ·have h1:i=C.length:=by
   have h:¬ (i:Int)<C.length:=py h1;omega
  rw [h1,mu] at hto;rw[hto];conv=>whnf
  all_goals exact rfl
theorem yr4{n:Ls}(h:qa n):qv n [0]=true:=within_suf.2 ⟨h,by decide,by
 have e:fl [0]=[]:=by decide
 rw[e];exact List.nil_suffix⟩
def apx(zs:List Zo)(i:Nat):Ls:=(zs.getD i default).apex
def chkA(zs:List Zo)(i:Nat):Bool:=(zs.getD i default).ok && (List.range i).all λy=>!qp (apx zs y) (apx zs i)
def chkB(zs:List Zo)(i:Nat):Bool:=i == 0 || qc4 (zs.getD ((abR zs (apx zs i) i zs.length).getD 0) default) (apx zs i)
def chkH(hs:List (Int × Bool × List Int))(n i:Nat):Bool:=((List.range i).all λy=>(hs.getD y default).1 != (hs.getD i default).1) && (hs.getD i default).2.2.all λat_=>!(decide (at_<0) || decide (at_ >= (n:Int)))
def chkF(f:Fo):Bool:=decide (1<=f.zones.length) && (decide (f.zones.length<=64) && (decide (f.hosts.length<=64) && ((apx f.zones 0 == [0]) && (((List.range f.zones.length).all (chkA f.zones)) && (((List.range f.zones.length).all (chkB f.zones)) && ((List.range f.hosts.length).all (chkH f.hosts f.zones.length)))))))
theorem jq8{zs:List Zo}{n:Ls}{i:Nat}(hi:i≠0)(hw:qv n (apx zs 0)=true):∀ m,∃ k,abR zs n i (m+1)=some k
 |0=>⟨0,by
  rw[qt9];show abS zs n i none 0=some 0;unfold abS;rw[if_pos];show((0:Nat) != i && (qv n (zs.getD 0 default).apex && true))=true;rw[show qv n (zs.getD 0 default).apex=true from hw,Bool.and_true,Bool.and_true,bne_iff_ne];exact λe=>hi e.symm⟩
 |m+1=>by
  obtain⟨k,hk⟩:=jq8 hi hw m;rw[qt9,hk];rcases ze5 zs n i (some k) (m+1) with e|e
  ·exact⟨_,e⟩
  ·exact⟨_,e⟩
theorem qt8{p:Nat->Bool}{i:Nat}(h:(List.range i).all p=true)(hp:p i=true):(List.range (i+1)).all p=true:=by
 rw[List.range_succ,dn,h];show(true && (p i && true))=true;rw[hp];rfl
theorem qv1{p:Nat->Bool}{i n:Nat}(hi:i<n)(hp:p i=false):(List.range n).all p=false :=
 dx.2 ⟨i,o8.2 hi,by rw[hp];decide⟩
theorem ka0{p:Nat->Bool}{n:Nat}(h:(List.range n).all p=true){i:Nat}(hi:i<n):p i=true:=o7.1 h i (o8.2 hi)
theorem zn5(f:Fo)(hf:f.Fit)(hl:f.Len)(hr:∀ z ∈ f.zones,z.rrs.length<=100000):FnOk Tryz.prog 23 [f.V] (.d (.int .i64 (if chkF f then 0 else 2))):=by
 refine qi (TT:=TT) (IN:=qd []) qe qg mixed 1000 Tryz.func23 rfl (qb Tryz.func23 (by kernel_rfl) rfl) rfl 130 (by kernel_rfl) ?_;generalize hK:chkF f=K;unfold chkF at hK;conv=>whnf
 by_cases h1:1<=f.zones.length
 case neg =>
  rw [po h1] at hK;rw[<-show false=K from hK];refine brT (pn om) ?_;conv=>whnf
  repeat((first|apply Fr|apply Tr);conv=>whnf)
  all_goals exact rfl
 rw [pn h1] at hK;refine brF (po om) ?_;conv=>whnf
 by_cases h2:f.zones.length<=64
 case neg =>
  rw [po h2] at hK;rw[<-show false=K from hK];refine brT (pn om) ?_;conv=>whnf
  repeat((first|apply Fr|apply Tr);conv=>whnf)
  all_goals exact rfl
 rw [pn h2] at hK;refine brF (po om) ?_;conv=>whnf
 by_cases h3:f.hosts.length<=64
 case neg =>
  rw [po h3] at hK;rw[<-show false=K from hK];refine brT (pn om) ?_;conv=>whnf
  repeat((first|apply Fr|apply Tr);conv=>whnf)
  all_goals exact rfl
 rw [pn h3] at hK;refine brF (po om) ?_;conv=>whnf
 refine⟨om,?_⟩;conv=>whnf
 cases hroot:apx f.zones 0 == [0]
 case false =>
  rw [hroot] at hK;rw[<-show false=K from hK];refine brT (by show(!(apx f.zones 0 == [0]))=true;rw[hroot];rfl) ?_;conv=>whnf
  all_goals exact rfl
 rw [hroot] at hK;refine brF (by show(!(apx f.zones 0 == [0]))=false;rw[hroot];rfl) ?_;conv=>whnf
 refine .inv Nat (λi=>i<=f.zones.length/\(List.range i).all (chkA f.zones)=true) (λi=>[(42,iV i)]) (λi=>[]) (λi=>f.zones.length - i) ⟨0,[0],⟨pv _,rfl⟩,?_⟩ ?_
 ·exact rY2
 intro i hi;obtain⟨hi,hto⟩:=hi;conv=>whnf
 refine⟨λg1=>?_,λg1=>?_⟩
 ·have g1:i<f.zones.length:=by
   have h:(i:Int)<f.zones.length:=px g1;omega
  have hw1:=w64s i om;obtain⟨z,hz⟩:∃ z,f.zones.getD i default=z:=⟨_,rfl⟩;have hzl:f.zones[i]? = some z:=by rw[<-hz,List.getD,pp g1];rfl
  have hzm:=ov hzl;have c1:=jy8 z (hf z hzm).2 (hr z hzm) (hf z hzm).1;have hbad:chkA f.zones i=false->false=K:=λe=>by
   rw [qv1 g1 e] at hK;exact hK
  have hgo:chkA f.zones i=true->(List.range (i+1)).all (chkA f.zones)=true:=qt8 hto;have hA:chkA f.zones i=(z.ok && (List.range i).all λy=>!qp (apx f.zones y) z.apex):=by unfold chkA apx;rw[hz]
  generalize chkA f.zones i=A at hbad hgo hA;conv=>whnf
  refine⟨om,?_⟩;conv=>whnf
  rw[pr,hz];refine oD c1 rfl rfl ?_;cases hzo:z.ok
  case false =>
   rw [hzo] at hA;rw[<-hbad hA];conv=>whnf
   repeat((first|apply Fr|apply Tr);conv=>whnf)
   all_goals exact rfl
  rw [hzo,p9] at hA;conv=>whnf
  repeat((first|apply Fr|apply Tr);conv=>whnf)
  refine⟨om,?_⟩;conv=>whnf
  rw[show((i:Int) - 0).toNat=i by omega];refine .inv Nat (λy=>y<=i/\(List.range y).all (λy=>!qp (apx f.zones y) z.apex)=true) (λy=>[(55,iV y)]) (λy=>[]) (λy=>i - y) ⟨0,[0,1],⟨pv _,rfl⟩,?_⟩ ?_
  ·exact rY2
  intro y hy;obtain⟨hy,hty⟩:=hy;conv=>whnf
  refine⟨λg2=>?_,λg2=>?_⟩
  ·have g2:y<i:=by
    have h:(y:Int)<i:=px g2;omega
   have hw2:=w64s y om;obtain⟨u,hu⟩:∃ u,f.zones.getD y default=u:=⟨_,rfl⟩;have c2:=qd6 u.apex z.apex;have hua:apx f.zones y=u.apex:=by unfold apx;rw[hu]
   conv=>whnf
   refine⟨om,?_⟩;conv=>whnf
   rw[show Int.toNat 0+Int.toNat (y:Int)=y by omega,hu];refine oD c2 rfl rfl ?_;cases hs:qp u.apex z.apex with
   |true =>
    rw [qv1 (p:=λy=>!qp (apx f.zones y) z.apex) g2 (by show (!qp (apx f.zones y) z.apex)=false;rw [hua,hs];rfl)] at hA;rw[<-hbad hA];conv=>whnf
    repeat((first|apply Fr|apply Tr);conv=>whnf)
    all_goals exact rfl
   |false =>
    conv=>whnf
    repeat((first|apply Fr|apply Tr);conv=>whnf)
    rw[hw2];refine⟨y+1,[0,1],⟨g2,qt8 hty (by show(!qp (apx f.zones y) z.apex)=true;rw[hua,hs];rfl)⟩,om,?_⟩;conv=>whnf
    repeat'(first|exact ⟨⟩|exact rfl|exact ql _|exact .inr rfl|exact λ_ _=>rfl|exact noI|apply And.intro)
  ·have g2:y=i:=by
    have h:¬ (y:Int)<i:=py g2;omega
   rw [g2] at hty;rw [hty] at hA;conv=>whnf
   rw[hw1];refine⟨i+1,[0],⟨g1,hgo hA⟩,om,?_⟩;conv=>whnf
   repeat'(first|exact ⟨⟩|exact rfl|exact ql _|exact .inr rfl|exact λ_ _=>rfl|exact noI|apply And.intro)
 ·have g1:i=f.zones.length:=by
   have h:¬ (i:Int)<f.zones.length:=py g1;omega
  rw [g1] at hto;rw [hto,p9] at hK;clear g1 hi;conv=>whnf
  refine .inv Nat (λi=>i<=f.zones.length/\(List.range i).all (chkB f.zones)=true) (λi=>[(69,iV i)]) (λi=>[]) (λi=>f.zones.length - i) ⟨0,[0],⟨pv _,rfl⟩,?_⟩ ?_
  ·exact rY2
  intro i hi;obtain⟨hi,htb⟩:=hi;conv=>whnf
  refine⟨λg1=>?_,λg1=>?_⟩
  ·have g1:i<f.zones.length:=by
    have h:(i:Int)<f.zones.length:=px g1;omega
   have hw1:=w64s i om;obtain⟨z,hz⟩:∃ z,f.zones.getD i default=z:=⟨_,rfl⟩;have hzl:f.zones[i]? = some z:=by rw[<-hz,List.getD,pp g1];rfl
   have hza:apx f.zones i=z.apex:=by unfold apx;rw[hz]
   have hbad:chkB f.zones i=false->false=K:=λe=>by
    rw [qv1 g1 e] at hK;exact hK
   have hgo:chkB f.zones i=true->(List.range (i+1)).all (chkB f.zones)=true:=qt8 htb;conv=>whnf
   refine⟨om,?_⟩;conv=>whnf
   rw[pr,hz];by_cases h0:i=0
   ·have hB:chkB f.zones i=true:=by unfold chkB;rw[h0];rfl
    refine brF (po om) ?_;conv=>whnf
    repeat((first|apply Fr|apply Tr);conv=>whnf)
    rw[hw1];refine⟨i+1,[0],⟨g1,hgo hB⟩,om,?_⟩;conv=>whnf
    repeat'(first|exact ⟨⟩|exact rfl|exact ql _|exact .inr rfl|exact λ_ _=>rfl|exact noI|apply And.intro)
   have hcA:∀ j,j<f.zones.length->(f.zones.getD j default).ok=true/\f.zones.getD j default ∈ f.zones:=λj hj=>by
    have h:=ka0 hto hj;unfold chkA at h;simp only [p7] at h;exact⟨h.1,by rw[List.getD,pp hj];exact oz hj⟩
   have hwr:qv z.apex (apx f.zones 0)=true:=by
    rw[oy.1 hroot];exact yr4 (Zo.ok_name (by rw[<-hz];exact(hcA i g1).1))
   obtain⟨k,hk⟩:=jq8 h0 hwr (f.zones.length - 1);rw [show f.zones.length - 1+1=f.zones.length by omega] at hk;have hkl:=jg6 _ _ _ _ _ hk;obtain⟨v,hv⟩:∃ v,f.zones.getD k default=v:=⟨_,rfl⟩;have hvk:=hcA k hkl;rw [hv] at hvk;have c1:=zn7 f hf i g1 om;rw [hz,hk] at c1;have c2:=xa5 v (hf v hvk.2).2 (hr v hvk.2) (hf v hvk.2).1 hvk.1 z.apex;have hB:chkB f.zones i=qc4 v z.apex:=by
    unfold chkB;rw[hza,hk,show(i == 0)=false by simpa using h0];show(false || qc4 (f.zones.getD k default) z.apex)=_;rw[hv];rfl
   rw [hB] at hbad hgo;refine brT (pn om) ?_;conv=>whnf
   refine .data _ c1 rfl rfl ?_;conv=>whnf
   rw[show fewI (some k)=((k:Nat):Int) from rfl];refine⟨om,?_⟩;conv=>whnf
   rw[pr,hv];refine .data _ c2 rfl rfl ?_;cases hc:qc4 v z.apex with
   |true =>
    conv=>whnf
    repeat((first|apply Fr|apply Tr);conv=>whnf)
    rw[hw1];refine⟨i+1,[0],⟨g1,hgo hc⟩,om,?_⟩;conv=>whnf
    repeat'(first|exact ⟨⟩|exact rfl|exact ql _|exact .inr rfl|exact λ_ _=>rfl|exact noI|apply And.intro)
   |false =>
    rw[<-hbad hc];conv=>whnf
    repeat((first|apply Fr|apply Tr);conv=>whnf)
    all_goals exact rfl
  ·have g1:i=f.zones.length:=by
    have h:¬ (i:Int)<f.zones.length:=py g1;omega
   rw [g1] at htb;rw [htb,p9] at hK;clear g1 hi;conv=>whnf
   have hK:(List.range f.hosts.length).all (chkH f.hosts f.zones.length)=K:=hK;refine .inv Nat (λi=>i<=f.hosts.length/\(List.range i).all (chkH f.hosts f.zones.length)=true) (λi=>[(93,iV i)]) (λi=>[]) (λi=>f.hosts.length - i) ⟨0,[0],⟨pv _,rfl⟩,?_⟩ ?_
   ·exact rY2
   intro i hi;obtain⟨hi,hth⟩:=hi;conv=>whnf
   refine⟨λg1=>?_,λg1=>?_⟩
   ·have g1:i<f.hosts.length:=by
     have h:(i:Int)<f.hosts.length:=px g1;omega
    have hw1:=w64s i om;obtain⟨x,hx⟩:∃ x,f.hosts.getD i default=x:=⟨_,rfl⟩;have hxl:f.hosts[i]? = some x:=by rw[<-hx,List.getD,pp g1];rfl
    have hxz:=hl x (ov hxl);have hbad:chkH f.hosts f.zones.length i=false->false=K:=λe=>by
     rw [qv1 g1 e] at hK;exact hK
    have hgo:chkH f.hosts f.zones.length i=true->(List.range (i+1)).all (chkH f.hosts f.zones.length)=true:=qt8 hth;have hH:chkH f.hosts f.zones.length i=(((List.range i).all λy=>(f.hosts.getD y default).1 != x.1) && x.2.2.all λat_=>!(decide (at_<0) || decide (at_ >= (f.zones.length:Int)))):=by unfold chkH;rw[hx]
    generalize chkH f.hosts f.zones.length i=H at hbad hgo hH;conv=>whnf
    refine⟨om,?_⟩;conv=>whnf
    rw[pr,hx];conv=>whnf
    refine⟨om,?_⟩;conv=>whnf
    rw[show((i:Int) - 0).toNat=i by omega];refine .inv Nat (λy=>y<=i/\(List.range y).all (λy=>(f.hosts.getD y default).1 != x.1)=true) (λy=>[(103,iV y)]) (λy=>[]) (λy=>i - y) ⟨0,[0,1],⟨pv _,rfl⟩,?_⟩ ?_
    ·exact rY2
    intro y hy;obtain⟨hy,hty⟩:=hy;conv=>whnf
    refine⟨λg2=>?_,λg2=>?_⟩
    ·have g2:y<i:=by
      have h:(y:Int)<i:=px g2;omega
     have hw2:=w64s y om;obtain⟨u,hu⟩:∃ u,f.hosts.getD y default=u:=⟨_,rfl⟩;conv=>whnf
     refine⟨om,?_⟩;conv=>whnf
     rw[show Int.toNat 0+Int.toNat (y:Int)=y by omega,hu];conv=>whnf
     cases hs:u.1 == x.1 with
     |true =>
      rw [qv1 (p:=λy=>(f.hosts.getD y default).1 != x.1) g2 (by show ((f.hosts.getD y default).1 != x.1)=false;rw [hu];unfold bne;rw [hs];rfl)] at hH;rw[<-hbad hH];apply Tr;conv=>whnf
      all_goals exact rfl
     |false =>
      apply Fr;conv=>whnf
      rw[hw2];refine⟨y+1,[0,1],⟨g2,qt8 hty (by show((f.hosts.getD y default).1 != x.1)=true;rw[hu];unfold bne;rw[hs];rfl)⟩,om,?_⟩;conv=>whnf
      repeat'(first|exact ⟨⟩|exact rfl|exact ql _|exact .inr rfl|exact λ_ _=>rfl|exact noI|apply And.intro)
    ·have g2:y=i:=by
      have h:¬ (y:Int)<i:=py g2;omega
     rw [g2] at hty;rw [hty,p9] at hH;clear g2 hy;conv=>whnf
     refine .inv Nat (λj=>j<=x.2.2.length/\((x.2.2.take j).all λat_=>!(decide (at_<0) || decide (at_ >= (f.zones.length:Int))))=true) (λj=>[(116,iV j)]) (λj=>[]) (λj=>x.2.2.length - j) ⟨0,[0,1],⟨pv _,rfl⟩,?_⟩ ?_
     ·exact rY2
     intro j hj;obtain⟨hj,htj⟩:=hj;conv=>whnf
     refine⟨λg3=>?_,λg3=>?_⟩
     ·have g3:j<x.2.2.length:=by
       have h:(j:Int)<x.2.2.length:=px g3;omega
      have hw3:=w64s j om;obtain⟨a,ha⟩:∃ a,x.2.2.getD j 0=a:=⟨_,rfl⟩;have hal:x.2.2[j]? = some a:=by rw[<-ha,List.getD,pp g3];rfl
      have hno:(decide (a<0) || decide (a >= (f.zones.length:Int)))=true->false=K:=λe=>hbad (by
       rw[hH];exact dx.2 ⟨a,ov hal,by rw[e];decide⟩)
      have hyes:(decide (a<0) || decide (a >= (f.zones.length:Int)))=false->((x.2.2.take (j+1)).all λat_=>!(decide (at_<0) || decide (at_ >= (f.zones.length:Int))))=true:=λe=>by
       rw[o3,hal];show((x.2.2.take j++[a]).all _)=true;rw[dn,htj];show(true && (!(decide (a<0) || decide (a >= (f.zones.length:Int))) && true))=true;rw[e];rfl
      conv=>whnf
      refine⟨om,?_⟩;conv=>whnf
      rw[pr,ha];conv=>whnf
      cases ha0:decide (a<0) with
      |true =>
       rw[<-hno (by rw[ha0];rfl)];apply Tr;conv=>whnf
       repeat((first|apply Fr|apply Tr);conv=>whnf)
       all_goals exact rfl
      |false =>
       rw [ha0] at hno hyes;apply Fr;conv=>whnf
       cases ha1:decide (a >= (f.zones.length:Int)) with
       |true =>
        rw[<-hno (by rw[ha1];rfl)];apply Tr;conv=>whnf
        all_goals exact rfl
       |false =>
        apply Fr;conv=>whnf
        rw[hw3];refine⟨j+1,[0,1],⟨g3,hyes (by rw[ha1];rfl)⟩,om,?_⟩;conv=>whnf
        repeat'(first|exact ⟨⟩|exact rfl|exact ql _|exact .inr rfl|exact λ_ _=>rfl|exact noI|apply And.intro)
     ·have g3:j=x.2.2.length:=by
       have h:¬ (j:Int)<x.2.2.length:=py g3;omega
      rw [g3,mu] at htj;conv=>whnf
      rw[hw1];refine⟨i+1,[0],⟨g1,hgo (hH.trans htj)⟩,om,?_⟩;conv=>whnf
      repeat'(first|exact ⟨⟩|exact rfl|exact ql _|exact .inr rfl|exact λ_ _=>rfl|exact noI|apply And.intro)
   ·have g1:i=f.hosts.length:=by
     have h:¬ (i:Int)<f.hosts.length:=py g1;omega
    rw [g1] at hth;rw [hth] at hK;rw[<-hK];conv=>whnf
    all_goals exact rfl
theorem xn6(n:Ls):(fold n == [0])=(n == [0]):=by
 rw[my,oy,oy];constructor
 ·intro h;cases n with
  |nil=>cases h
  |cons a l =>
   cases l with
   |cons b m=>simp [fold] at h
   |nil =>
    have h:low a=0:=by simpa[fold] using h
    have h2:=uz a;rw [h] at h2;have h3:a.toNat=0:=by
     split at h2
     ·have:(0:UInt8).toNat=0:=rfl;omega
     ·exact h2.symm
    rw[show a=0 from UInt8.toNat_inj.1 h3]
 ·rintro rfl;rfl
theorem yl5:∀ l:List Ls,yo l=true↔l.Pairwise (·≠·)
 |[]=>⟨λ_=>.nil,λ_=>rfl⟩
 |a :: l=>by
  show(!l.contains a && yo l)=true↔_;rw[p7,yl5 l,dw,dp,List.contains_eq_mem,decide_eq_false_iff_not];exact and_congr_left λ_=>⟨λh x hx e=>h (e ▸ hx),λh hm=>h a hm rfl⟩
theorem yl6:∀ l:List Int,qa2 l=true↔l.Pairwise (·≠·)
 |[]=>⟨λ_=>.nil,λ_=>rfl⟩
 |a :: l=>by
  show(!l.contains a && qa2 l)=true↔_;rw[p7,yl6 l,dw,dp,List.contains_eq_mem,decide_eq_false_iff_not];exact and_congr_left λ_=>⟨λh x hx e=>h (e ▸ hx),λh hm=>h a hm rfl⟩
theorem w7{α:Type}[Inhabited α]{l:List α}{i:Nat}(h:i<l.length):l.getD i default=l[i]:=by rw[List.getD,pp h];rfl
theorem xp0(zs:List Zo):(List.range zs.length).all (chkA zs)=true↔(∀ z ∈ zs,z.ok=true)/\yo (zs.map λz=>fold z.apex)=true:=by
 rw[yl5,o7,List.pairwise_map,az];constructor
 ·intro h;have h':∀ i (hi:i<zs.length),zs[i].ok=true/\∀ y (hy:y<i),qp (zs[y]' om).apex zs[i].apex=false:=λi hi=>by
   have:=h i (o8.2 hi);unfold chkA apx at this;rw [w7 hi,p7,o7] at this;refine⟨this.1,λy hy=>?_⟩;have:=this.2 y (o8.2 hy);rw [w7 (show y<zs.length by omega)] at this;simpa using this
  refine⟨λz hz=>?_,λi j hi hj hij e=>?_⟩
  ·obtain⟨i,hi,rfl⟩:=mr.1 hz;exact(h' i hi).1
  ·have:=(h' j hj).2 i hij;rw [xd (Zo.ok_name (h' i hi).1) (Zo.ok_name (h' j hj).1),e,beq_self_eq_true] at this;cases this
 ·intro ⟨h1,h2⟩ i hi;have hi:=o8.1 hi;unfold chkA apx;rw[w7 hi,h1 _ (oz hi),p9,o7];intro y hy;have hy:=o8.1 hy;rw[w7 (show y<zs.length by omega),xd (Zo.ok_name (h1 _ (oz _))) (Zo.ok_name (h1 _ (oz hi))),dp,oo];exact h2 y i om hi hy
theorem xo9(hs:List (Int × Bool × List Int))(n:Nat):(List.range hs.length).all (chkH hs n)=zi n hs:=by
 unfold zi;rw[my,p7,yl6,o7,o7,List.pairwise_map,az];have hb:∀ a:Int,(!(decide (a<0) || decide (a >= (n:Int))))=(decide (0<=a) && decide (a<(n:Int))):=λa=>by
  rw[my];simp only[dp,cp,decide_eq_false_iff_not,p7,lr];omega
 constructor
 ·intro h;have h':∀ i (hi:i<hs.length),(∀ y (hy:y<i),(hs[y]' om).1≠hs[i].1)/\(hs[i].2.2.all λa=>decide (0<=a) && decide (a<(n:Int)))=true:=λi hi=>by
   have:=h i (o8.2 hi);unfold chkH at this;rw [w7 hi,p7,o7] at this;refine⟨λy hy=>?_,by simpa only[hb] using this.2⟩;have:=this.1 y (o8.2 hy);rw [w7 (show y<hs.length by omega)] at this;simpa using this
  refine⟨λi j hi hj hij=>(h' j hj).1 i hij,λx hx=>?_⟩;obtain⟨i,hi,rfl⟩:=mr.1 hx;exact(h' i hi).2
 ·intro ⟨h1,h2⟩ i hi;have hi:=o8.1 hi;unfold chkH;rw[w7 hi,p7,o7];refine⟨λy hy=>?_,by simpa only[hb] using h2 _ (oz hi)⟩;have hy:=o8.1 hy;rw[w7 (show y<hs.length by omega),bne_iff_ne];exact h1 y i om hi hy
theorem za8(zs:List Zo)(n:Ls)(i:Nat):∀ m,m<=zs.length->zn n (vp zs i m) none=(abR zs n i m).map (apx zs)
 |0,_=>rfl
 |m+1,h=>by
  have ih:=za8 zs n i m om;have hm:zs[m]? = some zs[m]:=pp om;have ha:apx zs m=zs[m].apex:=by unfold apx;rw[w7 (show m<zs.length by omega)]
  rw[jy0 hm,qt9];unfold abS;by_cases hmi:m=i
  ·rw[if_neg (by simpa using hmi),if_neg (by simp[hmi]),ih]
  ·rw[if_pos hmi,jj2,ih,show(m != i)=true by simpa using hmi,p9];show qp0 n zs[m].apex _=_;rw[<-ha];unfold qp0;show _=Option.map (apx zs) (if (qv n (apx zs m) && _)=true then some m else _);cases hw:qv n (apx zs m) with
   |false=>rfl
   |true =>
    rw[if_pos rfl,p9];cases hb:abR zs n i m with
    |none=>rfl
    |some y =>
     show(if qu (apx zs y)<qu (apx zs m) then some (apx zs m) else some (apx zs y))=Option.map (apx zs) (if decide (qu (apx zs m) > qu (apx zs y))=true then some m else some y);by_cases hc:qu (apx zs y)<qu (apx zs m)
     ·rw[if_pos hc,if_pos (pn hc)];rfl
     ·rw[if_neg hc,if_neg (by rw[po hc];decide)];rfl
theorem xl6{v:Zo}(hv:v.ok=true){n:Ls}(hn:qa n):qc4 v n=v.cutL.any λc=>fold c == fold n:=by
 unfold qc4;rw[my,ar,ar];constructor
 ·rintro ⟨c,hc,hs⟩
  obtain⟨q,hq,rfl,e2,hsu⟩:=yo6 hc;obtain⟨hw,hsm⟩:=sub_spec.1 hsu;rw [xd (ye hw).1 hn] at hs;refine⟨q.nm,?_,hs⟩;unfold Zo.cutL;exact gv.2 ⟨q,ct.2 ⟨hq,by unfold isNs;rw[e2,hsm];rfl⟩,rfl⟩
 ·rintro ⟨c,hc,he⟩
  obtain⟨q,hq,rfl,e2,hw,hsm,hqn,_⟩:=v.cutL_spec hv hc;obtain⟨c',hc',hs⟩:=yu6 hq e2 (sub_spec.2 ⟨hw,hsm⟩);have hcn:=((qq9 _).2 c' hc').2;rw [xd hcn hqn,oy] at hs;refine⟨c',hc',?_⟩;rw[xd hcn hn,hs];exact he
theorem xv8(f:Fo):chkF f=f.ok:=by
 unfold chkF Fo.ok;by_cases h1:1<=f.zones.length
 case neg=>rw[po h1];rfl
 congr 1;congr 1;congr 1;rw[show(fold (f.zones.getD 0 default).apex == [0])=(apx f.zones 0 == [0]) from xn6 _,xo9,my];simp only[p7];rw[xp0];have key:(∀ z ∈ f.zones,z.ok=true)->yo (f.zones.map λz=>fold z.apex)=true->(apx f.zones 0 == [0])=true->(List.range f.zones.length).all (chkB f.zones)=qc7 f.zones:=λhz ho hr=>by
  unfold qc7;rw[my,o7,o7];refine forall_congr' λi=>?_
  refine forall_congr' λhi=>?_
  have hi:=o8.1 hi;have hzn:=Zo.ok_name (hz _ (oz hi));have ha:(f.zones.getD i default).apex=apx f.zones i:=rfl;have han:qa (apx f.zones i):=by unfold apx;rw[w7 hi];exact hzn
  unfold chkB;by_cases h0:i=0
  ·rw[h0];exact Iff.rfl
  rw[show(i == 0)=false by simpa using h0,c9,c9];obtain⟨k,hk⟩:=jq8 (zs:=f.zones) (n:=apx f.zones i) h0 (by rw[oy.1 hr];exact yr4 han) (f.zones.length - 1);rw [show f.zones.length - 1+1=f.zones.length by omega] at hk;have hkl:=jg6 _ _ _ _ _ hk;have hd:=za8 f.zones (apx f.zones i) i f.zones.length (pu _);rw [jy9 f.zones hi,hk] at hd;have hab:v8 f.zones i (f.zones.getD i default).apex=some k:=by
   unfold v8;rw[ha,hd];show zj f.zones (fold (apx f.zones k))=some k;exact(yl0 ho (pp hkl) _).2 (by unfold apx;rw[w7 hkl])
  rw[hab,hk];show qc4 (f.zones.getD k default) (apx f.zones i)=true↔((f.zones.getD k default).cutL.any λc=>fold c == fold (apx f.zones i))=true;rw[xl6 (by rw[w7 hkl];exact hz _ (oz hkl)) han]
 constructor
 ·intro ⟨hr,⟨hz,ho⟩,hb,hh⟩;exact⟨o7.2 hz,ho,hr,by rw[<-key hz ho hr];exact hb,hh⟩
 ·intro ⟨hz,ho,hr,hb,hh⟩;have hz:=o7.1 hz;exact⟨hr,⟨hz,ho⟩,by rw[key hz ho hr];exact hb,hh⟩
theorem zn6(f:Fo)(hf:f.Fit)(hl:f.Len)(hr:∀ z ∈ f.zones,z.rrs.length<=100000):FnOk Tryz.prog 23 [f.V] (.d (.int .i64 (if f.ok then 0 else 2))):=by
 have:=zn5 f hf hl hr
 rwa [xv8] at this
theorem yc1(b:Ls)(x y z u:UInt8)(i:Nat)(h:i<b.length+4):catF b.length (je b) (qs [DV.int IntKind.u8 (x.toNat:Int),DV.int IntKind.u8 (y.toNat:Int),DV.int IntKind.u8 (z.toNat:Int),DV.int IntKind.u8 (u.toNat:Int)] 1) i=je (b++[x,y,z,u]) i:=by
 unfold catF je qw;split
 ·rename_i hl;simp[mn hl]
 ·rename_i hl;have:i=b.length\/i=b.length+1\/i=b.length+2\/i=b.length+3:=om
  rcases this with rfl|rfl|rfl|rfl <;> simp[qs,show((b.length:Int)+2).toNat=b.length+2 by omega,show((b.length:Int)+3).toNat=b.length+3 by omega]
theorem zb5(b:Ls)(x y:UInt8)(i:Nat)(h:i<b.length+1+1):catF (b.length+1) (catF b.length (je b) (qs [DV.int IntKind.u8 (x.toNat:Int)] 1)) (qs [DV.int IntKind.u8 (y.toNat:Int)] 1) i=je (b++[x,y]) i:=by
 have h1:∀ j,j<b.length+1->catF b.length (je b) (qs [DV.int IntKind.u8 (x.toNat:Int)] 1) j=je (b++[x]) j:=λj hj=>j8 b x j hj
 have h2:=j8 (b++[x]) y i (by simp;omega);rw [mp] at h2;refine Eq.trans ?_ h2;unfold catF;rw[pq];show(if i<b.length+1 then _ else _)=(if i<b.length+1 then _ else _);split
 ·rename_i h3;exact h1 i h3
 ·rfl
theorem yy8{n:Ls}{l:List Ls}(h:ja n=some l):labN n=l:=by unfold labN;rw[h];rfl
theorem ye7(n:Ls):FnOk Tryz.prog 24 [.d (.str n)] (.tup [.d (.str (ve n).1),.d (.int .i64 (ve n).2)]):=by
 refine qi (TT:=TT) (IN:=qd []) qe qg mixed 1000 Tryz.func24 rfl (qb Tryz.func24 (by kernel_rfl) rfl) rfl 73 (by kernel_rfl) ?_;conv=>whnf
 refine .one (.data _ (qa8 n) rfl (by cases ja n <;> rfl) ?_);have hin:=wy n;cases hl:ja n with
 |none =>
  have hn:¬ qa n:=λh=>by rw [hin,hl] at h;cases h
  rw[show ve n=([],2) from if_neg hn];conv=>whnf
  repeat((first|apply Fr|apply Tr);conv=>whnf)
  repeat'(first|exact ⟨⟩|exact rfl|exact λ_=>Iff.rfl|exact λ_ _=>rfl|exact renM_ent rfl _|apply And.intro)
 |some ls =>
  have hn:qa n:=hin.2 (by rw[hl];rfl);obtain⟨h1,h2,h3⟩:=y5 hn;rw [yy8 hl] at h2 h3;rw[show ve n=(txtN n,0) from if_pos hn];conv=>whnf
  repeat((first|apply Fr|apply Tr);conv=>whnf)
  by_cases h0:ls=[]
  ·have:n=[0]:=by rw[h3,h0];rfl
   rw[show txtN n=[46] by unfold txtN;rw[if_pos this]];subst h0;apply Tr;exact rY6
  have hpos:=g9.2 h0;have hn0:n≠[0]:=λe=>by
   rw [e] at hl;have:ja [0]=some []:=by decide
   rw [this] at hl;exact h0 (oq hl).symm
  rw[show txtN n=txtL ls by unfold txtN;rw[if_neg hn0,yy8 hl]];refine brF (by rw[oo];omega) ?_;conv=>whnf
  have hlen:=qy7 ls;have hml:(labs ls).length+1=n.length:=by rw[h3,<-x9,pq];rfl
  have htx:=qe2 ls h2;rw [<-h3] at htx;refine .nilT 6 5 1 (je []) _ _ rfl ?_;refine .inv Nat (λi=>i<=ls.length) (λi=>[(6,.all 0),(23,iV i)]) (λi=>[(0,.row 5 1 (txtL (ls.take i)).length .iff (je (txtL (ls.take i))))]) (λi=>ls.length - i) ⟨0,[0],pv _,?_⟩ ?_
  ·exact rY2
  intro i hi;conv=>whnf
  have htl:(txtL (ls.take i)).length<=1020:=by
   have h4:=qe2 (ls.take i) (λl h=>h2 l (lv h));have h5:(mk (ls.take i)).length<=(mk ls).length:=by
    have e1:(labs (ls.take i)).length+1=(mk (ls.take i)).length:=by rw[<-x9,pq];rfl
    have e2:(labs ls).length+1=(mk ls).length:=by rw[<-x9,pq];rfl
    have:=qy1 ls i;omega
   rw [<-h3] at h5;omega
  refine⟨λc0=>?_,λc0=>?_⟩
  ·have c0':i<ls.length:=(by have h:(i:Int)<ls.length:=px c0;omega);have hli:ls[i]? = some ls[i]:=pp c0';have hok:=h2 _ (oz c0');have hsn:=yi8 hli;have hk1:=w64s i om;conv=>whnf
   refine⟨om,?_⟩;conv=>whnf
   rw[pr,show ls[i]?.getD []=ls[i] by rw[hli];rfl];generalize ls[i]=l at hli hok hsn ⊢;generalize txtL (ls.take i)=S at htl hsn ⊢;obtain⟨ho1,ho2⟩:=hok;refine .inv Nat (λj=>j<=l.length) (λj=>[(6,.all 0),(9,iV j)]) (λj=>[(0,.row 5 1 (S++escL (l.take j)).length .iff (je (S++escL (l.take j))))]) (λj=>l.length - j) ⟨0,[0],pv _,?_⟩ ?_
   ·conv=>whnf
    rw[show S++escL (l.take 0)=S by simp[escL]]
    exact rZ2
   intro j hj;conv=>whnf
   have hel:=qm7 (l.take j);rw [o4] at hel;have hTl:(S++escL (l.take j)).length<=1300:=by rw[pq];omega
   refine⟨λc1=>?_,λc1=>?_⟩
   ·have c1':j<l.length:=(by have h:(j:Int)<l.length:=px c1;omega);have hsk:l[j]? = some l[j]:=pp c1';have hbk:qw l (j:Int)=((l[j].toNat:Nat):Int):=by rw[jl];unfold bt;rw[hsk];rfl
    have hnx:S++escL (l.take (j+1))=(S++escL (l.take j))++escB l[j]:=by rw[yo0 hsk,mp]
    have hj1:=w64s j om;generalize l[j]=c at hsk hbk hnx;generalize S++escL (l.take j)=T at hTl hnx ⊢;have hc:=c.toNat_lt;obtain⟨d1,d2,d3⟩:=zf0 c.toNat hc;conv=>whnf
    refine⟨om,?_⟩;conv=>whnf
    rw[hbk];by_cases h33:33<=c.toNat/\c.toNat<=126
    ·refine brF (po om) ?_;conv=>whnf
     refine brF (po om) ?_;conv=>whnf
     repeat((first|apply Fr|apply Tr);conv=>whnf)
     rw[show(((c.toNat:Int)) == 46)=decide (c=46) from eqc c 46];by_cases hsp:c=46\/c=92
     ·rw [show escB c=[92,c] from if_pos hsp] at hnx;by_cases h46:c=46
      ·refine brT (pn h46) ?_;conv=>whnf
       repeat((first|apply Fr|apply Tr);conv=>whnf)
       refine⟨om,?_⟩;conv=>whnf
       refine⟨om,?_⟩;conv=>whnf
       rw[hj1];refine⟨j+1,[4],c1',by show l.length - (j+1)<l.length - j;omega,?_⟩;rw[hnx];conv=>whnf
       repeat'(first|exact ⟨⟩|exact rfl|exact ql _|exact .inr rfl|exact λ_ _=>rfl|exact noI|apply And.intro)
       all_goals first
        |(show T.length+1+1=(T++[92,c]).length;simp)
        |exact λi hi=>zb5 T 92 c i hi
      ·refine brF (po h46) ?_;conv=>whnf
       rw[show(((c.toNat:Int)) == 92)=decide (c=92) from eqc c 92];refine brT (pn (hsp.resolve_left h46)) ?_;conv=>whnf
       repeat((first|apply Fr|apply Tr);conv=>whnf)
       refine⟨om,?_⟩;conv=>whnf
       refine⟨om,?_⟩;conv=>whnf
       rw[hj1];refine⟨j+1,[4],c1',by show l.length - (j+1)<l.length - j;omega,?_⟩;rw[hnx];conv=>whnf
       repeat'(first|exact ⟨⟩|exact rfl|exact ql _|exact .inr rfl|exact λ_ _=>rfl|exact noI|apply And.intro)
       all_goals first
        |(show T.length+1+1=(T++[92,c]).length;simp)
        |exact λi hi=>zb5 T 92 c i hi
     ·rw [show escB c=[c] by unfold escB;rw [if_neg hsp,if_pos h33]] at hnx;refine brF (po (λh=>hsp (.inl h))) ?_;conv=>whnf
      rw[show(((c.toNat:Int)) == 92)=decide (c=92) from eqc c 92];refine brF (po (λh=>hsp (.inr h))) ?_;conv=>whnf
      repeat((first|apply Fr|apply Tr);conv=>whnf)
      refine⟨om,?_⟩;conv=>whnf
      rw[hj1];refine⟨j+1,[2],c1',by show l.length - (j+1)<l.length - j;omega,?_⟩;rw[hnx];conv=>whnf
      repeat'(first|exact ⟨⟩|exact rfl|exact ql _|exact .inr rfl|exact λ_ _=>rfl|exact noI|apply And.intro)
      all_goals first
       |(show T.length+1=(T++[c]).length;simp)
       |exact(λi hi=>j8 T c i hi)
    ·have he:escB c=[92,UInt8.ofNat (48+c.toNat / 100),UInt8.ofNat (48+c.toNat / 10 % 10),UInt8.ofNat (48+c.toNat % 10)]:=by
      unfold escB;rw[if_neg (λh=>h33 (by rcases h with rfl|rfl <;> decide)),if_neg h33]
     rw [he] at hnx;by_cases h33':c.toNat<33
     ·refine brT (pn om) ?_;conv=>whnf
      repeat((first|apply Fr|apply Tr);conv=>whnf)
      refine⟨by decide,?_⟩;conv=>whnf
      rw[d1];refine⟨by decide,?_⟩;conv=>whnf
      refine⟨by decide,?_⟩;conv=>whnf
      rw[d2];refine⟨by decide,?_⟩;conv=>whnf
      rw[d3];refine⟨om,?_⟩;conv=>whnf
      rw[hj1];refine⟨j+1,[2],c1',by show l.length - (j+1)<l.length - j;omega,?_⟩;rw[hnx];conv=>whnf
      repeat'(first|exact ⟨⟩|exact rfl|exact ql _|exact .inr rfl|exact λ_ _=>rfl|exact noI|apply And.intro)
      all_goals first
       |(show T.length+4=(T++[92,_,_,_]).length;simp)
       |exact λi hi=>yc1 T 92 _ _ _ i hi
     ·refine brF (po om) ?_;conv=>whnf
      refine brT (pn om) ?_;conv=>whnf
      repeat((first|apply Fr|apply Tr);conv=>whnf)
      refine⟨by decide,?_⟩;conv=>whnf
      rw[d1];refine⟨by decide,?_⟩;conv=>whnf
      refine⟨by decide,?_⟩;conv=>whnf
      rw[d2];refine⟨by decide,?_⟩;conv=>whnf
      rw[d3];refine⟨om,?_⟩;conv=>whnf
      rw[hj1];refine⟨j+1,[2],c1',by show l.length - (j+1)<l.length - j;omega,?_⟩;rw[hnx];conv=>whnf
      repeat'(first|exact ⟨⟩|exact rfl|exact ql _|exact .inr rfl|exact λ_ _=>rfl|exact noI|apply And.intro)
      all_goals first
       |(show T.length+4=(T++[92,_,_,_]).length;simp)
       |exact λi hi=>yc1 T 92 _ _ _ i hi
   ·have c1':j=l.length:=(by have h:¬ (j:Int)<l.length:=py c1;omega);subst c1';rw [mu] at hTl ⊢;conv=>whnf
    refine⟨om,?_⟩;conv=>whnf
    rw[hk1];refine⟨i+1,[2],c0',by show ls.length - (i+1)<ls.length - i;omega,?_⟩;rw[hsn];conv=>whnf
    repeat'(first|exact ⟨⟩|exact rfl|exact ql _|exact .inr rfl|exact λ_ _=>rfl|exact noI|apply And.intro)
    all_goals first
     |(show(S++escL l).length+1=((S++escL l)++[46]).length;simp[Nat.add_assoc])
     |exact(λi hi=>j8 (S++escL l) 46 i hi)
  ·have c0':i=ls.length:=(by have h:¬ (i:Int)<ls.length:=py c0;omega);subst c0';rw[mu];conv=>whnf
   refine⟨λi _=>⟨_,rfl⟩,?_⟩;rw[xu];conv=>whnf
   repeat'(first|exact ⟨⟩|exact rfl|exact λ_=>Iff.rfl|exact λ_ _=>rfl|exact renM_ent rfl _|apply And.intro)
theorem yv4{m:Nat}(h:m<10):IntKind.u8.wrap (IntKind.i64.wrap (48+(m:Int)))=((48+m:Nat):Int):=by
 rw[qc _ om,gy];omega
theorem jq0:∀ (k n:Nat),n<10 ^ (k+1)->(Lib.decDigits n).length<=k+1
 |0,n,h=>by rw[Lib.decDigits,dif_pos om];simp
 |k+1,n,h=>by
  rw[Lib.decDigits];split
  ·simp
  ·rw[pq];have:=jq0 k (n / 10) (by rw [Nat.pow_succ] at h;omega);simp only[pw,mz];omega
theorem qs0:∀ n:Nat,n<4611686018427387904->FnOk Tryz.prog 26 [.d (.int .i64 n)] (.d (.str (Lib.decDigits n))):=by
 intro n;induction n using Nat.strongRecOn with
 |ind n ih =>
  intro hn;refine qi (TT:=TT) (IN:=qd []) qe qg mixed 1000 Tryz.func26 rfl (qb Tryz.func26 (by kernel_rfl) rfl) rfl 19 (by kernel_rfl) ?_;conv=>whnf
  by_cases h1:n<10
  ·refine brT (pn om) ?_;conv=>whnf
   rw[yv4 h1,Lib.decDigits,dif_pos h1];try exact rfl
  ·refine brF (po om) ?_;conv=>whnf
   refine⟨by decide,?_⟩;conv=>whnf
   rw[show IntKind.i64.wrap ((n:Int).tdiv 10)=((n / 10:Nat):Int) by rw[Int.tdiv_eq_ediv_of_nonneg om,qc _ om];omega];refine .data _ (ih (n / 10) om om) rfl rfl ?_;conv=>whnf
   refine⟨by decide,?_⟩;conv=>whnf
   rw[show(n:Int).tmod 10=((n % 10:Nat):Int) by rw[Int.tmod_eq_emod_of_nonneg om];omega,yv4 om];have hl:=jq0 18 (n / 10) om;refine⟨λi hi=>(match i,hi with|0,_=>⟨_,rfl⟩),?_⟩;conv=>whnf
   rw[show j5 1 (qs [DV.int .u8 ((48+n % 10:Nat):Int)] 1)=[UInt8.ofNat (48+n % 10)] from rfl];refine⟨by show(Lib.decDigits (n / 10)).length+1<=_;omega,?_⟩;conv=>whnf
   rw[show Lib.decDigits n=Lib.decDigits (n / 10)++[UInt8.ofNat (48+n % 10)] by rw[Lib.decDigits,dif_neg h1]];try exact rfl
theorem kc8:∀ n:Nat,n<256->IntKind.u8.wrap (((n:Nat):Int).tdiv 16)=((n / 16:Nat):Int)/\((n:Nat):Int).tmod 16=((n % 16:Nat):Int):=by decide +kernel
theorem xj5(s:Ls)(hs:s.length<=1000000):FnOk Tryz.prog 58 [.d (.str s)] (.d (.str (hexT s))):=by
 refine qi (TT:=TT) (IN:=qd []) qe qg mixed 1000 Tryz.func58 rfl (qb Tryz.func58 (by kernel_rfl) rfl) rfl 27 (by kernel_rfl) ?_;conv=>whnf
 refine⟨λh1=>?_,λh1=>?_⟩
 ·have h1:s=[]:=by simpa using h1
  subst h1;conv=>whnf
  try exact rfl
 have h1:s≠[]:=by simpa using h1
 rw[show hexT s=hexL s from if_neg h1];conv=>whnf
 have hdg:∀ n:Nat,n<16->qw (ByteArray.mk #[48,49,50,51,52,53,54,55,56,57,97,98,99,100,101,102]).data.toList ((n:Nat):Int)=((hexC n).toNat:Int):=by decide
 refine .nilT 3 5 1 (je []) _ _ rfl ?_;refine .inv Nat (λi=>i<=s.length) (λi=>[(3,.all 0),(4,iV i)]) (λi=>[(0,.row 5 1 (hexL (s.take i)).length .iff (je (hexL (s.take i))))]) (λi=>s.length - i) ⟨0,[0],pv _,?_⟩ ?_
 ·exact rY2
 intro i hi;have hlen:=qe5 (s.take i);rw [o4] at hlen;conv=>whnf
 refine⟨λc0=>?_,λc0=>?_⟩
 ·have c0':i<s.length:=(by have h:(i:Int)<s.length:=px c0;omega);have hsk:s[i]? = some s[i]:=pp c0';have hbk:qw s (i:Int)=((s[i].toNat:Nat):Int):=by rw[jl];unfold bt;rw[hsk];rfl
  have hnx:=ym9 hsk;generalize s[i]=c at hsk hbk hnx;have hc:=c.toNat_lt;have hk1:=w64s i om;obtain⟨e1,e2⟩:=kc8 c.toNat hc;conv=>whnf
  refine⟨om,?_⟩;conv=>whnf
  rw[hbk];refine⟨by decide,?_⟩;conv=>whnf
  rw[e1];refine⟨⟨om,by show((c.toNat / 16:Nat):Int)<16;omega⟩,?_⟩;conv=>whnf
  rw[hdg _ om];refine⟨om,?_⟩;conv=>whnf
  rw[hbk];refine⟨by decide,?_⟩;conv=>whnf
  rw[e2];refine⟨⟨om,by show((c.toNat % 16:Nat):Int)<16;omega⟩,?_⟩;conv=>whnf
  rw[hdg _ om];refine⟨om,?_⟩;conv=>whnf
  rw[hk1];refine⟨i+1,[2],c0',by show s.length - (i+1)<s.length - i;omega,?_⟩;rw[hnx];conv=>whnf
  repeat'(first|exact ⟨⟩|exact rfl|exact ql _|exact .inr rfl|exact λ_ _=>rfl|exact noI|apply And.intro)
  all_goals first
   |(show _+2=(_++[_,_]).length;simp)
   |exact(λi hi=>yh9 _ _ _ i hi)
 ·have c0':i=s.length:=(by have h:¬ (i:Int)<s.length:=py c0;omega);subst c0';rw[mu];conv=>whnf
  refine⟨λi _=>⟨_,rfl⟩,?_⟩;rw[xu];conv=>whnf
  try exact rfl
theorem jm0(r:RR)(h:r.In)(hd:r.d.length<=100000):FnOk Tryz.prog 25 [r.V] (.tup [.d (.str r.lineV.1),.d (.int .i64 r.lineV.2)]):=by
 refine qi (TT:=TT) (IN:=qd []) qe qg mixed 1000 Tryz.func25 rfl (qb Tryz.func25 (by kernel_rfl) rfl) rfl 38 (by kernel_rfl) ?_;conv=>whnf
 refine oD (qz8 r (gn hd (by decide))) rfl rfl ?_;cases hck:r.check with
 |false =>
  rw[show r.lineV=([],2) by unfold RR.lineV;rw[hck];rfl];conv=>whnf
  repeat((first|apply Fr|apply Tr);conv=>whnf)
  repeat'(first|exact ⟨⟩|exact rfl|exact λ_=>Iff.rfl|exact λ_ _=>rfl|exact renM_ent rfl _|apply And.intro)
 |true =>
  rw[show r.lineV=(r.line,0) by unfold RR.lineV;rw[hck];rfl];conv=>whnf
  repeat((first|apply Fr|apply Tr);conv=>whnf)
  refine oD (ye7 r.nm) rfl rfl ?_;rw[show ve r.nm=(txtN r.nm,0) from if_pos (ux hck)];have h1:=h.ty;have h2:=h.cl;have h3:=h.ttl;have e1:IntKind.i64.wrap r.ttl=((r.ttl.toNat:Nat):Int):=by rw[qc _ om];omega
  have e2:IntKind.i64.wrap r.cl=((r.cl.toNat:Nat):Int):=by rw[qc _ om];omega
  have e3:IntKind.i64.wrap r.ty=((r.ty.toNat:Nat):Int):=by rw[qc _ om];omega
  have n0:=qs7 (ux hck);have n1:=vu r.ttl.toNat om;have n2:=vu r.cl.toNat om;have n3:=vu r.ty.toNat om;have n4:=yt6 r.d;have hline:r.line=txtN r.nm++[32]++Lib.decDigits r.ttl.toNat++[32]++Lib.decDigits r.cl.toNat++[32]++Lib.decDigits r.ty.toNat++[32]++hexT r.d:=by
   unfold RR.line;simp
  have f1:=qs0 r.ttl.toNat om;have f2:=qs0 r.cl.toNat om;have f3:=qs0 r.ty.toNat om;have f4:=xj5 r.d om;generalize txtN r.nm=a0 at n0 hline ⊢;generalize Lib.decDigits r.ttl.toNat=a1 at n1 hline f1;generalize Lib.decDigits r.cl.toNat=a2 at n2 hline f2;generalize Lib.decDigits r.ty.toNat=a3 at n3 hline f3;generalize hexT r.d=a4 at n4 hline f4;rw[hline];conv=>whnf
  refine⟨by show(a0).length+1<=_;omega,?_⟩;conv=>whnf
  try rw[e1]
  refine .data _ f1 rfl rfl ?_;conv=>whnf
  refine⟨by show(a0++[32]).length+a1.length<=_;simp only[pq,pw,mz];omega,?_⟩;conv=>whnf
  refine⟨by show(a0++[32]++a1).length+1<=_;simp only[pq,pw,mz];omega,?_⟩;conv=>whnf
  try rw[e2]
  refine .data _ f2 rfl rfl ?_;conv=>whnf
  refine⟨by show(a0++[32]++a1++[32]).length+a2.length<=_;simp only[pq,pw,mz];omega,?_⟩;conv=>whnf
  refine⟨by show(a0++[32]++a1++[32]++a2).length+1<=_;simp only[pq,pw,mz];omega,?_⟩;conv=>whnf
  try rw[e3]
  refine .data _ f3 rfl rfl ?_;conv=>whnf
  refine⟨by show(a0++[32]++a1++[32]++a2++[32]).length+a3.length<=_;simp only[pq,pw,mz];omega,?_⟩;conv=>whnf
  refine⟨by show(a0++[32]++a1++[32]++a2++[32]++a3).length+1<=_;simp only[pq,pw,mz];omega,?_⟩;conv=>whnf
  refine .data _ f4 rfl rfl ?_;conv=>whnf
  refine⟨by show(a0++[32]++a1++[32]++a2++[32]++a3++[32]).length+a4.length<=_;simp only[pq,pw,mz];omega,?_⟩;conv=>whnf
  try exact⟨rfl,rfl,True.intro⟩
theorem jk8(f:Fo)(hf:f.Fit)(hi:f.In)(hr:∀ z ∈ f.zones,z.rrs.length<=100000):FnOk Tryz.prog 9 [f.V] (.tup [.d (.str (jd f).1),.d (.int .i64 (jd f).2)]):=by
 refine qi (TT:=TT) (IN:=qd []) qe qg mixed 1000 Tryz.func9 rfl (qb Tryz.func9 (by kernel_rfl) rfl) rfl 86 (by kernel_rfl) ?_;conv=>whnf
 refine oD (zn6 f hf hi.Len hr) rfl rfl ?_;cases hok:f.ok with
 |false =>
  rw[show jd f=([],2) by unfold jd;rw[hok];rfl,if_neg (by decide)];conv=>whnf
  repeat((first|apply Fr|apply Tr);conv=>whnf)
  repeat'(first|exact ⟨⟩|exact rfl|exact λ_=>Iff.rfl|exact λ_ _=>rfl|exact renM_ent rfl _|apply And.intro)
 |true =>
  have hk:=Fo.ok_f hok;have hnz:=hk.nz;have hnh:=hk.nh;rw[show jd f=(f.text,0) by unfold jd;rw[hok];rfl,if_pos rfl];conv=>whnf
  repeat((first|apply Fr|apply Tr);conv=>whnf)
  refine .inv Nat (λi=>i<=f.zones.length) (λi=>[(23,.d (.int .i64 i)),(4,.d (.str (ya (f.zones.take i))))]) (λi=>[]) (λi=>f.zones.length - i) ⟨0,[0],pv _,?_⟩ ?_
  ·exact rY6
  intro i hil;have hTl:=yc7 (l:=f.zones.take i) λz hz=>⟨hk.zone z (lv hz),hi.rr z (lv hz)⟩
  have hTk:(f.zones.take i).length<=64:=by rw[o4];omega
  obtain⟨T,hT⟩:∃ T,T=ya (f.zones.take i):=⟨_,rfl⟩;rw [<-hT] at hTl ⊢;conv=>whnf
  refine⟨λc0=>?_,λc0=>?_⟩
  ·have c0':i<f.zones.length:=(by have h:(i:Int)<f.zones.length:=px c0;omega);have hw1:=w64s i om;obtain⟨z,hz⟩:∃ z,f.zones.getD i default=z:=⟨_,rfl⟩;have hz2:f.zones[i]? = some z:=by rw[<-hz,List.getD,pp c0'];rfl
   have hzm:=ov hz2;have hzo:=hk.zone z hzm;have hzi:=hi.rr z hzm;have hn:=Zo.ok_name hzo;have hnl:=qs7 hn;have hzl:(y7 z).length<=1100:=by unfold y7;rw[pq];show 5+_<=_;omega
   have hrl:=Zo.ok_len hzo;conv=>whnf
   refine⟨om,?_⟩;conv=>whnf
   rw[pr,hz];refine oD (ye7 z.apex) rfl rfl ?_;rw[show ve z.apex=(txtN z.apex,0) from if_pos hn];conv=>whnf
   refine⟨by show 5+(txtN z.apex).length<=_;omega,?_⟩;conv=>whnf
   refine⟨by show(y7 z).length+1<=_;omega,?_⟩;conv=>whnf
   refine⟨by show T.length+(y7 z++[10]).length<=_;rw[pq];show _+(_+1)<=_;omega,?_⟩;conv=>whnf
   obtain⟨B,hB⟩:∃ B,B=T++(y7 z++[10]):=⟨_,rfl⟩;have hBl:B.length<=2400000 * 64+1101:=by rw [hB];simp only [pq,pw,mz] at hTl ⊢;omega
   refine .inv Nat (λj=>j<=z.rrs.length) (λj=>[(41,.d (.int .i64 j)),(4,.d (.str (B++jy (z.rrs.take j))))]) (λj=>[]) (λj=>z.rrs.length - j) ⟨0,[0,1],pv _,?_⟩ ?_
   ·rw[show B++jy (z.rrs.take 0)=T++(y7 z++[10]) by rw[<-hB];simp[jy]];exact rY6
   intro j hj;have hDl:=jk4 (l:=z.rrs.take j) λr hr=>qm5 (Zo.ok_rr hzo r (lv hr)) (hzi r (lv hr))
   have hDk:(z.rrs.take j).length<=256:=by rw[o4];omega
   obtain⟨D,hD⟩:∃ D,D=B++jy (z.rrs.take j):=⟨_,rfl⟩;have hDD:D.length<=B.length+2400000:=by rw[hD,pq];omega
   rw[<-hD];conv=>whnf
   refine⟨λc1=>?_,λc1=>?_⟩
   ·have c1':j<z.rrs.length:=(by have h:(j:Int)<z.rrs.length:=px c1;omega);obtain⟨r,hr⟩:∃ r,z.rrs.getD j default=r:=⟨_,rfl⟩;have hr2:z.rrs[j]? = some r:=by rw[<-hr,List.getD,pp c1'];rfl
    have hrm:=ov hr2;have hrc:=Zo.ok_rr hzo r hrm;have hri:=hzi r hrm;have hrl:=qm5 hrc hri;have htk:B++jy (z.rrs.take (j+1))=D++(r.line++[10]):=by rw[o3,hr2,hD];show B++jy (z.rrs.take j++[r])=_;rw[ya5];simp
    have hw2:=w64s j om;conv=>whnf
    refine⟨om,?_⟩;conv=>whnf
    rw[pr,hr];refine oD (jm0 r hri ((hf z hzm).2 r hrm).2) rfl rfl ?_;rw[show r.lineV=(r.line,0) by unfold RR.lineV;rw[hrc];rfl];conv=>whnf
    refine⟨by show r.line.length+1<=_;omega,?_⟩;conv=>whnf
    refine⟨by show D.length+(r.line++[10]).length<=_;rw[pq];show _+(_+1)<=_;omega,?_⟩;conv=>whnf
    rw[hw2];refine⟨j+1,[0,1],c1',om,?_⟩;rw[htk];conv=>whnf
    repeat'(first|exact ⟨⟩|exact rfl|exact λ_=>Iff.rfl|exact λ_ _=>rfl|exact renM_ent rfl _|apply And.intro)
   ·have c1':j=z.rrs.length:=(by have h:¬ (j:Int)<z.rrs.length:=py c1;omega);rw [c1',mu] at hD;have htk:ya (f.zones.take (i+1))=D:=by rw[o3,hz2,hD,hB,hT];show ya (f.zones.take i++[z])=_;rw[jz5];unfold qk0;simp
    conv=>whnf
    rw[hw1];refine⟨i+1,[0],c0',om,?_⟩;rw[htk];conv=>whnf
    repeat'(first|exact ⟨⟩|exact rfl|exact λ_=>Iff.rfl|exact λ_ _=>rfl|exact renM_ent rfl _|apply And.intro)
  ·have c0':i=f.zones.length:=(by have h:¬ (i:Int)<f.zones.length:=py c0;omega);rw [c0',mu] at hT hTk hTl;conv=>whnf
   refine .inv Nat (λi=>i<=f.hosts.length) (λi=>[(59,.d (.int .i64 i)),(4,.d (.str (T++yf (f.hosts.take i))))]) (λi=>[]) (λi=>f.hosts.length - i) ⟨0,[0],pv _,?_⟩ ?_
   ·rw[show T++yf (f.hosts.take 0)=T by simp[yf]];exact rY6
   intro i hil;have hHl:=yg2 (l:=f.hosts.take i) λa ha=>jb5 (hi.addr a (lv ha)) (λb hb=>by have:=hk.host a (lv ha) b hb;omega) (hi.len a (lv ha))
   have hHk:(f.hosts.take i).length<=64:=by rw[o4];omega
   obtain⟨H,hH⟩:∃ H,H=T++yf (f.hosts.take i):=⟨_,rfl⟩;have hHH:H.length<=T.length+47244640301 * 64:=by rw[hH,pq];omega
   rw[<-hH];conv=>whnf
   refine⟨λd0=>?_,λd0=>?_⟩
   ·have d0':i<f.hosts.length:=(by have h:(i:Int)<f.hosts.length:=px d0;omega);have hw1:=w64s i om;obtain⟨x,hx⟩:∃ x,f.hosts.getD i default=x:=⟨_,rfl⟩;have hx2:f.hosts[i]? = some x:=by rw[<-hx,List.getD,pp d0'];rfl
    have hxm:=ov hx2;have hxa:=hi.addr x hxm;have hxz:=hk.host x hxm;have hxn:=hi.len x hxm;have hxl:=jb5 hxa (λb hb=>by have:=hxz b hb;omega) hxn;obtain⟨n,hn⟩:∃ n:Nat,x.1=n:=⟨x.1.toNat,om⟩;have hnl:=vu n om;conv=>whnf
    refine⟨om,?_⟩;conv=>whnf
    rw[pr,hx];conv=>whnf
    rw[hn];rw[show IntKind.i64.wrap (n:Int)=(n:Int) from qc _ om];refine oD (qs0 n om) rfl rfl ?_;conv=>whnf
    refine⟨by show 5+(Lib.decDigits n).length<=_;omega,?_⟩;conv=>whnf
    refine⟨by show H.length+(xk++Lib.decDigits n).length<=_;rw[pq];show _+(5+_)<=_;omega,?_⟩;conv=>whnf
    obtain⟨G,hG⟩:∃ G,G=H++(xk++Lib.decDigits n):=⟨_,rfl⟩;have hGl:G.length=H.length+(5+(Lib.decDigits n).length):=by rw[hG,pq,pq];rfl
    refine .inv Nat (λj=>j<=x.2.2.length) (λj=>[(73,.d (.int .i64 j)),(4,.d (.str (G++atsT (x.2.2.take j))))]) (λj=>[]) (λj=>x.2.2.length - j) ⟨0,[0,1],pv _,?_⟩ ?_
    ·rw[show G++atsT (x.2.2.take 0)=H++(xk++Lib.decDigits n) by rw[<-hG];simp[atsT]];exact rY6
    intro j hj;have hAl:=jq6 (l:=x.2.2.take j) (λb hb=>by have:=hxz b (lv hb);omega);have hAk:(x.2.2.take j).length<=4294967296:=by rw[o4];omega
    obtain⟨E,hE⟩:∃ E,E=G++atsT (x.2.2.take j):=⟨_,rfl⟩;have hEl:E.length<=G.length+47244640300:=by rw[hE,pq];omega
    rw[<-hE];conv=>whnf
    refine⟨λe0=>?_,λe0=>?_⟩
    ·have e0':j<x.2.2.length:=(by have h:(j:Int)<x.2.2.length:=px e0;omega);have hw2:=w64s j om;obtain⟨a,ha⟩:∃ a,x.2.2.getD j 0=a:=⟨_,rfl⟩;have ha2:x.2.2[j]? = some a:=by rw[<-ha,List.getD,pp e0'];rfl
     have hab:=hxz a (ov ha2);obtain⟨m,hm⟩:∃ m:Nat,a=m:=⟨a.toNat,om⟩;have hml:=vu m om;have htk:G++atsT (x.2.2.take (j+1))=E++([32]++Lib.decDigits m):=by
      rw[o3,ha2,hE];show G++atsT (x.2.2.take j++[a])=_;rw[yp2,hm,mp];rfl
     conv=>whnf
     refine⟨om,?_⟩;conv=>whnf
     rw[pr,ha,hm];refine oD (qs0 m om) rfl rfl ?_;conv=>whnf
     refine⟨by show 1+(Lib.decDigits m).length<=_;omega,?_⟩;conv=>whnf
     refine⟨by show E.length+([32]++Lib.decDigits m).length<=_;rw[pq];show _+(1+_)<=_;omega,?_⟩;conv=>whnf
     rw[hw2];refine⟨j+1,[0,1],e0',om,?_⟩;rw[htk];conv=>whnf
     repeat'(first|exact ⟨⟩|exact rfl|exact λ_=>Iff.rfl|exact λ_ _=>rfl|exact renM_ent rfl _|apply And.intro)
    ·have e0':j=x.2.2.length:=(by have h:¬ (j:Int)<x.2.2.length:=py e0;omega);rw [e0',mu] at hE;have htk:T++yf (f.hosts.take (i+1))=E++[10]:=by
      rw[o3,hx2,hE,hG,hH];show T++yf (f.hosts.take i++[x])=_;rw[yb7];unfold yj;rw[hn,pr];simp
     conv=>whnf
     refine⟨by show E.length+1<=_;omega,?_⟩;conv=>whnf
     rw[hw1];refine⟨i+1,[0],d0',om,?_⟩;rw[htk];conv=>whnf
     repeat'(first|exact ⟨⟩|exact rfl|exact λ_=>Iff.rfl|exact λ_ _=>rfl|exact renM_ent rfl _|apply And.intro)
   ·have d0':i=f.hosts.length:=(by have h:¬ (i:Int)<f.hosts.length:=py d0;omega);rw [d0',mu] at hH;rw[show f.text=H by rw[hH,hT];rfl];exact rY6
theorem Fo.fit_sm{f:Fo}(h:f.small=true):f.Fit:=λz hz=>by
 unfold Fo.small at h;simp only [p7,o7] at h;have h1:=h.2.2 z hz;unfold k6 at h1;simp only [p7,lr,o7] at h1;exact⟨om,λr hr=>by have:=h1.2.2 r hr;omega⟩
theorem yf0(t:Ls)(hS:Short t):zt t=(nilF,6)\/∃ zs hs,zt t=(mkF zs hs,0)/\RdOk zs hs/\jd (mkF zs hs)=(t,0)/\(mkF zs hs).ok=true:=by
 by_cases h:(zt t).2=0
 ·obtain⟨zs,hs,h1,h2,h3,h4⟩:=zo6 h;exact .inr ⟨zs,hs,Prod.ext h2 h,yr6 _ _ _ _ _ .init hS h1,h3,h4⟩
 ·refine .inl ?_;unfold zt at h ⊢;cases hr:zc (t.length+1) [] [] t with
  |none=>rfl
  |some p =>
   rw [hr] at h;show(if jd (mkF p.1 p.2)=(t,0) then (mkF p.1 p.2,(0:Int)) else (nilF,6))=_;rw[if_neg];intro e;exact h (by show(if jd (mkF p.1 p.2)=(t,0) then (mkF p.1 p.2,(0:Int)) else (nilF,6)).2=0;rw[if_pos e])
theorem dg8{x:UInt8}(h1:48<=x.toNat)(h2:x.toNat<=57):IntKind.u8.wrap ((x.toNat:Int) - 48)=((x.toNat - 48:Nat):Int):=by rw[gy];omega
theorem yr7(s:Ls):FnOk Tryz.prog 63 [.d (.str s)] (.tup [.d (.int .u8 ((behB s).1.toNat:Int)),.d (.int .i64 (behB s).2)]):=by
 refine qi (TT:=TT) (IN:=qd []) qe qg mixed 1000 Tryz.func63 rfl (qb Tryz.func63 (by kernel_rfl) rfl) rfl 59 (by kernel_rfl) ?_;cases s with
 |nil =>
  conv=>whnf
  repeat((first|apply Fr|apply Tr);conv=>whnf)
  repeat'(first|exact ⟨⟩|exact rfl|exact λ_=>Iff.rfl|exact λ_ _=>rfl|exact renM_ent rfl _|apply And.intro)
 |cons c r =>
  have hc:=c.toNat_lt;conv=>whnf
  apply Fr;conv=>whnf
  have hix:(0:Int)<=0/\(0:Int)<((r.length+1:Nat):Int):=om
  have hb0:qw (c :: r) 0=(c.toNat:Int):=rfl;refine⟨hix,?_⟩;conv=>whnf
  rw[hb0];by_cases h1:48<=c.toNat
  case neg =>
   have he:behB (c :: r)=(c,1):=by
    have:j7 c=false:=by unfold j7;rw[po om]
    simp[behB,this]
   rw[he];refine brT (pn om) ?_;conv=>whnf
   repeat((first|apply Fr|apply Tr);conv=>whnf)
   refine⟨hix,?_⟩;conv=>whnf
   repeat'(first|exact ⟨⟩|exact rfl|exact λ_=>Iff.rfl|exact λ_ _=>rfl|exact renM_ent rfl _|apply And.intro)
  refine brF (po om) ?_;conv=>whnf
  refine⟨hix,?_⟩;conv=>whnf
  rw[hb0];by_cases h2:c.toNat<=57
  case neg =>
   have he:behB (c :: r)=(c,1):=by
    have:j7 c=false:=by unfold j7;rw[po om]
    simp[behB,this]
   rw[he];refine brT (pn om) ?_;conv=>whnf
   repeat((first|apply Fr|apply Tr);conv=>whnf)
   refine⟨hix,?_⟩;conv=>whnf
   repeat'(first|exact ⟨⟩|exact rfl|exact λ_=>Iff.rfl|exact λ_ _=>rfl|exact renM_ent rfl _|apply And.intro)
  refine brF (po om) ?_;conv=>whnf
  repeat((first|apply Fr|apply Tr);conv=>whnf)
  have hd:j7 c=true:=(digI c).2 ⟨om,om⟩;have hcase:r=[]\/(∃ d,r=[d])\/∃ d e q,r=d :: e :: q:=by
   match r with
   |[]=>exact .inl rfl
   |[d]=>exact .inr (.inl ⟨d,rfl⟩)
   |d :: e :: q=>exact .inr (.inr ⟨d,e,q,rfl⟩)
  rcases hcase with rfl|⟨d,rfl⟩|⟨d,e,q,rfl⟩
  ·have he:behB [c]=(0,0):=by simp[behB,hd]
   rw[he];apply Tr;conv=>whnf
   repeat((first|apply Fr|apply Tr);conv=>whnf)
   repeat'(first|exact ⟨⟩|exact rfl|exact λ_=>Iff.rfl|exact λ_ _=>rfl|exact renM_ent rfl _|apply And.intro)
  ·have he:behB [c,d]=(0,0):=by simp[behB,hd]
   rw[he];apply Tr;conv=>whnf
   repeat((first|apply Fr|apply Tr);conv=>whnf)
   repeat'(first|exact ⟨⟩|exact rfl|exact λ_=>Iff.rfl|exact λ_ _=>rfl|exact renM_ent rfl _|apply And.intro)
  have hdd:=d.toNat_lt;have hed:=e.toNat_lt;have hb1:qw (c :: d :: e :: q) 1=(d.toNat:Int):=rfl;have hb2:qw (c :: d :: e :: q) 2=(e.toNat:Int):=rfl;have hn:∀ x:UInt8,x.toNat<48\/57<x.toNat->j7 x=false:=λx hx=>by unfold j7;rw[po om]
  refine brF (po (by show ¬ ((q.length+1+1+1:Nat):Int)<3;omega)) ?_;conv=>whnf
  refine⟨by show(0:Int)<=1/\(1:Int)<((q.length+1+1+1:Nat):Int);omega,?_⟩;conv=>whnf
  rw[hb1];by_cases ld:48<=d.toNat
  case neg =>
   have he:behB (c :: d :: e :: q)=(0,0):=by simp[behB,hd,hn d om]
   rw[he];refine brT (pn om) ?_;conv=>whnf
   repeat((first|apply Fr|apply Tr);conv=>whnf)
   repeat'(first|exact ⟨⟩|exact rfl|exact λ_=>Iff.rfl|exact λ_ _=>rfl|exact renM_ent rfl _|apply And.intro)
  refine brF (po om) ?_;conv=>whnf
  refine⟨by show(0:Int)<=1/\(1:Int)<((q.length+1+1+1:Nat):Int);omega,?_⟩;conv=>whnf
  rw[hb1];by_cases ud:d.toNat<=57
  case neg =>
   have he:behB (c :: d :: e :: q)=(0,0):=by simp[behB,hd,hn d om]
   rw[he];refine brT (pn om) ?_;conv=>whnf
   repeat((first|apply Fr|apply Tr);conv=>whnf)
   repeat'(first|exact ⟨⟩|exact rfl|exact λ_=>Iff.rfl|exact λ_ _=>rfl|exact renM_ent rfl _|apply And.intro)
  refine brF (po om) ?_;conv=>whnf
  have hdd1:j7 d=true:=(digI d).2 ⟨om,om⟩;refine⟨by show(0:Int)<=2/\(2:Int)<((q.length+1+1+1:Nat):Int);omega,?_⟩;conv=>whnf
  rw[hb2];by_cases le:48<=e.toNat
  case neg =>
   have he:behB (c :: d :: e :: q)=(0,0):=by simp[behB,hd,hdd1,hn e om]
   rw[he];refine brT (pn om) ?_;conv=>whnf
   repeat((first|apply Fr|apply Tr);conv=>whnf)
   repeat'(first|exact ⟨⟩|exact rfl|exact λ_=>Iff.rfl|exact λ_ _=>rfl|exact renM_ent rfl _|apply And.intro)
  refine brF (po om) ?_;conv=>whnf
  refine⟨by show(0:Int)<=2/\(2:Int)<((q.length+1+1+1:Nat):Int);omega,?_⟩;conv=>whnf
  rw[hb2];by_cases ue:e.toNat<=57
  case neg =>
   have he:behB (c :: d :: e :: q)=(0,0):=by simp[behB,hd,hdd1,hn e om]
   rw[he];refine brT (pn om) ?_;conv=>whnf
   repeat((first|apply Fr|apply Tr);conv=>whnf)
   repeat'(first|exact ⟨⟩|exact rfl|exact λ_=>Iff.rfl|exact λ_ _=>rfl|exact renM_ent rfl _|apply And.intro)
  refine brF (po om) ?_;conv=>whnf
  have hed1:j7 e=true:=(digI e).2 ⟨om,om⟩;repeat((first|apply Fr|apply Tr);conv=>whnf)
  refine⟨by show(0:Int)<=0/\(0:Int)<((q.length+1+1+1:Nat):Int);omega,?_⟩;conv=>whnf
  rw[hb0];refine⟨by show(0:Int)<=1/\(1:Int)<((q.length+1+1+1:Nat):Int);omega,?_⟩;conv=>whnf
  rw[hb1];refine⟨by show(0:Int)<=2/\(2:Int)<((q.length+1+1+1:Nat):Int);omega,?_⟩;conv=>whnf
  rw[hb2];rw[dg8 h1 h2,dg8 ld ud,dg8 le ue,qc (((c.toNat - 48:Nat):Int)) om,qc (((d.toNat - 48:Nat):Int)) om,qc (((e.toNat - 48:Nat):Int)) om,qc (100 * ((c.toNat - 48:Nat):Int)) om,qc (10 * ((d.toNat - 48:Nat):Int)) om,qc (100 * ((c.toNat - 48:Nat):Int)+10 * ((d.toNat - 48:Nat):Int)) om,qc _ om];rw[show 100 * ((c.toNat - 48:Nat):Int)+10 * ((d.toNat - 48:Nat):Int)+((e.toNat - 48:Nat):Int)=((100 * (c.toNat - 48)+10 * (d.toNat - 48)+(e.toNat - 48):Nat):Int) by omega];have hbe:behB (c :: d :: e :: q)=if 100 * (c.toNat - 48)+10 * (d.toNat - 48)+(e.toNat - 48)<=255 then (UInt8.ofNat (100 * (c.toNat - 48)+10 * (d.toNat - 48)+(e.toNat - 48)),3) else (0,0):=by simp only[behB,hd,hdd1,hed1,if_true]
  rw[hbe];generalize 100 * (c.toNat - 48)+10 * (d.toNat - 48)+(e.toNat - 48)=N;by_cases hN2:N<=255
  ·rw[if_pos hN2];refine brF (po om) ?_;conv=>whnf
   rw[w8n om]
   exact rZ6
  ·rw[if_neg hN2];refine brT (pn om) ?_;exact rY6
theorem qi4:∀ (m:Nat) (r l:Ls) (ls k:List Ls),(∀ x ∈ ls,x≠[])->tcut m r l ls=some k->∀ x ∈ k,x≠[]
 |0,_,_,_,_,_,h=>by cases h
 |m+1,[],l,ls,k,hl,h=>by
  simp only [tcut] at h;split at h
  ·split at h
   ·cases h
   ·cases h;exact hl
  ·rename_i h2;cases h;intro x hx;rcases ow.1 hx with hx|hx
   ·exact hl x hx
   ·simp only [m9] at hx;rw[hx];exact h2
 |m+1,c :: r,l,ls,k,hl,h=>by
  simp only [tcut] at h;split at h
  ·split at h
   ·cases h
   ·rename_i h2;refine qi4 m _ _ _ _ (λx hx=>?_) h;rcases ow.1 hx with hx|hx
    ·exact hl x hx
    ·simp only [m9] at hx;rw[hx];exact h2
  ·split at h
   ·split at h
    ·cases h
    ·exact qi4 m _ _ _ _ hl h
   ·split at h
    ·exact qi4 m _ _ _ _ hl h
    ·cases h
def k8:Option (List Ls)->Ls × Int
 |none=>([],6)
 |some ls=>if ls.all okB=true/\(mk ls).length<=255 then (mk ls,0) else ([],7)
structure PaSt where
 at_:Nat
 l:Ls
 ls:List Ls
 m:Nat
def PaSt.v(x:PaSt):SV:=match x.l with
 |[]=>nilS
 |_ :: _=>.all 1
def PaSt.b(x:PaSt):KB:=match x.l with
 |[]=>.gone
 |c :: l=>.row 5 1 (l.length+1) .iff (je (c :: l))
theorem rZ14{p:Prop}(h:p:=by repeat'(first|exact ⟨⟩|exact rfl|exact ql _|exact .inr rfl|exact λ_ _=>rfl|exact noI|apply And.intro|(show ls.length+1=(ls++[p0 :: l0]).length;simp)|exact zh ls _ _ rfl)):p:=h
theorem rY14{p:Prop}(h:p:=by (conv=>whnf);repeat'(first|exact ⟨⟩|exact rfl|exact ql _|exact .inr rfl|exact λ_ _=>rfl|exact noI|apply And.intro|(show ls.length+1=(ls++[p0 :: l0]).length;simp)|exact zh ls _ _ rfl)):p:=h
theorem jk9(s:Ls):FnOk Tryz.prog 30 [.d (.str s)] (.tup [.d (.str (jb s).1),.d (.int .i64 (jb s).2)]):=by
 refine qi (TT:=TT) (IN:=qd []) qe qg mixed 1000 Tryz.func30 rfl (qb Tryz.func30 (by kernel_rfl) rfl) rfl 91 (by kernel_rfl) ?_;conv=>whnf
 refine⟨λh1=>?_,λh1=>?_⟩
 ·have h1:s.length > 2048:=by have:=px h1;omega
  rw[show jb s=([],7) by unfold jb;rw[if_pos h1]];exact rY6
 have h1:¬ s.length > 2048:=by have:=py h1;omega
 conv=>whnf
 refine⟨λh2=>?_,λh2=>?_⟩
 ·have h2:s=[46]:=by simpa using h2
  rw[show jb s=([0],0) by unfold jb;rw[if_neg h1,if_pos h2]];exact rY6
 have h2:s≠[46]:=by simpa using h2
 have he:jb s=k8 (tcut (s.length+1) s [] []):=by unfold jb k8;rw[if_neg h1,if_neg h2];try rfl
 rw[he];clear he h2;conv=>whnf
 refine .nilT 4 9 1 (strs []) _ _ rfl ?_;refine .pad ?_;generalize hY:tcut (s.length+1) s [] []=Y;refine .inv PaSt (λx=>x.at_<=s.length/\s.length<x.at_+x.m/\x.l.length+x.ls.length<=x.at_/\(∀ y ∈ x.ls,y≠[])/\tcut x.m (s.drop x.at_) x.l x.ls=Y) (λx=>[(4,.all 0),(5,x.v),(6,iV x.at_)]) (λx=>[(0,.row 9 1 x.ls.length .iff (strs x.ls)),(1,x.b)]) (λx=>s.length - x.at_) ⟨⟨0,[],[],s.length+1⟩,[0,1],⟨pv _,by show s.length<0+(s.length+1);omega,pv _,λy hy=>(by cases hy),hY⟩,?_⟩ ?_
 ·exact rY2
 intro x hx;obtain⟨hk,hm,hll,hne,hrest⟩:=hx;show qa3 _ _ _ [(4,.all 0),(5,x.v),(6,iV x.at_)] [(0,.row 9 1 x.ls.length .iff (strs x.ls)),(1,x.b)] _;rcases hxl:x.l with _|⟨p0,l0⟩
 ·rw[show x.v=nilS by unfold PaSt.v;rw[hxl],show x.b = .gone by unfold PaSt.b;rw[hxl]];rw [hxl] at hll hrest;conv=>whnf
  generalize x.at_=k at hk hm hll hrest ⊢;generalize x.ls=ls at hll hrest hne ⊢;generalize x.m=m at hm hrest ⊢;obtain⟨m',rfl⟩:∃ m',m=m'+1:=⟨m - 1,om⟩;refine⟨λc0=>?_,λc0=>?_⟩
  ·have c0':k<s.length:=(by have h:(k:Int)<s.length:=px c0;omega);have hsk:s[k]? = some s[k]:=pp c0';have hdr:s.drop k=s[k] :: s.drop (k+1):=lu c0';rw [hdr] at hrest;have hbk:qw s (k:Int)=((s[k].toNat:Nat):Int):=by rw[jl];unfold bt;rw[hsk];rfl
   generalize s[k]=c at hsk hdr hrest hbk;have hc:=c.toNat_lt;have hk1:=w64s k om;simp only [tcut] at hrest;conv=>whnf
   refine ⟨by first|omega|(simp only [pw] at hll;omega),?_⟩;conv=>whnf
   rw[hbk,hk1];by_cases h46:c=46
   ·subst h46;rw [if_pos rfl] at hrest;apply Tr;conv=>whnf
    first
     |(
      rw [if_pos trivial] at hrest;rw[<-hrest];apply Tr;conv=>whnf
      exact⟨rfl,rfl,True.intro⟩)
     |(
      rw [if_neg (List.cons_ne_nil _ _)] at hrest;simp only [pw] at hll;refine brF (by rw[oo];omega) ?_;conv=>whnf
      refine⟨λi _=>⟨_,rfl⟩,?_⟩;have hbf:=xu (p0 :: l0);rw [pw] at hbf;rw[hbf];conv=>whnf
      refine⟨om,?_⟩;conv=>whnf
      refine⟨⟨k+1,[],ls++[p0 :: l0],m'⟩,[3,0],⟨c0',by show s.length<k+1+m';omega,by show 0+(ls++[_]).length<=k+1;rw[pq];show 0+(ls.length+1)<=_;omega,λy hy=>?_,hrest⟩,by show s.length - (k+1)<s.length - k;omega,?_⟩
      ·rcases ow.1 hy with hy|hy
       ·exact hne y hy
       ·simp only [m9] at hy;rw[hy];exact List.cons_ne_nil _ _
      conv=>whnf
      repeat'(first|exact ⟨⟩|exact rfl|exact ql _|exact .inr rfl|exact λ_ _=>rfl|exact noI|apply And.intro|(show ls.length+1=(ls++[p0 :: l0]).length;simp)|exact zh ls _ _ rfl))
   have he46:(((c.toNat:Nat):Int) == 46)=false:=by rw[oo];intro h;exact h46 (UInt8.toNat_inj.1 (by show c.toNat=46;omega))
   rw [if_neg h46] at hrest;refine brF he46 ?_;conv=>whnf
   by_cases h92:c=92
   ·subst h92;rw [if_pos rfl] at hrest;apply Tr;conv=>whnf
    refine ⟨by first|omega|(simp only [pw] at hll;omega),?_⟩;conv=>whnf
    rw[qb3];generalize hdd:s.drop (k+1)=r at hrest;have hrl:r.length=s.length - (k+1):=by rw[<-hdd,ou]
    refine oD (yr7 r) rfl rfl ?_;have hb2:(behB r).2<=r.length:=jf0 r;generalize hbh:behB r=b at hrest hb2;obtain⟨b1,b2⟩:=b;conv=>whnf
    by_cases hb0:b2=0
    ·subst hb0;rw [if_pos rfl] at hrest;rw[<-hrest];apply Tr;exact rY6
    rw [if_neg hb0] at hrest;refine brF (by rw[oo];show((b2:Nat):Int)≠0;omega) ?_;conv=>whnf
    refine ⟨by first|omega|(simp only [pw] at hll;omega),?_⟩;conv=>whnf
    have hw2:IntKind.i64.wrap (((k+1:Nat):Int)+((b2:Nat):Int))=((k+1+b2:Nat):Int):=by rw[qc _ om];omega
    rw[hw2];have hr2:r.drop b2=s.drop (k+1+b2):=by rw[<-hdd,gx]
    rw [show (b1,b2).2=b2 from rfl,show (b1,b2).1=b1 from rfl,hr2] at hrest;first
     |(
      refine ⟨⟨k+1+b2,[]++[b1],ls,m'⟩,[0,3],⟨by show k+1+b2<=s.length;first|omega|(have:b2<=r.length:=hb2;omega),by show s.length<k+1+b2+m';omega,by show ([]++[b1]).length+ls.length<=k+1+b2;rw [pq];simp only [pw,mz] at hll ⊢;omega,hne,hrest⟩,by show s.length - (k+1+b2)<s.length - k;omega,?_⟩;conv=>whnf
      repeat'(first|exact ⟨⟩|exact rfl|exact ql _|exact .inr rfl|exact λ_ _=>rfl|exact noI|apply And.intro)
      all_goals first
       |(show _=([]++[b1]).length;simp)
       |exact(λi hi=>j8 [] b1 i hi)
       |(
        intro i hi;have:i=0:=om
        subst this;rfl)
       |(
        intro i hi;have h3:=j8 (p0 :: l0) b1 i (by simp only[pw];exact hi);exact h3))
     |(
      refine ⟨⟨k+1+b2,(p0 :: l0)++[b1],ls,m'⟩,[0,3],⟨by show k+1+b2<=s.length;first|omega|(have:b2<=r.length:=hb2;omega),by show s.length<k+1+b2+m';omega,by show ((p0 :: l0)++[b1]).length+ls.length<=k+1+b2;rw [pq];simp only [pw,mz] at hll ⊢;omega,hne,hrest⟩,by show s.length - (k+1+b2)<s.length - k;omega,?_⟩;conv=>whnf
      repeat'(first|exact ⟨⟩|exact rfl|exact ql _|exact .inr rfl|exact λ_ _=>rfl|exact noI|apply And.intro)
      all_goals first
       |(show _=((p0 :: l0)++[b1]).length;simp)
       |exact(λi hi=>j8 (p0 :: l0) b1 i hi)
       |(
        intro i hi;have:i=0:=om
        subst this;rfl)
       |(
        intro i hi;have h3:=j8 (p0 :: l0) b1 i (by simp only[pw];exact hi);exact h3))
   have he92:(((c.toNat:Nat):Int) == 92)=false:=by rw[oo];intro h;exact h92 (UInt8.toNat_inj.1 (by show c.toNat=92;omega))
   rw [if_neg h92] at hrest;refine brF he92 ?_;conv=>whnf
   by_cases h33:33<=c.toNat/\c.toNat<=126
   ·rw [if_pos h33] at hrest;refine brF (po om) ?_;conv=>whnf
    refine brF (po om) ?_;conv=>whnf
    repeat((first|apply Fr|apply Tr);conv=>whnf)
    refine ⟨by first|omega|(simp only [pw] at hll;omega),?_⟩;conv=>whnf
    first
     |(
      refine ⟨⟨k+1,[]++[c],ls,m'⟩,[0,3],⟨by show k+1<=s.length;first|omega|(have:b2<=r.length:=hb2;omega),by show s.length<k+1+m';omega,by show ([]++[c]).length+ls.length<=k+1;rw [pq];simp only [pw,mz] at hll ⊢;omega,hne,hrest⟩,by show s.length - (k+1)<s.length - k;omega,?_⟩;conv=>whnf
      repeat'(first|exact ⟨⟩|exact rfl|exact ql _|exact .inr rfl|exact λ_ _=>rfl|exact noI|apply And.intro)
      all_goals first
       |(show _=([]++[c]).length;simp)
       |exact(λi hi=>j8 [] c i hi)
       |(
        intro i hi;have:i=0:=om
        subst this;rfl)
       |(
        intro i hi;have h3:=j8 (p0 :: l0) c i (by simp only[pw];exact hi);exact h3))
     |(
      refine ⟨⟨k+1,(p0 :: l0)++[c],ls,m'⟩,[0,3],⟨by show k+1<=s.length;first|omega|(have:b2<=r.length:=hb2;omega),by show s.length<k+1+m';omega,by show ((p0 :: l0)++[c]).length+ls.length<=k+1;rw [pq];simp only [pw,mz] at hll ⊢;omega,hne,hrest⟩,by show s.length - (k+1)<s.length - k;omega,?_⟩;conv=>whnf
      repeat'(first|exact ⟨⟩|exact rfl|exact ql _|exact .inr rfl|exact λ_ _=>rfl|exact noI|apply And.intro)
      all_goals first
       |(show _=((p0 :: l0)++[c]).length;simp)
       |exact(λi hi=>j8 (p0 :: l0) c i hi)
       |(
        intro i hi;have:i=0:=om
        subst this;rfl)
       |(
        intro i hi;have h3:=j8 (p0 :: l0) c i (by simp only[pw];exact hi);exact h3))
   ·rw [if_neg h33] at hrest;rw[<-hrest];by_cases h33':c.toNat<33
    ·refine brT (pn om) ?_;conv=>whnf
     repeat((first|apply Fr|apply Tr);conv=>whnf)
     repeat'(first|exact ⟨⟩|exact rfl|exact λ_=>Iff.rfl|exact λ_ _=>rfl|exact renM_ent rfl _|apply And.intro)
    ·refine brF (po om) ?_;conv=>whnf
     refine brT (pn om) ?_;conv=>whnf
     repeat((first|apply Fr|apply Tr);conv=>whnf)
     repeat'(first|exact ⟨⟩|exact rfl|exact λ_=>Iff.rfl|exact λ_ _=>rfl|exact renM_ent rfl _|apply And.intro)
  ·have c0':k=s.length:=(by have h:¬ (k:Int)<s.length:=py c0;omega);subst c0';rw [f8] at hrest;simp only [tcut] at hrest;conv=>whnf
   first
    |(
     rw [if_pos trivial] at hrest;apply Fr;conv=>whnf
     by_cases hls:ls=[]
     ·rw [if_pos hls] at hrest;subst hls;rw[<-hrest];apply Tr;conv=>whnf
      exact⟨rfl,rfl,True.intro⟩
     rw [if_neg hls] at hrest;have hpos:=g9.2 hls;refine brF (by rw[oo];omega) ?_;conv=>whnf
     rw[<-hrest];have hLn:∀ y ∈ (ls),y≠[]:=qi4 _ _ _ _ _ (λy hy=>by cases hy) (hY.trans hrest.symm);refine .inv Nat (λi=>i<=(ls).length/\∀ y ∈ (ls).take i,okL y) (λi=>[(78,iV i)]) (λi=>[(0,.row 9 1 (ls).length .iff (strs (ls)))]) (λi=>(ls).length - i) ⟨0,[0,1],⟨pv _,λy hy=>by simp at hy⟩,?_⟩ ?_
     ·exact rY2
     obtain⟨LL,hLL⟩:∃ q,q=ls:=⟨_,rfl⟩;rw [<-hLL] at hLn ⊢;have hln:LL.length=ls.length:=by rw[hLL];try simp
     have hLlen:LL.length<=5000:=by rw[hLL];omega
     intro i hi;obtain⟨hi,hok⟩:=hi;conv=>whnf
     refine⟨λc1=>?_,λc1=>?_⟩
     ·have c1':i<LL.length:=(by have h:(i:Int)<((ls.length:Nat):Int):=px (by first|exact c1|(rw[<-hln];exact c1));omega);have hi1:=w64s i om;have hsk:LL[i]? = some LL[i]:=pp c1';have hmem:=oz c1';have htk:LL.take (i+1)=LL.take i++[LL[i]]:=by rw[o3,hsk];rfl
      conv=>whnf
      refine⟨om,?_⟩;conv=>whnf
      rw[pr,show LL[i]?.getD []=LL[i] by rw[hsk];rfl];generalize LL[i]=y at hsk hmem htk ⊢;have hy1:1<=y.length:=g9.2 (hLn y hmem);by_cases hy:y.length<=63
      ·refine brF (po om) ?_;conv=>whnf
       rw[hi1];refine⟨i+1,[0,1],⟨c1',λu hu=>?_⟩,om,?_⟩
       ·rw [htk] at hu;rcases ow.1 hu with hu|hu
        ·exact hok u hu
        ·simp only [m9] at hu;rw[hu];exact⟨hy1,hy⟩
       exact rY2
      ·rw[show k8 (some LL)=([],7) from if_neg (λh=>by have:=(all_ok.1 h.1 y hmem).2;omega)];refine brT (pn om) ?_;conv=>whnf
       exact⟨rfl,rfl,True.intro⟩
     ·have c1':i=LL.length:=(by have h:¬ (i:Int)<((ls.length:Nat):Int):=py (by first|exact c1|(rw[<-hln];exact c1));omega);rw [gr om] at hok;have hall:=all_ok.2 hok;have hml:=qr6 hok;have hmk:(labs LL).length+1=(mk LL).length:=by rw[<-x9,pq];rfl
      conv=>whnf
      refine .one (.look (r:=.d (.str (mk LL))) ?_ rfl ?_)
      ·conv=>whnf
       exact⟨qr9 _ LL om (λu hu=>by have:=(hok u hu).2;omega),rfl⟩
      conv=>whnf
      by_cases hm2:(mk LL).length<=255
      ·rw[show k8 (some LL)=(mk LL,0) from if_pos ⟨hall,hm2⟩];refine brF (po om) ?_;conv=>whnf
       exact⟨rfl,rfl,True.intro⟩
      ·rw[show k8 (some LL)=([],7) from if_neg (λh=>hm2 h.2)];refine brT (pn om) ?_;conv=>whnf
       exact⟨rfl,rfl,True.intro⟩)
    |(
     rw [if_neg (List.cons_ne_nil _ _)] at hrest;simp only [pw] at hll;refine brT (pn om) ?_;conv=>whnf
     refine⟨λi _=>⟨_,rfl⟩,?_⟩;have hbf:=xu (p0 :: l0);rw [pw] at hbf;rw[hbf];conv=>whnf
     refine⟨om,?_⟩;conv=>whnf
     refine brF (by rw[oo];omega) ?_;conv=>whnf
     rw[<-hrest];have hLn:∀ y ∈ (ls++[p0 :: l0]),y≠[]:=qi4 _ _ _ _ _ (λy hy=>by cases hy) (hY.trans hrest.symm);refine .inv Nat (λi=>i<=(ls++[p0 :: l0]).length/\∀ y ∈ (ls++[p0 :: l0]).take i,okL y) (λi=>[(78,iV i)]) (λi=>[(3,.row 9 1 (ls++[p0 :: l0]).length .iff (strs (ls++[p0 :: l0])))]) (λi=>(ls++[p0 :: l0]).length - i) ⟨0,[0,1,2,3],⟨pv _,λy hy=>by simp at hy⟩,?_⟩ ?_
     ·exact rY14
     obtain⟨LL,hLL⟩:∃ q,q=ls++[p0 :: l0]:=⟨_,rfl⟩;rw [<-hLL] at hLn ⊢;have hln:LL.length=ls.length+1:=by rw[hLL];try simp
     have hLlen:LL.length<=5000:=by rw[hLL];rw[pq];show ls.length+1<=_;omega
     intro i hi;obtain⟨hi,hok⟩:=hi;conv=>whnf
     refine⟨λc1=>?_,λc1=>?_⟩
     ·have c1':i<LL.length:=(by have h:(i:Int)<((ls.length+1:Nat):Int):=px (by first|exact c1|(rw[<-hln];exact c1));omega);have hi1:=w64s i om;have hsk:LL[i]? = some LL[i]:=pp c1';have hmem:=oz c1';have htk:LL.take (i+1)=LL.take i++[LL[i]]:=by rw[o3,hsk];rfl
      conv=>whnf
      refine⟨om,?_⟩;conv=>whnf
      rw[pr,show LL[i]?.getD []=LL[i] by rw[hsk];rfl];generalize LL[i]=y at hsk hmem htk ⊢;have hy1:1<=y.length:=g9.2 (hLn y hmem);by_cases hy:y.length<=63
      ·refine brF (po om) ?_;conv=>whnf
       rw[hi1];refine⟨i+1,[0,1,2,3],⟨c1',λu hu=>?_⟩,om,?_⟩
       ·rw [htk] at hu;rcases ow.1 hu with hu|hu
        ·exact hok u hu
        ·simp only [m9] at hu;rw[hu];exact⟨hy1,hy⟩
       exact rY2
      ·rw[show k8 (some LL)=([],7) from if_neg (λh=>by have:=(all_ok.1 h.1 y hmem).2;omega)];refine brT (pn om) ?_;conv=>whnf
       exact⟨rfl,rfl,True.intro⟩
     ·have c1':i=LL.length:=(by have h:¬ (i:Int)<((ls.length+1:Nat):Int):=py (by first|exact c1|(rw[<-hln];exact c1));omega);rw [gr om] at hok;have hall:=all_ok.2 hok;have hml:=qr6 hok;have hmk:(labs LL).length+1=(mk LL).length:=by rw[<-x9,pq];rfl
      conv=>whnf
      refine .one (.look (r:=.d (.str (mk LL))) ?_ rfl ?_)
      ·conv=>whnf
       exact⟨qr9 _ LL om (λu hu=>by have:=(hok u hu).2;omega),rfl⟩
      conv=>whnf
      by_cases hm2:(mk LL).length<=255
      ·rw[show k8 (some LL)=(mk LL,0) from if_pos ⟨hall,hm2⟩];refine brF (po om) ?_;conv=>whnf
       exact⟨rfl,rfl,True.intro⟩
      ·rw[show k8 (some LL)=([],7) from if_neg (λh=>hm2 h.2)];refine brT (pn om) ?_;conv=>whnf
       exact⟨rfl,rfl,True.intro⟩)
 ·rw[show x.v = .all 1 by unfold PaSt.v;rw[hxl],show x.b = .row 5 1 (l0.length+1) .iff (je (p0 :: l0)) by unfold PaSt.b;rw[hxl]];rw [hxl] at hll hrest;conv=>whnf
  generalize x.at_=k at hk hm hll hrest ⊢;generalize x.ls=ls at hll hrest hne ⊢;generalize x.m=m at hm hrest ⊢;obtain⟨m',rfl⟩:∃ m',m=m'+1:=⟨m - 1,om⟩;refine⟨λc0=>?_,λc0=>?_⟩
  ·have c0':k<s.length:=(by have h:(k:Int)<s.length:=px c0;omega);have hsk:s[k]? = some s[k]:=pp c0';have hdr:s.drop k=s[k] :: s.drop (k+1):=lu c0';rw [hdr] at hrest;have hbk:qw s (k:Int)=((s[k].toNat:Nat):Int):=by rw[jl];unfold bt;rw[hsk];rfl
   generalize s[k]=c at hsk hdr hrest hbk;have hc:=c.toNat_lt;have hk1:=w64s k om;simp only [tcut] at hrest;conv=>whnf
   refine ⟨by first|omega|(simp only [pw] at hll;omega),?_⟩;conv=>whnf
   rw[hbk,hk1];by_cases h46:c=46
   ·subst h46;rw [if_pos rfl] at hrest;apply Tr;conv=>whnf
    first
     |(
      rw [if_pos trivial] at hrest;rw[<-hrest];apply Tr;conv=>whnf
      exact⟨rfl,rfl,True.intro⟩)
     |(
      rw [if_neg (List.cons_ne_nil _ _)] at hrest;simp only [pw] at hll;refine brF (by rw[oo];omega) ?_;conv=>whnf
      refine⟨λi _=>⟨_,rfl⟩,?_⟩;have hbf:=xu (p0 :: l0);rw [pw] at hbf;rw[hbf];conv=>whnf
      refine⟨om,?_⟩;conv=>whnf
      refine⟨⟨k+1,[],ls++[p0 :: l0],m'⟩,[3,0],⟨c0',by show s.length<k+1+m';omega,by show 0+(ls++[_]).length<=k+1;rw[pq];show 0+(ls.length+1)<=_;omega,λy hy=>?_,hrest⟩,by show s.length - (k+1)<s.length - k;omega,?_⟩
      ·rcases ow.1 hy with hy|hy
       ·exact hne y hy
       ·simp only [m9] at hy;rw[hy];exact List.cons_ne_nil _ _
      conv=>whnf
      repeat'(first|exact ⟨⟩|exact rfl|exact ql _|exact .inr rfl|exact λ_ _=>rfl|exact noI|apply And.intro|(show ls.length+1=(ls++[p0 :: l0]).length;simp)|exact zh ls _ _ rfl))
   have he46:(((c.toNat:Nat):Int) == 46)=false:=by rw[oo];intro h;exact h46 (UInt8.toNat_inj.1 (by show c.toNat=46;omega))
   rw [if_neg h46] at hrest;refine brF he46 ?_;conv=>whnf
   by_cases h92:c=92
   ·subst h92;rw [if_pos rfl] at hrest;apply Tr;conv=>whnf
    refine ⟨by first|omega|(simp only [pw] at hll;omega),?_⟩;conv=>whnf
    rw[qb3];generalize hdd:s.drop (k+1)=r at hrest;have hrl:r.length=s.length - (k+1):=by rw[<-hdd,ou]
    refine oD (yr7 r) rfl rfl ?_;have hb2:(behB r).2<=r.length:=jf0 r;generalize hbh:behB r=b at hrest hb2;obtain⟨b1,b2⟩:=b;conv=>whnf
    by_cases hb0:b2=0
    ·subst hb0;rw [if_pos rfl] at hrest;rw[<-hrest];apply Tr;exact rY6
    rw [if_neg hb0] at hrest;refine brF (by rw[oo];show((b2:Nat):Int)≠0;omega) ?_;conv=>whnf
    refine ⟨by first|omega|(simp only [pw] at hll;omega),?_⟩;conv=>whnf
    have hw2:IntKind.i64.wrap (((k+1:Nat):Int)+((b2:Nat):Int))=((k+1+b2:Nat):Int):=by rw[qc _ om];omega
    rw[hw2];have hr2:r.drop b2=s.drop (k+1+b2):=by rw[<-hdd,gx]
    rw [show (b1,b2).2=b2 from rfl,show (b1,b2).1=b1 from rfl,hr2] at hrest;first
     |(
      refine ⟨⟨k+1+b2,[]++[b1],ls,m'⟩,[0,3],⟨by show k+1+b2<=s.length;first|omega|(have:b2<=r.length:=hb2;omega),by show s.length<k+1+b2+m';omega,by show ([]++[b1]).length+ls.length<=k+1+b2;rw [pq];simp only [pw,mz] at hll ⊢;omega,hne,hrest⟩,by show s.length - (k+1+b2)<s.length - k;omega,?_⟩;conv=>whnf
      repeat'(first|exact ⟨⟩|exact rfl|exact ql _|exact .inr rfl|exact λ_ _=>rfl|exact noI|apply And.intro)
      all_goals first
       |(show _=([]++[b1]).length;simp)
       |exact(λi hi=>j8 [] b1 i hi)
       |(
        intro i hi;have:i=0:=om
        subst this;rfl)
       |(
        intro i hi;have h3:=j8 (p0 :: l0) b1 i (by simp only[pw];exact hi);exact h3))
     |(
      refine ⟨⟨k+1+b2,(p0 :: l0)++[b1],ls,m'⟩,[0,3],⟨by show k+1+b2<=s.length;first|omega|(have:b2<=r.length:=hb2;omega),by show s.length<k+1+b2+m';omega,by show ((p0 :: l0)++[b1]).length+ls.length<=k+1+b2;rw [pq];simp only [pw,mz] at hll ⊢;omega,hne,hrest⟩,by show s.length - (k+1+b2)<s.length - k;omega,?_⟩;conv=>whnf
      repeat'(first|exact ⟨⟩|exact rfl|exact ql _|exact .inr rfl|exact λ_ _=>rfl|exact noI|apply And.intro)
      all_goals first
       |(show _=((p0 :: l0)++[b1]).length;simp)
       |exact(λi hi=>j8 (p0 :: l0) b1 i hi)
       |(
        intro i hi;have:i=0:=om
        subst this;rfl)
       |(
        intro i hi;have h3:=j8 (p0 :: l0) b1 i (by simp only[pw];exact hi);exact h3))
   have he92:(((c.toNat:Nat):Int) == 92)=false:=by rw[oo];intro h;exact h92 (UInt8.toNat_inj.1 (by show c.toNat=92;omega))
   rw [if_neg h92] at hrest;refine brF he92 ?_;conv=>whnf
   by_cases h33:33<=c.toNat/\c.toNat<=126
   ·rw [if_pos h33] at hrest;refine brF (po om) ?_;conv=>whnf
    refine brF (po om) ?_;conv=>whnf
    repeat((first|apply Fr|apply Tr);conv=>whnf)
    refine ⟨by first|omega|(simp only [pw] at hll;omega),?_⟩;conv=>whnf
    first
     |(
      refine ⟨⟨k+1,[]++[c],ls,m'⟩,[0,3],⟨by show k+1<=s.length;first|omega|(have:b2<=r.length:=hb2;omega),by show s.length<k+1+m';omega,by show ([]++[c]).length+ls.length<=k+1;rw [pq];simp only [pw,mz] at hll ⊢;omega,hne,hrest⟩,by show s.length - (k+1)<s.length - k;omega,?_⟩;conv=>whnf
      repeat'(first|exact ⟨⟩|exact rfl|exact ql _|exact .inr rfl|exact λ_ _=>rfl|exact noI|apply And.intro)
      all_goals first
       |(show _=([]++[c]).length;simp)
       |exact(λi hi=>j8 [] c i hi)
       |(
        intro i hi;have:i=0:=om
        subst this;rfl)
       |(
        intro i hi;have h3:=j8 (p0 :: l0) c i (by simp only[pw];exact hi);exact h3))
     |(
      refine ⟨⟨k+1,(p0 :: l0)++[c],ls,m'⟩,[0,3],⟨by show k+1<=s.length;first|omega|(have:b2<=r.length:=hb2;omega),by show s.length<k+1+m';omega,by show ((p0 :: l0)++[c]).length+ls.length<=k+1;rw [pq];simp only [pw,mz] at hll ⊢;omega,hne,hrest⟩,by show s.length - (k+1)<s.length - k;omega,?_⟩;conv=>whnf
      repeat'(first|exact ⟨⟩|exact rfl|exact ql _|exact .inr rfl|exact λ_ _=>rfl|exact noI|apply And.intro)
      all_goals first
       |(show _=((p0 :: l0)++[c]).length;simp)
       |exact(λi hi=>j8 (p0 :: l0) c i hi)
       |(
        intro i hi;have:i=0:=om
        subst this;rfl)
       |(
        intro i hi;have h3:=j8 (p0 :: l0) c i (by simp only[pw];exact hi);exact h3))
   ·rw [if_neg h33] at hrest;rw[<-hrest];by_cases h33':c.toNat<33
    ·refine brT (pn om) ?_;conv=>whnf
     repeat((first|apply Fr|apply Tr);conv=>whnf)
     repeat'(first|exact ⟨⟩|exact rfl|exact λ_=>Iff.rfl|exact λ_ _=>rfl|exact renM_ent rfl _|apply And.intro)
    ·refine brF (po om) ?_;conv=>whnf
     refine brT (pn om) ?_;conv=>whnf
     repeat((first|apply Fr|apply Tr);conv=>whnf)
     repeat'(first|exact ⟨⟩|exact rfl|exact λ_=>Iff.rfl|exact λ_ _=>rfl|exact renM_ent rfl _|apply And.intro)
  ·have c0':k=s.length:=(by have h:¬ (k:Int)<s.length:=py c0;omega);subst c0';rw [f8] at hrest;simp only [tcut] at hrest;conv=>whnf
   first
    |(
     rw [if_pos trivial] at hrest;apply Fr;conv=>whnf
     by_cases hls:ls=[]
     ·rw [if_pos hls] at hrest;subst hls;rw[<-hrest];apply Tr;conv=>whnf
      exact⟨rfl,rfl,True.intro⟩
     rw [if_neg hls] at hrest;have hpos:=g9.2 hls;refine brF (by rw[oo];omega) ?_;conv=>whnf
     rw[<-hrest];have hLn:∀ y ∈ (ls),y≠[]:=qi4 _ _ _ _ _ (λy hy=>by cases hy) (hY.trans hrest.symm);refine .inv Nat (λi=>i<=(ls).length/\∀ y ∈ (ls).take i,okL y) (λi=>[(78,iV i)]) (λi=>[(0,.row 9 1 (ls).length .iff (strs (ls)))]) (λi=>(ls).length - i) ⟨0,[0,1],⟨pv _,λy hy=>by simp at hy⟩,?_⟩ ?_
     ·exact rY2
     obtain⟨LL,hLL⟩:∃ q,q=ls:=⟨_,rfl⟩;rw [<-hLL] at hLn ⊢;have hln:LL.length=ls.length:=by rw[hLL];try simp
     have hLlen:LL.length<=5000:=by rw[hLL];omega
     intro i hi;obtain⟨hi,hok⟩:=hi;conv=>whnf
     refine⟨λc1=>?_,λc1=>?_⟩
     ·have c1':i<LL.length:=(by have h:(i:Int)<((ls.length:Nat):Int):=px (by first|exact c1|(rw[<-hln];exact c1));omega);have hi1:=w64s i om;have hsk:LL[i]? = some LL[i]:=pp c1';have hmem:=oz c1';have htk:LL.take (i+1)=LL.take i++[LL[i]]:=by rw[o3,hsk];rfl
      conv=>whnf
      refine⟨om,?_⟩;conv=>whnf
      rw[pr,show LL[i]?.getD []=LL[i] by rw[hsk];rfl];generalize LL[i]=y at hsk hmem htk ⊢;have hy1:1<=y.length:=g9.2 (hLn y hmem);by_cases hy:y.length<=63
      ·refine brF (po om) ?_;conv=>whnf
       rw[hi1];refine⟨i+1,[0,1],⟨c1',λu hu=>?_⟩,om,?_⟩
       ·rw [htk] at hu;rcases ow.1 hu with hu|hu
        ·exact hok u hu
        ·simp only [m9] at hu;rw[hu];exact⟨hy1,hy⟩
       exact rY2
      ·rw[show k8 (some LL)=([],7) from if_neg (λh=>by have:=(all_ok.1 h.1 y hmem).2;omega)];refine brT (pn om) ?_;conv=>whnf
       exact⟨rfl,rfl,True.intro⟩
     ·have c1':i=LL.length:=(by have h:¬ (i:Int)<((ls.length:Nat):Int):=py (by first|exact c1|(rw[<-hln];exact c1));omega);rw [gr om] at hok;have hall:=all_ok.2 hok;have hml:=qr6 hok;have hmk:(labs LL).length+1=(mk LL).length:=by rw[<-x9,pq];rfl
      conv=>whnf
      refine .one (.look (r:=.d (.str (mk LL))) ?_ rfl ?_)
      ·conv=>whnf
       exact⟨qr9 _ LL om (λu hu=>by have:=(hok u hu).2;omega),rfl⟩
      conv=>whnf
      by_cases hm2:(mk LL).length<=255
      ·rw[show k8 (some LL)=(mk LL,0) from if_pos ⟨hall,hm2⟩];refine brF (po om) ?_;conv=>whnf
       exact⟨rfl,rfl,True.intro⟩
      ·rw[show k8 (some LL)=([],7) from if_neg (λh=>hm2 h.2)];refine brT (pn om) ?_;conv=>whnf
       exact⟨rfl,rfl,True.intro⟩)
    |(
     rw [if_neg (List.cons_ne_nil _ _)] at hrest;simp only [pw] at hll;refine brT (pn om) ?_;conv=>whnf
     refine⟨λi _=>⟨_,rfl⟩,?_⟩;have hbf:=xu (p0 :: l0);rw [pw] at hbf;rw[hbf];conv=>whnf
     refine⟨om,?_⟩;conv=>whnf
     refine brF (by rw[oo];omega) ?_;conv=>whnf
     rw[<-hrest];have hLn:∀ y ∈ (ls++[p0 :: l0]),y≠[]:=qi4 _ _ _ _ _ (λy hy=>by cases hy) (hY.trans hrest.symm);refine .inv Nat (λi=>i<=(ls++[p0 :: l0]).length/\∀ y ∈ (ls++[p0 :: l0]).take i,okL y) (λi=>[(78,iV i)]) (λi=>[(3,.row 9 1 (ls++[p0 :: l0]).length .iff (strs (ls++[p0 :: l0])))]) (λi=>(ls++[p0 :: l0]).length - i) ⟨0,[0,1,2,3],⟨pv _,λy hy=>by simp at hy⟩,?_⟩ ?_
     ·exact rY14
     obtain⟨LL,hLL⟩:∃ q,q=ls++[p0 :: l0]:=⟨_,rfl⟩;rw [<-hLL] at hLn ⊢;have hln:LL.length=ls.length+1:=by rw[hLL];try simp
     have hLlen:LL.length<=5000:=by rw[hLL];rw[pq];show ls.length+1<=_;omega
     intro i hi;obtain⟨hi,hok⟩:=hi;conv=>whnf
     refine⟨λc1=>?_,λc1=>?_⟩
     ·have c1':i<LL.length:=(by have h:(i:Int)<((ls.length+1:Nat):Int):=px (by first|exact c1|(rw[<-hln];exact c1));omega);have hi1:=w64s i om;have hsk:LL[i]? = some LL[i]:=pp c1';have hmem:=oz c1';have htk:LL.take (i+1)=LL.take i++[LL[i]]:=by rw[o3,hsk];rfl
      conv=>whnf
      refine⟨om,?_⟩;conv=>whnf
      rw[pr,show LL[i]?.getD []=LL[i] by rw[hsk];rfl];generalize LL[i]=y at hsk hmem htk ⊢;have hy1:1<=y.length:=g9.2 (hLn y hmem);by_cases hy:y.length<=63
      ·refine brF (po om) ?_;conv=>whnf
       rw[hi1];refine⟨i+1,[0,1,2,3],⟨c1',λu hu=>?_⟩,om,?_⟩
       ·rw [htk] at hu;rcases ow.1 hu with hu|hu
        ·exact hok u hu
        ·simp only [m9] at hu;rw[hu];exact⟨hy1,hy⟩
       exact rY2
      ·rw[show k8 (some LL)=([],7) from if_neg (λh=>by have:=(all_ok.1 h.1 y hmem).2;omega)];refine brT (pn om) ?_;conv=>whnf
       exact⟨rfl,rfl,True.intro⟩
     ·have c1':i=LL.length:=(by have h:¬ (i:Int)<((ls.length+1:Nat):Int):=py (by first|exact c1|(rw[<-hln];exact c1));omega);rw [gr om] at hok;have hall:=all_ok.2 hok;have hml:=qr6 hok;have hmk:(labs LL).length+1=(mk LL).length:=by rw[<-x9,pq];rfl
      conv=>whnf
      refine .one (.look (r:=.d (.str (mk LL))) ?_ rfl ?_)
      ·conv=>whnf
       exact⟨qr9 _ LL om (λu hu=>by have:=(hok u hu).2;omega),rfl⟩
      conv=>whnf
      by_cases hm2:(mk LL).length<=255
      ·rw[show k8 (some LL)=(mk LL,0) from if_pos ⟨hall,hm2⟩];refine brF (po om) ?_;conv=>whnf
       exact⟨rfl,rfl,True.intro⟩
      ·rw[show k8 (some LL)=([],7) from if_neg (λh=>hm2 h.2)];refine brT (pn om) ?_;conv=>whnf
       exact⟨rfl,rfl,True.intro⟩)
def qa4(n:Nat):Nat:=if 97<=n then (n+9) % 16 else n % 16
theorem xz1:∀ n:Nat,n<256->(97<=n->(IntKind.u8.wrap (IntKind.u8.wrap (((n:Nat):Int) - 97)+10)).tmod 16=((qa4 n:Nat):Int))/\(n<97->(IntKind.u8.wrap (((n:Nat):Int) - 48)).tmod 16=((qa4 n:Nat):Int)):=by decide +kernel
theorem yz6(c:UInt8):FnOk Tryz.prog 101 [.d (.int .u8 (c.toNat:Int))] (.d (.int .u8 (qa4 c.toNat:Nat))):=by
 refine qi (TT:=TT) (IN:=qd []) qe qg mixed 1000 Tryz.func101 rfl (qb Tryz.func101 (by kernel_rfl) rfl) rfl 11 (by kernel_rfl) ?_;obtain⟨h1,h2⟩:=xz1 c.toNat c.toNat_lt;conv=>whnf
 by_cases h:97<=c.toNat
 ·refine brT (pn om) ?_;conv=>whnf
  refine⟨by decide,?_⟩;conv=>whnf
  exact congrArg (DV.int IntKind.u8) (h1 h)
 ·refine brF (po om) ?_;conv=>whnf
  refine⟨by decide,?_⟩;conv=>whnf
  exact congrArg (DV.int IntKind.u8) (h2 om)
def unhF:Ls->Ls
 |a :: b :: r=>UInt8.ofNat (16 * qa4 a.toNat+qa4 b.toNat) :: unhF r
 |_=>[]
def unhR(s:Ls):Ls:=if s.length % 2≠0 then [] else unhF s
theorem yt9:∀ n,n<16->qa4 (hexC n).toNat=n:=by decide
theorem yq1:∀ s:Ls,unhF (hexL s)=s
 |[]=>rfl
 |c :: s=>by
  simp only[hexL,unhF];rw[yt9 _ (by have:=c.toNat_lt;omega),yt9 _ om,yq1 s,show 16 * (c.toNat / 16)+c.toNat % 16=c.toNat by omega];simp
theorem yz7(n:Nat):qa4 n<16:=by unfold qa4;split <;> omega
theorem xk6{i j:Nat}(hi:i<16)(hj:j<16):IntKind.u8.wrap (IntKind.u8.wrap ((i:Int) * 16)+(j:Int))=((UInt8.ofNat (16 * i+j)).toNat:Int):=by
 rw[qq5 om,gy,gy];omega
structure UnSt where
 i:Nat
 b:Ls
theorem zt0(s:Ls)(hs:s.length<=1000000):FnOk Tryz.prog 65 [.d (.str s)] (.d (.str (unhR s))):=by
 refine qi (TT:=TT) (IN:=qd []) qe qg mixed 1000 Tryz.func65 rfl (qb Tryz.func65 (by kernel_rfl) rfl) rfl 30 (by kernel_rfl) ?_;conv=>whnf
 refine⟨by decide,?_⟩;conv=>whnf
 by_cases h3:s.length % 2=0
 case neg =>
  rw[show unhR s=[] from if_pos h3];refine brT (by rw[bne_iff_ne];show((s.length:Int)).tmod 2≠0;rw[Int.tmod_eq_emod_of_nonneg om];omega) ?_;conv=>whnf
  try exact rfl
 refine brF (by rw[bne_eq_false_iff_eq];show((s.length:Int)).tmod 2=0;rw[Int.tmod_eq_emod_of_nonneg om];omega) ?_;rw[show unhR s=unhF s from if_neg (λh=>h h3)];conv=>whnf
 refine .nilT 3 5 1 (je []) _ _ rfl ?_;refine .inv UnSt (λx=>x.i<=s.length/\x.i=2 * x.b.length/\x.b++unhF (s.drop x.i)=unhF s) (λx=>[(3,.all 0),(4,iV x.i)]) (λx=>[(0,.row 5 1 x.b.length .iff (je x.b))]) (λx=>s.length - x.i) ⟨⟨0,[]⟩,[0],⟨pv _,rfl,rfl⟩,?_⟩ ?_
 ·exact rY2
 intro x hx;obtain⟨hk,hm,hrest⟩:=hx;conv=>whnf
 generalize x.i=i at hk hm hrest ⊢;generalize x.b=b at hm hrest ⊢;generalize unhF s=Y at hrest ⊢;refine⟨λc0=>?_,λc0=>?_⟩
 ·have c0':i<s.length:=(by have h:(i:Int)<s.length:=px c0;omega);have c1':i+1<s.length:=om
  have hs0:s[i]? = some s[i]:=pp c0';have hs1:s[i+1]? = some s[i+1]:=pp c1';have hd0:s.drop i=s[i] :: s[i+1] :: s.drop (i+2):=by rw[lu c0',lu c1']
  have hb0:qw s (i:Int)=((s[i].toNat:Nat):Int):=by rw[jl];unfold bt;rw[hs0];rfl
  have hb1:qw s ((i+1:Nat):Int)=((s[i+1].toNat:Nat):Int):=by rw[jl];unfold bt;rw[hs1];rfl
  generalize s[i]=p at hs0 hd0 hb0;generalize s[i+1]=q at hs1 hd0 hb1;have hk1:=w64s i om;have hk2:IntKind.i64.wrap ((i:Int)+2)=((i+2:Nat):Int):=by rw[qc _ om];omega
  rw [hd0] at hrest;simp only [unhF] at hrest;conv=>whnf
  refine⟨om,?_⟩;conv=>whnf
  rw[hb0];refine .data _ (yz6 p) rfl rfl ?_;conv=>whnf
  rw[hk1];refine⟨om,?_⟩;conv=>whnf
  rw[hb1];refine .data _ (yz6 q) rfl rfl ?_;conv=>whnf
  rw[xk6 (yz7 _) (yz7 _)];refine⟨om,?_⟩;conv=>whnf
  rw[hk2];refine⟨⟨i+2,b++[UInt8.ofNat (16 * qa4 p.toNat+qa4 q.toNat)]⟩,[2],⟨by show i+2<=s.length;omega,by show i+2=2 * (b++[_]).length;rw[pq];show i+2=2 * (b.length+1);omega,by rw[<-hrest];show(b++[_])++_=_;rw[mp];rfl⟩,by show s.length - (i+2)<s.length - i;omega,?_⟩;conv=>whnf
  repeat'(first|exact ⟨⟩|exact rfl|exact ql _|exact .inr rfl|exact λ_ _=>rfl|exact noI|apply And.intro)
  all_goals first
   |(show b.length+1=(b++[_]).length;simp)
   |exact(λj hj=>j8 b _ j hj)
 ·have c0':i=s.length:=(by have h:¬ (i:Int)<s.length:=py c0;omega);rw [c0',f8] at hrest;simp only [unhF,m6] at hrest;rw[<-hrest];conv=>whnf
  refine⟨λi _=>⟨_,rfl⟩,?_⟩;rw[xu];conv=>whnf
  try exact rfl
def vF:Nat->Ls->Nat
 |n,[]=>n
 |n,c :: r=>vF (10 * n+(c.toNat+208) % 256 % 10) r
def vW(s:Ls):Nat:=vF 0 (s.take 17)
theorem jq9(c:UInt8):∀ (l:Ls) (n:Nat),vF n (l++[c])=10 * vF n l+(c.toNat+208) % 256 % 10
 |[],n=>rfl
 |a :: l,n=>jq9 c l _
theorem ze8:∀ (l:Ls) (k n:Nat),n<10 ^ k->vF n l<10 ^ (k+l.length)
 |[],k,n,h=>h
 |c :: l,k,n,h=>by
  have:=ze8 l (k+1) (10 * n+(c.toNat+208) % 256 % 10) (by rw[Nat.pow_succ];omega);rw[pw,show k+(l.length+1)=k+1+l.length by omega];exact this
theorem xw9:∀ n:Nat,vF 0 (Lib.decDigits n)=n:=by
 intro n;induction n using Nat.strongRecOn with
 |ind n ih =>
  have hd:∀ k,k<10->((UInt8.ofNat (48+k)).toNat+208) % 256 % 10=k:=by decide
  rw[Lib.decDigits];split
  ·rename_i h;show 10 * 0+_=n;rw[hd n h];omega
  ·rw[jq9,ih (n / 10) om,hd _ om];omega
theorem qv3{n:Nat}(h:n<10000000000):vW (Lib.decDigits n)=n:=by
 unfold vW;rw[gr (by have:=jq0 9 n h;omega)];exact xw9 n
theorem ka6:∀ n:Nat,n<256->IntKind.i64.wrap ((IntKind.u8.wrap (((n:Nat):Int) - 48)).tmod 10)=(((n+208) % 256 % 10:Nat):Int):=by decide +kernel
theorem qi8(s:Ls)(hs:s.length<=1000000):FnOk Tryz.prog 31 [.d (.str s)] (.d (.int .i64 (vW s:Nat))):=by
 refine qi (TT:=TT) (IN:=qd []) qe qg mixed 1000 Tryz.func31 rfl (qb Tryz.func31 (by kernel_rfl) rfl) rfl 24 (by kernel_rfl) ?_;conv=>whnf
 refine .inv Nat (λi=>i<=s.length/\i<=17) (λi=>[(3,iV (vF 0 (s.take i))),(4,iV i)]) (λ_=>[]) (λi=>s.length - i) ⟨0,[],⟨pv _,om⟩,?_⟩ ?_
 ·exact rY6
 intro i hi;obtain⟨hi,hi17⟩:=hi;conv=>whnf
 have hv:=ze8 (s.take i) 0 0 (by decide);have hp:10 ^ (0+(s.take i).length)<=10 ^ 17:=Nat.pow_le_pow_right (by decide) (by rw[o4];omega);by_cases c0:i<s.length
 ·refine brT (pn om) ?_;conv=>whnf
  by_cases c1:i<17
  ·refine brT (pn (by show(i:Int)<17;omega)) ?_;have hsk:s[i]? = some s[i]:=pp c0;have hbk:qw s (i:Int)=((s[i].toNat:Nat):Int):=by rw[jl];unfold bt;rw[hsk];rfl
   have htk:s.take (i+1)=s.take i++[s[i]]:=by rw[o3,hsk];rfl
   generalize s[i]=c at hsk hbk htk;have hk1:=w64s i om;have hcd:=ka6 c.toNat c.toNat_lt;conv=>whnf
   refine⟨om,?_⟩;conv=>whnf
   rw[hbk];refine⟨by decide,?_⟩;conv=>whnf
   rw[hk1,hcd,show IntKind.i64.wrap (IntKind.i64.wrap (10 * ((vF 0 (s.take i):Nat):Int))+(((c.toNat+208) % 256 % 10:Nat):Int))=((vF 0 (s.take (i+1)):Nat):Int) by
    rw[htk,jq9,qc (10 * ((vF 0 (s.take i):Nat):Int)) om,qc _ om];omega]
   refine⟨i+1,[],⟨c0,c1⟩,om,?_⟩;exact rY6
  ·refine brF (po (by show ¬ (i:Int)<17;omega)) ?_;conv=>whnf
   rw[show vW s=vF 0 (s.take i) by unfold vW;rw[show i=17 by omega]];try exact rfl
 ·refine brF (po om) ?_;conv=>whnf
  repeat((first|apply Fr|apply Tr);conv=>whnf)
  rw[show vW s=vF 0 (s.take i) by unfold vW;rw[gr om,gr om]];try exact rfl
def spl:Ls->List Ls
 |[]=>[[]]
 |c :: r=>if c=32 then [] :: spl r else (match spl r with
  |[]=>[[c]]
  |x :: l=>(c :: x) :: l)
theorem zc5:∀ s:Ls,spl s≠[]
 |[]=>by simp[spl]
 |c :: r=>by
  simp only[spl];split
  ·simp
  ·split <;> simp
theorem qv5:∀ s:Ls,(∀ b ∈ s,b≠32)->spl s=[s]
 |[],_=>rfl
 |c :: r,h=>by
  simp only[spl];rw[if_neg (h c sm),qv5 r (λb hb=>h b (by simp[hb]))]
theorem qb5:∀ (x y:Ls),(∀ b ∈ x,b≠32)->spl (x++32 :: y)=x :: spl y
 |[],y,_=>by simp[spl]
 |c :: x,y,h=>by
  simp only[gz,spl];rw[if_neg (h c sm),qb5 x y (λb hb=>h b (by simp[hb]))]
structure WdSt where
 l:List Ls
 from_:Nat
 i:Nat
theorem jn5(s:Ls)(hs:s.length<=1000000):FnOk Tryz.prog 29 [.d (.str s)] (.d (.sl false (spl s).length 1 (strs (spl s)))):=by
 refine qi (TT:=TT) (IN:=qd []) qe qg mixed 1000 Tryz.func29 rfl (qb Tryz.func29 (by kernel_rfl) rfl) rfl 32 (by kernel_rfl) ?_;conv=>whnf
 refine .csT 3 0 9 1 (λ_=>[]) rfl rfl ?_;refine .inv WdSt (λx=>x.i<=s.length+1/\x.from_<=x.i/\x.l.length<=x.i/\((x.i<=s.length/\(∀ j,x.from_<=j->j<x.i->s[j]?≠some 32)/\x.l++spl (s.drop x.from_)=spl s)\/(x.i=s.length+1/\x.l=spl s))) (λx=>[(3,.all 1),(4,iV x.from_),(5,iV x.i)]) (λx=>[(1,.row 9 1 x.l.length .no (strs x.l))]) (λx=>s.length+1 - x.i) ⟨⟨[],0,0⟩,[0,1],⟨pv _,pu _,pu _,.inl ⟨pv _,λj _ h=>absurd h (fw _),rfl⟩⟩,?_⟩ ?_
 ·exact rY2
 intro x hx;obtain⟨hi,hf,hl,hc⟩:=hx;conv=>whnf
 generalize x.i=i at hi hf hl hc ⊢;generalize x.from_=f at hf hc ⊢;generalize x.l=l at hl hc ⊢;generalize spl s=Y at hc ⊢;have hk1:=w64s i om;refine⟨λc0=>?_,λc0=>?_⟩
 ·have c0':i<=s.length:=(by have h:(i:Int)<=s.length:=px c0;omega);obtain⟨_,hno,hY⟩:=hc.resolve_right (λh=>by omega);have hsub:∀ k,k<=s.length->sub s (f:Int) (k:Int)=(s.drop f).take (k - f):=λk _=>by unfold sub;rw[pr,pr]
  conv=>whnf
  by_cases he:i=s.length
  ·refine brT (by rw[oy];omega) ?_;conv=>whnf
   repeat((first|apply Fr|apply Tr);conv=>whnf)
   refine⟨om,?_⟩;conv=>whnf
   refine⟨om,?_⟩;conv=>whnf
   rw[hk1];refine⟨⟨l++[s.drop f],i+1,i+1⟩,[0,3],⟨by show i+1<=_;omega,pu _,by show(l++[_]).length<=i+1;rw[pq];show l.length+1<=_;omega,.inr ⟨by show i+1=_;omega,?_⟩⟩,by show s.length+1 - (i+1)<s.length+1 - i;omega,?_⟩
   ·show l++[s.drop f]=Y;rw[<-hY,qv5];intro b hb e;subst e;obtain⟨j,hj,e2⟩:=List.getElem_of_mem hb;have hj':f+j<s.length:=by rw [ou] at hj;omega
    rw [List.getElem_drop] at e2;exact hno (f+j) om om (by rw[pp hj',e2])
   conv=>whnf
   repeat'(first|exact ⟨⟩|exact rfl|exact ql _|exact .inr rfl|exact λ_ _=>rfl|exact noI|apply And.intro)
   all_goals first
    |(show l.length+1=(l++[_]).length;simp)
    |(
     refine zh l _ _ ?_;show[DV.str _]=[DV.str _];rw[he,hsub _ (pu _),gr (by rw[ou];exact pu _)])
  ·refine brF (by rw[oo];omega) ?_;have hil:i<s.length:=om
   have hsk:s[i]? = some s[i]:=pp hil;have hbk:qw s (i:Int)=((s[i].toNat:Nat):Int):=by rw[jl];unfold bt;rw[hsk];rfl
   have hdr:s.drop f=(s.drop f).take (i - f)++s[i] :: s.drop (i+1):=by
    rw[<-lu hil];have:=f9 (i - f) (s.drop f);rw [gx,show f+(i - f)=i by omega] at this;exact this.symm
   generalize s[i]=c at hsk hbk hdr;conv=>whnf
   refine⟨om,?_⟩;conv=>whnf
   rw[hbk];by_cases h32:c=32
   ·subst h32;apply Tr;conv=>whnf
    refine⟨om,?_⟩;conv=>whnf
    refine⟨om,?_⟩;conv=>whnf
    rw[hk1];refine⟨⟨l++[(s.drop f).take (i - f)],i+1,i+1⟩,[0,3],⟨by show i+1<=_;omega,pu _,by show(l++[_]).length<=i+1;rw[pq];show l.length+1<=_;omega,.inl ⟨hil,λj h1 h2=>absurd h1 (by show ¬ i+1<=j;have:j<i+1:=h2;omega),?_⟩⟩,by show s.length+1 - (i+1)<s.length+1 - i;omega,?_⟩
    ·show(l++[_])++spl (s.drop (i+1))=Y;rw[<-hY,mp];congr 1;conv=>rhs;rw[hdr]
     rw[qb5]
     ·rfl
     intro b hb e;subst e;obtain⟨j,hj,e2⟩:=List.getElem_of_mem hb;rw [o4,ou] at hj;rw [List.getElem_take,List.getElem_drop] at e2;exact hno (f+j) om om (by rw[pp om,e2])
    conv=>whnf
    repeat'(first|exact ⟨⟩|exact rfl|exact ql _|exact .inr rfl|exact λ_ _=>rfl|exact noI|apply And.intro)
    all_goals first
     |(show l.length+1=(l++[_]).length;simp)
     |(
      refine zh l _ _ ?_;show[DV.str _]=[DV.str _];rw[hsub _ om])
   ·refine brF (by rw[oo];intro h;exact h32 (UInt8.toNat_inj.1 (by show c.toNat=32;omega))) ?_;conv=>whnf
    rw[hk1];refine⟨⟨l,f,i+1⟩,[0,1],⟨by show i+1<=_;omega,by show f<=i+1;omega,by show l.length<=i+1;omega,.inl ⟨hil,λj h1 h2=>?_,hY⟩⟩,by show s.length+1 - (i+1)<s.length+1 - i;omega,?_⟩
    ·rcases ox j i with h|h
     ·exact hno j h1 h
     ·rw[show j=i by have:j<i+1:=h2;omega,hsk];exact λe=>h32 (oq e)
    exact rY2
 ·have c0':¬ i<=s.length:=(by have h:¬ (i:Int)<=s.length:=py c0;omega);obtain⟨_,rfl⟩:=hc.resolve_left (λh=>c0' h.1);conv=>whnf
  exact⟨rfl,rfl,.inr rfl,λ_ _=>rfl⟩
def qa5(ws:List Ls):Option RR:=match ws with
 |[w0,w1,w2,w3,w4]=>if w4.length > 8192 then none else if (jb w0).2=0 then some ⟨(jb w0).1,IntKind.u16.wrap (vW w3),IntKind.u16.wrap (vW w2),IntKind.u32.wrap (vW w1),if w4=[45] then [] else unhR w4⟩ else none
 |_=>none
def yw(s:Ls):Option RR:=match qa5 (spl s) with
 |some r=>if r.check=true/\r.line=s then some r else none
 |none=>none
theorem xp2{ws:List Ls}{r:RR}(h:qa5 ws=some r):r.In:=by
 unfold qa5 at h;split at h
 ·split at h
  ·cases h
  ·split at h
   ·cases h;exact⟨by constructor <;> (simp only[IntKind.wrap_u16];omega),by constructor <;> (simp only[IntKind.wrap_u16];omega),by constructor <;> (simp only[IntKind.wrap_u32'];omega)⟩
   ·cases h
 ·cases h
theorem xh1{d:Ls}:(if hexT d=[45] then [] else unhR (hexT d))=d:=by
 unfold hexT;by_cases h:d=[]
 ·rw[if_pos h,if_pos rfl,h]
 ·rw [if_neg h,if_neg (λe=>by have:=congrArg List.length e;rw [qe5] at this;simp at this;omega)];unfold unhR;rw[if_neg (by rw[qe5];omega),yq1]
theorem jp0(r:RR):spl r.line=[txtN r.nm,Lib.decDigits r.ttl.toNat,Lib.decDigits r.cl.toNat,Lib.decDigits r.ty.toNat,hexT r.d]:=by
 unfold RR.line;rw[qb5 _ _ (je1 _),qb5 _ _ (qc0 _),qb5 _ _ (qc0 _),qb5 _ _ (qc0 _),qv5 _ (yz2 _)]
theorem zw6{r:RR}(h:r.check=true)(hi:r.In):qa5 (spl r.line)=some r:=by
 have hn:=ux h;have ht:=jb1 hn;have hd:=ql9 h;have h1:=hi.ty;have h2:=hi.cl;have h3:=hi.ttl;rw[jp0];unfold qa5;simp only;have hx:(hexT r.d).length<=8192:=by
  unfold hexT;split
  ·simp
  ·rw[qe5];omega
 rw[if_neg om,ht];simp only;rw[if_pos trivial,qv3 om,qv3 om,qv3 om,xh1];obtain⟨n,y,c,t,d⟩:=r;simp only at h1 h2 h3;show some (RR.mk n _ _ _ d)=some (RR.mk n y c t d);rw[IntKind.wrap_u16,IntKind.wrap_u16,IntKind.wrap_u32',Int.toNat_of_nonneg h1.1,Int.toNat_of_nonneg h2.1,Int.toNat_of_nonneg h3.1,Int.emod_eq_of_lt h1.1 om,Int.emod_eq_of_lt h2.1 om,Int.emod_eq_of_lt h3.1 om]
theorem jf6:∀ (s:Ls),∀ w ∈ spl s,w.length<=s.length
 |[],w,h=>by simp [spl] at h;rw [h];exact pu _
 |c :: r,w,h=>by
  have ih:=jf6 r;simp only [spl] at h;split at h
  ·rcases pz.1 h with rfl|h
   ·exact pv _
   ·have:=ih w h;simp only[pw];omega
  ·split at h
   ·simp at h;rw [h];simp
   ·rename_i x l hx;rcases pz.1 h with rfl|h
    ·have:=ih x (by rw[hx];simp);simp only[pw];omega
    ·have:=ih w (by rw[hx];simp[h]);simp only[pw];omega
theorem yq0:∀ s:Ls,(unhF s).length<=s.length
 |[]=>pu _
 |[_]=>by simp[unhF]
 |a :: b :: r=>by
  have:=yq0 r;simp only[unhF,pw];omega
theorem xh0(s:Ls)(h:s.length<=100000):(unhR s).length<=100000:=by
 have:=yq0 s;unfold unhR;split
 ·exact pv _
 ·omega
theorem jk5(s:Ls)(hs:s.length<=1000000):FnOk Tryz.prog 32 [.d (.str s)] (qf4 (yw s)):=by
 refine qi (TT:=TT) (IN:=qd []) qe qg mixed 1000 Tryz.func32 rfl (qb Tryz.func32 (by kernel_rfl) rfl) rfl 72 (by kernel_rfl) ?_;conv=>whnf
 refine oD (jn5 s hs) rfl rfl ?_;have hle:=jf6 s;have hpr:yw s=match qa5 (spl s) with
  |some r=>if r.check=true/\r.line=s then some r else none
  |none=>none:=rfl
 generalize spl s=ws at hle hpr ⊢;conv=>whnf
 by_cases h5:ws.length=5
 case neg =>
  have:qa5 ws=none:=by
   unfold qa5;split
   ·simp at h5
   ·rfl
  rw [this] at hpr;simp only at hpr;rw[hpr];refine brT (by rw[bne_iff_ne];omega) ?_;conv=>whnf
  repeat((first|apply Fr|apply Tr);conv=>whnf)
  repeat'(first|exact ⟨⟩|exact rfl|exact λ_=>Iff.rfl|exact λ_ _=>rfl|exact renM_ent rfl _|apply And.intro)
 refine brF (by rw[bne_eq_false_iff_eq];omega) ?_;obtain⟨w0,w1,w2,w3,w4,rfl⟩:∃ a b c d e,ws=[a,b,c,d,e]:=by
  match ws,h5 with
  |[a,b,c,d,e],_=>exact⟨a,b,c,d,e,rfl⟩
 have l0:=hle w0 sm;have l1:=hle w1 sm;have l2:=hle w2 sm;have l3:=hle w3 sm;have l4:=hle w4 sm;clear hle;simp only [qa5] at hpr;conv=>whnf
 refine⟨sm,?_⟩;conv=>whnf
 by_cases h8:w4.length > 8192
 ·rw [if_pos h8] at hpr;simp only at hpr;rw[hpr];refine brT (pn (by show((w4.length:Nat):Int) > 8192;omega)) ?_;conv=>whnf
  repeat((first|apply Fr|apply Tr);conv=>whnf)
  repeat'(first|exact ⟨⟩|exact rfl|exact λ_=>Iff.rfl|exact λ_ _=>rfl|exact renM_ent rfl _|apply And.intro)
 rw [if_neg h8] at hpr;refine brF (po (by show ¬ ((w4.length:Nat):Int) > 8192;omega)) ?_;conv=>whnf
 repeat((first|apply Fr|apply Tr);conv=>whnf)
 refine⟨sm,?_⟩;conv=>whnf
 refine oD (jk9 w0) rfl rfl ?_;conv=>whnf
 by_cases hp:(jb w0).2=0
 case neg =>
  rw [if_neg hp] at hpr;simp only at hpr;rw[hpr];refine brT (by rw[bne_iff_ne];exact hp) ?_;exact rY6
 rw [if_pos hp] at hpr;simp only at hpr;refine brF (by rw[bne_eq_false_iff_eq];exact hp) ?_;conv=>whnf
 refine⟨sm,?_⟩;conv=>whnf
 refine .data _ (qi8 w1 om) rfl rfl ?_;conv=>whnf
 refine⟨sm,?_⟩;conv=>whnf
 refine .data _ (qi8 w2 om) rfl rfl ?_;conv=>whnf
 refine⟨sm,?_⟩;conv=>whnf
 refine .data _ (qi8 w3 om) rfl rfl ?_;conv=>whnf
 refine⟨sm,?_⟩;conv=>whnf
 refine .data _ (zt0 w4 om) rfl rfl ?_;conv=>whnf
 refine⟨sm,?_⟩;conv=>whnf
 have hin:∀ d,(RR.mk (jb w0).1 (IntKind.u16.wrap (vW w3)) (IntKind.u16.wrap (vW w2)) (IntKind.u32.wrap (vW w1)) d).In:=λd=>⟨by constructor <;> (simp only[IntKind.wrap_u16];omega),by constructor <;> (simp only[IntKind.wrap_u16];omega),by constructor <;> (simp only[IntKind.wrap_u32'];omega)⟩
 generalize (jb w0).1=n at hin hpr ⊢;generalize IntKind.u16.wrap (vW w3)=ty at hin hpr ⊢;generalize IntKind.u16.wrap (vW w2)=cl at hin hpr ⊢;generalize IntKind.u32.wrap (vW w1)=tt at hin hpr ⊢;let rmk:Ls->RR:=λd=>RR.mk n ty cl tt d
 have hend:∀ d:Ls,(if w4=[45] then [] else unhR w4)=d->d.length<=100000:=λd e=>by
  rw[<-e];split
  ·exact pv _
  ·exact xh0 w4 om
 refine⟨λh4=>?_,λh4=>?_⟩
 ·have h4:w4=[45]:=by simpa using h4
  rw [if_pos h4] at hpr;conv=>whnf
  have hRin:=hin [];refine oD (jm0 (rmk []) hRin (pv _)) rfl rfl ?_;have hpr:yw s=if (rmk []).check=true/\(rmk []).line=s then some (rmk []) else none:=hpr;have hV:qf4 (some (rmk [])) = .tup [.agg [.d (.str n),.d (.int .u16 ty),.d (.int .u16 cl),.d (.int .u32 tt),.d (.str [])],.d (.int .i64 0)]:=rfl;generalize rmk []=R at hpr hV;cases hck:R.check with
  |false =>
   have:yw s=none:=by rw[hpr,if_neg (by rw[hck];simp)]
   rw[this,show R.lineV=([],2) by unfold RR.lineV;rw[hck];rfl];conv=>whnf
   repeat((first|apply Fr|apply Tr);conv=>whnf)
   repeat'(first|exact ⟨⟩|exact rfl|exact λ_=>Iff.rfl|exact λ_ _=>rfl|exact renM_ent rfl _|apply And.intro)
  |true =>
   rw[show R.lineV=(R.line,0) by unfold RR.lineV;rw[hck];rfl];by_cases hl:R.line=s
   ·have:yw s=some R:=by rw[hpr,if_pos ⟨hck,hl⟩]
    rw[this,hV];conv=>whnf
    repeat((first|apply Fr|apply Tr);conv=>whnf)
    refine brF (by simpa using hl) ?_;conv=>whnf
    repeat'(first|exact ⟨⟩|exact rfl|exact λ_=>Iff.rfl|exact λ_ _=>rfl|exact renM_ent rfl _|apply And.intro)
   ·have:yw s=none:=by rw[hpr,if_neg (λh=>hl h.2)]
    rw[this];conv=>whnf
    repeat((first|apply Fr|apply Tr);conv=>whnf)
    refine brT (by simpa using hl) ?_;conv=>whnf
    repeat'(first|exact ⟨⟩|exact rfl|exact λ_=>Iff.rfl|exact λ_ _=>rfl|exact renM_ent rfl _|apply And.intro)
 ·have h4:w4≠[45]:=by simpa using h4
  rw [if_neg h4] at hpr;have hd0:=hend _ (if_neg h4);generalize unhR w4=d at hpr hd0 ⊢;conv=>whnf
  have hRin:=hin d;refine oD (jm0 (rmk d) hRin hd0) rfl rfl ?_;have hpr:yw s=if (rmk d).check=true/\(rmk d).line=s then some (rmk d) else none:=hpr;have hV:qf4 (some (rmk d)) = .tup [.agg [.d (.str n),.d (.int .u16 ty),.d (.int .u16 cl),.d (.int .u32 tt),.d (.str d)],.d (.int .i64 0)]:=rfl;generalize rmk d=R at hpr hV;cases hck:R.check with
  |false =>
   have:yw s=none:=by rw[hpr,if_neg (by rw[hck];simp)]
   rw[this,show R.lineV=([],2) by unfold RR.lineV;rw[hck];rfl];conv=>whnf
   repeat((first|apply Fr|apply Tr);conv=>whnf)
   repeat'(first|exact ⟨⟩|exact rfl|exact λ_=>Iff.rfl|exact λ_ _=>rfl|exact renM_ent rfl _|apply And.intro)
  |true =>
   rw[show R.lineV=(R.line,0) by unfold RR.lineV;rw[hck];rfl];by_cases hl:R.line=s
   ·have:yw s=some R:=by rw[hpr,if_pos ⟨hck,hl⟩]
    rw[this,hV];conv=>whnf
    repeat((first|apply Fr|apply Tr);conv=>whnf)
    refine brF (by simpa using hl) ?_;conv=>whnf
    repeat'(first|exact ⟨⟩|exact rfl|exact λ_=>Iff.rfl|exact λ_ _=>rfl|exact renM_ent rfl _|apply And.intro)
   ·have:yw s=none:=by rw[hpr,if_neg (λh=>hl h.2)]
    rw[this];conv=>whnf
    repeat((first|apply Fr|apply Tr);conv=>whnf)
    refine brT (by simpa using hl) ?_;conv=>whnf
    repeat'(first|exact ⟨⟩|exact rfl|exact λ_=>Iff.rfl|exact λ_ _=>rfl|exact renM_ent rfl _|apply And.intro)
def yy:Ls:=[122,111,110,101]
def zf:Ls:=[104,111,115,116]
def jh8(ws:List Ls):Ho:=(IntKind.u32.wrap (vW (ws.getD 1 [])),Nat.beq (ws.drop 2).length 0,(ws.drop 2).map λw=>((vW w:Nat):Int))
def zd(zs:List Zo)(hs:List Ho)(s:Ls):Option (List Zo × List Ho) :=
 if (spl s).getD 0 []=yy/\(spl s).length=2 then some (zs++[⟨(jb ((spl s).getD 1 [])).1,true,[]⟩],hs)
 else if (spl s).getD 0 []=zf/\2<=(spl s).length then some (zs,hs++[jh8 (spl s)])
 else match yw s with
  |none=>none
  |some r=>if zs=[] then none else some (zs.set (zs.length - 1) ⟨(qo zs).apex,false,(qo zs).rrs++[r]⟩,hs)
def rdR(c:Ls):Ls->List Zo->List Ho->Option (List Zo × List Ho)
 |[],zs,hs=>some (zs,hs)
 |b :: t,zs,hs=>if b=10 then (match zd zs hs c with
  |none=>none
  |some p=>if 100<p.1.length\/100<p.2.length then none else rdR [] t p.1 p.2) else rdR (c++[b]) t zs hs
def refP(s:Ls):Fo × Int:=match rdR [] s [] [] with
 |none=>(nilF,6)
 |some p=>if jd (mkF p.1 p.2)=(s,0) then (mkF p.1 p.2,0) else (nilF,6)
theorem jc4{zs:List Zo}{hs:List Ho}{p:List Zo × List Ho}:∀ {l c r:Ls},(10:UInt8) ∉ l->zd zs hs (c++l)=some p->p.1.length<=100->p.2.length<=100->rdR c (l++10 :: r) zs hs=rdR [] r p.1 p.2
 |[],c,r,_,h,h1,h2=>by
  show(if (10:UInt8)=10 then (match zd zs hs c with|none=>none|some p=>if 100<p.1.length\/100<p.2.length then none else rdR [] r p.1 p.2) else _)=_;rw [m6] at h;rw[if_pos rfl,h];show(if 100<p.1.length\/100<p.2.length then none else rdR [] r p.1 p.2)=_;rw[if_neg om]
 |b :: l,c,r,hn,h,h1,h2=>by
  have hb:b≠10:=λe=>hn (by rw[e];exact .head _)
  show(if b=10 then _ else rdR (c++[b]) (l++10 :: r) zs hs)=_;rw[if_neg hb];exact jc4 (λh=>hn (.tail _ h)) (by rw[mp];exact h) h1 h2
theorem yx2:∀ (l:List Int) (n:Nat),spl (Lib.decDigits n++atsT l)=Lib.decDigits n :: l.map λa=>Lib.decDigits a.toNat
 |[],n=>by rw[show atsT []=[] from rfl,m6,qv5 _ (qc0 n)];rfl
 |x :: l,n=>by rw[jb9,qb5 _ _ (qc0 n),yx2 l];rfl
theorem xs9{zs:List Zo}{hs:List Ho}{h:Ho}(hi:HIn h):zd zs hs (yj h)=some (zs,hs++[nzH h]):=by
 have e:yj h=zf++32 :: (Lib.decDigits h.1.toNat++atsT h.2.2):=by unfold yj;rfl
 have hs2:spl (yj h)=zf :: Lib.decDigits h.1.toNat :: h.2.2.map λa=>Lib.decDigits a.toNat:=by rw[e,qb5 _ _ (by decide),yx2]
 obtain⟨⟨h1,h2⟩,h3⟩:=hi;unfold zd;rw[hs2,if_neg (λh=>absurd (show zf=yy from h.1) (by decide)),if_pos ⟨rfl,sm⟩];unfold jh8 nzH;show some (zs,hs++[(IntKind.u32.wrap ((vW (Lib.decDigits h.1.toNat):Nat):Int),Nat.beq (h.2.2.map λa=>Lib.decDigits a.toNat).length 0,(h.2.2.map λa=>Lib.decDigits a.toNat).map λw=>((vW w:Nat):Int))])=_;rw[mq,f7,qv3 om,IntKind.wrap_u32',Int.toNat_of_nonneg h1,Int.emod_eq_of_lt h1 om];have:(h.2.2.map ((λw=>((vW w:Nat):Int)) ∘ λa=>Lib.decDigits a.toNat))=h.2.2:=by
  conv=>rhs;rw[<-List.map_id h.2.2]
  apply List.map_congr_left;intro a ha;have:=h3 a ha;show((vW (Lib.decDigits a.toNat):Nat):Int)=a;rw[qv3 om,Int.toNat_of_nonneg this.1]
 rw[this]
theorem xs7{zs:List Zo}{hs:List Ho}{z:Zo}(hz:qa z.apex):zd zs hs (y7 z)=some (zs++[⟨z.apex,true,[]⟩],hs):=by
 have e:y7 z=yy++32 :: txtN z.apex:=rfl;have hs2:spl (y7 z)=[yy,txtN z.apex]:=by rw[e,qb5 _ _ (by decide),qv5 _ (je1 _)]
 unfold zd;rw[hs2,if_pos ⟨rfl,rfl⟩];show some (zs++[⟨(jb (txtN z.apex)).1,true,[]⟩],hs)=_;rw[jb1 hz]
theorem zo8{r:RR}(h:r.check=true)(hi:r.In):yw r.line=some r:=by
 unfold yw;rw[zw6 h hi];show(if r.check=true/\r.line=r.line then some r else none)=_;rw[if_pos ⟨h,rfl⟩]
theorem xs8{ys:List Zo}{hs:List Ho}{z:Zo}{r:RR}(hr:r.check=true)(hi:r.In):zd (ys++[z]) hs r.line=some (ys++[⟨z.apex,false,z.rrs++[r]⟩],hs):=by
 have hll:qo (ys++[z])=z:=by unfold qo;simp[List.getD]
 have hl:(spl r.line).length=5:=by rw[jp0];rfl
 have h0:(spl r.line).getD 0 []=txtN r.nm:=by rw[jp0];rfl
 obtain⟨s,hs2⟩:=yq2 (ux hr);have hne:∀ (a b c d:UInt8),d≠46->txtN r.nm≠[a,b,c,d]:=λa b c d hd e=>by
  rw [hs2] at e;have:=congrArg List.getLast? e;rw [List.getLast?_append] at this;simp at this;exact hd this.symm
 unfold zd;rw[if_neg (by rw[hl];exact λh=>absurd h.2 (by decide)),if_neg (by rw[h0];rintro ⟨h,_⟩;exact hne _ _ _ _ (by decide) h),zo8 hr hi];show(if ys++[z]=[] then none else _)=_;rw[if_neg sm,hll];congr 2;rw[List.set_append_right _ _ sm];simp
theorem yx5(hs:List Ho)(hh:hs.length<=100):∀ (rs acc:List RR) (ys:List Zo) (apex t:Ls),ys.length<100->(∀ r ∈ rs,r.check=true/\r.In)->rdR [] (jy rs++t) (ys++[⟨apex,Nat.beq acc.length 0,acc⟩]) hs=rdR [] t (ys++[⟨apex,Nat.beq (acc++rs).length 0,acc++rs⟩]) hs
 |[],acc,ys,apex,t,_,_=>by rw[m6];rfl
 |r :: rs,acc,ys,apex,t,hl,h=>by
  have e:jy (r :: rs)++t=r.line++10 :: (jy rs++t):=by show(r.line++[10])++jy rs++t=_;simp
  rw[e,jc4 (yr5 r) (xs8 (h r (.head _)).1 (h r (.head _)).2) (by simp;omega) hh];have:=yx5 hs hh rs (acc++[r]) ys apex t hl (λx hx=>h x (.tail _ hx));rw [mp] at this;rw[<-List.singleton_append (l:=rs),<-this];rw[show Nat.beq (acc++[r]).length 0=false by rw[pq];rfl]
theorem yk6:∀ (l zs:List Zo) (t:Ls),zs.length+l.length<=64->(∀ z ∈ l,z.ok=true/\∀ r ∈ z.rrs,r.In)->rdR [] (ya l++t) zs []=rdR [] t (zs++l.map nzZ) []
 |[],zs,t,_,_=>by rw[List.map_nil,m6];rfl
 |z :: l,zs,t,hl,h=>by
  simp only [pw] at hl;obtain⟨h1,h2⟩:=h z (.head _);have e:ya (z :: l)++t=y7 z++10 :: (jy z.rrs++(ya l++t)):=by show(y7 z++[10]++jy z.rrs++ya l)++t=_;simp
  rw[e,jc4 (yp7 z) (xs7 (Zo.ok_name h1)) (by simp;omega) sm];have h3:=yx5 [] sm z.rrs [] zs z.apex (ya l++t) om (λr hr=>⟨Zo.ok_rr h1 r hr,h2 r hr⟩);rw [fq] at h3;show rdR [] _ (zs++[⟨z.apex,Nat.beq ([]:List RR).length 0,[]⟩]) []=_;rw[h3,yk6 l _ t (by rw[pq];simp;omega) (λx hx=>h x (.tail _ hx)),mp]
  rfl
theorem yk7(zs:List Zo)(hz:zs.length<=100):∀ (l hs:List Ho) (t:Ls),hs.length+l.length<=64->(∀ h ∈ l,HIn h)->rdR [] (yf l++t) zs hs=rdR [] t zs (hs++l.map nzH)
 |[],hs,t,_,_=>by rw[List.map_nil,m6];rfl
 |h :: l,hs,t,hl,hi=>by
  simp only [pw] at hl;have e:yf (h :: l)++t=yj h++10 :: (yf l++t):=by show(yj h++[10]++yf l)++t=_;simp
  rw[e,jc4 (yt5 h) (xs9 (hi h (.head _))) hz (by simp;omega),yk7 zs hz l _ t (by rw[pq];simp;omega) (λx hx=>hi x (.tail _ hx)),mp]
  rfl
theorem zz9{f:Fo}(hok:f.ok=true)(hi:f.In):refP f.text=(nzF f,0):=by
 have hk:=Fo.ok_f hok;have h1:=hk.nz;have h2:=hk.nh;have e:rdR [] f.text [] []=some (f.zones.map nzZ,f.hosts.map nzH):=by
  unfold Fo.text;rw[yk6 f.zones [] _ (by simp;omega) (λz hz=>⟨hk.zone z hz,hi.rr z hz⟩),fq];have:=yk7 (f.zones.map nzZ) (by simp;omega) f.hosts [] [] (by simp;omega) (hk.hin hi);rw [m6] at this;exact this
 have hp:=qy5 hok hi;unfold refP;rw[e];show(if jd (nzF f)=(f.text,0) then (nzF f,(0:Int)) else (nilF,6))=_;rw[if_pos (by unfold jd;rw[zf5,hok,yy1];rfl)]
structure RdI(k:Nat)(zs:List Zo)(hs:List Ho):Prop where
 nz:Nz zs
 nh:∀ h ∈ hs,h.2.1=Nat.beq h.2.2.length 0
 zl:∀ z ∈ zs,z.apex.length<=255/\z.rrs.length<=k/\∀ r ∈ z.rrs,r.check=true/\r.In
 hl:∀ h ∈ hs,0<=h.1/\h.1<=4294967295/\h.2.2.length<=1000001
theorem RdI.init:RdI 0 [] []:=⟨λ_ h=>(by cases h),λ_ h=>(by cases h),λ_ h=>(by cases h),λ_ h=>(by cases h)⟩
theorem RdI.up{k m:Nat}{zs:List Zo}{hs:List Ho}(h:RdI k zs hs)(hm:k<=m):RdI m zs hs:=⟨h.nz,h.nh,λz hz=>⟨(h.zl z hz).1,gn (h.zl z hz).2.1 hm,(h.zl z hz).2.2⟩,h.hl⟩
theorem jr1(s:Ls):(spl s).length<=s.length+1:=by
 induction s with
 |nil=>exact pu _
 |cons c r ih =>
  simp only[spl];split
  ·simp only[pw];omega
  ·split
   ·simp
   ·rename_i h;rw [h] at ih;simp only [pw] at ih ⊢;omega
theorem zo7{s:Ls}{r:RR}(h:yw s=some r):r.check=true/\r.In:=by
 unfold yw at h;cases hc:qa5 (spl s) with
 |none=>rw [hc] at h;cases h
 |some x =>
  rw [hc] at h;simp only at h;split at h
  ·rename_i hx;cases h;exact⟨hx.1,xp2 hc⟩
  ·cases h
theorem RdI.line{k:Nat}{zs:List Zo}{hs:List Ho}{s:Ls}{p:List Zo × List Ho}(h:RdI k zs hs)(hl:s.length<=1000000)(e:zd zs hs s=some p):RdI (k+1) p.1 p.2:=by
 have hup:=h.up (Nat.le_succ k);unfold zd at e;split at e
 ·cases e;refine⟨λz hz=>?_,h.nh,λz hz=>?_,h.hl⟩
  ·rcases ow.1 hz with hz|hz
   ·exact h.nz z hz
   ·cases m9.1 hz;rfl
  ·rcases ow.1 hz with hz|hz
   ·exact hup.zl z hz
   ·cases m9.1 hz;exact⟨yf1 _,pv _,λr hr=>(by cases hr)⟩
 ·split at e
  ·cases e;refine⟨h.nz,λz hz=>?_,hup.zl,λz hz=>?_⟩
   ·rcases ow.1 hz with hz|hz
    ·exact h.nh z hz
    ·cases m9.1 hz;show Nat.beq ((spl s).drop 2).length 0=Nat.beq (((spl s).drop 2).map _).length 0;rw[mq]
   ·rcases ow.1 hz with hz|hz
    ·exact h.hl z hz
    ·cases m9.1 hz;have h1:=jr1 s;refine⟨?_,?_,?_⟩
     ·show 0<=IntKind.u32.wrap _;rw[IntKind.wrap_u32'];omega
     ·show IntKind.u32.wrap _<=_;rw[IntKind.wrap_u32'];omega
     ·show(((spl s).drop 2).map _).length<=_;rw[mq,ou];omega
  ·cases hp:yw s with
   |none=>rw [hp] at e;cases e
   |some r =>
    rw [hp] at e;simp only at e;split at e
    ·cases e
    ·rename_i hne;cases e;obtain⟨q1,q3⟩:=zo7 hp;obtain⟨z1,z2,z3⟩:=h.zl _ (jm5 hne);refine⟨λz hz=>?_,h.nh,λz hz=>?_,h.hl⟩
     ·rcases List.mem_or_eq_of_mem_set hz with hz|rfl
      ·exact h.nz z hz
      ·show false=Nat.beq ((qo zs).rrs++[r]).length 0;rw[pq];rfl
     ·rcases List.mem_or_eq_of_mem_set hz with hz|rfl
      ·exact hup.zl z hz
      ·refine⟨z1,?_,λx hx=>?_⟩
       ·show((qo zs).rrs++[r]).length<=k+1;rw[pq];simp;omega
       ·rcases ow.1 hx with hx|hx
        ·exact z3 x hx
        ·cases m9.1 hx;exact⟨q1,q3⟩
theorem RdI.in{k:Nat}{zs:List Zo}{hs:List Ho}(h:RdI k zs hs):(mkF zs hs).In:=⟨λz hz r hr=>((h.zl z hz).2.2 r hr).2,λx hx=>⟨(h.hl x hx).1,(h.hl x hx).2.1⟩,λx hx=>by have:=(h.hl x hx).2.2;omega⟩
theorem jt3:∀ (t c:Ls) (k:Nat) (zs:List Zo) (hs:List Ho) (p:List Zo × List Ho),RdI k zs hs->c.length+t.length<=1000000->rdR c t zs hs=some p->∃ m,RdI m p.1 p.2
 |[],c,k,zs,hs,p,hi,_,h=>by cases h;exact⟨k,hi⟩
 |b :: t,c,k,zs,hs,p,hi,hl,h=>by
  simp only [pw] at hl;have h:(if b=10 then (match zd zs hs c with|none=>none|some p=>if 100<p.1.length\/100<p.2.length then none else rdR [] t p.1 p.2) else rdR (c++[b]) t zs hs)=some p:=h;split at h
  ·cases hq:zd zs hs c with
   |none=>rw [hq] at h;cases h
   |some q =>
    rw [hq] at h;simp only at h;split at h
    ·cases h
    ·exact jt3 t [] (k+1) q.1 q.2 p (hi.line om hq) (by simp;omega) h
  ·exact jt3 t (c++[b]) k zs hs p hi (by rw[pq];simp;omega) h
theorem xr7{s:Ls}(hs:s.length<=1000000)(hS:Short s):refP s=zt s:=by
 rcases yf0 s hS with e|⟨zs,h,e,hk,ht,hok⟩
 ·rw[e];unfold refP;cases hr:rdR [] s [] [] with
  |none=>rfl
  |some p =>
   show(if jd (mkF p.1 p.2)=(s,0) then (mkF p.1 p.2,(0:Int)) else (nilF,6))=_;by_cases ht:jd (mkF p.1 p.2)=(s,0)
   ·exfalso;obtain⟨m,hi⟩:=jt3 s [] 0 [] [] p .init (by simpa using hs) hr;have hok:(mkF p.1 p.2).ok=true:=by
     unfold jd at ht;split at ht
     ·rename_i h;exact h
     ·exact absurd (show(2:Int)=0 from congrArg Prod.snd ht) (by decide)
    have hts:(mkF p.1 p.2).text=s:=by unfold jd at ht;rw [hok] at ht;exact congrArg Prod.fst ht
    have:=qy5 hok hi.in;rw [hts,e] at this;exact absurd (show(6:Int)=0 from congrArg Prod.snd this) (by decide)
   ·rw[if_neg ht]
 ·have hts:(mkF zs h).text=s:=by unfold jd at ht;rw [hok] at ht;exact congrArg Prod.fst ht
  have h1:=zz9 hok hk.in;have h2:=qy5 hok hk.in;rw [hts] at h1 h2;rw[h1,h2]
theorem jq2{P:Program}{f:FuncId}{al:List SV}{ks:List KB}{r:SV}(hok:FnOk P f al r)(hcl:xn al=true)(hcr:closed r=true):COk P f al ks (λs k=>s=r/\k=ks) :=
 ⟨hok.1,λX w β fp vs hM hl hd=>by
  refine(qd5 hok hM.vo.no hM.mlt hl hd hcl).mono ?_;rintro e w' ⟨v,rfl,hst,hden⟩;exact⟨v,_,_,β,fp,rfl,⟨rfl,rfl⟩,hM.quiet hst,hden.closed hcr β⟩⟩
theorem za0(a:Zo)(l:List Zo)(hz:Nz (a :: l)){X:Nat->Prop}{w:World}{β:Env}{fp:Nat->Nat->Prop}{ks:List KB}(hM:Mem X w β fp ks){i q:Nat}(hi:ks[i]? = some (.rows 58 2 (l.length+1) (zF (a :: l) q)))(hq:ks[q]? = some (.row 62 5 (qo (a :: l)).rrs.length .iff (rrF (qo (a :: l)).rrs)))(hiq:i≠q) :
 ∃ β' fp',Went X w β fp w β' fp' ((ks.set q .gone).set i (.row 58 2 (l.length+1) .no (zE (a :: l)))):=by
 refine hM.freeze hi hq hiq (λk _=>rfl) ?_;intro k j d hk hd;by_cases hkl:k=l.length
 ·subst hkl;have hzz:=hz (qo (a :: l)) (by
   unfold qo;rw[List.getD,pp sm];exact oz _)
  rw[qj3];match j,hd with
  |0,hd=>cases hd;exact .inl rfl
  |1,hd =>
   cases hd;refine .inr ⟨rfl,?_⟩;show rrsD (qo (a :: l)).z (qo (a :: l)).rrs=_;rw[hzz];rfl
  |j+2,hd=>cases hd
 ·refine .inl ?_;unfold zF;rw[if_neg (by simp only[pw];omega),mw];show Option.map _ ((zE (a :: l) k)[j]?)=_;rw[hd];rfl
theorem kb1(a:Zo)(l:List Zo)(hz:Nz (a :: l))(hr:(qo (a :: l)).rrs=[]){X:Nat->Prop}{w:World}{β:Env}{fp:Nat->Nat->Prop}{z:Z}{ks:List KB}(hM:Mem X w β fp ks){i:Nat}(hi:ks[i]? = some (.row 58 2 (l.length+1) z (zE (a :: l)))) :
 ∃ β' fp',Went X w β fp w β' fp' (ks.set i (.rows 58 2 (l.length+1) (zF (a :: l) ks.length))++[.row 62 5 0 .iff (rrF [])]):=by
 have hzz:=hz (qo (a :: l)) (by
  unfold qo;rw[List.getD,pp sm];exact oz _)
 have:=hM.thawNil (i:=i) (p:=l.length) (c:=1) (e2:=62) (sz2:=5) (g:=rrF []) (sz1:=5) (g1:=rrF []) (F':=zF (a :: l) ks.length) hi (gw _) ?_ ?_ ?_
 ·exact this
 ·intro k hk;rfl
 ·show(zE (a :: l) l.length)[1]? = _;show some (rrsD (qo (a :: l)).z (qo (a :: l)).rrs)=_;rw[hzz,hr];rfl
 ·intro k hk;unfold zF;by_cases hkl:k=l.length
  ·rw[if_pos (by rw[hkl];rfl),if_pos hkl]
   rfl
  ·rw[if_neg (by simp only[pw];omega),if_neg hkl]
   rfl
theorem zc7{X:Nat->Prop}{w:World}{β:Env}{fp:Nat->Nat->Prop}{ks:List KB}(hM:Mem X w β fp ks){i n sz:Nat}{e:TypeId}{z:Z}{Y Y':Nat->List DV}(hi:ks[i]? = some (.row e sz n z Y))(h:∀ k,k<n->DSL (Y k) (Y' k)) :
 ∃ β' fp',Went X w β fp w β' fp' (ks.set i (.row e sz n z Y')):=by
 have hW:=hM.gone [];have hks:jk [] ks=ks:=rfl;rw [hks] at hW;have hm:=hW.mem.setKB (i:=i) (k':=.row e sz n z Y') (λL hL=>by
  have hkb:=hW.mem.kb i L _ hi sm hL;cases hkb with
  |rowNil _ _ _ _ a1 a2 a3 a4 a5=>exact .rowNil _ _ _ _ a1 a2 a3 a4 a5
  |row _ _ _ _ _ vs fz a1 a2 a3 a4 a5 a6 a7 a8 a9 b1 b2 b3 =>
   refine .row e sz n z Y' vs fz a1 a2 a3 a4 a5 a6 a7 a8 a9 (λk hk=>by rw[<-(h k hk).len];exact b1 k hk) (λk j d u hk hd hu=>?_) b3;have hj:j<(Y k).length:=by rw[(h k hk).len];exact(p6.1 hd).1
   exact((h k hk).at j _ d (pp hj) hd).rd (b2 k j _ u hk (pp hj) hu))
 exact⟨_,_,hm,hW.st,hW.ext,hW.own⟩
def txV(zs:List Zo)(hs:List Ho):SV:=.tup [.d (.str (jd (mkF zs hs)).1),.d (.int .i64 (jd (mkF zs hs)).2)]
theorem RdI.fit{k:Nat}{zs:List Zo}{hs:List Ho}(h:RdI k zs hs):(mkF zs hs).Fit:=λz hz=>by
 obtain⟨h1,h2,h3⟩:=h.zl z hz;refine⟨om,λr hr=>?_⟩;obtain⟨q1,q2⟩:=h3 r hr;have:=(ux q1).2.1;have:=ql9 q1;omega
theorem kb0(A B D:KB)(z:Z)(zs:List Zo)(Y:Nat->List DV)(hY:∀ i,i<zs.length->DSL (Y i) (zE zs i))(hs:List Ho){k:Nat}(h:RdI k zs hs)(hk:k<=100000)(hz:z = .iff\/z = .no/\zs≠[]):COk Tryz.prog 9 [.agg [.all 2,.all 3]] [A,B,.row 58 2 zs.length z Y,hB hs,D]
 (λr k=>r=txV zs hs/\k=[A,B,.row 58 2 zs.length z (zE zs),hB hs,D]):=by
 have ht:=jk8 (mkF zs hs) h.fit h.in λz hz=>by have:=(h.zl z hz).2.1;omega
 have hc:COk Tryz.prog 9 [.agg [.all 2,.all 3]] [A,B,.row 58 2 zs.length z (zE zs),hB hs,D] (λr k=>r=txV zs hs/\k=[A,B,.row 58 2 zs.length z (zE zs),hB hs,D]):=by
  rcases hz with rfl|⟨rfl,hz⟩
  ·exact qt7 (TT:=TT) qe (tl:=[25]) ht ⟨rfl,rfl⟩ rfl rfl
  ·obtain⟨a,l,rfl⟩:∃ a l,zs=a :: l:=by cases zs with|nil=>exact absurd rfl hz|cons a l=>exact⟨a,l,rfl⟩
   exact qt7 (TT:=TT) qe (tl:=[25]) ht ⟨rfl,rfl⟩ rfl rfl
 exact hc.ahead λX w β fp hM=>zc7 hM (i:=2) rfl hY
theorem ka4(A B C D:KB)(z:Z)(n:Nat)(Y Y':Nat->List DV)(hY:∀ i,i<n->DSL (Y i) (Y' i))(c:Ls)(hc:c.length<=1000000):COk Tryz.prog 29 [.d (.str c)] [A,B,.row 58 2 n z Y,C,D]
 (λr k=>r = .d (.sl false (spl c).length 1 (strs (spl c)))/\k=[A,B,.row 58 2 n z Y',C,D]) :=
 (jq2 (jn5 c hc) rfl rfl).ahead λX w β fp hM=>zc7 hM (i:=2) rfl hY
theorem ka9(A B:KB)(a:Zo)(l:List Zo)(hs:List Ho){k:Nat}(h:RdI k (a :: l) hs)(hk:k<=100000):COk Tryz.prog 9 [.agg [.all 2,.all 3]] [A,B,.rows 58 2 (l.length+1) (zF (a :: l) 4),hB hs,.row 62 5 (qo (a :: l)).rrs.length .iff (rrF (qo (a :: l)).rrs)]
 (λr k=>r=txV (a :: l) hs/\k=[A,B,.row 58 2 (l.length+1) .no (zE (a :: l)),hB hs,.gone]):=by
 have ht:=jk8 (mkF (a :: l) hs) h.fit h.in λz hz=>by have:=(h.zl z hz).2.1;omega
 have hc:COk Tryz.prog 9 [.agg [.all 2,.all 3]] [A,B,.row 58 2 (l.length+1) .no (zE (a :: l)),hB hs,.gone] (λr k=>r=txV (a :: l) hs/\k=[A,B,.row 58 2 (l.length+1) .no (zE (a :: l)),hB hs,.gone]) :=
  qt7 (TT:=TT) qe (tl:=[25]) ht ⟨rfl,rfl⟩ rfl rfl
 exact hc.ahead λX w β fp hM=>za0 a l h.nz hM (i:=2) (q:=4) rfl rfl (by decide)
theorem kb7(A B C:KB)(a:Zo)(l:List Zo)(hz:Nz (a :: l))(s:Ls):COk Tryz.prog 30 [.d (.str s)] [A,B,.rows 58 2 (l.length+1) (zF (a :: l) 4),C,.row 62 5 (qo (a :: l)).rrs.length .iff (rrF (qo (a :: l)).rrs)]
 (λr k=>r = .tup [.d (.str (jb s).1),.d (.int .i64 (jb s).2)]/\k=[A,B,.row 58 2 (l.length+1) .no (zE (a :: l)),C,.gone]) :=
 (jq2 (jk9 s) rfl rfl).ahead λX w β fp hM=>za0 a l hz hM (i:=2) (q:=4) rfl rfl (by decide)
theorem kb8(A B C D:KB)(a:Zo)(l:List Zo)(z:Z)(hz:Nz (a :: l))(hr:(qo (a :: l)).rrs=[])(s:Ls)(hs:s.length<=1000000):COk Tryz.prog 32 [.d (.str s)] [A,B,.row 58 2 (l.length+1) z (zE (a :: l)),C,D]
 (λr k=>r=qf4 (yw s)/\k=[A,B,.rows 58 2 (l.length+1) (zF (a :: l) 5),C,D,.row 62 5 0 .iff (rrF [])]) :=
 (jq2 (jk5 s hs) rfl (by unfold qf4;cases yw s <;> rfl)).ahead λX w β fp hM=>kb1 a l hz hr hM (i:=2) rfl
inductive Md where
 |dat (z:Z) (Y:Nat->List DV)
 |opn
def zQ:Md->Nat->List Zo->KB
 | .dat z Y,_,zs=>.row 58 2 zs.length z Y
 | .opn,q,zs=>.rows 58 2 zs.length (zF zs q)
def rQ:Md->List Zo->KB
 | .dat _ _,_=>.gone
 | .opn,zs=>.row 62 5 (qo zs).rrs.length .iff (rrF (qo zs).rrs)
def Md.Ok(m:Md)(zs:List Zo):Prop:=match m with
 | .dat z Y=>(z = .iff\/z = .no/\zs≠[])/\(zs≠[]->(qo zs).rrs=[])/\∀ i,i<zs.length->DSL (Y i) (zE zs i)
 | .opn=>zs≠[]
theorem qg7{zs:List Zo}{q:Nat}{ρ:List Nat}(hp:posN q ρ 0=some 4)(i:Nat):SubL (renL ρ (zF zs q i)) (zF zs 4 i):=by
 unfold zF;split
 ·refine⟨rfl,?_,True.intro⟩;show SubV (match posN q ρ 0 with|some p=>SV.all p|none=>.any) _;rw[hp];exact rfl
 ·exact⟨rfl,ja8 _,True.intro⟩
theorem yx4(c t:Ls)(zs:List Zo)(hs:List Ho):rdR c (10 :: t) zs hs=match zd zs hs c with
 |none=>none
 |some p=>if 100<p.1.length\/100<p.2.length then none else rdR [] t p.1 p.2:=by
 show(if (10:UInt8)=10 then _ else _)=_;rw[if_pos rfl];try (cases zd zs hs c <;> rfl)
theorem yp8(zs:List Zo)(p:Ls):∀ i,i<(zs++[(⟨p,true,[]⟩:Zo)]).length->DSL (catF zs.length (zE zs) (qs [.str p,.sl true 0 0 (λ_=>[])] 2) i) (zE (zs++[⟨p,true,[]⟩]) i):=λi hi=>by
 rw [pq] at hi;have hi:i<zs.length+1:=hi;unfold catF zE;split
 ·rename_i h;rw[List.getD,List.getD,mn h];exact DSL.refl _
 ·rename_i h;obtain rfl:i=zs.length:=om
  rw[ly,List.getD,m7 (pu _),ly];exact⟨.refl _,.none _ _ _ _ _,trivial⟩
theorem yt1(zs:List Zo)(p:Ls):(qo (zs++[(⟨p,true,[]⟩:Zo)])).rrs=[]:=by unfold qo;simp[List.getD]
theorem ym8{V:List Int}{j:Nat}{k:Int}(h:V[j]? = some k):∀ i,i<j+1->catF j (intF V) (qs [.int .i64 k] 1) i=intF V i:=λi hi=>by
 unfold catF;split
 ·rfl
 ·obtain rfl:i=j:=om
  rw[ly];unfold intF;rw[List.getD,h];rfl
theorem yz5(hs:List Ho)(a:Int)(V:List Int):∀ i,i<hs.length+1->catF hs.length (hF hs) (qs [.int .u32 a,.sl (Nat.beq V.length 0) V.length 1 (intF V)] 2) i=hF (hs++[(a,Nat.beq V.length 0,V)]) i:=λi hi=>by
 unfold catF hF;split
 ·rename_i h;rw[List.getD,List.getD,mn h]
 ·rename_i h;obtain rfl:i=hs.length:=om
  rw[ly,List.getD,m7 (pu _),ly];rfl
theorem jb3(a:Zo)(l:List Zo)(Z:Zo):qo ((a :: l).set ((a :: l).length - 1) Z)=Z:=by
 unfold qo;rw[lw,List.getD,m5,if_pos rfl,if_pos sm]
 rfl
theorem zf2{a:Zo}{l:List Zo}{R:List RR}{p q:Nat}{ρ:List Nat}(hp:posN q ρ 0=some 4)(i:Nat)(hi:i<l.length+1):SubL (renL ρ (oneS l.length 1 [.all q] (zF (a :: l) p) i)) (zF ((a :: l).set ((a :: l).length - 1) ⟨(qo (a :: l)).apex,false,R⟩) 4 i):=by
 by_cases hil:i=l.length
 ·subst hil;rw[je3 _ _ _ _ _ (qj3 a l p)];have e:zF ((a :: l).set ((a :: l).length - 1) ⟨(qo (a :: l)).apex,false,R⟩) 4 l.length=[.d (.str (qo (a :: l)).apex),.all 4]:=by
   unfold zF;rw[lw,if_pos (show l.length+1=(a :: l).length from rfl),List.getD,m5,if_pos (show(a :: l).length - 1=l.length from rfl),if_pos sm]
   rfl
  rw[e];refine⟨rfl,?_,True.intro⟩;show SubV (match posN q ρ 0 with|some p=>SV.all p|none=>.any) _;rw[hp];exact rfl
 ·rw[qu5 _ _ om];unfold zF;rw[lw,if_neg (by simp only[pw];omega),if_neg (by simp only[pw];omega),List.getD,List.getD,m5,if_neg (by simp only[pw];omega)];exact⟨rfl,ja8 _,True.intro⟩
structure StQ where
 i:Nat
 f:Nat
 m:Md
 zs:List Zo
 hs:List Ho
theorem zn4(s:Ls)(hs:s.length<=100000):FnOk Tryz.prog 11 [.d (.str s)] (.tup [(refP s).1.V,.d (.int .i64 (refP s).2)]):=by
 refine qi (TT:=TT) (IN:=qd []) qe qg mixed 1000 Tryz.func11 rfl (qb Tryz.func11 (by kernel_rfl) rfl) rfl 154 (by kernel_rfl) ?_;generalize hK:refP s=K;conv=>whnf
 refine .nilC 1 0 58 2 (zE []) _ _ _ _ rfl rfl ?_;conv=>whnf
 refine .nilC 1 1 32 2 (hF []) _ _ _ _ rfl rfl ?_;conv=>whnf
 refine .pad ?_;conv=>whnf
 obtain⟨A,hA⟩:∃ A,A=rdR [] s [] []:=⟨_,rfl⟩;unfold refP at hK;rw [<-hA] at hK;refine .inv StQ (λx=>rdR ((s.drop x.f).take (x.i - x.f)) (s.drop x.i) x.zs x.hs=A/\x.i<=s.length/\x.f<=x.i/\RdI x.i x.zs x.hs/\x.zs.length<=100/\x.hs.length<=100/\x.m.Ok x.zs) (λx=>[(5,iV x.f),(6,iV x.i)]) (λx=>[(2,zQ x.m 4 x.zs),(3,hB x.hs),(4,rQ x.m x.zs)]) (λx=>s.length - x.i) ⟨⟨0,0,.dat .iff (zE []),[],[]⟩,[0,1,2,3,4],⟨hA.symm,pv _,pu _,.init,pv _,pv _,.inl rfl,λh=>absurd rfl h,λi hi=>absurd hi (fw _)⟩,?_⟩ ?_
 ·exact rY11
 rintro x ⟨i1,i2,i3,i4,i5,i6,i7⟩
 generalize x.i=i at i1 i2 i3 i4 ⊢;generalize x.f=f at i1 i3 ⊢;generalize x.zs=zs at i1 i4 i5 i7 ⊢;generalize x.hs=hh at i1 i4 i6 ⊢;generalize x.m=m at i7 ⊢;have hw1:=w64s i om;rcases m with⟨z,Y⟩|_
 ·obtain⟨j1,j2,j3⟩:=i7;conv=>whnf
  refine⟨λc0=>?_,λc0=>?_⟩
  case refine_2 =>
   have c0':i=s.length:=(by have h:¬ (i:Int)<s.length:=py c0;omega);rw [c0',f8] at i1;have hA2:some (zs,hh)=A:=i1;rw [<-hA2] at hK;have hK:(if jd (mkF zs hh)=(s,0) then (mkF zs hh,(0:Int)) else (nilF,6))=K:=hK;conv=>whnf
   refine .rel _ (kb0 _ _ _ z zs Y j3 hh i4 om j1) (λx ks' hR=>?_);unfold txV at hR;obtain⟨rfl,rfl⟩:=hR;obtain⟨T,hT⟩:∃ T,T=jd (mkF zs hh):=⟨_,rfl⟩;rw [<-hT] at hK ⊢;obtain⟨t1,t2⟩:=T;conv=>whnf
   by_cases ht1:t2=0
   case neg =>
    rw [if_neg (λe=>ht1 (congrArg Prod.snd e))] at hK;subst hK;refine brT (by simpa using ht1) ?_;conv=>whnf
    repeat((first|apply Fr|apply Tr);conv=>whnf)
    repeat'(first|exact ⟨⟩|exact rfl|exact λ_=>Iff.rfl|exact λ_ _=>rfl|exact renM_ent rfl _|apply And.intro)
    all_goals first|exact .inl rfl|exact .inr rfl|exact noI|exact λ_ _=>rfl
   subst ht1;apply Fr;conv=>whnf
   by_cases ht2:t1=s
   case neg =>
    rw [if_neg (λe=>ht2 (congrArg Prod.fst e))] at hK;subst hK;refine brT (by simpa using ht2) ?_;conv=>whnf
    repeat((first|apply Fr|apply Tr);conv=>whnf)
    repeat'(first|exact ⟨⟩|exact rfl|exact λ_=>Iff.rfl|exact λ_ _=>rfl|exact renM_ent rfl _|apply And.intro)
    all_goals first|exact .inl rfl|exact .inr rfl|exact noI|exact λ_ _=>rfl
   subst ht2;rw [if_pos rfl] at hK;subst hK;rcases j1 with rfl|⟨rfl,hne⟩
   ·refine brF sm ?_;conv=>whnf
    repeat((first|apply Fr|apply Tr);conv=>whnf)
    repeat'(first|exact ⟨⟩|exact rfl|exact λ_=>Iff.rfl|exact λ_ _=>rfl|exact renM_ent rfl _|apply And.intro)
    all_goals first|exact .inl rfl|exact .inr rfl|exact noI|exact λ_ _=>rfl
   ·obtain⟨a,l,rfl⟩:∃ a l,zs=a :: l:=by cases zs with|nil=>exact absurd rfl hne|cons a l=>exact⟨a,l,rfl⟩
    refine brF sm ?_;conv=>whnf
    repeat((first|apply Fr|apply Tr);conv=>whnf)
    repeat'(first|exact ⟨⟩|exact rfl|exact λ_=>Iff.rfl|exact λ_ _=>rfl|exact renM_ent rfl _|apply And.intro)
    all_goals first|exact .inl rfl|exact .inr rfl|exact noI|exact λ_ _=>rfl
  have c0':i<s.length:=(by have h:(i:Int)<s.length:=px c0;omega);have hsk:s[i]? = some s[i]:=pp c0';have hbk:qw s (i:Int)=((s[i].toNat:Nat):Int):=by rw[jl];unfold bt;rw[hsk];rfl
  have hdr:s.drop i=s[i] :: s.drop (i+1):=lu c0';have hcl:(s.drop f).take (i+1 - f)=(s.drop f).take (i - f)++[s[i]]:=by
   rw[show i+1 - f=(i - f)+1 by omega,o3,m8,show f+(i - f)=i by omega,hsk]
   rfl
  have hsub:sub s (f:Int) (i:Int)=(s.drop f).take (i - f):=by unfold sub;rw[pr,pr]
  have hctl:((s.drop f).take (i - f)).length<=100000:=by rw[o4,ou];omega
  generalize s[i]=b at hsk hbk hdr hcl;generalize (s.drop f).take (i - f)=c at i1 hcl hsub hctl;rw [hdr] at i1;conv=>whnf
  refine⟨om,?_⟩;conv=>whnf
  rw[hbk];by_cases hb:b=10
  case neg =>
   have i1:rdR (c++[b]) (s.drop (i+1)) zs hh=A:=by rw[<-i1];exact(if_neg hb).symm
   refine brT (by rw[bne_iff_ne];intro e;exact hb (UInt8.toNat_inj.1 (by have:(b.toNat:Int)=10:=e;show b.toNat=10;omega))) ?_;conv=>whnf
   rw[hw1];refine⟨⟨i+1,f,.dat z Y,zs,hh⟩,[0,1,2,3,4],⟨by show rdR ((s.drop f).take (i+1 - f)) (s.drop (i+1)) zs hh=A;rw[hcl];exact i1,c0',by show f<=i+1;omega,i4.up (Nat.le_succ i),i5,i6,j1,j2,j3⟩,by show s.length - (i+1)<s.length - i;omega,?_⟩;conv=>whnf
   repeat'(first|exact ⟨⟩|exact rfl|exact(λ_ _ _ _ h=>⟨jq _,h⟩)|exact λ_=>Iff.rfl|exact λ_ _=>rfl|apply And.intro)
   all_goals first|exact kx _ _|exact λi _=>qg7 (by rfl) i
  subst hb;apply Fr;conv=>whnf
  refine⟨om,?_⟩;conv=>whnf
  rw[hsub];refine .rel _ (ka4 _ _ _ _ z zs.length Y (zE zs) j3 c om) (λx ks' hR=>?_);obtain⟨rfl,rfl⟩:=hR;have hsl:=jr1 c;have hsn:0<(spl c).length:=g9.2 (zc5 c);have hlr:zd zs hh c=_:=rfl;conv at hlr=>rhs;unfold zd
  have h0e:(spl c).getD 0 []=(spl c)[0]?.getD []:=rfl;rw [h0e] at hlr;have hwl:∀ w ∈ spl c,w.length<=100000:=λw hw=>by have:=jf6 c w hw;omega
  generalize spl c=ws at hsl hsn hlr hwl ⊢;conv=>whnf
  refine⟨om,?_⟩;conv=>whnf
  rw [yx4] at i1;obtain⟨w0,hw0⟩:∃ w,ws[0]?.getD []=w:=⟨_,rfl⟩;rw [hw0] at hlr;have hcase:(w0=yy/\ws.length=2)\/(w0≠yy/\w0=zf/\2<=ws.length)\/(¬ (w0=yy/\ws.length=2)/\¬ (w0=zf/\2<=ws.length))/\((w0=yy/\w0≠zf/\ws.length≠2)\/(w0≠yy/\w0=zf/\¬ 2<=ws.length)\/(w0≠yy/\w0≠zf/\True)):=by
   have hzh:yy≠zf:=by decide
   by_cases e1:w0=yy
   ·by_cases e2:ws.length=2
    ·exact .inl ⟨e1,e2⟩
    ·exact .inr (.inr ⟨⟨λh=>e2 h.2,λh=>hzh (e1 ▸ h.1)⟩,.inl ⟨e1,λh=>hzh (e1 ▸ h),e2⟩⟩)
   ·by_cases e3:w0=zf
    ·by_cases e4:2<=ws.length
     ·exact .inr (.inl ⟨e1,e3,e4⟩)
     ·exact .inr (.inr ⟨⟨λh=>e1 h.1,λh=>e4 h.2⟩,.inr (.inl ⟨e1,e3,e4⟩)⟩)
    ·exact .inr (.inr ⟨⟨λh=>e1 h.1,λh=>e3 h.1⟩,.inr (.inr ⟨e1,e3,trivial⟩)⟩)
  have bz:(ws[0]?.getD [] == yy)=decide (w0=yy):=by rw[hw0,my,oy,lr]
  have bh:(ws[0]?.getD [] == zf)=decide (w0=zf):=by rw[hw0,my,oy,lr]
  rcases hcase with⟨hz,h2⟩|⟨hnz,hho,h2⟩|⟨⟨hn1,hn2⟩,hcase⟩
  ·rw [if_pos ⟨hz,h2⟩] at hlr;refine brT (bz.trans (pn hz)) ?_;conv=>whnf
   refine brT (by rw[h2];rfl) ?_;conv=>whnf
   refine⟨om,?_⟩;conv=>whnf
   have hwe:(ws.getD 1 [])=ws[1]?.getD []:=rfl;rw [hwe] at hlr;refine oD (jk9 (ws[1]?.getD [])) rfl rfl ?_;generalize jb (ws[1]?.getD [])=P at hlr ⊢;have i8:=i4.line om hlr;rw [hlr] at i1;conv=>whnf
   refine⟨om,?_⟩;conv=>whnf
   refine⟨λg1=>?_,λg1=>?_⟩
   ·have g1:100<zs.length+1:=by have h:=px g1;omega
    have i1:none=A:=by rw[<-i1];exact(if_pos (.inl (by rw[pq];exact g1))).symm
    rw [<-i1] at hK;subst hK;conv=>whnf
    repeat((first|apply Fr|apply Tr);conv=>whnf)
    repeat'(first|exact ⟨⟩|exact rfl|exact λ_=>Iff.rfl|exact λ_ _=>rfl|exact renM_ent rfl _|apply And.intro)
    all_goals first|exact .inl rfl|exact .inr rfl|exact noI|exact λ_ _=>rfl
   have g1:zs.length+1<=100:=by have h:=py g1;omega
   have i1:rdR [] (s.drop (i+1)) (zs++[⟨P.1,true,[]⟩]) hh=A:=by rw[<-i1];exact(if_neg (by rw[pq];show ¬ (100<zs.length+1\/100<hh.length);omega)).symm
   conv=>whnf
   refine brF (po om) ?_;conv=>whnf
   rw[hw1];refine⟨⟨i+1,i+1,.dat z (catF zs.length (zE zs) (qs [.str P.1,.sl true 0 0 (λ_=>[])] 2)),zs++[⟨P.1,true,[]⟩],hh⟩,[0,1,6,3,4],⟨by show rdR ((s.drop (i+1)).take (i+1 - (i+1))) _ _ _=A;rw[ly];exact i1,c0',pu _,i8,by rw[pq];exact g1,i6,j1.imp id λh=>⟨h.1,sm⟩,λ_=>yt1 _ _,yp8 _ _⟩,by show s.length - (i+1)<s.length - i;omega,?_⟩;conv=>whnf
   repeat'(first|exact ⟨⟩|exact rfl|exact(λ_ _ _ _ h=>⟨jq _,h⟩)|exact λ_=>Iff.rfl|exact λ_ _=>rfl|apply And.intro)
   all_goals first|exact kx _ _|(show zs.length+1=(zs++[_]).length;simp)
  ·rw [if_neg (λh=>hnz h.1),if_pos ⟨hho,h2⟩] at hlr;refine brF (bz.trans (po hnz)) ?_;conv=>whnf
   repeat((first|apply Fr|apply Tr);conv=>whnf)
   refine⟨om,?_⟩;conv=>whnf
   refine brT (bh.trans (pn hho)) ?_;conv=>whnf
   refine brT (pn om) ?_;conv=>whnf
   refine⟨om,?_⟩;conv=>whnf
   have hwe:(ws.getD 1 [])=ws[1]?.getD []:=rfl;unfold jh8 at hlr;rw [hwe] at hlr;have hw1m:(ws[1]?.getD []).length<=100000:=hwl _ (by rw[pp om];exact oz _);refine oD (qi8 (ws[1]?.getD []) om) rfl rfl ?_;generalize vW (ws[1]?.getD [])=v1 at hlr ⊢;have i8:=i4.line om hlr;rw [hlr] at i1;conv=>whnf
   refine⟨om,?_⟩;conv=>whnf
   obtain⟨V,hV⟩:∃ V,V=(ws.drop 2).map λw=>((vW w:Nat):Int):=⟨_,rfl⟩
   have hVl:V.length=ws.length - 2:=by rw[hV,mq,ou]
   rw [<-hV] at hlr i1 i8;rw [show Nat.beq (ws.drop 2).length 0=Nat.beq V.length 0 by rw [hV,mq]] at hlr i1 i8;rw[show((ws.length:Int) - 2).toNat=V.length by omega];refine .nilC 5 1 3 1 (λ_=>[]) _ _ _ _ rfl rfl ?_;conv=>whnf
   refine .inv Nat (λj=>j<=V.length) (λj=>[(110,iV j)]) (λj=>[(6,.row 3 1 j .iff (intF V))]) (λj=>V.length - j) ⟨0,[0,1,2,3,4,5,6],pv _,?_⟩ ?_
   ·conv=>whnf
    repeat'(first|exact ⟨⟩|exact rfl|exact(λ_ _ _ _ h=>⟨jq _,h⟩)|exact λ_=>Iff.rfl|exact λ_ _=>rfl|apply And.intro)
    all_goals first|exact kx _ _|exact noI|exact λi _=>qg7 (by rfl) i
   intro j hj;conv=>whnf
   refine⟨λd1=>?_,λd1=>?_⟩
   ·have d1:j<V.length:=by have h:=px d1;omega
    have hwj:=w64s j om;obtain⟨w,hw⟩:∃ w,ws[2+j]?.getD []=w:=⟨_,rfl⟩;have hwm:ws[2+j]? = some w:=by rw[<-hw,pp om];rfl
    have hwll:=hwl w (ov hwm);have hVj:V[j]? = some ((vW w:Nat):Int):=by rw[hV,mw,m8,hwm];rfl
    conv=>whnf
    refine⟨om,?_⟩;conv=>whnf
    rw[show Int.toNat 2+Int.toNat (j:Int)=2+j from rfl,hw];refine .data _ (qi8 w om) rfl rfl ?_;conv=>whnf
    refine⟨(by omega:(j+1) * 8<=70368744177664),?_⟩;conv=>whnf
    rw[hwj];refine⟨j+1,[0,1,2,3,4,5,8],d1,om,?_⟩;conv=>whnf
    repeat'(first|exact ⟨⟩|exact rfl|exact(λ_ _ _ _ h=>⟨jq _,h⟩)|exact λ_=>Iff.rfl|exact λ_ _=>rfl|apply And.intro)
    all_goals first|exact kx _ _|exact noI|exact λi _=>qg7 (by rfl) i|exact ym8 hVj
   ·have d1:j=V.length:=by have h:=py d1;omega
    rw[d1];conv=>whnf
    refine⟨om,?_⟩;conv=>whnf
    refine brF (po om) ?_;conv=>whnf
    refine⟨λg1=>?_,λg1=>?_⟩
    ·have g1:100<hh.length+1:=by have h:=px g1;omega
     have i1:none=A:=by rw[<-i1];exact(if_pos (.inr (by rw[pq];exact g1))).symm
     rw [<-i1] at hK;subst hK;conv=>whnf
     repeat((first|apply Fr|apply Tr);conv=>whnf)
     repeat'(first|exact ⟨⟩|exact rfl|exact λ_=>Iff.rfl|exact λ_ _=>rfl|exact renM_ent rfl _|apply And.intro)
     all_goals first|exact .inl rfl|exact .inr rfl|exact noI|exact λ_ _=>rfl
    have g1:hh.length+1<=100:=by have h:=py g1;omega
    have i1:rdR [] (s.drop (i+1)) zs (hh++[(IntKind.u32.wrap ((v1:Nat):Int),Nat.beq V.length 0,V)])=A:=by rw[<-i1];exact(if_neg (by rw[pq];show ¬ (100<zs.length\/100<hh.length+1);omega)).symm
    conv=>whnf
    rw[hw1];refine⟨⟨i+1,i+1,(.dat z (zE zs)),zs,hh++[(IntKind.u32.wrap ((v1:Nat):Int),Nat.beq V.length 0,V)]⟩,[0,1,2,8,4],⟨by show rdR ((s.drop (i+1)).take (i+1 - (i+1))) _ _ _=A;rw[ly];exact i1,c0',pu _,i8,i5,by rw[pq];exact g1,j1,j2,λi hi=>DSL.refl _⟩,by show s.length - (i+1)<s.length - i;omega,?_⟩;conv=>whnf
    repeat'(first|exact ⟨⟩|exact rfl|exact(λ_ _ _ _ h=>⟨jq _,h⟩)|exact λ_=>Iff.rfl|exact λ_ _=>rfl|apply And.intro)
    all_goals first|exact kx _ _|(show hh.length+1=(hh++[_]).length;simp;done)|exact λi _=>qg7 (by rfl) i|exact yz5 _ _ _
  ·rw [if_neg hn1,if_neg hn2] at hlr;rcases zs with _|⟨a,l⟩
   ·have hlr:zd [] hh c=none:=by rw[hlr];cases yw c <;> rfl
    rw [hlr] at i1;have i1:none=A:=i1;rw [<-i1] at hK;subst hK;have hpr:=jk5 c om;rcases hcase with⟨q1,q2,q3⟩|⟨q1,q2,q3⟩|⟨q1,q2,q3⟩
    all_goals
     first
      |refine brT (bz.trans (pn q1)) ?_
      |refine brF (bz.trans (po q1)) ?_
     conv=>whnf
     try (refine brF (by rw[oo];omega) ?_;conv=>whnf)
     repeat((first|apply Fr|apply Tr);conv=>whnf)
     refine⟨om,?_⟩;conv=>whnf
     first
      |refine brF (bh.trans (po q2)) ?_
      |(
       refine brT (bh.trans (pn q2)) ?_;conv=>whnf
       refine brF (po om) ?_)
     conv=>whnf
     repeat((first|apply Fr|apply Tr);conv=>whnf)
     refine⟨om,?_⟩;conv=>whnf
     rw[hsub];refine .one (.data _ hpr rfl (by unfold qf4;cases yw c <;> rfl) ?_);cases yw c with
     |none =>
      conv=>whnf
      repeat((first|apply Fr|apply Tr);conv=>whnf)
      repeat'(first|exact ⟨⟩|exact rfl|exact λ_=>Iff.rfl|exact λ_ _=>rfl|exact renM_ent rfl _|apply And.intro)
      all_goals first|exact .inl rfl|exact .inr rfl|exact noI|exact λ_ _=>rfl
     |some r =>
      conv=>whnf
      repeat((first|apply Fr|apply Tr);conv=>whnf)
      repeat'(first|exact ⟨⟩|exact rfl|exact λ_=>Iff.rfl|exact λ_ _=>rfl|exact renM_ent rfl _|apply And.intro)
      all_goals first|exact .inl rfl|exact .inr rfl|exact noI|exact λ_ _=>rfl
   ·have hpr:=λA B C D=>kb8 A B C D a l z i4.nz (j2 sm) c om
    rcases hcase with⟨q1,q2,q3⟩|⟨q1,q2,q3⟩|⟨q1,q2,q3⟩
    all_goals
     first
      |refine brT (bz.trans (pn q1)) ?_
      |refine brF (bz.trans (po q1)) ?_
     conv=>whnf
     try (refine brF (by rw[oo];omega) ?_;conv=>whnf)
     repeat((first|apply Fr|apply Tr);conv=>whnf)
     refine⟨om,?_⟩;conv=>whnf
     first
      |refine brF (bh.trans (po q2)) ?_
      |(
       refine brT (bh.trans (pn q2)) ?_;conv=>whnf
       refine brF (po om) ?_)
     conv=>whnf
     repeat((first|apply Fr|apply Tr);conv=>whnf)
     refine⟨om,?_⟩;conv=>whnf
     rw[hsub];refine .rel _ (hpr _ _ _ _) (λx ks' hR=>?_);obtain⟨rfl,rfl⟩:=hR;cases hp:yw c with
     |none =>
      rw [hp] at hlr;have hlr:zd (a :: l) hh c=none:=hlr;rw [hlr] at i1;have i1:none=A:=i1;rw [<-i1] at hK;subst hK;conv=>whnf
      repeat((first|apply Fr|apply Tr);conv=>whnf)
      repeat'(first|exact ⟨⟩|exact rfl|exact λ_=>Iff.rfl|exact λ_ _=>rfl|exact renM_ent rfl _|apply And.intro)
      all_goals first|exact .inl rfl|exact .inr rfl|exact noI|exact λ_ _=>rfl
     |some r =>
      rw [hp] at hlr;have i8:=i4.line om hlr;rw [hlr] at i1;conv=>whnf
      repeat((first|apply Fr|apply Tr);conv=>whnf)
      have hwl1:IntKind.i64.wrap (((l.length+1:Nat):Int) - 1)=(l.length:Int):=by rw [qc _ (by simp only [pw] at i5;omega)];omega
      apply Exists.intro;apply Exists.intro;refine⟨?_,?_⟩
      ·conv=>whnf
       rw[hwl1];refine⟨⟨om,om⟩,?_⟩;conv=>whnf
       rw[pr,qj3];conv=>whnf
       repeat'(first
        |exact True.intro
        |(refine⟨⟨om,om⟩,?_⟩;conv=>whnf;rw[pr])
        |(apply And.intro <;> conv=>whnf))
       all_goals exact au rfl
      conv=>whnf
      dsimp only at i1
      rw [if_neg sm] at i1
      dsimp only at i1
      rw [if_neg (by rw [lw];omega)] at i1;refine brF (po (by simp only [pw] at i5;omega)) ?_;conv=>whnf
      refine brF (po om) ?_;conv=>whnf
      rw[hw1];refine⟨⟨i+1,i+1,.opn,(a :: l).set ((a :: l).length - 1) ⟨(qo (a :: l)).apex,false,(qo (a :: l)).rrs++[r]⟩,hh⟩,[0,1,2,3,8],⟨by show rdR ((s.drop (i+1)).take (i+1 - (i+1))) _ _ _=A;rw[ly];exact i1,c0',pu _,i8,by rw[lw];exact i5,i6,by show(a :: l).set _ _≠[];simp⟩,by show s.length - (i+1)<s.length - i;omega,?_⟩;conv=>whnf
      repeat'(first|exact ⟨⟩|exact rfl|exact(λ_ _ _ _ h=>⟨jq _,h⟩)|exact λ_=>Iff.rfl|exact λ_ _=>rfl|apply And.intro)
      all_goals first
       |(show l.length+1=((a :: l).set _ _).length;rw[lw];rfl)
       |exact λi hi=>zf2 (by rfl) i hi
       |(show 0+1=(qo ((a :: l).set _ _)).rrs.length;rw[jb3,j2 sm];rfl)
       |(
        intro i hi;show _=rrF (qo ((a :: l).set _ _)).rrs i;rw[jb3,j2 sm];exact jr3 [] r i hi)
  done
 ·obtain⟨a,l,rfl⟩:∃ a l,zs=a :: l:=by cases zs with|nil=>exact absurd rfl i7|cons a l=>exact⟨a,l,rfl⟩
  have hal:(a :: l).length=l.length+1:=rfl;conv=>whnf
  refine⟨λc0=>?_,λc0=>?_⟩
  case refine_2 =>
   have c0':i=s.length:=(by have h:¬ (i:Int)<s.length:=py c0;omega);rw [c0',f8] at i1;have hA2:some (a :: l,hh)=A:=i1;rw [<-hA2] at hK;have hK:(if jd (mkF (a :: l) hh)=(s,0) then (mkF (a :: l) hh,(0:Int)) else (nilF,6))=K:=hK;conv=>whnf
   refine .rel _ (ka9 _ _ a l hh i4 om) (λx ks' hR=>?_);unfold txV at hR;obtain⟨rfl,rfl⟩:=hR;obtain⟨T,hT⟩:∃ T,T=jd (mkF (a :: l) hh):=⟨_,rfl⟩;rw [<-hT] at hK ⊢;obtain⟨t1,t2⟩:=T;conv=>whnf
   by_cases ht1:t2=0
   case neg =>
    rw [if_neg (λe=>ht1 (congrArg Prod.snd e))] at hK;subst hK;refine brT (by simpa using ht1) ?_;conv=>whnf
    repeat((first|apply Fr|apply Tr);conv=>whnf)
    repeat'(first|exact ⟨⟩|exact rfl|exact λ_=>Iff.rfl|exact λ_ _=>rfl|exact renM_ent rfl _|apply And.intro)
    all_goals first|exact .inl rfl|exact .inr rfl|exact noI|exact λ_ _=>rfl
   subst ht1;apply Fr;conv=>whnf
   by_cases ht2:t1=s
   case neg =>
    rw [if_neg (λe=>ht2 (congrArg Prod.fst e))] at hK;subst hK;refine brT (by simpa using ht2) ?_;conv=>whnf
    repeat((first|apply Fr|apply Tr);conv=>whnf)
    repeat'(first|exact ⟨⟩|exact rfl|exact λ_=>Iff.rfl|exact λ_ _=>rfl|exact renM_ent rfl _|apply And.intro)
    all_goals first|exact .inl rfl|exact .inr rfl|exact noI|exact λ_ _=>rfl
   subst ht2;rw [if_pos rfl] at hK;subst hK;refine brF sm ?_;conv=>whnf
   repeat((first|apply Fr|apply Tr);conv=>whnf)
   repeat'(first|exact ⟨⟩|exact rfl|exact λ_=>Iff.rfl|exact λ_ _=>rfl|exact renM_ent rfl _|apply And.intro)
   all_goals first|exact .inl rfl|exact .inr rfl|exact noI|exact λ_ _=>rfl
  have c0':i<s.length:=(by have h:(i:Int)<s.length:=px c0;omega);have hsk:s[i]? = some s[i]:=pp c0';have hbk:qw s (i:Int)=((s[i].toNat:Nat):Int):=by rw[jl];unfold bt;rw[hsk];rfl
  have hdr:s.drop i=s[i] :: s.drop (i+1):=lu c0';have hcl:(s.drop f).take (i+1 - f)=(s.drop f).take (i - f)++[s[i]]:=by
   rw[show i+1 - f=(i - f)+1 by omega,o3,m8,show f+(i - f)=i by omega,hsk]
   rfl
  have hsub:sub s (f:Int) (i:Int)=(s.drop f).take (i - f):=by unfold sub;rw[pr,pr]
  have hctl:((s.drop f).take (i - f)).length<=100000:=by rw[o4,ou];omega
  generalize s[i]=b at hsk hbk hdr hcl;generalize (s.drop f).take (i - f)=c at i1 hcl hsub hctl;rw [hdr] at i1;conv=>whnf
  refine⟨om,?_⟩;conv=>whnf
  rw[hbk];by_cases hb:b=10
  case neg =>
   have i1:rdR (c++[b]) (s.drop (i+1)) (a :: l) hh=A:=by rw[<-i1];exact(if_neg hb).symm
   refine brT (by rw[bne_iff_ne];intro e;exact hb (UInt8.toNat_inj.1 (by have:(b.toNat:Int)=10:=e;show b.toNat=10;omega))) ?_;conv=>whnf
   rw[hw1];refine⟨⟨i+1,f,.opn,a :: l,hh⟩,[0,1,2,3,4],⟨by show rdR ((s.drop f).take (i+1 - f)) (s.drop (i+1)) (a :: l) hh=A;rw[hcl];exact i1,c0',by show f<=i+1;omega,i4.up (Nat.le_succ i),i5,i6,i7⟩,by show s.length - (i+1)<s.length - i;omega,?_⟩;conv=>whnf
   repeat'(first|exact ⟨⟩|exact rfl|exact(λ_ _ _ _ h=>⟨jq _,h⟩)|exact λ_=>Iff.rfl|exact λ_ _=>rfl|apply And.intro)
   all_goals first|exact kx _ _|exact λi _=>qg7 (by rfl) i
  subst hb;apply Fr;conv=>whnf
  refine⟨om,?_⟩;conv=>whnf
  rw[hsub];refine oD (jn5 c om) rfl rfl ?_;have hsl:=jr1 c;have hsn:0<(spl c).length:=g9.2 (zc5 c);have hlr:zd (a :: l) hh c=_:=rfl;conv at hlr=>rhs;unfold zd
  have h0e:(spl c).getD 0 []=(spl c)[0]?.getD []:=rfl;rw [h0e] at hlr;have hwl:∀ w ∈ spl c,w.length<=100000:=λw hw=>by have:=jf6 c w hw;omega
  generalize spl c=ws at hsl hsn hlr hwl ⊢;conv=>whnf
  refine⟨om,?_⟩;conv=>whnf
  rw [yx4] at i1;obtain⟨w0,hw0⟩:∃ w,ws[0]?.getD []=w:=⟨_,rfl⟩;rw [hw0] at hlr;have hcase:(w0=yy/\ws.length=2)\/(w0≠yy/\w0=zf/\2<=ws.length)\/(¬ (w0=yy/\ws.length=2)/\¬ (w0=zf/\2<=ws.length))/\((w0=yy/\w0≠zf/\ws.length≠2)\/(w0≠yy/\w0=zf/\¬ 2<=ws.length)\/(w0≠yy/\w0≠zf/\True)):=by
   have hzh:yy≠zf:=by decide
   by_cases e1:w0=yy
   ·by_cases e2:ws.length=2
    ·exact .inl ⟨e1,e2⟩
    ·exact .inr (.inr ⟨⟨λh=>e2 h.2,λh=>hzh (e1 ▸ h.1)⟩,.inl ⟨e1,λh=>hzh (e1 ▸ h),e2⟩⟩)
   ·by_cases e3:w0=zf
    ·by_cases e4:2<=ws.length
     ·exact .inr (.inl ⟨e1,e3,e4⟩)
     ·exact .inr (.inr ⟨⟨λh=>e1 h.1,λh=>e4 h.2⟩,.inr (.inl ⟨e1,e3,e4⟩)⟩)
    ·exact .inr (.inr ⟨⟨λh=>e1 h.1,λh=>e3 h.1⟩,.inr (.inr ⟨e1,e3,trivial⟩)⟩)
  have bz:(ws[0]?.getD [] == yy)=decide (w0=yy):=by rw[hw0,my,oy,lr]
  have bh:(ws[0]?.getD [] == zf)=decide (w0=zf):=by rw[hw0,my,oy,lr]
  rcases hcase with⟨hz,h2⟩|⟨hnz,hho,h2⟩|⟨⟨hn1,hn2⟩,hcase⟩
  ·rw [if_pos ⟨hz,h2⟩] at hlr;refine brT (bz.trans (pn hz)) ?_;conv=>whnf
   refine brT (by rw[h2];rfl) ?_;conv=>whnf
   refine⟨om,?_⟩;conv=>whnf
   have hwe:(ws.getD 1 [])=ws[1]?.getD []:=rfl;rw [hwe] at hlr;refine .rel _ (kb7 _ _ _ a l i4.nz (ws[1]?.getD [])) (λx ks' hR=>?_);obtain⟨rfl,rfl⟩:=hR;generalize jb (ws[1]?.getD [])=P at hlr ⊢;have i8:=i4.line om hlr;rw [hlr] at i1;conv=>whnf
   refine⟨om,?_⟩;conv=>whnf
   refine⟨λg1=>?_,λg1=>?_⟩
   ·have g1:100<(a :: l).length+1:=by have h:=px g1;omega
    have i1:none=A:=by rw[<-i1];exact(if_pos (.inl (by rw[pq];exact g1))).symm
    rw [<-i1] at hK;subst hK;conv=>whnf
    repeat((first|apply Fr|apply Tr);conv=>whnf)
    repeat'(first|exact ⟨⟩|exact rfl|exact λ_=>Iff.rfl|exact λ_ _=>rfl|exact renM_ent rfl _|apply And.intro)
    all_goals first|exact .inl rfl|exact .inr rfl|exact noI|exact λ_ _=>rfl
   have g1:(a :: l).length+1<=100:=by have h:=py g1;omega
   have i1:rdR [] (s.drop (i+1)) (a :: l++[⟨P.1,true,[]⟩]) hh=A:=by rw[<-i1];exact(if_neg (by rw[pq];show ¬ (100<(a :: l).length+1\/100<hh.length);omega)).symm
   conv=>whnf
   refine brF (po om) ?_;conv=>whnf
   rw[hw1];refine⟨⟨i+1,i+1,.dat .no (catF (l.length+1) (zE (a :: l)) (qs [.str P.1,.sl true 0 0 (λ_=>[])] 2)),a :: l++[⟨P.1,true,[]⟩],hh⟩,[0,1,6,3,4],⟨by show rdR ((s.drop (i+1)).take (i+1 - (i+1))) _ _ _=A;rw[ly];exact i1,c0',pu _,i8,by rw[pq];exact g1,i6,.inr ⟨rfl,sm⟩,λ_=>yt1 _ _,yp8 _ _⟩,by show s.length - (i+1)<s.length - i;omega,?_⟩;conv=>whnf
   repeat'(first|exact ⟨⟩|exact rfl|exact(λ_ _ _ _ h=>⟨jq _,h⟩)|exact λ_=>Iff.rfl|exact λ_ _=>rfl|apply And.intro)
   all_goals first|exact kx _ _|(show l.length+1+1=(a :: l++[_]).length;simp)
  ·rw [if_neg (λh=>hnz h.1),if_pos ⟨hho,h2⟩] at hlr;refine brF (bz.trans (po hnz)) ?_;conv=>whnf
   repeat((first|apply Fr|apply Tr);conv=>whnf)
   refine⟨om,?_⟩;conv=>whnf
   refine brT (bh.trans (pn hho)) ?_;conv=>whnf
   refine brT (pn om) ?_;conv=>whnf
   refine⟨om,?_⟩;conv=>whnf
   have hwe:(ws.getD 1 [])=ws[1]?.getD []:=rfl;unfold jh8 at hlr;rw [hwe] at hlr;have hw1m:(ws[1]?.getD []).length<=100000:=hwl _ (by rw[pp om];exact oz _);refine oD (qi8 (ws[1]?.getD []) om) rfl rfl ?_;generalize vW (ws[1]?.getD [])=v1 at hlr ⊢;have i8:=i4.line om hlr;rw [hlr] at i1;conv=>whnf
   refine⟨om,?_⟩;conv=>whnf
   obtain⟨V,hV⟩:∃ V,V=(ws.drop 2).map λw=>((vW w:Nat):Int):=⟨_,rfl⟩
   have hVl:V.length=ws.length - 2:=by rw[hV,mq,ou]
   rw [<-hV] at hlr i1 i8;rw [show Nat.beq (ws.drop 2).length 0=Nat.beq V.length 0 by rw [hV,mq]] at hlr i1 i8;rw[show((ws.length:Int) - 2).toNat=V.length by omega];refine .nilC 5 1 3 1 (λ_=>[]) _ _ _ _ rfl rfl ?_;conv=>whnf
   refine .inv Nat (λj=>j<=V.length) (λj=>[(110,iV j)]) (λj=>[(6,.row 3 1 j .iff (intF V))]) (λj=>V.length - j) ⟨0,[0,1,2,3,4,5,6],pv _,?_⟩ ?_
   ·conv=>whnf
    repeat'(first|exact ⟨⟩|exact rfl|exact(λ_ _ _ _ h=>⟨jq _,h⟩)|exact λ_=>Iff.rfl|exact λ_ _=>rfl|apply And.intro)
    all_goals first|exact kx _ _|exact noI|exact λi _=>qg7 (by rfl) i
   intro j hj;conv=>whnf
   refine⟨λd1=>?_,λd1=>?_⟩
   ·have d1:j<V.length:=by have h:=px d1;omega
    have hwj:=w64s j om;obtain⟨w,hw⟩:∃ w,ws[2+j]?.getD []=w:=⟨_,rfl⟩;have hwm:ws[2+j]? = some w:=by rw[<-hw,pp om];rfl
    have hwll:=hwl w (ov hwm);have hVj:V[j]? = some ((vW w:Nat):Int):=by rw[hV,mw,m8,hwm];rfl
    conv=>whnf
    refine⟨om,?_⟩;conv=>whnf
    rw[show Int.toNat 2+Int.toNat (j:Int)=2+j from rfl,hw];refine .data _ (qi8 w om) rfl rfl ?_;conv=>whnf
    refine⟨(by omega:(j+1) * 8<=70368744177664),?_⟩;conv=>whnf
    rw[hwj];refine⟨j+1,[0,1,2,3,4,5,8],d1,om,?_⟩;conv=>whnf
    repeat'(first|exact ⟨⟩|exact rfl|exact(λ_ _ _ _ h=>⟨jq _,h⟩)|exact λ_=>Iff.rfl|exact λ_ _=>rfl|apply And.intro)
    all_goals first|exact kx _ _|exact noI|exact λi _=>qg7 (by rfl) i|exact ym8 hVj
   ·have d1:j=V.length:=by have h:=py d1;omega
    rw[d1];conv=>whnf
    refine⟨om,?_⟩;conv=>whnf
    refine brF (po om) ?_;conv=>whnf
    refine⟨λg1=>?_,λg1=>?_⟩
    ·have g1:100<hh.length+1:=by have h:=px g1;omega
     have i1:none=A:=by rw[<-i1];exact(if_pos (.inr (by rw[pq];exact g1))).symm
     rw [<-i1] at hK;subst hK;conv=>whnf
     repeat((first|apply Fr|apply Tr);conv=>whnf)
     repeat'(first|exact ⟨⟩|exact rfl|exact λ_=>Iff.rfl|exact λ_ _=>rfl|exact renM_ent rfl _|apply And.intro)
     all_goals first|exact .inl rfl|exact .inr rfl|exact noI|exact λ_ _=>rfl
    have g1:hh.length+1<=100:=by have h:=py g1;omega
    have i1:rdR [] (s.drop (i+1)) (a :: l) (hh++[(IntKind.u32.wrap ((v1:Nat):Int),Nat.beq V.length 0,V)])=A:=by rw[<-i1];exact(if_neg (by rw[pq];show ¬ (100<(a :: l).length\/100<hh.length+1);omega)).symm
    conv=>whnf
    rw[hw1];refine⟨⟨i+1,i+1,.opn,a :: l,hh++[(IntKind.u32.wrap ((v1:Nat):Int),Nat.beq V.length 0,V)]⟩,[0,1,2,8,4],⟨by show rdR ((s.drop (i+1)).take (i+1 - (i+1))) _ _ _=A;rw[ly];exact i1,c0',pu _,i8,i5,by rw[pq];exact g1,i7⟩,by show s.length - (i+1)<s.length - i;omega,?_⟩;conv=>whnf
    repeat'(first|exact ⟨⟩|exact rfl|exact(λ_ _ _ _ h=>⟨jq _,h⟩)|exact λ_=>Iff.rfl|exact λ_ _=>rfl|apply And.intro)
    all_goals first|exact kx _ _|(show hh.length+1=(hh++[_]).length;simp;done)|exact λi _=>qg7 (by rfl) i|exact yz5 _ _ _
  ·rw [if_neg hn1,if_neg hn2] at hlr;have hpr:=jk5 c om;rcases hcase with⟨q1,q2,q3⟩|⟨q1,q2,q3⟩|⟨q1,q2,q3⟩
   all_goals
    first
     |refine brT (bz.trans (pn q1)) ?_
     |refine brF (bz.trans (po q1)) ?_
    conv=>whnf
    try (refine brF (by rw[oo];omega) ?_;conv=>whnf)
    repeat((first|apply Fr|apply Tr);conv=>whnf)
    refine⟨om,?_⟩;conv=>whnf
    first
     |refine brF (bh.trans (po q2)) ?_
     |(
      refine brT (bh.trans (pn q2)) ?_;conv=>whnf
      refine brF (po om) ?_)
    conv=>whnf
    repeat((first|apply Fr|apply Tr);conv=>whnf)
    refine⟨om,?_⟩;conv=>whnf
    rw[hsub];refine .one (.data _ hpr rfl (by unfold qf4;cases yw c <;> rfl) ?_);cases hp:yw c with
    |none =>
     rw [hp] at hlr;have hlr:zd (a :: l) hh c=none:=hlr;rw [hlr] at i1;have i1:none=A:=i1;rw [<-i1] at hK;subst hK;conv=>whnf
     repeat((first|apply Fr|apply Tr);conv=>whnf)
     repeat'(first|exact ⟨⟩|exact rfl|exact λ_=>Iff.rfl|exact λ_ _=>rfl|exact renM_ent rfl _|apply And.intro)
     all_goals first|exact .inl rfl|exact .inr rfl|exact noI|exact λ_ _=>rfl
    |some r =>
     rw [hp] at hlr;have i8:=i4.line om hlr;rw [hlr] at i1;conv=>whnf
     repeat((first|apply Fr|apply Tr);conv=>whnf)
     have hll:(qo (a :: l)).rrs.length<=100000:=by
      have:=(i4.zl (qo (a :: l)) (by
       unfold qo;rw[List.getD,pp sm];exact oz _)).2.1
      omega
     have hwl1:IntKind.i64.wrap (((a :: l).length:Int) - 1)=(l.length:Int):=by rw[qc _ om];omega
     apply Exists.intro;apply Exists.intro;refine⟨?_,?_⟩
     ·conv=>whnf
      rw[hwl1];refine⟨⟨om,om⟩,?_⟩;conv=>whnf
      rw[pr,qj3];conv=>whnf
      repeat'(first
       |exact True.intro
       |(refine⟨⟨om,om⟩,?_⟩;conv=>whnf;rw[pr])
       |(apply And.intro <;> conv=>whnf))
      all_goals exact(by omega:((qo (a :: l)).rrs.length+1) * 40<=70368744177664)
     conv=>whnf
     dsimp only at i1
     rw [if_neg sm] at i1
     dsimp only at i1
     rw [if_neg (by rw [lw];omega)] at i1;refine brF (po om) ?_;conv=>whnf
     refine brF (po om) ?_;conv=>whnf
     rw[hw1];refine⟨⟨i+1,i+1,.opn,(a :: l).set ((a :: l).length - 1) ⟨(qo (a :: l)).apex,false,(qo (a :: l)).rrs++[r]⟩,hh⟩,[0,1,2,3,7],⟨by show rdR ((s.drop (i+1)).take (i+1 - (i+1))) _ _ _=A;rw[ly];exact i1,c0',pu _,i8,by rw[lw];exact i5,i6,by show(a :: l).set _ _≠[];simp⟩,by show s.length - (i+1)<s.length - i;omega,?_⟩;conv=>whnf
     repeat'(first|exact ⟨⟩|exact rfl|exact(λ_ _ _ _ h=>⟨jq _,h⟩)|exact λ_=>Iff.rfl|exact λ_ _=>rfl|apply And.intro)
     all_goals first
      |(show(a :: l).length=((a :: l).set _ _).length;rw[lw])
      |exact λi hi=>zf2 (by rfl) i hi
      |(show(qo (a :: l)).rrs.length+1=(qo ((a :: l).set _ _)).rrs.length;rw[jb3,pq];rfl)
      |(
       intro i hi;show _=rrF (qo ((a :: l).set _ _)).rrs i;rw[jb3];exact jr3 _ r i hi)
  done
theorem xa2(y z:Bool)(l m:List RR)(hl:l.length<=4611686018427387904):FnOk Tryz.prog 33 [.d (rrsD y l),.d (rrsD z m)] (.d (.bool (eqL uc l m))):=by
 refine qi (TT:=TT) (IN:=qd []) qe qg mixed 1000 Tryz.func33 rfl (qb Tryz.func33 (by kernel_rfl) rfl) rfl 24 (by kernel_rfl) ?_;obtain⟨E,hEE⟩:∃ E,E=uc:=⟨_,rfl⟩;rw[<-hEE];have hE:∀ a b:RR,(a.nm == b.nm && (a.ty == b.ty && (a.cl == b.cl && (a.ttl == b.ttl && (a.d == b.d && true)))))=E a b:=λa b=>by rw[hEE];unfold uc;rw[Bool.and_true]
 unfold eqL;conv=>whnf
 by_cases hlen:l.length=m.length
 case neg =>
  rw[show(l.length == m.length)=false by simpa using hlen,lx];refine brT (by rw[bne_iff_ne];omega) ?_;conv=>whnf
  all_goals exact rfl
 rw[show(l.length == m.length)=true by simpa using hlen,p9];refine brF (by rw[bne_eq_false_iff_eq];omega) ?_;conv=>whnf
 refine .inv Nat (λi=>i<=l.length/\eqTo E l m i=true) (λi=>[(13,iV i)]) (λ_=>[]) (λi=>l.length - i) ⟨0,[],⟨pv _,rfl⟩,?_⟩ ?_
 ·exact rY2
 intro i hi;obtain⟨hi,hti⟩:=hi;conv=>whnf
 refine⟨λh1=>?_,λh1=>?_⟩
 ·have h1:i<l.length:=by
   have h:(i:Int)<l.length:=px h1;omega
  have hw1:=w64s i om;have hnx:=qe0 E l m i;rw [hti,p9] at hnx;have hbad:=qe9 (e:=E) (m:=m) h1;have hal:l.getD i default ∈ l:=by rw[List.getD,pp h1];exact oz _
  have hbl:m.getD i default ∈ m:=by rw[List.getD,pp om];exact oz _
  conv=>whnf
  refine⟨om,?_⟩;conv=>whnf
  refine⟨om,?_⟩;conv=>whnf
  rw[pr];generalize l.getD i default=a at hnx hbad hal ⊢;generalize m.getD i default=b at hnx hbad hbl ⊢;rw[hE a b];cases hs:E a b with
  |false =>
   rw[hbad hs];conv=>whnf
   apply Tr;conv=>whnf
   all_goals exact rfl
  |true =>
   conv=>whnf
   apply Fr;conv=>whnf
   rw[hw1];refine⟨i+1,[],⟨h1,by rw[hnx,hs]⟩,om,?_⟩;conv=>whnf
   repeat'(first|exact ⟨⟩|exact rfl|exact ql _|exact .inr rfl|exact λ_ _=>rfl|exact noI|apply And.intro)
 ·have h1:i=l.length:=by
   have h:¬ (i:Int)<l.length:=py h1;omega
  subst h1;conv=>whnf
  rw[hti];all_goals exact rfl
theorem ye4(f g:Fo)(hf:f.Sm):FnOk Tryz.prog 12 [f.V,g.V] (.d (.bool (vy f g))):=by
 refine qi (TT:=TT) (IN:=qd []) qe qg mixed 1000 Tryz.func12 rfl (qb Tryz.func12 (by kernel_rfl) rfl) rfl 109 (by kernel_rfl) ?_;generalize hK:vy f g=K;unfold vy eqL at hK;conv=>whnf
 by_cases h1:f.zones.length=g.zones.length
 case neg =>
  rw [show (f.zones.length == g.zones.length)=false by simpa using h1] at hK;rw[<-show false=K from hK];refine brT (by rw[bne_iff_ne];omega) ?_;conv=>whnf
  repeat((first|apply Fr|apply Tr);conv=>whnf)
  all_goals exact rfl
 rw [show (f.zones.length == g.zones.length)=true by simpa using h1,p9] at hK;refine brF (by rw[bne_eq_false_iff_eq];omega) ?_;conv=>whnf
 by_cases h2:f.hosts.length=g.hosts.length
 case neg =>
  rw [show (f.hosts.length == g.hosts.length)=false by simpa using h2,lx,l8] at hK;rw[<-hK];refine brT (by rw[bne_iff_ne];omega) ?_;conv=>whnf
  repeat((first|apply Fr|apply Tr);conv=>whnf)
  all_goals exact rfl
 rw [show (f.hosts.length == g.hosts.length)=true by simpa using h2,p9] at hK;refine brF (by rw[bne_eq_false_iff_eq];omega) ?_;conv=>whnf
 have hfz:=hf.z;have hfh:=hf.h;refine .inv Nat (λi=>i<=f.zones.length/\eqTo we f.zones g.zones i=true) (λi=>[(29,iV i)]) (λ_=>[]) (λi=>f.zones.length - i) ⟨0,[0,1],⟨pv _,rfl⟩,?_⟩ ?_
 ·exact rY2
 intro i hi;obtain⟨hi,hti⟩:=hi;conv=>whnf
 refine⟨λc1=>?_,λc1=>?_⟩
 ·have c1:i<f.zones.length:=by
   have h:(i:Int)<f.zones.length:=px c1;omega
  have hw1:=w64s i om;have hnx:=qe0 we f.zones g.zones i;rw [hti,p9] at hnx;have hbad:=qe9 (e:=we) (m:=g.zones) c1;have hal:f.zones.getD i default ∈ f.zones:=by rw[List.getD,pp c1];exact oz _
  conv=>whnf
  refine⟨om,?_⟩;conv=>whnf
  refine⟨om,?_⟩;conv=>whnf
  rw[pr];have hK2:we (f.zones.getD i default) (g.zones.getD i default)=false->false=K:=λe=>by
   rw [hbad e] at hK;exact hK
  have hrl:=hf.r _ hal;obtain⟨a,ha⟩:∃ a,f.zones.getD i default=a:=⟨_,rfl⟩;obtain⟨b,hb⟩:∃ b,g.zones.getD i default=b:=⟨_,rfl⟩;rw [ha,hb] at hnx hK2 ⊢;rw [ha] at hrl;have hsz:we a b=(a.apex == b.apex && eqL uc a.rrs b.rrs):=rfl;rw [hsz] at hnx hK2;cases hs:a.apex == b.apex with
  |false =>
   rw [hs] at hK2;rw[<-hK2 rfl];conv=>whnf
   apply Tr;conv=>whnf
   repeat((first|apply Fr|apply Tr);conv=>whnf)
   all_goals exact rfl
  |true =>
   rw [hs,p9] at hK2 hnx;conv=>whnf
   apply Fr;conv=>whnf
   refine⟨om,?_⟩;conv=>whnf
   refine⟨om,?_⟩;conv=>whnf
   rw[pr,ha,hb];refine .data _ (xa2 a.z b.z a.rrs b.rrs hrl) rfl rfl ?_;cases hq:eqL uc a.rrs b.rrs with
   |false =>
    rw[<-hK2 hq];conv=>whnf
    repeat((first|apply Fr|apply Tr);conv=>whnf)
    all_goals exact rfl
   |true =>
    conv=>whnf
    repeat((first|apply Fr|apply Tr);conv=>whnf)
    rw[hw1];refine⟨i+1,[0,1],⟨c1,by rw[hnx,hq]⟩,om,?_⟩;conv=>whnf
    repeat'(first|exact ⟨⟩|exact rfl|exact ql _|exact .inr rfl|exact λ_ _=>rfl|exact noI|apply And.intro)
 ·have c1:i=f.zones.length:=by
   have h:¬ (i:Int)<f.zones.length:=py c1;omega
  rw [c1] at hti;rw [hti,p9] at hK;clear c1 hi;conv=>whnf
  refine .inv Nat (λi=>i<=f.hosts.length/\eqTo vj f.hosts g.hosts i=true) (λi=>[(65,iV i)]) (λ_=>[]) (λi=>f.hosts.length - i) ⟨0,[0,1],⟨pv _,rfl⟩,?_⟩ ?_
  ·exact rY2
  intro i hi;obtain⟨hi,hti⟩:=hi;conv=>whnf
  refine⟨λc1=>?_,λc1=>?_⟩
  ·have c1:i<f.hosts.length:=by
    have h:(i:Int)<f.hosts.length:=px c1;omega
   have hw1:=w64s i om;have hnx:=qe0 vj f.hosts g.hosts i;rw [hti,p9] at hnx;have hbad:=qe9 (e:=vj) (m:=g.hosts) c1;have hal:f.hosts.getD i default ∈ f.hosts:=by rw[List.getD,pp c1];exact oz _
   have hK2:vj (f.hosts.getD i default) (g.hosts.getD i default)=false->false=K:=λe=>by
    rw [hbad e] at hK;exact hK
   have hrl:=hf.a _ hal;conv=>whnf
   apply Exists.intro;apply Exists.intro;refine⟨?_,?_⟩
   ·conv=>whnf
    repeat'(first
     |exact True.intro
     |(refine⟨⟨om,om⟩,?_⟩;conv=>whnf;rw[pr])
     |(apply And.intro <;> conv=>whnf))
    all_goals first
     |exact .inl ⟨rfl,rfl⟩
     |(
      refine .inr ⟨[0,1,3,2],?_⟩;conv=>whnf
      repeat'(first|exact ⟨⟩|exact rfl|exact ql _|exact .inr rfl|exact λ_ _=>rfl|exact noI|apply And.intro))
   unfold vj at hK2 hnx;generalize f.hosts.getD i default=a at hnx hK2 hrl ⊢;generalize g.hosts.getD i default=b at hnx hK2 ⊢;conv=>whnf
   by_cases e1:a.1=b.1
   case neg =>
    rw [show (a.1 == b.1)=false by simpa using e1,lx] at hK2;rw[<-hK2 rfl];refine brT (by rw[bne_iff_ne];exact e1) ?_;conv=>whnf
    repeat((first|apply Fr|apply Tr);conv=>whnf)
    all_goals exact rfl
   rw [show (a.1 == b.1)=true by simpa using e1,p9] at hK2 hnx;unfold eqL at hK2 hnx;refine brF (by rw[bne_eq_false_iff_eq];exact e1) ?_;conv=>whnf
   by_cases e2:a.2.2.length=b.2.2.length
   case neg =>
    rw [show (a.2.2.length == b.2.2.length)=false by simpa using e2,lx] at hK2;rw[<-hK2 rfl];refine brT (by rw[bne_iff_ne];omega) ?_;conv=>whnf
    repeat((first|apply Fr|apply Tr);conv=>whnf)
    all_goals exact rfl
   rw [show (a.2.2.length == b.2.2.length)=true by simpa using e2,p9] at hK2 hnx;refine brF (by rw[bne_eq_false_iff_eq];omega) ?_;conv=>whnf
   refine .inv Nat (λj=>j<=a.2.2.length/\eqTo u9 a.2.2 b.2.2 j=true) (λj=>[(95,iV j)]) (λ_=>[]) (λj=>a.2.2.length - j) ⟨0,[0,1,2,3],⟨pv _,rfl⟩,?_⟩ ?_
   ·exact rY2
   intro j hj;obtain⟨hj,htj⟩:=hj;conv=>whnf
   refine⟨λd1=>?_,λd1=>?_⟩
   ·have d1:j<a.2.2.length:=by
     have h:(j:Int)<a.2.2.length:=px d1;omega
    have hwj:=w64s j om;have hny:=qe0 u9 a.2.2 b.2.2 j;rw [htj,p9] at hny;have hbad2:=qe9 (e:=u9) (m:=b.2.2) d1;conv=>whnf
    refine⟨om,?_⟩;conv=>whnf
    refine⟨om,?_⟩;conv=>whnf
    rw[pr];unfold u9 at hny hbad2;have hd:∀ l:List Int,l.getD j default=l.getD j 0:=λ_=>rfl
    rw [hd,hd] at hny hbad2;generalize a.2.2.getD j 0=p at hny hbad2 ⊢;generalize b.2.2.getD j 0=q at hny hbad2 ⊢;by_cases e3:p=q
    case neg =>
     have h3:(p == q)=false:=by simpa using e3
     rw[<-hK2 (hbad2 h3)];refine brT (by rw[bne_iff_ne];exact e3) ?_;conv=>whnf
     repeat((first|apply Fr|apply Tr);conv=>whnf)
     all_goals exact rfl
    have h3:(p == q)=true:=by simpa using e3
    refine brF (by rw[bne_eq_false_iff_eq];exact e3) ?_;conv=>whnf
    rw[hwj];refine⟨j+1,[0,1,2,3],⟨d1,hny.trans h3⟩,om,?_⟩;conv=>whnf
    repeat'(first|exact ⟨⟩|exact rfl|exact ql _|exact .inr rfl|exact λ_ _=>rfl|exact noI|apply And.intro)
   ·have d1:j=a.2.2.length:=by
     have h:¬ (j:Int)<a.2.2.length:=py d1;omega
    subst d1;conv=>whnf
    rw[hw1];refine⟨i+1,[0,1],⟨c1,hnx.trans htj⟩,om,?_⟩;conv=>whnf
    repeat'(first|exact ⟨⟩|exact rfl|exact ql _|exact .inr rfl|exact λ_ _=>rfl|exact noI|apply And.intro)
  ·have c1:i=f.hosts.length:=by
    have h:¬ (i:Int)<f.hosts.length:=py c1;omega
   rw [c1] at hti;rw [hti] at hK;rw[<-hK];conv=>whnf
   all_goals exact rfl
theorem zm7(f:Fo):vy f f=true:=by
 unfold vy;rw[qm8 (λa=>by unfold we;rw[beq_self_eq_true,p9];exact qm8 yd8 _),p9];exact qm8 (λa=>by unfold vj;rw[beq_self_eq_true,p9];exact qm8 yd9 _) _
theorem Fo.rr_small{f:Fo}(hsm:f.small=true):∀ z ∈ f.zones,z.rrs.length<=100000:=λa ha=>by
 unfold Fo.small at hsm;simp only [p7,o7] at hsm;have h1:=hsm.2.2 a ha;unfold k6 at h1;simp only [p7,lr] at h1;omega
theorem Fo.sm_small{f:Fo}(hsm:f.small=true)(hti:∀ x ∈ f.hosts,x.2.2.length<=100):f.Sm:=by
 have hr:=Fo.rr_small hsm;unfold Fo.small at hsm;simp only [p7,lr] at hsm;exact⟨om,λa ha=>by have:=hr a ha;omega,om,λa ha=>by have:=hti a ha;omega⟩
theorem xd6(f g:Fo)(t:Ls)(hrr:∀ z ∈ f.zones,∀ r ∈ z.rrs,r.In)(had:∀ h ∈ f.hosts,0<=h.1/\h.1<=4294967295):FnOk Tryz.prog 3 [f.V,g.V,.d (.str t)] (.d (.bool true)):=by
 refine qi (TT:=TT) (IN:=qd []) qe qg mixed 1000 Tryz.func3 rfl (qb Tryz.func3 (by kernel_rfl) rfl) rfl 102 (by kernel_rfl) ?_;conv=>whnf
 refine oD (yd5 f) rfl rfl ?_;cases hsm:f.small with
 |false =>
  conv=>whnf
  repeat((first|apply Fr|apply Tr);conv=>whnf)
  refine oD ql3 rfl rfl ?_;conv=>whnf
  done
 |true =>
 conv=>whnf
 repeat((first|apply Fr|apply Tr);conv=>whnf)
 refine oD (yd5 g) rfl rfl ?_;cases hsg:g.small with
 |false =>
  conv=>whnf
  repeat((first|apply Fr|apply Tr);conv=>whnf)
  refine oD ql3 rfl rfl ?_;conv=>whnf
  done
 |true =>
 conv=>whnf
 repeat((first|apply Fr|apply Tr);conv=>whnf)
 refine⟨λh1=>?_,λh1=>?_⟩
 ·conv=>whnf
  refine oD ql3 rfl rfl ?_;conv=>whnf
  done
 have hsz:∀ F:Fo,F.small=true->F.zones.length<=8/\F.hosts.length<=12:=λF h=>by
  unfold Fo.small at h;simp only [p7,lr] at h;exact⟨h.1,h.2.1⟩
 obtain⟨hz8,hh12⟩:=hsz f hsm;obtain⟨gz8,gh12⟩:=hsz g hsg;have htl:t.length<=16384:=by
  have h:¬ (t.length:Int) > 16384:=py h1;omega
 conv=>whnf
 refine .once ?_;conv=>whnf
 apply Tr;conv=>whnf
 refine⟨by decide,?_⟩;conv=>whnf
 refine .inv Nat (λi=>i<=f.hosts.length/\∀ x ∈ f.hosts.take i,x.2.2.length<=100) (λi=>[(44,iV i)]) (λ_=>[]) (λi=>f.hosts.length - i) ⟨0,[0,1,2,3],⟨pv _,λx hx=>(by cases hx)⟩,?_⟩ ?_
 ·exact rY6
 intro i hi;obtain⟨hi,hti⟩:=hi;conv=>whnf
 refine⟨λh2=>?_,λh2=>?_⟩
 ·have h2:i<f.hosts.length:=by
   have h:(i:Int)<f.hosts.length:=px h2;omega
  have hw1:=w64s i om;obtain⟨x,hx⟩:∃ x,f.hosts.getD i default=x:=⟨_,rfl⟩;have hxl:f.hosts[i]? = some x:=by rw[<-hx,List.getD,pp h2];rfl
  conv=>whnf
  refine⟨om,?_⟩;conv=>whnf
  rw[pr,hx];conv=>whnf
  refine⟨λh3=>?_,λh3=>?_⟩
  ·conv=>whnf
   refine oD ql3 rfl rfl ?_;conv=>whnf
   done
  have h3:x.2.2.length<=100:=by
   have h:¬ (x.2.2.length:Int) > 100:=py h3;omega
  conv=>whnf
  rw[hw1];refine⟨i+1,[0,1,2,3],⟨h2,λy hy=>?_⟩,om,?_⟩
  ·rw [o3,hxl] at hy;rcases ow.1 hy with hy|hy
   ·exact hti y hy
   ·cases m9.1 hy;exact h3
  exact rY6
 have h2:i=f.hosts.length:=by
  have h:¬ (i:Int)<f.hosts.length:=py h2;omega
 subst h2;rw [mu] at hti;conv=>whnf
 refine .once ?_;conv=>whnf
 apply Tr;conv=>whnf
 refine⟨by decide,?_⟩;conv=>whnf
 refine .inv Nat (λi=>i<=g.hosts.length/\∀ x ∈ g.hosts.take i,x.2.2.length<=100) (λi=>[(44,iV i)]) (λ_=>[]) (λi=>g.hosts.length - i) ⟨0,[0,1,2,3,4],⟨pv _,λx hx=>(by cases hx)⟩,?_⟩ ?_
 ·exact rY6
 intro i hi;obtain⟨hi,htj⟩:=hi;conv=>whnf
 refine⟨λh2=>?_,λh2=>?_⟩
 ·have h2:i<g.hosts.length:=by
   have h:(i:Int)<g.hosts.length:=px h2;omega
  have hw1:=w64s i om;obtain⟨x,hx⟩:∃ x,g.hosts.getD i default=x:=⟨_,rfl⟩;have hxl:g.hosts[i]? = some x:=by rw[<-hx,List.getD,pp h2];rfl
  conv=>whnf
  refine⟨om,?_⟩;conv=>whnf
  rw[pr,hx];conv=>whnf
  refine⟨λh3=>?_,λh3=>?_⟩
  ·conv=>whnf
   refine oD ql3 rfl rfl ?_;conv=>whnf
   done
  have h3:x.2.2.length<=100:=by
   have h:¬ (x.2.2.length:Int) > 100:=py h3;omega
  conv=>whnf
  rw[hw1];refine⟨i+1,[0,1,2,3,4],⟨h2,λy hy=>?_⟩,om,?_⟩
  ·rw [o3,hxl] at hy;rcases ow.1 hy with hy|hy
   ·exact htj y hy
   ·cases m9.1 hy;exact h3
  exact rY6
 have h2:i=g.hosts.length:=by
  have h:¬ (i:Int)<g.hosts.length:=py h2;omega
 subst h2;rw [mu] at htj;conv=>whnf
 refine .once ?_;conv=>whnf
 apply Fr;conv=>whnf
 have htx:=qt3 f (Fo.fit_sm hsm) ⟨hrr,had,λx hx=>by have:=hti x hx;omega⟩;have hrx:=jk8 f (Fo.fit_sm hsm) ⟨hrr,had,λx hx=>by have:=hti x hx;omega⟩ (Fo.rr_small hsm);have hSt:Short t:=Short.of 1000000 t om (by decide);have hpt:=jm8 t om hSt;have hrp:=zn4 t om;rw [xr7 om hSt] at hrp;refine oD htx rfl rfl ?_;conv=>whnf
 refine oD hrx rfl rfl ?_;conv=>whnf
 generalize jd f=T at htx hrx ⊢;refine oD hpt rfl rfl ?_;conv=>whnf
 refine oD hrp rfl rfl ?_;conv=>whnf
 have hHs:(zt t).1.Sm:=by
  rcases yf0 t hSt with e|⟨zs,hs,e,hk,_⟩
  ·rw[e];exact⟨by decide,λa ha=>(by cases ha),by decide,λa ha=>(by cases ha)⟩
  ·rw[e];have h6:=hk.n64;have h7:=hk.h64;exact⟨by show zs.length<=_;omega,λa ha=>by have:=(hk.zl a ha).2.1;omega,by show hs.length<=_;omega,λa ha=>by have:=(hk.hl a ha).2.2;omega⟩
 generalize zt t=H at hpt hrp hHs ⊢;refine .data _ ql3 rfl rfl ?_;conv=>whnf
 repeat((first|apply Fr|apply Tr);conv=>whnf)
 refine brT (beq_self_eq_true _) ?_;conv=>whnf
 repeat((first|apply Fr|apply Tr);conv=>whnf)
 refine brT (beq_self_eq_true _) ?_;conv=>whnf
 repeat((first|apply Fr|apply Tr);conv=>whnf)
 refine .data _ (ye4 H.1 H.1 hHs) rfl rfl ?_;rw[zm7];conv=>whnf
 repeat((first|apply Fr|apply Tr);conv=>whnf)
 refine brT (beq_self_eq_true _) ?_;conv=>whnf
 repeat((first|apply Fr|apply Tr);conv=>whnf)
 refine .data _ (jp6 f g (Fo.sm_small hsm hti)) rfl rfl ?_;conv=>whnf
 refine .data _ (ye4 f g (Fo.sm_small hsm hti)) rfl rfl ?_;conv=>whnf
 exact congrArg DV.bool (beq_self_eq_true _)
end Go.Proofs.YtoefgnnkajhmiaaGreatDoor
