/-
  Part of the proof: lemmas about the functions that the row calls, and about the steps of a run. Conditions: those ahead of each lemma.
-/
import Derived.OrdersIn
import Derived.Scope
import Derived.RangeFuncLeaves
import Derived.Test.YtoefgnnkajhmiaaGreatDoorP2
set_option linter.unusedVariables false
set_option linter.unusedSimpArgs false
set_option maxRecDepth 100000
set_option maxHeartbeats 64000000
namespace Go.Eng
open Go Go.RowKit
section
section
variable{P:Program}{TT:Nat->Option TI}{X:Nat->Prop}{w:World}{β:Env}{fp:Nat->Nat->Prop}{ts:List SV}{ks:List KB}{a:Act}{o:Oper}{r:Option Nat}{n:Nat}{next:Act->World->Prop}{Q:Exit->Act->World->Prop}
theorem jd1[Dr]{M M':Nat->Prop}{s:SV}{v:Value}(h:Den w M β s v)(hM:∀ b,M' b->M b):Den w M' β s v:=h.mono (Step.refl _ _) (λb _ e=>hM b e) (Ext.refl _)
theorem jz6[Dr](h:Mem0 X w β fp ks){s:SV}{K:SV->List Nat->Prop}(hk:qo3 ks s K){v:Value}(hv:Den w (Mx X fp) β s v) :
 ∃ s' fr,K s' fr/\(∀ i ∈ fr,i<ks.length)/\∀ fr',(∀ i ∈ fr,i ∈ fr')->Den w (Mx X (jw fr' fp)) β s' v:=by
 unfold qo3 at hk;split at hk
 ·obtain⟨d,fr,hk,h1,h2⟩:=qt5 h hk hv;exact⟨_,fr,hk,h1,λfr' hf=>.d (h2 fr' hf)⟩
 ·obtain⟨d,fr,hk,h1,h2⟩:=qt5 h hk hv;exact⟨_,fr,hk,h1,λfr' hf=>.d (h2 fr' hf)⟩
 ·obtain⟨d,fr,hk,h1,h2⟩:=qt5 h hk hv;exact⟨_,fr,hk,h1,λfr' hf=>.d (h2 fr' hf)⟩
 ·exact⟨s,[],hk,sm,λfr' _=>jd1 hv (h.goneM fr')⟩
theorem jy5[Dr](h:Mem0 X w β fp ks):∀ (l:List SV) (K:List SV->List Nat->Prop) (vs:List Value),qj4 ks l K->l.length=vs.length->(∀ (j:Nat) (s:SV) (u:Value),l[j]? = some s->vs[j]? = some u->Den w (Mx X fp) β s u) ->
 ∃ l' fr,K l' fr/\l'.length=l.length/\(∀ i ∈ fr,i<ks.length)/\∀ fr',(∀ i ∈ fr,i ∈ fr')->∀ (j:Nat) (s:SV) (u:Value),l'[j]? = some s->vs[j]? = some u->Den w (Mx X (jw fr' fp)) β s u:=by
 intro l;induction l with
 |nil=>intro K vs hk hl _;exact ⟨[],[],hk,rfl,sm,λ_ _ j d u hd=>by simp at hd⟩
 |cons a l ih =>
  intro K vs hk hl hd;match vs,hl with
  |v :: vs,hl =>
   simp only [qj4] at hk;obtain⟨d,fr,hk,h1,h2⟩:=jz6 h hk (hd 0 a v rfl rfl);obtain⟨ds,fr2,hk,h3,h4,h5⟩:=ih _ vs hk (by simpa using hl) (λj s u hs hu=>hd (j+1) s u (by simpa using hs) (by simpa using hu));rw [jf2] at hk;refine⟨d :: ds,fr++fr2,hk,by simp[h3],λi hi=>(ow.1 hi).elim (h1 i) (h4 i),λfr' hf j x u hx hu=>?_⟩;cases j with
   |zero=>simp at hx hu;subst hx hu;exact h2 fr' (λi hi=>hf i (by simp [hi]))
   |succ j=>exact h5 fr' (λi hi=>hf i (by simp[hi])) j x u (by simpa using hx) (by simpa using hu)
theorem zg7[Dr](h:Mem0 X w β fp ks){i off n c size:Nat}{K:Nat->(Nat->List DV)->List Nat->Prop}(hk:srcK ks size (.cs i off n c) K){v:Value}(hv:Den w (Mx X fp) β (.cs i off n c) v) :
 ∃ k g fr,K k g fr/\(∀ q ∈ i :: fr,q<ks.length)/\∀ fr',(∀ q ∈ i :: fr,q ∈ fr')->Rd w (Mx X (jw fr' fp)) (.sl false k size g) v:=by
 cases hv with
 |cs _ _ _ _ L hL hnc =>
  unfold srcK at hk;simp only at hk;rw [jc] at hk;split at hk
  ·rename_i t l hg;split at hk
   ·rename_i hble;rw [zx] at hble;have hble:=yh hble;rw [qf0,qe3] at hk;have hki:=qt hg sm;have hil:i<ks.length:=(p6.1 hki).1;have hb:=h.at hki sm hL;cases hb with
    |cells _ _ vs hfp hb hl hd h1 =>
     obtain⟨ds,fr,hk,h2,h3,h4⟩:=ql7 h _ _ ((vs.toList.drop off).take (n * size)) hk (by simp[hl]) (λj s u hs hu=>by
      rw [lq] at hs hu;split at hs
      ·rename_i hj;rw [if_pos hj] at hu;rw [m8] at hs hu;exact hd _ _ _ hs (by simpa using hu)
      ·cases hs)
     have hdl:ds.length=n * size:=by rw[h2];simp;omega
     have hch:∀ j,j<n->(qs ds size j).length=size:=λj hj=>by
      unfold qs;have:(j+1) * size<=n * size:=l5 _ hj;rw [o9,l9] at this;simp[hdl];omega
     have hin:∀ j q,j<n->q<size->off+(j * size+q)<vs.size:=λj q hj hq=>by
      have:(j+1) * size<=n * size:=l5 _ hj;rw [o9,l9] at this;omega
     refine⟨n,_,fr,hk,λq hq=>?_,λfr' hf=>.sl n size _ ⟨L.b,off,none⟩ c (λj q=>vs[off+(j * size+q)]?.getD undef) hnc (λ_=>⟨yp hb,h.goneOut (hf i sm) ((hfp _).2 rfl)⟩) hch (λj q d hj hdd=>?_) (λj q d hj hdd=>?_)⟩
     ·rcases pz.1 hq with e|e
      ·subst e;exact hil
      ·exact h3 q e
     ·have hq:q<size:=by have:=(p6.1 hdd).1;rw [hch _ hj] at this;exact this
      rw[ym];simp[World.cell?,hb,hin j q hj hq]
     ·have hq:q<size:=by have:=(p6.1 hdd).1;rw [hch _ hj] at this;exact this
      unfold qs at hdd;rw [lq,if_pos hq,m8] at hdd;have hlt:=hin j q hj hq;refine h4 fr' (λi hi=>hf i (by simp[hi])) (j * size+q) d _ hdd ?_;rw[lq,if_pos (by
       have:(j+1) * size<=n * size:=l5 _ hj;rw [o9,l9] at this;omega),m8]
      simp[hlt]
   ·exact hk.elim
  ·exact hk.elim
theorem zr9[Dr](hTT:TTok P TT)(h:Mem0 X w β fp ks){s:SV}{ty:Option TypeId}{K:SV->List Nat->Prop}(hk:qw5 TT ks s ty K){v:Value}(hv:Den w (Mx X fp) β s v) :
 ∃ s' fr,K s' fr/\(∀ i ∈ fr,i<ks.length)/\∀ fr',(∀ i ∈ fr,i ∈ fr')->Den w (Mx X (jw fr' fp)) β s' v:=by
 unfold qw5 at hk;split at hk
 ·rename_i l;cases hv with
  |agg _ vs hl hd h1 =>
   obtain⟨l',fr,hk,e1,e2,e3⟩:=jy5 h l _ vs hk hl hd;exact⟨_,fr,hk,e2,λfr' hf=>.agg l' vs om (e3 fr' hf) h1⟩
 ·rename_i i off n c;split at hk
  ·split at hk
   ·rename_i _ _ _ _ e _ ht;split at hk
    ·rename_i size _ _ _ _ _ hte;rw [jc] at hk;split at hk
     ·rename_i e' sz m z f hg;split at hk
      ·rename_i hsz;cases jg hsz;obtain⟨⟨h1,h2,h3⟩,hk⟩:=hk;have hki:=qt hg sm;have hi:i<ks.length:=(p6.1 hki).1;cases hv with
       |cs _ _ _ _ L hL hnc =>
        have hb:=h.at hki sm hL;cases hb with
        |rowNil=>omega
        |row _ _ _ _ _ vs fz hfp _ hLs hLn hzz hb hfz hvs hng hfl hr _ =>
         exact⟨_,_,hk,by simp[hi],λfr' hf=>.d (qv6 (M':=Mx X (jw fr' fp)) hb hvs hng hfl hr (Nat.div off size) n off c h2 hnc (λ_=>h1) (h.goneOut (hf i sm) ((hfp _).2 rfl)) (h.goneM fr'))⟩
      ·exact hk.elim
     ·obtain⟨k,g,fr,hk,h1,h2⟩:=zg7 h hk hv;exact⟨_,_,hk,h1,λfr' hf=>.d (h2 fr' hf)⟩
    ·exact hk.elim
   ·exact hk.elim
  ·exact hk.elim
 ·exact jz6 h hk hv
theorem qq3[Dr](hTT:TTok P TT)(h:Mem0 X w β fp ks):∀ (l:List SV) (tys:List TypeId) (K:List SV->List Nat->Prop) (vs:List Value),vx TT ks l tys K->l.length=vs.length->(∀ (j:Nat) (s:SV) (u:Value),l[j]? = some s->vs[j]? = some u->Den w (Mx X fp) β s u) ->
 ∃ l' fr,K l' fr/\l'.length=l.length/\(∀ i ∈ fr,i<ks.length)/\∀ fr',(∀ i ∈ fr,i ∈ fr')->∀ (j:Nat) (s:SV) (u:Value),l'[j]? = some s->vs[j]? = some u->Den w (Mx X (jw fr' fp)) β s u:=by
 intro l;induction l with
 |nil=>intro tys K vs hk hl _;exact ⟨[],[],hk,rfl,sm,λ_ _ j d u hd=>by simp at hd⟩
 |cons a l ih =>
  intro tys K vs hk hl hd;match vs,hl with
  |v :: vs,hl =>
   simp only [vx] at hk;obtain⟨d,fr,hk,h1,h2⟩:=zr9 hTT h hk (hd 0 a v rfl rfl);obtain⟨ds,fr2,hk,h3,h4,h5⟩:=ih _ _ vs hk (by simpa using hl) (λj s u hs hu=>hd (j+1) s u (by simpa using hs) (by simpa using hu));rw [jf2] at hk;refine⟨d :: ds,fr++fr2,hk,by simp[h3],λi hi=>(ow.1 hi).elim (h1 i) (h4 i),λfr' hf j x u hx hu=>?_⟩;cases j with
   |zero=>simp at hx hu;subst hx hu;exact h2 fr' (λi hi=>hf i (by simp [hi]))
   |succ j=>exact h5 fr' (λi hi=>hf i (by simp[hi])) j x u (by simpa using hx) (by simpa using hu)
theorem Mem.quiet[Dr](h:Mem X w β fp ks){w':World}(hs:Step (λ_=>False) w w'):Went X w β fp w' β fp ks :=
 h.go (hs.mono (λ_ _ e=>e.elim)) (Ext.refl _) (λi b hb=>.inl ⟨i,hb⟩) h.dis (λi b hb=>bq (h.kw i b hb) hs.size) h.kl h.kn (λi L k hk _ hL=>.inl ⟨hk,hL,rfl,λb hb=>hs.block b (h.kw i b hb) (λe=>e)⟩)
theorem qn1[Dr]{M:Nat->Prop}(hT:∀ x,Den w M β (val ts x) (a.eval x))(args:List Operand)(caps:List SV)(vs:List Value)(hl:caps.length=vs.length)(hd:∀ (j:Nat) (s:SV) (u:Value),caps[j]? = some s->vs[j]? = some u->Den w M β s u) :
 (vals ts args++caps).length=(args.map a.eval++vs).length/\∀ (j:Nat) (s:SV) (u:Value),(vals ts args++caps)[j]? = some s->(args.map a.eval++vs)[j]? = some u->Den w M β s u:=by
 refine⟨by simp[qq4,hl],λj s u hs hu=>?_⟩;by_cases hj:j<args.length
 ·rw [mn (by rw [qq4];exact hj),yp9] at hs;rw [mn (by simpa using hj),mw] at hu;cases hx:args[j]? with
  |none=>rw [hx] at hs;cases hs
  |some x =>
   rw [hx] at hs hu;cases hs;cases hu;exact hT x
 ·rw [m7 (by rw [qq4];omega),qq4] at hs;rw [m7 (by simp;omega),mq] at hu;exact hd _ _ _ hs hu
theorem qb6[Dr]{g:Operand}{args:Array Operand}{tys:Array TypeId}(ho:o.op = .call ⟨.value g,args,tys⟩){f:FuncId}{vs:List Value}(ev:a.eval g = .func (.func f) #[] vs.toArray)(hent:∀ (args:Array Value) (w:World),(callFunc f args).run P w = .ok (.enter f args) w)
 {R:Ending->World->Prop} (hc:Calls P f (args.toList.map a.eval++vs).toArray w R) (hR:∀ e w',R e w'->∃ v,e = .returned v/\next (a.put o.dst v) w'):o.wpIn (qm r) n P a w next Q:=by
 refine⟨λ_ _=>trivial,?_⟩;rw[Oper.semAt_eq _ _ _ (by rw[ho];simp)];have hrun:(execOp a.eval o).run P w = .ok (.enter f (args.toList.map a.eval++vs).toArray) w:=by
  have hargs:args.map a.eval++vs.toArray=(args.toList.map a.eval++vs).toArray:=by apply Array.ext';simp
  simp only[execOp,ho,resolve,ev,Deferred.ofValue,p8,o6,ot,invoke,Array.empty_append,hargs,hent]
 rw[hrun];refine ⟨λhsm=>by simp [qm,Fence.wide] at hsm,jy2 ?_⟩;refine hc.mono ?_;intro e w' he;obtain⟨v,rfl,hv⟩:=hR e w' he;exact hv
def yw3[Dr](X:Nat->Prop)(w:World)(β:Env)(fp:Nat->Nat->Prop)(a:Act)(o:Oper)(K:Bool->SV->List KB->Prop)(next:Act->World->Prop):Prop :=
 ∀ h r ks' v w' β' fp',K h r ks'->Went X w β fp w' β' fp' ks'->Den w' (Mx X fp') β' r v->next (a.put o.dst v) w'
theorem qd5[Dr]{f:FuncId}{as:List SV}{res:SV}{M:Nat->Prop}{vs:List Value}(hok:FnOk P f as res)(hV:VOk w (λ_ _=>False))(hM:∀ b,M b->b<w.heap.size)(hl:as.length=vs.length)(hd:∀ (j:Nat) (s:SV) (u:Value),as[j]? = some s->vs[j]? = some u->Den w M β s u)(hcl:xn as=true) :
 Calls P f vs.toArray w λe w'=>∃ v,e = .returned v/\Step (λ_=>False) w w'/\Den w' M noE res v :=
 hok.2 M w vs hV hM hl (λj s u hs hu=>(hd j s u hs hu).closed (qz2 hcl j s hs) _)
theorem jx2[Dr](hTT:TTok P TT){K:Bool->SV->List KB->Prop}{g:Operand}{args:Array Operand}{tys:Array TypeId}{tl:List TypeId}(ho:o.op = .call ⟨.value g,args,tys⟩){f:FuncId}{caps:List SV}{vs:List Value}(ev:a.eval g = .func (.func f) #[] vs.toArray)
 (hl:caps.length=vs.length) (hd:∀ (j:Nat) (s:SV) (u:Value),caps[j]? = some s->vs[j]? = some u->Den w (Mx X fp) β s u) (h:CallStop P TT f (vals ts args.toList++caps) tl ks K) (hM:Mem X w β fp ks) (hT:∀ x,Den w (Mx X fp) β (val ts x) (a.eval x)) (hn:yw3 X w β fp a o K next) :
 o.wpIn (qm r) n P a w next Q:=by
 obtain⟨al,ad⟩:=qn1 (a:=a) hT args.toList caps vs hl hd;cases h with
 |data res hok hcl hcr hK =>
  refine qb6 ho ev hok.1 (qd5 hok hM.vo.no hM.mlt al ad hcl) ?_;rintro e w' ⟨v,rfl,hst,hden⟩;exact⟨v,rfl,hn _ _ _ _ _ _ _ hK (hM.quiet hst) (hden.closed hcr β)⟩
 |view res as' fr hok hview hcl hsc hK =>
  obtain⟨l',fr',⟨rfl,rfl⟩,e1,e2,e3⟩:=qq3 hTT hM.toMem0 _ _ _ _ hview al ad;refine qb6 ho ev hok.1 (qd5 hok hM.vo.no (λb hb=>hM.mlt b (hM.goneM fr' b hb)) om (e3 fr' (λ_ h=>h)) hcl) ?_
  rintro e w' ⟨v,rfl,hst,hden⟩
  exact⟨v,rfl,hn _ _ _ _ _ _ _ hK (hM.quiet hst) (hden.scalar hsc _ _ _)⟩
 |frz res as' fr hok hview hcl hcr hK =>
  obtain⟨l',fr',⟨rfl,rfl⟩,e1,e2,e3⟩:=qq3 hTT hM.toMem0 _ _ _ _ hview al ad;refine qb6 ho ev hok.1 (qd5 hok hM.vo.no (λb hb=>hM.mlt b (hM.goneM fr' b hb)) om (e3 fr' (λ_ h=>h)) hcl) ?_
  rintro e w' ⟨v,rfl,hst,hden⟩
  have hW:=hM.gone fr';exact⟨v,rfl,hn _ _ _ _ _ _ _ hK (hW.trans (hW.mem.quiet hst)) (hden.closed hcr β)⟩
 |mem res ks' hok hK =>
  refine qb6 ho ev hok.1 (hok.2 X w β fp _ hM al ad) ?_;rintro e w' ⟨v,s,k2,β',fp',rfl,⟨rfl,rfl⟩,hW,hden⟩;exact⟨v,rfl,hn _ _ _ _ _ _ _ hK hW hden⟩
theorem zi5[Dr](hTT:TTok P TT){K:Bool->SV->List KB->Prop}{g:Operand}{args:Array Operand}{tys:Array TypeId}{tl:List TypeId}(ho:o.op = .call ⟨.value g,args,tys⟩){f:FuncId}{caps:List SV}{vs:List Value}(ev:a.eval g = .func (.func f) #[] vs.toArray)
 (hl:caps.length=vs.length) (hd:∀ (j:Nat) (s:SV) (u:Value),caps[j]? = some s->vs[j]? = some u->Den w (Mx X fp) β s u) (h:CallStop P TT f (vals ts args.toList++caps) tl ks K) (hf:∀ s k,¬ K true s k) (hM:Mem0 X w β fp ks) (hV:VOk w (λ_ _=>False)) (hT:∀ x,Den w (Mx X fp) β (val ts x) (a.eval x))
 (hn:∀ s k v w',K false s k->Step (λ_=>False) w w'->Den w' (Mx X fp) β s v->next (a.put o.dst v) w') :
 o.wpIn (qm r) n P a w next Q:=by
 obtain⟨al,ad⟩:=qn1 (a:=a) hT args.toList caps vs hl hd;cases h with
 |data res hok hcl hcr hK =>
  refine qb6 ho ev hok.1 (qd5 hok hV hM.mlt al ad hcl) ?_;rintro e w' ⟨v,rfl,hst,hden⟩;exact⟨v,rfl,hn _ _ _ _ hK hst (hden.closed hcr β)⟩
 |view res as' fr hok hview hcl hsc hK =>
  obtain⟨l',fr',⟨rfl,rfl⟩,e1,e2,e3⟩:=qq3 hTT hM _ _ _ _ hview al ad;refine qb6 ho ev hok.1 (qd5 hok hV (λb hb=>hM.mlt b (hM.goneM fr' b hb)) om (e3 fr' (λ_ h=>h)) hcl) ?_
  rintro e w' ⟨v,rfl,hst,hden⟩
  exact⟨v,rfl,hn _ _ _ _ hK hst (hden.scalar hsc _ _ _)⟩
 |frz res as' fr hok hview hcl hcr hK=>exact absurd hK (hf _ _)
 |mem res ks' hok hK=>exact absurd hK (hf _ _)
theorem jc8{M:Nat->Prop}{g:Operand}{f:FuncId}{caps:List SV}(hv:Den w M β (.fn f caps) (a.eval g)):∃ vs:List Value,a.eval g = .func (.func f) #[] vs.toArray/\caps.length=vs.length/\∀ (j:Nat) (s:SV) (u:Value),caps[j]? = some s->vs[j]? = some u->Den w M β s u:=by
 generalize a.eval g=av at hv;cases hv with
 |fn _ _ vs hl hd=>exact⟨vs,rfl,hl,hd⟩
theorem xe8[Dr](hTT:TTok P TT){K:Bool->SV->List KB->Prop}{g:Operand}{args:Array Operand}{tys:Array TypeId}(ho:o.op = .call ⟨.value g,args,tys⟩)(h:cev P TT ts ks g args.toList tys.toList K)(hM:Mem X w β fp ks)(hT:∀ x,Den w (Mx X fp) β (val ts x) (a.eval x))(hn:yw3 X w β fp a o K next) :
 o.wpIn (qm r) n P a w next Q:=by
 unfold cev at h;rw [qq] at h;have hv:=hT g;split at h
 ·rename_i f caps hg;rw [hg] at hv;rw [qb2,qf9] at h;obtain⟨vs,ev,hl,hd⟩:=jc8 hv;exact jx2 hTT ho ev hl hd h hM hT hn
 ·cases h
theorem zk3[Dr](hTT:TTok P TT){K:Bool->SV->List KB->Prop}{g:Operand}{args:Array Operand}{tys:Array TypeId}(ho:o.op = .call ⟨.value g,args,tys⟩)(h:cev P TT ts ks g args.toList tys.toList K)(hf:∀ s k,¬ K true s k)(hM:Mem0 X w β fp ks)(hV:VOk w (λ_ _=>False))(hT:∀ x,Den w (Mx X fp) β (val ts x) (a.eval x))
 (hn:∀ s k v w',K false s k->Step (λ_=>False) w w'->Den w' (Mx X fp) β s v->next (a.put o.dst v) w'):o.wpIn (qm r) n P a w next Q:=by
 unfold cev at h;rw [qq] at h;have hv:=hT g;split at h
 ·rename_i f caps hg;rw [hg] at hv;rw [qb2,qf9] at h;obtain⟨vs,ev,hl,hd⟩:=jc8 hv;exact zi5 hTT ho ev hl hd h hf hM hV hT hn
 ·cases h
theorem xs4{t:Nat}{l:List Nat}(h:memN t l=true):t ∈ l:=by
 induction l with
 |nil=>cases h
 |cons a l ih =>
  simp only [memN] at h;split at h
  ·rename_i e;rw[cy e];exact l6 ..
  ·exact gt _ (ih h)
theorem qt0{t:Nat}{l:List Nat}(h:memN t l=false):t ∉ l:=by
 induction l with
 |nil=>simp
 |cons a l ih =>
  simp only [memN] at h;split at h
  ·cases h
  ·rename_i e;intro hm;rcases pz.1 hm with rfl|hm
   ·rw [cz] at e;cases e
   ·exact ih h hm
theorem yq8[Dr]{l m:List Nat}(h:subN l m=true):∀ i ∈ l,i ∈ m:=by
 induction l with
 |nil=>intro i hi;cases hi
 |cons a l ih =>
  simp only [subN] at h;split at h
  ·rename_i e;intro i hi;rcases pz.1 hi with rfl|hi
   ·exact xs4 e
   ·exact ih h i hi
  ·cases h
theorem yd2[Dr]{fr:List Nat}:∀ {js:List (Nat × TypeId × List SV)},qu2 ks fr js->∀ p ∈ js,∃ l,getB ks p.1 = .cells p.2.1 l/\qj4 ks l (λm f=>m=p.2.2/\subN f fr=true)/\memN p.1 fr=false
 |[],_,p,hp=>by cases hp
 |(j,t,l') :: r,h,p,hp=>by
  rcases pz.1 hp with rfl|hp
  ·exact h.1
  ·exact yd2 h.2 p hp
theorem jw7[Dr]:∀ (js:List (Nat × TypeId × List SV)) (l:List KB),(qi9 l js).length=l.length
 |[],_=>rfl
 |(j,t,l') :: r,l=>by simp only[qi9];rw[jw7 r,zr,lw]
theorem jy6[Dr]:∀ (js:List (Nat × TypeId × List SV)) (l:List KB) (i:Nat) (k:KB),(qi9 l js)[i]? = some k->l[i]? = some k\/∃ p ∈ js,p.1=i/\k = .cells p.2.1 p.2.2
 |[],l,i,k,h=>.inl h
 |(j,t,l') :: r,l,i,k,h=>by
  rcases jy6 r _ i k h with h|⟨p,hp,h1,h2⟩
  ·rw [zr,m5] at h;split at h
   ·rename_i e;split at h
    ·simp only [gu] at h;exact .inr ⟨(j,t,l'),l6 ..,e,h.symm⟩
    ·cases h
   ·exact .inl h
  ·exact .inr ⟨p,gt _ hp,h1,h2⟩
theorem Mem.still[Dr](h:Mem X w β fp ks){fr:List Nat}{js:List (Nat × TypeId × List SV)}(hs:qu2 ks fr js):Went X w β fp w β (jw fr fp) (qi9 (jk fr ks) js):=by
 refine h.go (Step.refl _ _) (Ext.refl _) (λi b hb=>.inl ⟨i,hb.2⟩) (λi j b hi hj=>h.dis i j b hi.2 hj.2) (λi b hb=>h.kw i b hb.2) (λi hi=>?_) (λi b hb=>h.kn i b hb.2) (λi L k hk hne hL=>?_)
 ·rw [jw7,jj1] at hi;exact h.kl i hi
 ·rcases jy6 _ _ _ _ hk with hk|⟨p,hp,rfl,rfl⟩
  ·obtain⟨h1,h2⟩:=yn3 fr ks i k hk hne;exact .inl ⟨h2,hL,by funext b;simp[jw,h1],λ_ _=>rfl⟩
  ·obtain⟨l,hg,hv,hm⟩:=yd2 hs p hp;have hnm:=qt0 hm;have hkb:=h.kb p.1 L _ (qt hg sm) sm hL;refine .inr ?_;cases hkb with
   |cells _ _ vs h0 h1 h3 h4 h5 =>
    obtain⟨l',f',⟨rfl,hsub⟩,e1,_,e3⟩:=jy5 h.toMem0 l _ vs.toList hv (by simpa using h3) (λj s u hs hu=>h4 j s u hs (by simpa using hu));exact .cells _ _ vs (λx=>by simp only[jw];rw[<-h0 x];exact⟨λa=>a.2,λa=>⟨hnm,a⟩⟩) h1 om (λj s u hs hu=>e3 fr (yq8 hsub) j s u hs (by simpa using hu)) h5
theorem zj1[Dr](hTT:TTok P TT){K:SV->List KB->Prop}{g:Operand}{args:Array Operand}{tys:Array TypeId}{tl:List TypeId}(ho:o.op = .call ⟨.value g,args,tys⟩){f:FuncId}{caps:List SV}{vs:List Value}(ev:a.eval g = .func (.func f) #[] vs.toArray)
 (hl:caps.length=vs.length) (hd:∀ (j:Nat) (s:SV) (u:Value),caps[j]? = some s->vs[j]? = some u->Den w (Mx X fp) β s u) (h:SeqStop P TT f (vals ts args.toList++caps) tl ks K) (hM:Mem X w β fp ks) (hT:∀ x,Den w (Mx X fp) β (val ts x) (a.eval x)) (hn:xo X w β fp a o K next) :
 o.wpIn (qm r) n P a w next Q:=by
 induction h generalizing fp with
 |one h=>exact jx2 hTT ho ev hl hd h hM hT (λ_ r ks' v w' β' fp' hK hW hD=>hn r ks' v w' β' fp' hK hW hD)
 |fz fr js hst _ ih =>
  have hW:=hM.still hst;exact ih (λj s u hs hu=>hW.den (hd j s u hs hu)) hW.mem (λx=>hW.den (hT x)) (λr ks' v w' β' fp' hK hW' hD=>hn r ks' v w' β' fp' hK (hW.trans hW') hD)
 |rel R hok hK =>
  obtain⟨al,ad⟩:=qn1 (a:=a) hT args.toList caps vs hl hd;refine qb6 ho ev hok.1 (hok.2 X w β fp _ hM al ad) ?_;rintro e w' ⟨v,s,k2,β',fp',rfl,hr,hW,hden⟩;exact⟨v,rfl,hn _ _ _ _ _ _ (hK _ _ hr) hW hden⟩
 |still fr js res as' hst hview hok hcl hcr hK =>
  obtain⟨al,ad⟩:=qn1 (a:=a) hT args.toList caps vs hl hd;obtain⟨l',fr',⟨rfl,hsub⟩,e1,e2,e3⟩:=qq3 hTT hM.toMem0 _ _ _ _ hview al ad;refine qb6 ho ev hok.1 (qd5 hok hM.vo.no (λb hb=>hM.mlt b (hM.goneM fr b hb)) om (e3 fr (yq8 hsub)) hcl) ?_
  rintro e w' ⟨v,rfl,hq,hden⟩
  have hW:=hM.still hst;exact⟨v,rfl,hn _ _ _ _ _ _ hK (hW.trans (hW.mem.quiet hq)) (hden.closed hcr β)⟩
end
end
section
def Ex{α:Type}(F:(α->Prop)->Prop):Prop:=∀ K:α->Prop,F K->∃ s,F (λx=>x=s)/\K s
namespace Ex
variable{α:Type}
theorem self(s:α):Ex (λK:α->Prop=>K s):=λ_ h=>⟨s,rfl,h⟩
theorem no:Ex (λ_:α->Prop=>False):=λ_ h=>h.elim
theorem and{c:Prop}{F:(α->Prop)->Prop}(h:Ex F):Ex (λK=>c/\F K):=λK hk=>by
 obtain⟨s,a,b⟩:=h K hk.2;exact⟨s,⟨hk.1,a⟩,b⟩
theorem two{b:Bool}{F G:(α->Prop)->Prop}(hF:Ex F)(hG:Ex G):Ex (λK=>(b=true->F K)/\(b=false->G K)):=λK hk=>by
 cases b with
 |false =>
  obtain⟨s,x,y⟩:=hG K (hk.2 rfl);exact⟨s,⟨λe=>(by cases e),λ_=>x⟩,y⟩
 |true =>
  obtain⟨s,x,y⟩:=hF K (hk.1 rfl);exact⟨s,⟨λ_=>x,λe=>(by cases e)⟩,y⟩
theorem on{β:Type}{H:(β->Prop)->Prop}{v:β}(hH:∀ k,H k=k v){G:β->(α->Prop)->Prop}(h:Ex (G v)):Ex (λK=>H (λx=>G x K)):=λK hk=>by
 have hk':G v K:=by have:=hH (λx=>G x K);rw[<-this];exact hk
 obtain⟨s,a,b⟩:=h K hk';refine⟨s,?_,b⟩;have:=hH (λx=>G x (λy=>y=s));show H (λx=>G x (λy=>y=s));rw[this];exact a
theorem val[Dr]{ts:List SV}{x:Operand}{G:SV->(α->Prop)->Prop}(h:∀ v,Ex (G v)):Ex (λK=>valK ts x (λv=>G v K)):=on (λk=>qq ts x k) (h _)
theorem vals[Dr]{ts:List SV}{x:List Operand}{G:List SV->(α->Prop)->Prop}(h:∀ v,Ex (G v)):Ex (λK=>qg6 ts x (λv=>G v K)):=on (λk=>qb2 ts x k) (h _)
theorem app[Dr]{l m:List SV}{G:List SV->(α->Prop)->Prop}(h:∀ v,Ex (G v)):Ex (λK=>appK l m (λv=>G v K)):=on (λk=>qf9 l m k) (h _)
theorem getT[Dr]{ts:List SV}{n:Nat}{G:SV->(α->Prop)->Prop}(h:∀ v,Ex (G v)):Ex (λK=>ul ts n (λv=>G v K)):=on (λk=>qe7 ts n k) (h _)
theorem getB[Dr]{ts:List KB}{n:Nat}{G:KB->(α->Prop)->Prop}(h:∀ v,Ex (G v)):Ex (λK=>q8 ts n (λv=>G v K)):=on (λk=>jc ts n k) (h _)
theorem take[Dr]{l:List SV}{n:Nat}{G:List SV->(α->Prop)->Prop}(h:∀ v,Ex (G v)):Ex (λK=>ua l n (λv=>G v K)):=on (λk=>qe3 l n k) (h _)
theorem drop[Dr]{l:List SV}{n:Nat}{G:List SV->(α->Prop)->Prop}(h:∀ v,Ex (G v)):Ex (λK=>um l n (λv=>G v K)):=on (λk=>qf0 l n k) (h _)
theorem mapD[Dr]{l:List DV}{G:List SV->(α->Prop)->Prop}(h:∀ v,Ex (G v)):Ex (λK=>qp4 l (λv=>G v K)):=on (λk=>jo9 l k) (h _)
theorem put[Dr]{l m:List SV}{n:Nat}{G:List SV->(α->Prop)->Prop}(h:∀ v,Ex (G v)):Ex (λK=>putK l n m (λv=>G v K)):=on (λk=>qn7 l n m k) (h _)
theorem addB[Dr]{l:List KB}{k:KB}{G:List KB->(α->Prop)->Prop}(h:∀ v,Ex (G v)):Ex (λK=>uo l k (λv=>G v K)):=on (λc=>x6 l k c) (h _)
theorem setB[Dr]{l:List KB}{n:Nat}{k:KB}{G:List KB->(α->Prop)->Prop}(h:∀ v,Ex (G v)):Ex (λK=>yd l n k (λv=>G v K)):=on (λc=>y8 l n k c) (h _)
theorem lenB[Dr]{l:List KB}{n:Nat}{G:Nat->(α->Prop)->Prop}(h:∀ v,Ex (G v)):Ex (λK=>wu l n (λv=>G v K)):=on (λc=>xe l n c) (h _)
theorem bool[Dr]{x:DV}{G:Bool->(α->Prop)->Prop}(h:∀ v,Ex (G v)):Ex (λK=>qh5 x (λv=>G v K) False):=by
 unfold qh5;split
 ·exact h _
 ·exact h _
 ·exact h _
 ·exact no
theorem cells[Dr]{v:SV}{G:List SV->(α->Prop)->Prop}(h:∀ v,Ex (G v)):Ex (λK=>wb v (λl=>G l K)):=by
 unfold wb;split
 ·exact h _
 ·exact no
 ·exact no
 ·split
  ·exact h _
  ·exact no
 ·exact h _
theorem pack[Dr]{agg:Bool}{size:Nat}{l:List SV}{off:Nat}{G:SV->(α->Prop)->Prop}(h:∀ v,Ex (G v)):Ex (λK=>wt agg size l off (λv=>G v K)):=by
 unfold wt;split
 ·split
  ·exact drop λm=>take λr=>h _
  ·split
   ·exact getT h
   ·exact no
 ·exact no
theorem ints[Dr]{k:IntKind}:∀ {l:List SV} {G:List Int->(α->Prop)->Prop} (_:∀ v,Ex (G v)),Ex (λK=>qc5 k l (λv=>G v K)):=by
 intro l;induction l with
 |nil=>intro G h;exact h []
 |cons s l ih =>
  intro G h;cases s with
  |d x=>cases x with
   |int k' n =>
    simp only[qc5];split
    ·exact ih λr=>h (n :: r)
    ·exact no
   |_=>exact no
  |_=>exact no
theorem putI[Dr]{k:IntKind}{i n:Int}:∀ {l:List SV} {j:Int} {G:List SV->(α->Prop)->Prop} (_:∀ v,Ex (G v)),Ex (λK=>qp3 k i n l j (λv=>G v K)):=by
 intro l;induction l with
 |nil=>intro j G h;exact h []
 |cons s l ih =>
  intro j G h;cases s with
  |d x=>cases x with
   |int k' n =>
    simp only[qp3];split
    ·exact ih λr=>h (_ :: r)
    ·exact no
   |_=>exact no
  |_=>exact no
theorem eqS[Dr]{es:List EK}:∀ {l m:List SV} {G:Bool->(α->Prop)->Prop} (_:∀ v,Ex (G v)),Ex (λK=>eqSK es l m (λv=>G v K)):=by
 induction es with
 |nil=>intro l m G h;cases l <;> cases m <;> first|exact h true|exact no
 |cons e es ih =>
  intro l m G h;cases l with
  |nil=>cases e <;> exact no
  |cons s xs=>cases m with
   |nil=>cases e <;> cases s <;> first|exact no|(rename_i x;cases x <;> exact no)
   |cons t ys =>
    cases s with
    |d x=>cases t with
     |d y =>
      cases e with
      |int k=>cases x <;> cases y <;> first|exact no|(simp only[eqSK];split <;> first|exact no|exact ih λr=>h _)
      |bool=>exact bool λp=>bool λq=>ih λr=>h _
      |str=>cases x <;> cases y <;> first|exact no|exact ih λr=>h _
     |_=>cases e <;> first|exact no|(cases x <;> exact no)
    |_=>cases e <;> exact no
theorem fill[Dr]{TT:Nat->Option TI}{ts:List SV}{fs:List (Nat × TypeId)}:∀ {parts:List (Nat × Operand)} {cs:List SV} {G:List SV->(α->Prop)->Prop} (_:∀ v,Ex (G v)),Ex (λK=>ww TT ts fs cs parts (λv=>G v K)):=by
 intro parts;induction parts with
 |nil=>intro cs G h;exact h cs
 |cons p parts ih =>
  intro cs G h;simp only[ww];split
  ·exact no
  ·split
   ·exact no
   ·refine val λv=>cells λvs=>?_
    split
    ·exact put λcs'=>ih h
    ·exact no
theorem bin[Dr]{td:TD}{op:BinOp}{x y:DV}:Ex (λK:SV->Prop=>Go.Eng.bin td op x y K):=by
 unfold Go.Eng.bin
 repeat'(first|exact no|exact self _|refine and ?_|refine bool λ_=>?_|split)
theorem bound[Dr]{ts:List SV}{o:Option Operand}{d:Int}{G:Int->(α->Prop)->Prop}(h:∀ v,Ex (G v)):Ex (λK=>yc ts o d (λv=>G v K)):=by
 unfold yc;split
 ·exact h _
 ·refine val λv=>?_
  split
  ·exact h _
  ·exact no
theorem ptrEq[Dr]{ks:List KB}{x y:SV}{G:DV->(α->Prop)->Prop}(h:∀ v,Ex (G v)):Ex (λK=>qo5 ks x y (λv=>G v K)):=by
 unfold qo5
 repeat'(first|exact no|exact h _|refine and ?_|refine getB λ_=>?_|split)
theorem neg[Dr]{x:DV}{G:SV->(α->Prop)->Prop}(h:∀ v,Ex (G v)):Ex (λK=>jh6 x (λv=>G v K)):=by
 unfold jh6
 repeat'(first|exact no|exact h _|split)
theorem told{γ:Type}{v:γ}{G:γ->(α->Prop)->Prop}(h:∀ v,Ex (G v)):Ex (λK=>∃ r,v=r/\G r K):=λK hk=>by
 obtain⟨r,rfl,hk⟩:=hk;obtain⟨s,a,b⟩:=h _ K hk;exact⟨s,⟨_,rfl,a⟩,b⟩
theorem kd0[Dr]:∀ {l:List SV} {G:List DV->(α->Prop)->Prop} (_:∀ v,Ex (G v)),Ex (λK=>qh6 l (λv=>G v K)):=by
 intro l;induction l with
 |nil=>intro G h;exact h _
 |cons a l ih =>
  intro G h;cases a <;> first|exact no|exact ih λds=>h _
theorem key[Dr]{eks:List EK}{ka:Bool}{x:SV}{G:List DV->(α->Prop)->Prop}(h:∀ v,Ex (G v)):Ex (λK=>keyK eks ka x (λv=>G v K)):=by
 unfold keyK
 repeat'(first|exact no|exact h _|refine kd0 λ_=>?_|split)
theorem ka7[Dr]{agg:Bool}{vs:List SV}{G:SV->(α->Prop)->Prop}(h:∀ v,Ex (G v)):Ex (λK=>wn agg vs (λv=>G v K)):=by
 unfold wn
 repeat'(first|exact no|exact h _|split)
theorem look[Dr]{c agg:Bool}{zero:List SV}{r:Option (List SV)}{G:SV->(α->Prop)->Prop}(h:∀ v,Ex (G v)):Ex (λK=>lookK c agg zero r (λv=>G v K)):=by
 unfold lookK
 repeat'(first|exact no|exact h _|refine ka7 λ_=>?_|split)
theorem elem[Dr]{ea:Bool}{v:SV}{G:List SV->(α->Prop)->Prop}(h:∀ v,Ex (G v)):Ex (λK=>qp7 ea v (λl=>G l K)):=by
 unfold qp7
 repeat'(first|exact no|exact h _|refine cells λ_=>?_|split)
theorem isInt[Dr]{ts:List SV}{o:Option Operand}{F:(α->Prop)->Prop}(h:Ex F):Ex (λK=>jb4 ts o (F K)):=by
 unfold jb4
 repeat'(first|exact no|exact h|refine val λ_=>?_|split)
theorem appN[Dr]{l m:List Nat}{G:List Nat->(α->Prop)->Prop}(h:∀ v,Ex (G v)):Ex (λK=>Go.Eng.appN l m (λv=>G v K)):=on (λk=>jf2 l m k) (h _)
theorem gone[Dr]{l:List Nat}{ks:List KB}{G:List KB->(α->Prop)->Prop}(h:∀ v,Ex (G v)):Ex (λK=>uj l ks (λv=>G v K)):=on (λk=>qe6 l ks k) (h _)
theorem allD[Dr]:∀ {l:List SV} {G:List DV->(α->Prop)->Prop} (_:∀ v,Ex (G v)),Ex (λK=>qh6 l (λv=>G v K)):=by
 intro l;induction l with
 |nil=>intro G h;exact h _
 |cons a l ih =>
  intro G h;cases a <;> first|exact no|exact ih λds=>h _
theorem dv[Dr]{ks:List KB}{s:SV}{G:DV->List Nat->(α->Prop)->Prop}(h:∀ d l,Ex (G d l)):Ex (λK=>dvK ks s (λd l=>G d l K)):=by
 unfold dvK
 repeat'(first|exact no|exact h _ _|refine and ?_|refine getB λ_=>?_|refine drop λ_=>?_|refine take λ_=>?_|refine allD λ_=>?_|split)
theorem dvs[Dr]{ks:List KB}:∀ {l:List SV} {G:List DV->List Nat->(α->Prop)->Prop} (_:∀ d l,Ex (G d l)),Ex (λK=>dvsK ks l (λd l=>G d l K)):=by
 intro l;induction l with
 |nil=>intro G h;exact h _ _
 |cons a l ih=>intro G h;exact dv λd fr=>ih λds fr'=>appN λr=>h _ _
theorem src[Dr]{ks:List KB}{sz:Nat}{x:SV}{G:Nat->(Nat->List DV)->List Nat->(α->Prop)->Prop}(h:∀ n g l,Ex (G n g l)):Ex (λK=>srcK ks sz x (λn g l=>G n g l K)):=by
 unfold srcK
 repeat'(first|exact no|exact h _ _ _|refine and ?_|refine getB λ_=>?_|refine drop λ_=>?_|refine take λ_=>?_|refine dvs λ_ _=>?_|split)
theorem rep[Dr]{z:List SV}{n:Nat}{G:List SV->(α->Prop)->Prop}(h:∀ v,Ex (G v)):Ex (λK=>repK z n (λv=>G v K)):=on (λk=>qu4 z n k) (h _)
theorem fillS[Dr]{ts:List SV}{size:Nat}:∀ {parts:List (Nat × Operand)} {cs:List SV} {G:List SV->(α->Prop)->Prop} (_:∀ v,Ex (G v)),Ex (λK=>Go.Eng.fillS ts size cs parts (λv=>G v K)):=by
 intro parts;induction parts with
 |nil=>intro cs G h;exact h cs
 |cons p parts ih =>
  intro cs G h;simp only[Go.Eng.fillS];refine val λv=>cells λvs=>?_
  split
  ·exact put λcs'=>ih h
  ·exact no
theorem newRow[Dr]{ks:List KB}{k:KB}{G:SV->List KB->(α->Prop)->Prop}(h:∀ s l,Ex (G s l)):Ex (λK=>w9 ks k (λs l=>G s l K)):=by
 unfold w9;exact addB λ_=>lenB λ_=>h _ _
end Ex
theorem xy4[Dr](P:Program)(TT:Nat->Option TI)(ts:List SV)(ks:List KB)(op:Op):Ex (λK=>pev P TT ts ks op K):=by
 cases op with
 |call c =>
  obtain⟨callee,args,argTypes⟩:=c;simp only[pev]
  repeat'(first|exact Ex.no|exact Ex.self _|refine Ex.and ?_|refine Ex.val λ_=>?_|refine Ex.vals λ_=>?_|refine Ex.getB λ_=>?_|split)
 |_ =>
  simp only[pev]
  repeat'(first|exact Ex.no|exact Ex.self _|exact Ex.bin|refine Ex.and ?_|refine Ex.two ?_ ?_|refine Ex.val λ_=>?_|refine Ex.vals λ_=>?_|refine Ex.getB λ_=>?_|refine Ex.getT λ_=>?_|refine Ex.pack λ_=>?_|refine Ex.drop λ_=>?_|refine Ex.take λ_=>?_|refine Ex.ints λ_=>?_|refine Ex.mapD λ_=>?_|refine Ex.eqS λ_=>?_|refine Ex.fill λ_=>?_|refine Ex.bound λ_=>?_|refine Ex.ptrEq λ_=>?_|refine Ex.neg λ_=>?_|refine Ex.key λ_=>?_|refine Ex.told λ_=>?_|refine Ex.look λ_=>?_|split)
theorem xy8[Dr](TT:Nat->Option TI)(ts:List SV)(ks:List KB)(op:Op):Ex (λK:SV × List KB->Prop=>mev TT ts ks op (λs k=>K (s,k))):=by
 cases op with
 |call c =>
  obtain⟨callee,args,argTypes⟩:=c;cases callee with
  |builtin b =>
   cases b with
   |append =>
    simp only[mev]
    repeat'(first|exact Ex.no|exact Ex.self _|refine Ex.and ?_|refine Ex.val λ_=>?_|refine Ex.src λ_ _ _=>?_|refine Ex.getB λ_=>?_|refine Ex.gone λ_=>?_|refine Ex.setB λ_=>?_|refine Ex.newRow λ_ _=>?_|refine Ex.dvs λ_ _=>?_|split)
   |unsafeString =>
    simp only[mev]
    repeat'(first|exact Ex.no|exact Ex.self _|refine Ex.and ?_|refine Ex.val λ_=>?_|refine Ex.getB λ_=>?_|refine Ex.setB λ_=>?_|split)
   |_=>exact Ex.no
  |_=>exact Ex.no
 |makeMap t x =>
  simp only[mev]
  repeat'(first|exact Ex.no|exact Ex.self _|refine Ex.isInt ?_|refine Ex.addB λ_=>?_|refine Ex.lenB λ_=>?_|split)
 |mapUpdate t m k v =>
  simp only[mev]
  repeat'(first|exact Ex.no|exact Ex.self _|refine Ex.val λ_=>?_|refine Ex.getB λ_=>?_|refine Ex.key λ_=>?_|refine Ex.elem λ_=>?_|refine Ex.told λ_=>?_|refine Ex.setB λ_=>?_|split)
 |alloc t =>
  simp only[mev]
  repeat'(first|exact Ex.no|exact Ex.self _|refine Ex.addB λ_=>?_|refine Ex.lenB λ_=>?_|split)
 |box t x =>
  simp only[mev]
  repeat'(first|exact Ex.no|exact Ex.self _|refine Ex.val λ_=>?_|refine Ex.cells λ_=>?_|refine Ex.addB λ_=>?_|refine Ex.lenB λ_=>?_|split)
 |buildSlice t l ps =>
  simp only[mev]
  repeat'(first|exact Ex.no|exact Ex.self _|refine Ex.rep λ_=>?_|refine Ex.fillS λ_=>?_|refine Ex.addB λ_=>?_|refine Ex.lenB λ_=>?_|split)
 |makeSlice t x y =>
  simp only[mev]
  repeat'(first|exact Ex.no|exact Ex.self _|refine Ex.and ?_|refine Ex.val λ_=>?_|refine Ex.dvs λ_ _=>?_|refine Ex.newRow λ_ _=>?_|split)
 |convert s d x =>
  simp only[mev]
  repeat'(first|exact Ex.no|exact Ex.self _|refine Ex.val λ_=>?_|refine Ex.getB λ_=>?_|refine Ex.ints λ_=>?_|refine Ex.setB λ_=>?_|refine Ex.newRow λ_ _=>?_|split)
 |store t x y =>
  simp only[mev]
  repeat'(first|exact Ex.no|exact Ex.self _|refine Ex.val λ_=>?_|refine Ex.getB λ_=>?_|refine Ex.cells λ_=>?_|refine Ex.put λ_=>?_|refine Ex.setB λ_=>?_|refine Ex.drop λ_=>?_|refine Ex.take λ_=>?_|refine Ex.putI λ_=>?_|refine Ex.dvs λ_ _=>?_|refine Ex.gone λ_=>?_|refine Ex.and ?_|split)
 |_=>exact Ex.no
theorem xz6[Dr](P:Program)(TT:Nat->Option TI)(ts:List SV)(ks:List KB)(g:Operand)(args:List Operand)(tys:List TypeId):Ex (λK:Bool × SV × List KB->Prop=>cev P TT ts ks g args tys (λh s k=>K (h,s,k))):=by
 unfold cev;refine Ex.val λv=>?_
 split
 ·refine Ex.vals λ_=>Ex.app λas=>?_
  intro K h;cases h with
  |data r h1 h2 h3 h4=>exact⟨(false,r,ks),.data r h1 h2 h3 rfl,h4⟩
  |view r as' fr h1 h2 h3 h4 h5=>exact⟨(false,r,ks),.view r as' fr h1 h2 h3 h4 rfl,h5⟩
  |frz r as' fr h1 h2 h3 h4 h5=>exact⟨(true,r,jk fr ks),.frz r as' fr h1 h2 h3 h4 rfl,h5⟩
  |mem r ks' h1 h2=>exact⟨(true,r,ks'),.mem r ks' h1 rfl,h2⟩
 ·exact Ex.no
end
section
section
variable{P:Program}{TT:Nat->Option TI}{w:World}{β:Env}{ts:List SV}{a:Act}{K:SV->Prop}{o:Oper}{M:Nat->Prop}
theorem yk0(off:Nat):∀ (l:List (Value × Nat)) (cells:Array Value),(l.foldl (λcs (x:Value × Nat)=>cs.setIfInBounds (off+x.2) x.1) cells).size=cells.size
 |[],_=>rfl
 |x :: l,cells=>by rw[List.foldl_cons,yk0 off l];simp
theorem yn9(place:Nat->Option (Nat × Nat)):∀ (parts:List (Nat × Value)) (cells r:Array Value),Instr.fill place cells parts=some r->r.size=cells.size
 |[],cells,r,h=>by simp only [Instr.fill,gu] at h;rw [h]
 |(i,v) :: rest,cells,r,h=>by
  simp only [Instr.fill] at h;split at h
  ·cases h
  ·split at h
   ·cases h
   ·rw[yn9 place rest _ r h,<-sr];exact yk0 _ _ _
theorem xw0[Dr](hTT:TTok P TT){t:TypeId}{len:Nat}{parts:Array (Nat × Operand)}(ho:o.op = .buildSlice t len parts)(h:wx TT ts (.buildSlice t len parts) K)(hM:∀ b,M b->b<w.heap.size)(hT:∀ x,Den w M β (val ts x) (a.eval x)) :
 ∃ d v w',K (.d d)/\(execOp a.eval o).run P w = .ok (.value v) w'/\Step (λ_=>False) w w'/\Den w' M β (.d d) v:=by
 simp only [wx] at h;split at h
 ·rename_i _ _ _ _ e _ ht;split at h
  ·rename_i size bytes agg zero desc eqk hte;split at h
   ·rename_i hble;have hble:=yh hble;obtain⟨info0,d0,z0',hi0,hu0,_,_,_,_,_,_,_,_,hd0⟩:=qk hTT ht;cases hd0;obtain⟨info,de,z0,hi,hue,hsz,hby,hz0,_,hzl,hzs,hzd,hz1,_⟩:=qk hTT hte;simp only at hsz hzl hzs hzd;rw [qu4] at h;have hlen0:((List.replicate len zero).flatten).length=len * size:=by simp[hzs]
    have hbase:((Array.range (len * info.size)).map (z0.cells[· % z0.cells.size]!)).toList.length=len * size:=by simp[hsz]
    have hzpos:∀ m,m<len * size->0<z0.cells.size:=λm hm=>by
     rcases dz z0.cells.size with e0|e0
     ·rw [hzl,hzs] at e0;rw [e0] at hm;omega
     ·exact e0
    obtain⟨cs',vs',h,hfill,r1,r2,r3⟩:=jl2 (a:=a) hT parts.toList _ _ ((Array.range (len * info.size)).map (z0.cells[· % z0.cells.size]!)).toList h (by rw[hlen0,hbase]) (λj s u hs hu=>by
     obtain⟨a1,a2⟩:=jr5 zero len j s hs;have hu':((Array.range (len * info.size)).map (z0.cells[· % z0.cells.size]!))[j]? = some u:=by rw[<-dy];exact hu
     obtain ⟨b1,b2⟩:=uq hu' (hzpos j (by rw [hzs] at a2;exact a2));rw [hzl] at b2;exact hzd w _ β _ s u a1 b2) (λu hu=>by
     obtain⟨j,hj,rfl⟩:=mr.1 hu;have hu':=pp hj;rw [dy] at hu';rw [hbase] at hj;obtain⟨b1,b2⟩:=uq hu' (hzpos j hj);exact hz1 _ _ b2)
    obtain⟨ds,hK,hcs⟩:=jl3 _ _ h;have hsize:vs'.toArray.size=len * size:=by
     have:=yn9 _ _ _ _ hfill;rw[this];simp[hsz]
    have hdl:ds.length=len * size:=by
     have:cs'.length=ds.length:=by rw[hcs,mq]
     rw[<-this,r1];simpa using hsize
    have hrun:(Instr.buildSlice t len (parts.map λ(i,x)=>(i,a.eval x))).run P w = .ok (.slice (some ⟨w.heap.size,0,none⟩) len len) (w.alloc (.cells vs'.toArray e)):=by
     have hp:(parts.map λ(i,x)=>(i,a.eval x)).toList=parts.toList.map λp=>(p.1,a.eval p.2):=by simp
     have hfill':Instr.fill (λi=>some (i * info.size,info.size)) ((Array.range (len * info.size)).map (z0.cells[· % z0.cells.size]!)) (parts.map λ(i,x)=>(i,a.eval x)).toList=some vs'.toArray:=by
      rw[hp,hsz];rw [hsz,sv] at hfill;exact hfill
     have h24:¬ (len * info.size > 2 ^ 24):=by rw[hsz];omega
     by_cases hz:len * info.size=0
     ·rw [hz,rp,Array.map_empty] at hfill';simp only[Instr.buildSlice,p8,run_underlying hu0,ot,run_sizeOf hi,hz];have hfill2:Instr.fill (λi=>some (i * info.size,info.size)) #[] (List.map (λx=>(x.1,a.eval x.2)) parts.toList)=some vs'.toArray:=by rw[<-hp];exact hfill'
      simp[newRow,rp,hfill2]
     ·exact run_buildSlice w t e len _ _ info z0 hu0 hi hz0 h24 hz hfill'
    refine⟨_,.slice (some ⟨w.heap.size,0,none⟩) len len,w.alloc (.cells vs'.toArray e),hK,by simp[execOp,ho,hrun],Step.alloc _ w _,.d ?_⟩;have hrow:=qv6 (w:=w.alloc (.cells vs'.toArray e)) (M:=M) (M':=M) (L:=⟨w.heap.size,len,len,size,false⟩) (e:=e) (sz:=size) (m:=len) (vs:=vs'.toArray) (fz:=(0,0)) (f:=qs ds size) (by show(w.heap.push _)[w.heap.size]? = _;simp) hsize (pu _) (λk hk=>qs5 hdl k hk) (λk j d u hk hd hu=>by
     have hget:ds[k * size+j]? = some d:=by
      unfold qs at hd;rw [lq] at hd;split at hd
      ·rw [m8] at hd;exact hd
      ·cases hd
     have:=r2 (k * size+j) (.d d) u (by rw[hcs,mw,hget];rfl) (by simpa using hu);exact(jj this).mono (Step.alloc M w _) (λb _ e=>e)) 0 len 0 len om (pu _) (λ_=>by simp) (λe=>by have:=hM _ e;exact absurd this (cq _)) (λ_ e=>e)
    exact hrow.congr (λi _=>by rw[o5])
   ·cases h
  ·cases h
 ·cases h
theorem zm3{ts ts':List SV}{size:Nat}:∀ {parts:List (Nat × Operand)} {cs:List SV} {c:List SV->Prop},(∀ p ∈ parts,val ts p.2=val ts' p.2)->fillS ts size cs parts c=fillS ts' size cs parts c:=by
 intro parts;induction parts with
 |nil=>intro cs c h;rfl
 |cons p parts ih =>
  intro cs c h;obtain⟨i,x⟩:=p;have hx:val ts x=val ts' x:=h (i,x) sm;have ih':∀ cs c,fillS ts size cs parts c=fillS ts' size cs parts c:=λcs c=>ih (λq hq=>h q (by simp[hq]))
  simp only[fillS,qq,hx,ih']
theorem zb9[Dr](hTT:TTok P TT)(h:wx TT ts o.op K)(hV:VOk w (λ_ _=>False))(hM:∀ b,M b->b<w.heap.size)(hT:∀ x,Den w M β (val ts x) (a.eval x)) :
 ∃ d v w',K (.d d)/\(execOp a.eval o).run P w = .ok (.value v) w'/\Step (λ_=>False) w w'/\Den w' M β (.d d) v:=by
 have h':=h;unfold wx at h;split at h
 ·rename_i t len parts ho;rw [ho] at h';exact xw0 hTT ho h' hM hT
 ·cases h
theorem zr1[Dr]{ts ts':List SV}{op:Op}(h:∀ x ∈ op.operands,val ts x=val ts' x):wx TT ts op K=wx TT ts' op K:=by
 unfold wx;split
 ·rename_i t len parts;have:∀ p ∈ parts.toList,val ts p.2=val ts' p.2:=λp hp=>h p.2 (by simp[Op.operands];exact⟨p.1,by simpa using hp⟩)
  simp only[zm3 this]
 ·rfl
theorem xp4[Dr](TT:Nat->Option TI)(ts:List SV)(op:Op):Ex (λK:SV->Prop=>wx TT ts op K):=by
 unfold wx
 repeat'(first|exact Ex.no|exact Ex.self _|refine Ex.and ?_|refine Ex.val λ_=>?_|refine Ex.rep λ_=>?_|refine Ex.fillS λ_=>?_|refine Ex.allD λ_=>?_|split)
end
end
section
def putT(d:Option Tmp)(s:SV)(ts:List SV):List SV :=
 match d with
 |none=>ts
 |some t=>setT ts t s
theorem x5[Dr](d:Option Tmp)(s:SV)(ts:List SV)(K:List SV->Prop):yb d s ts K=K (putT d s ts):=by
 cases d <;> simp[yb,putT,vq]
def yu(all:List Oper)(ts:List SV)(o:Oper):Option Bool :=
 match o.guard with
 |none=>some true
 |some (j,want)=>match qh4 all j with
  |none=>none
  |some t=>match getT ts t with
   | .d .tt=>some want
   | .d .ff=>some (!want)
   | .v (.tuple _)=>some false
   |_=>none
def jg0:Op->Bool
 | .call ⟨.value _,_,_⟩=>true
 |_=>false
inductive Evs [Dr] (P:Program) (TT:Nat->Option TI) (ts:List SV) (ks:List KB) (op:Op):Bool->SV->List KB->Prop where
 |pure (s:SV):jg0 op=false->(kr op || wl TT op)=false->pev P TT ts ks op (λx=>x=s)->Evs P TT ts ks op false s ks
 |mem (s:SV) (k1:List KB):jg0 op=false->(kr op || wl TT op)=true->mev TT ts ks op (λx k=>(x,k)=(s,k1))->Evs P TT ts ks op (qg4 op) s k1
 |call (g:Operand) (args:Array Operand) (tys:Array TypeId) (h:Bool) (s:SV) (k1:List KB):op = .call ⟨.value g,args,tys⟩->cev P TT ts ks g args.toList tys.toList (λh' x k=>(h',x,k)=(h,s,k1))->Evs P TT ts ks op h s k1
 |app (s:SV):wx TT ts op (λx=>x=s)->Evs P TT ts ks op false s ks
inductive Stp [Dr] (P:Program) (TT:Nat->Option TI) (all:List Oper) (ts:List SV) (ks:List KB) (o:Oper):Bool->SV->List KB->Prop where
 |ev {h:Bool} {s:SV} {k1:List KB}:yu all ts o=some true->Evs P TT ts ks o.op h s k1->Stp P TT all ts ks o h s k1
 |skip:yu all ts o=some false->Stp P TT all ts ks o false qg8 ks
inductive Tr [Dr] (P:Program) (TT:Nat->Option TI) (all:List Oper):List Oper->List SV->List KB->List SV->List KB->List Bool->Prop where
 |nil (ts:List SV) (ks:List KB):Tr P TT all [] ts ks ts ks []
 |step {o:Oper} {os:List Oper} {ts ts':List SV} {ks ks':List KB} {h:Bool} {hs:List Bool} {s:SV} {k1:List KB}:Stp P TT all ts ks o h s k1->Tr P TT all os (putT o.dst s ts) k1 ts' ks' hs->Tr P TT all (o :: os) ts ks ts' ks' (h :: hs)
 |refine_ {o:Oper} {os:List Oper} {ts ts':List SV} {ks ks':List KB} {hs:List Bool} (t:Nat) (b:Bool):getT ts t = .d (.bool b)->Tr P TT all (o :: os) (setT ts t (.d (if b then .tt else .ff))) ks ts' ks' hs->Tr P TT all (o :: os) ts ks ts' ks' hs
theorem za2[Dr]{P:Program}{TT:Nat->Option TI}{o:Oper}{ts:List SV}{ks:List KB}{K:Bool->List SV->List KB->Prop}(h:exec P TT o ts ks K):∃ hd s k1,Evs P TT ts ks o.op hd s k1/\K hd (putT o.dst s ts) k1:=by
 have noncall:jg0 o.op=false->(match kr o.op || wl TT o.op with
  |true=>mev TT ts ks o.op (λv ks'=>yb o.dst v ts (λts'=>K (qg4 o.op) ts' ks'))
  |false=>pev P TT ts ks o.op (λv=>yb o.dst v ts (λts'=>K false ts' ks)))->∃ hd s k1,Evs P TT ts ks o.op hd s k1/\K hd (putT o.dst s ts) k1:=λhc h=>by
  split at h
  ·rename_i hm;obtain⟨⟨s,k1⟩,hev,hk⟩:=xy8 TT ts ks o.op (λp=>yb o.dst p.1 ts (λts'=>K (qg4 o.op) ts' p.2)) h;rw [x5] at hk;exact⟨_,s,k1,.mem s k1 hc hm hev,hk⟩
  ·rename_i hm;obtain⟨s,hev,hk⟩:=xy4 P TT ts ks o.op _ h;rw [x5] at hk;exact⟨_,s,ks,.pure s hc hm hev,hk⟩
 unfold exec at h;split at h
 ·rename_i g args tys ho;obtain⟨⟨hd,s,k1⟩,hev,hk⟩:=xz6 P TT ts ks g args.toList tys.toList (λp=>yb o.dst p.2.1 ts (λts'=>K p.1 ts' p.2.2)) h;rw [x5] at hk;exact⟨hd,s,k1,.call g args tys hd s k1 ho hev,hk⟩
 ·rename_i hno;refine noncall ?_ h;unfold jg0;split
  ·rename_i g args tys he;exact absurd he (hno g args tys)
  ·rfl
section
variable{P:Program}{TT:Nat->Option TI}{IN:Nat->Option Inl}{K:Exit->List SV->List KB->Prop}{all:List Oper}{r:List It}{nb:Nb}
theorem yr2[Dr](n:Nat):run P TT IN (n+1)=jh1 P TT IN (run P TT IN n):=rfl
theorem xn9[Dr]{P:Program}{TT:Nat->Option TI}{b:Bool}{o:Oper}{ts:List SV}{ks:List KB}{K:Bool->List SV->List KB->Prop}(h:qp6 P TT b o ts ks K):∃ hd s k1,Evs P TT ts ks o.op hd s k1/\K hd (putT o.dst s ts) k1:=by
 unfold qp6 at h;split at h
 ·obtain⟨s,hev,hk⟩:=xp4 TT ts o.op _ h;rw [x5] at hk;exact⟨false,s,ks,.app s hev,hk⟩
 ·exact za2 h
theorem js2[Dr]{b:Bool}{o:Oper}{os:List Oper}{ts:List SV}{ks:List KB}{n:Nat}{hs:List Bool}(hg:yu all ts o=some true)(h:qp6 P TT b o ts ks (λh ts' ks'=>run P TT IN n nb (.ops true (h :: hs) all os :: r) ts' ks' K))
 (ih:∀ ts ks hs,run P TT IN n nb (.ops true hs all os :: r) ts ks K->∃ n' ts' ks' hs',n'<=n/\Tr P TT all os ts ks ts' ks' hs'/\vg all (revB (revB hs' hs) [])=true/\run P TT IN n' nb r ts' ks' K) :
 ∃ n' ts' ks' hs',n'<=n+1/\Tr P TT all (o :: os) ts ks ts' ks' hs'/\vg all (revB (revB hs' hs) [])=true/\run P TT IN n' nb r ts' ks' K:=by
 obtain⟨hd,s,k1,hev,hk⟩:=xn9 h;obtain⟨n',ts',ks',hs',hn,htr,hdr,hrun⟩:=ih _ _ _ hk;exact⟨n',ts',ks',_,om,.step (.ev hg hev) htr,hdr,hrun⟩
theorem jr2[Dr]:∀ (n:Nat) (os:List Oper) (ts:List SV) (ks:List KB) (hs:List Bool),run P TT IN n nb (.ops true hs all os :: r) ts ks K->∃ n' ts' ks' hs',n'<=n/\Tr P TT all os ts ks ts' ks' hs'/\vg all (revB (revB hs' hs) [])=true/\run P TT IN n' nb r ts' ks' K:=by
 intro n;induction n with
 |zero=>intro os ts ks hs h;exact h.elim
 |succ n ih =>
  intro os ts ks hs h;rw [yr2] at h;simp only [jh1] at h;cases os with
  |nil =>
   simp only at h;split at h
   ·rename_i hd;exact⟨n,ts,ks,[],om,.nil ts ks,hd,h⟩
   ·cases h
  |cons o os =>
   simp only at h;split at h
   ·rename_i hg;exact js2 (by simp[yu,hg]) h (ih os)
   ·rename_i j want hg;split at h
    ·cases h
    ·rename_i t hd;rw [qe7] at h;split at h
     ·rename_i hv;split at h
      ·exact js2 (by simp[yu,hg,hd,hv]) h (ih os)
      ·rw [x5] at h;obtain⟨n',ts',ks',hs',hn,htr,hdr,hrun⟩:=ih _ _ _ _ h;exact⟨n',ts',ks',_,om,.step (.skip (by simp[yu,hg,hd,hv])) htr,hdr,hrun⟩
     ·rename_i hv;split at h
      ·exact js2 (by simp[yu,hg,hd,hv]) h (ih os)
      ·rw [x5] at h;obtain⟨n',ts',ks',hs',hn,htr,hdr,hrun⟩:=ih _ _ _ _ h;exact⟨n',ts',ks',_,om,.step (.skip (by simp[yu,hg,hd,hv])) htr,hdr,hrun⟩
     ·rename_i hv;rw [x5] at h;obtain⟨n',ts',ks',hs',hn,htr,hdr,hrun⟩:=ih _ _ _ _ h;exact⟨n',ts',ks',_,om,.step (.skip (by simp[yu,hg,hd,hv])) htr,hdr,hrun⟩
     ·rename_i b hv;obtain⟨h1,h2⟩:=h;cases b with
      |true =>
       have h1:=h1 rfl;rw [vq] at h1;obtain⟨n',ts',ks',hs',hn,htr,hdr,hrun⟩:=ih _ _ _ _ h1;exact⟨n',ts',ks',hs',om,.refine_ t true hv htr,hdr,hrun⟩
      |false =>
       have h2:=h2 rfl;rw [vq] at h2;obtain⟨n',ts',ks',hs',hn,htr,hdr,hrun⟩:=ih _ _ _ _ h2;exact⟨n',ts',ks',hs',om,.refine_ t false hv htr,hdr,hrun⟩
     ·cases h
end
theorem qn6(l m:List Bool):revB l m=l.reverse++m:=by
 induction l generalizing m with
 |nil=>rfl
 |cons a l ih=>simp[revB,ih]
theorem xo3(all:List Oper)(j:Nat):qh4 all j=(all[j]?).bind (·.dst):=by
 induction all generalizing j with
 |nil=>rfl
 |cons o l ih=>cases j with
  |zero=>rfl
  |succ j=>simp[qh4,ih]
section
variable{P:Program}{TT:Nat->Option TI}{B:Bs}{w:World}{β:Env}{fp:Nat->Nat->Prop}{ts:List SV}{ks:List KB}{a:Act}{rd:Option Nat}{n:Nat}{Q:Exit->Act->World->Prop}
theorem Sat.val[Dr](h:Sat B w β fp ts ks a)(x:Operand):Den w (Mx B.X fp) β (val ts x) (a.eval x):=by
 cases x with
 |tmp t =>
  simp only[Go.Eng.val,Act.eval,vb];cases hs:ts[t]? with
  |none=>exact .any _
  |some s =>
   have hlt:t<a.tmps.size:=by rw[h.len];exact(p6.1 hs).1
   simp only[d7];have:=h.tm t s _ hs (mv hlt);simpa[Array.getD,hlt] using this
 |const v =>
  simp only[Go.Eng.val,Act.eval];unfold je4;split
  ·exact .d (.int _ _)
  ·exact .d .tt
  ·exact .d .ff
  ·rename_i s;have:(Value.string s)=strV s.data.toList:=by
    show Value.string s = .string ⟨s.data.toList.toArray⟩;simp
   rw[this];exact .d (.str _)
  ·exact .d (.nil 0 _)
  ·exact .v _
 |func f=>exact .fn f [] [] rfl (λj s u hs=>by simp at hs)
 |global g=>exact .any _
theorem Sat.put[Dr](h:Sat B w β fp ts ks a)(d:Option Tmp){s:SV}{v:Value}(hd:Den w (Mx B.X fp) β s v):Sat B w β fp (putT d s ts) ks (a.put d v):=by
 cases d with
 |none=>exact h
 |some d =>
  refine⟨h.went,h.df,?_,λt s' v' hs hv=>?_⟩
  ·simp only[putT,zw,lw];simpa[Act.put] using h.len
  ·simp only [putT] at hs;rw [zw,m5] at hs;have hv:(a.tmps.setIfInBounds d v)[t]? = some v':=hv;rw [f5] at hv;split at hs
   ·rename_i e;subst e;rw [if_pos rfl] at hv;split at hs
    ·split at hv
     ·cases hs;cases hv;exact hd
     ·cases hv
    ·cases hs
   ·rename_i e;rw [if_neg e] at hv;exact h.tm t s' v' hs hv
theorem Sat.refine_[Dr](h:Sat B w β fp ts ks a)(t:Nat){b:Bool}(ht:getT ts t = .d (.bool b)):Sat B w β fp (setT ts t (.d (if b then .tt else .ff))) ks a:=by
 refine⟨h.went,h.df,by rw[zw];simpa using h.len,λu s' v' hs hv=>?_⟩;rw [zw,m5] at hs;split at hs
 ·rename_i e;subst e;split at hs
  ·rename_i hlt;rw [vb,pp hlt] at ht;have hd:=h.tm t _ v' (pp hlt) hv;simp only [d7] at ht;rw [ht] at hd;cases hs;cases hd with
   |d hd =>
    cases hd;cases b
    ·exact .d .ff
    ·exact .d .tt
  ·cases hs
 ·exact h.tm u s' v' hs hv
theorem qi3[Dr](hS:∀ (t:Nat) (s:SV),getT ts t=s->s≠.any->Den w (Mx B.X fp) β s (a.tmps.getD t undef)){all:List Oper}{o:Oper}{b:Bool}(h:yu all ts o=some b):Region.wanted o (yielded all.toArray a.tmps)=b:=by
 unfold yu at h;unfold Region.wanted;split at h
 ·rename_i hg;simp[hg];simpa using h
 ·rename_i j want hg;split at h
  ·cases h
  ·rename_i t hd;rw [xo3] at hd;split at h
   ·rename_i hv;have:=hS t _ hv sm;have hv':a.tmps.getD t undef = .bool true:=by
     generalize a.tmps.getD t undef=x at this;cases this with|d h=>cases h;rfl
    have hv2:a.tmps[t]? = some (.bool true):=by
     cases hq:a.tmps[t]? with
     |none=>simp [hq,undef] at hv'
     |some x=>simpa[hq] using hv'
    simp[hg,yielded,hd,hv2];cases want <;> simp at h <;> subst h <;> rfl
   ·rename_i hv;have:=hS t _ hv sm;have hv':a.tmps.getD t undef = .bool false:=by
     generalize a.tmps.getD t undef=x at this;cases this with|d h=>cases h;rfl
    have hv2:a.tmps[t]? = some (.bool false):=by
     cases hq:a.tmps[t]? with
     |none=>simp [hq,undef] at hv'
     |some x=>simpa[hq] using hv'
    simp[hg,yielded,hd,hv2];cases want <;> simp at h <;> subst h <;> rfl
   ·rename_i z hv;have:=hS t _ hv sm;have hv':a.tmps.getD t undef = .tuple z:=by
     generalize a.tmps.getD t undef=x at this;cases this;rfl
    obtain rfl:=oq h;cases hq:a.tmps[t]? with
    |none=>simp[hg,yielded,hd,hq]
    |some x =>
     have hx:x = .tuple z:=by simpa[hq] using hv'
     simp[hg,yielded,hd,hq,hx]
   ·cases h
theorem Sat.slot[Dr](hS:Sat B w β fp ts ks a):∀ (t:Nat) (s:SV),getT ts t=s->s≠.any->Den w (Mx B.X fp) β s (a.tmps.getD t undef):=by
 intro t s hs _;have:=hS.val (.tmp t);simp only [Go.Eng.val,Act.eval,hs] at this;exact this
theorem jj7{ts:List SV}{ks:List KB}{op:Op}{K:SV->Prop}(h:pev P TT ts ks op K):∀ c,op≠.defer c:=λc hc=>by rw [hc] at h;exact h
theorem xe0[Dr](hTT:TTok P TT){o:Oper}{h:Bool}{s:SV}{k1:List KB}{X:Nat->Prop}(hst:Evs P TT ts ks o.op h s k1)(hM:Mem X w β fp ks)(hT:∀ x,Den w (Mx X fp) β (val ts x) (a.eval x)){next:Act->World->Prop}
 (hn:∀ v w' β' fp',Went X w β fp w' β' fp' k1->Den w' (Mx X fp') β' s v->next (a.put o.dst v) w'):o.wpIn (qm rd) n P a w next Q:=by
 cases hst with
 |pure _ hc hm hev =>
  obtain⟨s',v,hK,hr,hd⟩:=jb0 hTT hev hT hM.kb' hM.apart;subst hK;exact y3 (jj7 hev) hr (hn v w β fp (Went.refl hM) hd)
 |mem _ _ hc hm hev =>
  refine ym2 hTT hev hM hT (λs' k' v w' β' fp' hs' hW hden=>?_);obtain⟨rfl,rfl⟩:=gp hs';exact hn v w' β' fp' hW hden
 |app _ hev =>
  obtain⟨d,v,w',hK,hr,hst,hd⟩:=zb9 hTT hev hM.vo.no hM.mlt hT;refine y3 (λc hc=>?_) hr (hn v w' β fp (hM.quiet hst) (hK ▸ hd));unfold wx at hev;rw [hc] at hev;exact hev
 |call g args tys _ _ _ ho hev =>
  refine xe8 hTT ho hev hM hT (λh' s' k' v w' β' fp' hs' hW hden=>?_);obtain⟨rfl,he⟩:=gp hs';obtain⟨rfl,rfl⟩:=gp he;exact hn v w' β' fp' hW hden
theorem xa7[Dr]{i:Nat}{ρ:List Nat}:∀ {p q:Nat},posN i ρ p=some q->∃ k,q=p+k/\ρ[k]? = some i:=by
 induction ρ with
 |nil=>intro p q h;cases h
 |cons a l ih =>
  intro p q h;simp only [posN] at h;split at h
  ·rename_i hb;cases h;exact⟨0,rfl,by rw[jg hb];rfl⟩
  ·obtain⟨k,rfl,hk⟩:=ih h;exact⟨k+1,om,by simpa using hk⟩
def renE(ρ:List Nat)(β:Env):Env:=λk=>(ρ[k]?).bind β
def renF(ρ:List Nat)(fp:Nat->Nat->Prop):Nat->Nat->Prop:=λk b=>∃ i,ρ[k]? = some i/\fp i b
theorem vr[Dr]{ρ:List Nat}{β:Env}{i p:Nat}{L:Loc}(h:posN i ρ 0=some p)(hL:β i=some L):renE ρ β p=some L:=by
 obtain⟨k,rfl,hk⟩:=xa7 h;rw[o5];simp[renE,hk,hL]
theorem qe4(ρ:List Nat)(l:List SV)(j:Nat):(renL ρ l)[j]? = (l[j]?).map (renV ρ):=by
 induction l generalizing j with
 |nil=>simp[renL]
 |cons a l ih=>cases j <;> simp[renL,ih]
theorem qd2(ρ:List Nat)(l:List SV):(renL ρ l).length=l.length:=by
 induction l with
 |nil=>rfl
 |cons a l ih=>simp[renL,ih]
theorem xj1(ρ:List Nat)(l:List (List DV × List SV))(j:Nat):(renM ρ l)[j]? = (l[j]?).map (λp=>(p.1,renL ρ p.2)):=by
 induction l generalizing j with
 |nil=>simp[renM]
 |cons a l ih=>obtain⟨k,v⟩:=a;cases j <;> simp[renM,ih]
theorem zn0(ρ:List Nat)(l:List (List DV × List SV)):(renM ρ l).length=l.length:=by
 induction l with
 |nil=>rfl
 |cons a l ih=>obtain⟨k,v⟩:=a;simp[renM,ih]
theorem Den.ren[Dr]{M:Nat->Prop}(ρ:List Nat){s:SV}{v:Value}(h:Den w M β s v):Den w M (renE ρ β) (renV ρ s) v:=by
 induction h with
 |d h=>exact .d h
 |ptr i off L h =>
  simp only[renV];split
  ·exact .ptr _ _ L (vr (by assumption) h)
  ·exact .any _
 |aptr i off len ix L h1 h2 h3 =>
  simp only[renV];split
  ·exact .aptr _ _ _ _ L h1 h2 (vr (by assumption) h3)
  ·exact .any _
 |dptr cells off ad u h1 h2 h3 h4=>exact .dptr cells off ad u h1 h2 h3 h4
 |allNil i L h h1 =>
  simp only[renV];split
  ·exact .allNil _ L (vr (by assumption) h) h1
  ·exact .any _
 |all i L h h1 =>
  simp only[renV];split
  ·exact .all _ L (vr (by assumption) h) h1
  ·exact .any _
 |rowNil i L h h1 =>
  simp only[renV];split
  ·exact .rowNil _ L (vr (by assumption) h) h1
  ·exact .any _
 |row i lo n off L h h1 h2 h3 =>
  simp only[renV];split
  ·exact .row _ lo n off L (vr (by assumption) h) h1 h2 h3
  ·exact .any _
 |cs i off n c L h h1 =>
  simp only[renV];split
  ·exact .cs _ off n c L (vr (by assumption) h) h1
  ·exact .any _
 |rptr i j off sz L h h1 =>
  simp only[renV];split
  ·exact .rptr _ j off sz L (vr (by assumption) h) h1
  ·exact .any _
 |agg l vs h1 _ h3 ih =>
  refine .agg _ vs (by rw[qd2];exact h1) (λj s u a b=>?_) h3;rw [qe4] at a;cases hl:l[j]? with
  |none=>rw [hl] at a;cases a
  |some s0=>rw [hl] at a;cases a;exact ih j s0 u hl b
 |tup l vs h1 _ ih =>
  refine .tup _ vs (by rw[qd2];exact h1) (λj s u a b=>?_);rw [qe4] at a;cases hl:l[j]? with
  |none=>rw [hl] at a;cases a
  |some s0=>rw [hl] at a;cases a;exact ih j s0 u hl b
 |fn f l vs h1 _ ih =>
  refine .fn f _ vs (by rw[qd2];exact h1) (λj s u a b=>?_);rw [qe4] at a;cases hl:l[j]? with
  |none=>rw [hl] at a;cases a
  |some s0=>rw [hl] at a;cases a;exact ih j s0 u hl b
 |map i L h =>
  simp only[renV];split
  ·exact .map _ L (vr (by assumption) h)
  ·exact .any _
 |yl i L h =>
  simp only[renV];split
  ·exact .yl _ L (vr (by assumption) h)
  ·exact .any _
 |ln n c ad=>exact .ln n c ad
 |err b v h1 h2=>exact .err b v h1 h2
 |v x=>exact .v x
 |any x=>exact .any x
theorem KBat.ren[Dr]{M:Nat->Prop}(ρ:List Nat){L:Loc}{f:Nat->Prop}{k:KB}(h:KBat w M β L f k)(hng:renK ρ k≠.gone):KBat w M (renE ρ β) L f (renK ρ k):=by
 cases h with
 |cells t l vs h0 h1 h3 h4 h5 =>
  refine .cells t _ vs h0 h1 (by rw[qd2];exact h3) (λj s u a b=>?_) h5;rw [qe4] at a;cases hl:l[j]? with
  |none=>rw [hl] at a;cases a
  |some s0=>rw [hl] at a;cases a;exact (h4 j s0 u hl b).ren ρ
 |rowNil e sz z f h0 h1 h2 h3 h4=>exact .rowNil e sz z f h0 h1 h2 h3 h4
 |row e sz n z f vs fz h0 h1 h2 hn h3 h4 h5 h6 h7 h8 h9 h10=>exact .row e sz n z f vs fz h0 h1 h2 hn h3 h4 h5 h6 h7 h8 h9 h10
 |rows e sz n f vs fz h0 h1 h2 hn h4 h5 h6 h7 h8 h9 h10 =>
  refine .rows e sz n _ vs fz h0 h1 h2 hn h4 h5 h6 h7 (λk hk=>by rw[qd2];exact h8 k hk) (λk j s u hk hs hu=>?_) h10;rw [qe4] at hs;cases hl:(f k)[j]? with
  |none=>rw [hl] at hs;cases hs
  |some s0=>rw [hl] at hs;cases hs;exact (h9 k j s0 u hk hl hu).ren ρ
 |iter i bs c rem lst Li seen h0 h1 h2 h3 h4 h5 h6 =>
  simp only [renK] at hng ⊢;split
  ·rename_i p hp;exact .iter p bs c rem lst Li seen h0 (vr hp h1) h2 h3 h4 h5 h6
  ·rename_i hp;rw [hp] at hng;exact absurd rfl hng
 |mapx eks ka ea l st es clock h0 h1 h2 h3 h4 h5 =>
  refine .mapx eks ka ea _ st es clock h0 h1 (by rw[zn0];exact h2) (λj p e hp he=>?_) h4 h5;rw [xj1] at hp;cases hl:l[j]? with
  |none=>rw [hl] at hp;cases hp
  |some p0 =>
   rw [hl] at hp;cases hp;obtain⟨kc,vc,a1,a2,a3,a4,a5,a6,a7,a8,a9,a10,a11⟩:=(h3 j p0 e hl he).ex;refine⟨kc,vc,a1,a2,a3,by simp[qd2,a4],a5,a6,a7,a8,a9,λq s u hs hu=>?_,a11⟩;simp only [qe4] at hs;cases hq:p0.2[q]? with
   |none=>rw [hq] at hs;cases hs
   |some s0=>rw [hq] at hs;cases hs;exact (a10 q s0 u hq hu).ren ρ
 |obj φ h1 h2=>exact .obj φ h1 h2
 |loop l ps asg body st r h0 h1 h2 h3 h4 h5 h6 h7 =>
  refine .loop _ ps asg body st r h0 h1 (by rw[qd2];exact h2) (λj s u a b=>?_) h4 h5 h6 h7;rw [qe4] at a;cases hl:l[j]? with
  |none=>rw [hl] at a;cases a
  |some s0=>rw [hl] at a;cases a;exact (h3 j s0 u hl b).ren ρ
theorem ys4[Dr]{m:Nat}{ρ:List Nat}(h:okN m ρ=true):(∀ (k i:Nat),ρ[k]? = some i->i<m)/\∀ (j k i:Nat),ρ[j]? = some i->ρ[k]? = some i->j=k:=by
 induction ρ with
 |nil=>exact ⟨λk i h=>by simp at h,λj k i h=>by simp at h⟩
 |cons a l ih =>
  simp only [okN] at h;split at h
  ·rename_i hm hb;obtain⟨h1,h2⟩:=ih h;have hnot:=qo7 hm;refine⟨λk i hk=>?_,λj k i hj hk=>?_⟩
   ·cases k with
    |zero=>simp at hk;subst hk;exact yh hb
    |succ k=>exact h1 k i (by simpa using hk)
   ·cases j <;> cases k
    ·rfl
    ·simp at hj hk;subst hj;exact absurd (ov hk) hnot
    ·simp at hj hk;subst hk;exact absurd (ov hj) hnot
    ·rename_i j k;have:=h2 j k i (by simpa using hj) (by simpa using hk);omega
  ·cases h
theorem zu9[Dr]{n i:Nat}{ρ:List Nat}(h:qk5 n i ρ=true):∀ k,k<n->ρ[k]? = some (i+k):=by
 induction n generalizing i ρ with
 |zero=>intro k hk;omega
 |succ n ih =>
  cases ρ with
  |nil=>simp [qk5] at h
  |cons a l =>
   simp only [qk5] at h;split at h
   ·rename_i hb;intro k hk;cases k with
    |zero=>simp[jg hb]
    |succ k=>have:=ih h k om;simp[this];omega
   ·cases h
theorem xj2(ρ:List Nat)(ks:List KB)(l:List Nat)(j:Nat):(renB ρ ks l)[j]? = (l[j]?).map (λo=>renK ρ (getB ks o)):=by
 induction l generalizing j with
 |nil=>simp[renB]
 |cons a l ih=>cases j <;> simp[renB,ih]
theorem zn1(ρ:List Nat)(ks:List KB)(l:List Nat):(renB ρ ks l).length=l.length:=by
 induction l with
 |nil=>rfl
 |cons a l ih=>simp[renB,ih]
theorem Went.ren[Dr]{X:Nat->Prop}{w0:World}{β0:Env}{fp0:Nat->Nat->Prop}{nb:Nat}(h:Went X w0 β0 fp0 w β fp ks)(hnb:∀ i,nb<=i->β0 i=none)(ρ:List Nat)(h1:okN ks.length ρ=true)(h2:qk5 nb 0 ρ=true) :
 Went X w0 β0 fp0 w (renE ρ β) (renF ρ fp) (renB ρ ks ρ):=by
 obtain⟨o1,o2⟩:=ys4 h1;have hk:=zu9 h2;have hM:∀ b,Mx X (renF ρ fp) b->Mx X fp b:=λb hm=>hm.imp id (λ⟨k,i,_,hb⟩=>⟨i,hb⟩)
 refine⟨⟨⟨h.mem.xa,λk b ⟨i,_,hb⟩=>h.mem.xb i b hb,λj k b ⟨i,hi,hb⟩ ⟨i',hi',hb'⟩=>?_,λk b ⟨i,_,hb⟩=>h.mem.kw i b hb,λk b ⟨i,hi,hb⟩=>?_,λk L kb hkb hne hL=>?_⟩,λk hk'=>?_,h.mem.vo.sub (λk b ⟨i,_,hb⟩=>⟨i,hb⟩)⟩,h.st,λi L hL=>?_,λk b ⟨i,_,hb⟩=>h.own i b hb⟩
 ·have:=h.mem.dis i i' b hb hb';subst this;exact o2 j k i hi hi'
 ·obtain⟨L,hL⟩:=h.mem.kn i b hb;exact⟨L,by simp[renE,hi,hL]⟩
 ·rw [xj2] at hkb;cases hi:ρ[k]? with
  |none=>rw [hi] at hkb;cases hkb
  |some i =>
   rw [hi] at hkb;simp only [l7] at hkb;cases hkb;have hL':β i=some L:=by simpa[renE,hi] using hL
   have hil:=o1 k i hi;have hgi:ks[i]? = some (getB ks i):=by rw[vt,pp hil];rfl
   have hne':getB ks i≠.gone:=λe=>by rw [e] at hne;exact hne rfl
   have hb:=(h.mem.kb i L _ hgi hne' hL').ren ρ hne;have hfp:renF ρ fp k=fp i:=by
    funext b;simp only[renF,hi];simp
   rw[hfp];exact hb.mono (Step.refl _ _) (λb _ e=>hM b e) (Ext.refl _) (λ_ _=>rfl)
 ·rw [zn1] at hk';simp[renE,g8 hk']
 ·have hi:i<nb:=by
   rcases ox i nb with e|e
   ·exact e
   ·rw [hnb i e] at hL;cases hL
  have hr:=hk i hi;rw [o5] at hr;simp[renE,hr,h.ext i L hL]
theorem qz3{l m:List SV}(h:SubL l m):l.length=m.length:=by
 induction l generalizing m with
 |nil=>cases m with
  |nil=>rfl
  |cons=>exact h.elim
 |cons a l ih=>cases m with
  |nil=>exact h.elim
  |cons b m=>simp[ih h.2]
theorem jd9{l m:List SV}(h:SubL l m)(j:Nat)(s:SV)(hs:m[j]? = some s):∃ s0,l[j]? = some s0/\SubV s0 s:=by
 induction l generalizing m j with
 |nil=>cases m with
  |nil=>simp at hs
  |cons=>exact h.elim
 |cons a l ih=>cases m with
  |nil=>exact h.elim
  |cons b m =>
   cases j with
   |zero=>simp at hs;subst hs;exact ⟨a,rfl,h.1⟩
   |succ j=>exact ih h.2 j (by simpa using hs)
theorem qn3[Dr]{s0 s:SV}(h:SubV s0 s){v:Value}{M:Nat->Prop}(hd:Den w M β s0 v):Den w M β s v:=by
 unfold SubV at h;split at h
 ·exact .any _
 ·split at h
  ·subst h;cases jj hd;exact .d (.bool true)
  ·subst h;cases jj hd;exact .d (.bool false)
  ·exact h ▸ hd
 ·exact h ▸ hd
theorem zr3{l m:List KB}(h:SubB l m):l.length=m.length:=by
 induction l generalizing m with
 |nil=>cases m with
  |nil=>rfl
  |cons=>exact h.elim
 |cons a l ih=>cases m with
  |nil=>exact h.elim
  |cons b m=>simp[ih h.2]
theorem xq2{l m:List KB}(h:SubB l m)(j:Nat)(k:KB)(hk:m[j]? = some k):∃ k0,l[j]? = some k0/\SubK k0 k:=by
 induction m generalizing l j with
 |nil=>simp at hk
 |cons b m ih=>cases l with
  |nil=>exact h.elim
  |cons a l =>
   cases j with
   |zero=>simp at hk;subst hk;exact ⟨a,rfl,h.1⟩
   |succ j=>exact ih h.2 j (by simpa using hk)
theorem xw5[Dr]{M:Nat->Prop}{L:Loc}{f:Nat->Prop}{k0 k:KB}(h:SubK k0 k)(hne:k≠.gone)(hb:KBat w M β L f k0):KBat w M β L f k:=by
 unfold SubK at h;split at h
 ·exact absurd rfl hne
 ·rename_i t l t' l';obtain⟨rfl,hsl⟩:=h;cases hb with
  |cells _ _ vs h0 h1 h3 h4 h5 =>
   refine .cells t l' vs h0 h1 (by rw[<-qz3 hsl];exact h3) (λj s u hs hu=>?_) h5;obtain⟨s0,hs0,hsv⟩:=jd9 hsl j s hs;exact qn3 hsv (h4 j s0 u hs0 hu)
 ·rename_i e sz n z f e' sz' n' z' f';obtain⟨rfl,rfl,rfl,hz,hf⟩:=h;cases hb with
  |rowNil _ _ _ _ h0 h1 h2 h3 h4=>exact .rowNil e sz z' f' h0 h1 h2 h3 (by cases z <;> cases z' <;> simp [SubZ] at hz h4 ⊢)
  |row _ _ _ _ _ vs fz h0 h1 h2 hn h3 h4 h5 h6 h7 h8 h9 h10 =>
   exact .row e sz n z' f' vs fz h0 h1 h2 hn (λez=>by subst ez;cases z with|no=>exact hz.elim|iff=>exact h3 rfl|may=>exact hz) h4 h5 h6 h7 (λk hk=>hf k hk ▸ h8 k hk) (λk j d u hk hd hu=>h9 k j d u hk (by rw[hf k hk];exact hd) hu) h10
 ·rename_i e sz n f e' sz' n' f';obtain⟨rfl,rfl,rfl,hf⟩:=h;cases hb with
  |rows _ _ _ _ vs fz h0 h1 h2 hn h4 h5 h6 h7 h8 h9 h10 =>
   refine .rows e sz n f' vs fz h0 h1 h2 hn h4 h5 h6 h7 (λk hk=>by rw[<-qz3 (hf k hk)];exact h8 k hk) (λk j s u hk hs hu=>?_) h10;obtain⟨s0,hs0,hsv⟩:=jd9 (hf k hk) j s hs;exact qn3 hsv (h9 k j s0 u hk hs0 hu)
 ·rename_i eks ka ea l st eks' ka' ea' l' st';cases st' with
  |free =>
   obtain⟨⟨rfl,rfl,rfl⟩,hl⟩:=h;cases hl;cases hb with
   |mapx _ _ _ _ _ es clock h0 h1 h2 h3 h4 h5=>exact .mapx _ _ _ _ .free es clock h0 h1 h2 h3 h4 trivial
  |opn q s =>
   obtain⟨⟨⟨rfl,rfl,rfl⟩,hl⟩,rfl⟩:=h;cases hl;exact hb
  |born bs c =>
   obtain⟨⟨⟨rfl,rfl,rfl⟩,hl⟩,rfl⟩:=h;cases hl;exact hb
 ·obtain⟨rfl,rfl,rfl,rfl,rfl⟩:=h;exact hb
 ·rename_i φ φ';cases hb with
  |obj _ h1 h2 =>
   obtain⟨a,b⟩:=h w M L f h2;exact .obj φ' a b
 ·rename_i l ps a b st l' ps' a' b' st';obtain⟨hsl,rfl,rfl,rfl,rfl⟩:=h;cases hb with
  |loop _ _ _ _ _ r h0 h1 h2 h3 h4 h5 h6 h7 =>
   refine .loop l' ps a b st r h0 h1 (by rw[<-qz3 hsl];exact h2) (λj s u hs hu=>?_) h4 h5 h6 h7;obtain⟨s0,hs0,hsv⟩:=jd9 hsl j s hs;exact qn3 hsv (h3 j s0 u hs0 hu)
 ·cases h
theorem Went.less[Dr]{X:Nat->Prop}{w0:World}{β0:Env}{fp0:Nat->Nat->Prop}{ks':List KB}(h:Went X w0 β0 fp0 w β fp ks)(hs:SubB ks ks'):Went X w0 β0 fp0 w β fp ks':=by
 refine⟨⟨⟨h.mem.xa,h.mem.xb,h.mem.dis,h.mem.kw,h.mem.kn,λi L k hk hne hL=>?_⟩,λi hi=>h.mem.kl i (by rw[zr3 hs];exact hi),h.mem.vo⟩,h.st,h.ext,h.own⟩
 ·obtain⟨k0,hk0,hsk⟩:=xq2 hs i k hk;have hne0:k0≠.gone:=λe=>by
   subst e;unfold SubK at hsk;split at hsk
   ·exact hne rfl
   all_goals simp_all
  exact xw5 hsk hne (h.mem.kb i L k0 hk0 hne0 hL)
theorem Sat.weaken[Dr]{nb:Nat}{ρ:List Nat}{ts':List SV}{ks':List KB}(h:Sat B w β fp ts ks a)(hnb:∀ i,nb<=i->B.β0 i=none)(hs:Subs nb ρ ts ks ts' ks'):∃ β' fp',Sat B w β' fp' ts' ks' a:=by
 unfold Subs at hs;split at hs
 ·rename_i h1 h2;rw [qf5] at h1;obtain⟨hl,hk⟩:=hs;have hW:=h.went.ren hnb ρ h1 h2;have hM:∀ b,Mx B.X (renF ρ fp) b->Mx B.X fp b:=λb hm=>hm.imp id (λ⟨k,i,_,hb⟩=>⟨i,hb⟩)
  refine⟨renE ρ β,renF ρ fp,hW.less hk,h.df.mono (Step.refl _ _) (λb _ e=>hM b e),by rw[h.len,<-qz3 hl,qd2],λt s v hs hv=>?_⟩;obtain⟨s0,hs0,hsv⟩:=jd9 hl t s hs;rw [qe4] at hs0;cases hq:ts[t]? with
  |none=>rw [hq] at hs0;cases hs0
  |some s1 =>
   rw [hq] at hs0;cases hs0;exact qn3 hsv (((h.tm t s1 v hq hv).mono (Step.refl _ _) (λb _ e=>hM b e) (Ext.refl _)).ren ρ)
 ·exact hs.elim
def qk7(F:Fence)(n:Nat)(P:Program)(c:Code)(Q:Exit->Act->World->Prop)(a:Act)(w:World):Prop :=
 ∀ (b:Frame) (k:List Item) (cs:List Frame),b.roundOf=F.round->F.fn b.fn->F.room (cs.length+1+n) ->
  ∃ e a' w',Q e a' w'/\ArrivesIn (Machine.fenced P F) P (lone (b.atR a (.code c :: .inLoop c :: k)) cs w) b k cs e a' w'
theorem zi8{F:Fence}{c:Code}(h:qk7 F n P c Q a w):(Code.loop c).wpIn F n P Q a w:=by
 intro b k cs hro hb hr;obtain⟨e,a',w',hq,harr⟩:=h b k cs hro hb hr;exact⟨e,a',w',hq,.of_steps (.one (fenced_calm hb hr rfl) stepR_loop) harr⟩
theorem yc4{F:Fence}{c:Code}(h:c.wpIn F n P (Exit.then (λa' w'=>qk7 F n P c Q a' w') Q) a w):qk7 F n P c Q a w:=by
 intro b k cs hro hb hr;obtain⟨e,a₁,w₁,hq,harr⟩:=h b (.inLoop c :: k) cs hro hb hr;cases e with
 |normal =>
  obtain⟨e₂,a₂,w₂,hq₂,harr₂⟩:=hq b k cs hro hb hr;exact⟨e₂,a₂,w₂,hq₂,.of_steps (StepsIn.trans harr (.one (fenced_calm hb hr rfl) stepR_inLoop)) harr₂⟩
 |exit id=>exact⟨_,a₁,w₁,hq,.pass (x:=.inLoop c) rfl (λ_ _=>.inl sm) harr⟩
 |goto l=>exact⟨_,a₁,w₁,hq,.pass (x:=.inLoop c) rfl (λ_ _=>.inl sm) harr⟩
 |ret=>exact⟨_,a₁,w₁,hq,.pass (x:=.inLoop c) rfl (λ_ _=>.inl sm) harr⟩
 |panic ch=>exact⟨_,a₁,w₁,hq,.pass (x:=.inLoop c) rfl (λ_ _=>.inl sm) harr⟩
 |outgrown=>exact⟨_,a₁,w₁,hq,.pass (x:=.inLoop c) rfl (λ_ _=>.inl sm) harr⟩
theorem xq0[Dr]{ι:Type}{F:Fence}{c:Code}(Fit:ι->Act->World->Prop)(μ:ι->Nat)(i:ι)(h₀:Fit i a w)
 (round:∀ i a w,Fit i a w->c.wpIn F n P (Exit.then (λa' w'=>∃ j,Fit j a' w'/\μ j<μ i) Q) a w):qk7 F n P c Q a w:=by
 have key:∀ m i a w,μ i=m->Fit i a w->qk7 F n P c Q a w:=by
  intro m;induction m using Nat.strongRecOn with
  |_ m ih =>
   intro i a w hn hI;refine yc4 (wpIn_mono (round i a w hI) (λe a1 w1 he=>?_));cases e with
   |normal =>
    obtain⟨j,hI₁,hlt⟩:=he;exact ih (μ j) (hn ▸ hlt) j a1 w1 rfl hI₁
   |_=>exact he
 exact key _ i a w rfl h₀
end
end
section
section
variable{P:Program}{TT:Nat->Option TI}{X:Nat->Prop}{w:World}{β:Env}{M:Nat->Prop}{ts:List SV}{ks:List KB}{a:Act}{K:SV->List KB->Prop}{o:Oper}
def ji4[Dr](P:Program)(w:World)(M:Nat->Prop)(β:Env)(ks:List KB)(a:Act)(o:Oper)(K:SV->List KB->Prop):Prop :=
 ∃ (ob:Obj) (L:Loc) (k:KB) (s0:SV) (v:Value) (w1:World),K s0 (ks++[k])/\(execOp a.eval o).run P w = .ok (.value v) (w1.alloc ob)/\Step (λ_=>False) w w1/\w1.heap.size=w.heap.size/\L.b=w.heap.size /\
  (∀ (M':Nat->Prop) (β':Env),(∀ b,b<w.heap.size->M' b->M b)->Ext β β'->KBat (w1.alloc ob) M' β' L (· = w.heap.size) k)/\∀ (w':World) (M':Nat->Prop) (β':Env),β' ks.length=some L->Den w' M' β' s0 v
theorem jk1[Dr]{w1:World}(h1:Step (λ_=>False) w w1)(hsz:w1.heap.size=w.heap.size)(t:TypeId)(l:List SV)(vs:Array Value)(hl:l.length=vs.size)(hd:∀ (j:Nat) (s:SV) (u:Value),l[j]? = some s->vs[j]? = some u->Den w M β s u)(ho:∀ (j:Nat) (u:Value),vs[j]? = some u->u.oneCell'=true) :
 ∀ (M':Nat->Prop) (β':Env),(∀ b,b<w.heap.size->M' b->M b)->Ext β β'->KBat (w1.alloc (.cells vs t)) M' β' (locB w.heap.size) (· = w.heap.size) (.cells t l):=λM' β' hM hE =>
 .cells t l vs (λx=>Iff.rfl) (by show(w1.heap.push _)[w.heap.size]? = _;rw[<-hsz];simp) hl (λj s u a b=>(hd j s u a b).mono ((h1.mono (λ_ _ e=>e.elim)).trans (Step.alloc _ w1 _)) hM hE) ho
theorem yn4[Dr]{w1:World}(h1:Step (λ_=>False) w w1)(hsz:w1.heap.size=w.heap.size)(e:TypeId)(sz n c:Nat)(z:Z)(f:Nat->List DV)(vs:Array Value)(fz:Nat × Nat)(hfz:∀ o,o<vs.size->¬ (fz.1<=o/\o<fz.2))(hz:z = .iff->0<n)(hs:vs.size=c * sz)(hn:n<=c)(hfl:∀ k,k<n->(f k).length=sz)
 (hr:∀ (k j:Nat) (d:DV) (u:Value),k<n->(f k)[j]? = some d->vs[k * sz+j]? = some u->Rd w M d u) (ho:∀ (j:Nat) (u:Value),vs[j]? = some u->u.oneCell'=true) :
 ∀ (M':Nat->Prop) (β':Env),(∀ b,b<w.heap.size->M' b->M b)->Ext β β'->KBat (w1.alloc (.cells vs e fz)) M' β' ⟨w.heap.size,n,c,sz,false⟩ (· = w.heap.size) (.row e sz n z f):=λM' β' hM hE =>
 .row e sz n z f vs fz (λx=>Iff.rfl) rfl rfl rfl hz (by show(w1.heap.push _)[w.heap.size]? = _;rw[<-hsz];simp) hfz hs hn hfl (λk j d u a b c=>(hr k j d u a b c).mono ((h1.mono (λ_ _ e=>e.elim)).trans (Step.alloc _ w1 _)) hM) ho
theorem zh2[Dr](hTT:TTok P TT){t:TypeId}{len:Nat}{parts:Array (Nat × Operand)}(ho:o.op = .buildSlice t len parts)(h:mev TT ts ks (.buildSlice t len parts) K)(hM:∀ b,M b->b<w.heap.size)(hT:∀ x,Den w M β (val ts x) (a.eval x)):ji4 P w M β ks a o K:=by
 simp only [mev] at h;split at h
 ·rename_i _ _ _ _ e _ ht;split at h
  ·rename_i size bytes agg zero desc eqk hte;split at h
   ·rename_i hble;have hble:=yh hble;obtain⟨info0,d0,z0',hi0,hu0,_,_,_,_,_,_,_,_,hd0⟩:=qk hTT ht;cases hd0;obtain⟨info,de,z0,hi,hue,hsz,hby,hz0,_,hzl,hzs,hzd,hz1,_⟩:=qk hTT hte;simp only at hsz hzl hzs hzd;rw [qu4] at h;have hlen0:((List.replicate len zero).flatten).length=len * size:=by simp[hzs]
    have hbase:((Array.range (len * info.size)).map (z0.cells[· % z0.cells.size]!)).toList.length=len * size:=by simp[hsz]
    have hzpos:∀ m,m<len * size->0<z0.cells.size:=λm hm=>by
     rcases dz z0.cells.size with e0|e0
     ·rw [hzl,hzs] at e0;rw [e0] at hm;omega
     ·exact e0
    obtain⟨cs',vs',h,hfill,r1,r2,r3⟩:=jl2 (a:=a) hT parts.toList _ _ ((Array.range (len * info.size)).map (z0.cells[· % z0.cells.size]!)).toList h (by rw[hlen0,hbase]) (λj s u hs hu=>by
     obtain⟨a1,a2⟩:=jr5 zero len j s hs;have hu':((Array.range (len * info.size)).map (z0.cells[· % z0.cells.size]!))[j]? = some u:=by rw[<-dy];exact hu
     obtain ⟨b1,b2⟩:=uq hu' (hzpos j (by rw [hzs] at a2;exact a2));rw [hzl] at b2;exact hzd w _ β _ s u a1 b2) (λu hu=>by
     obtain⟨j,hj,rfl⟩:=mr.1 hu;have hu':=pp hj;rw [dy] at hu';rw [hbase] at hj;obtain⟨b1,b2⟩:=uq hu' (hzpos j hj);exact hz1 _ _ b2)
    rw [x6,xe,o5] at h;refine⟨.cells vs'.toArray e,locB w.heap.size,_,_,.slice (some ⟨w.heap.size,0,none⟩) len len,w,h,?_,Step.refl _ _,rfl,rfl,jk1 (Step.refl _ _) rfl e cs' vs'.toArray (by simpa using r1) (λj s u hs hu=>r2 j s u hs (by simpa using hu)) (λj u hu=>r3 u (ov (by simpa using hu))),λ_ _ β' hL=>.cs _ 0 len len (locB w.heap.size) hL (pu _)⟩;have hrun:(Instr.buildSlice t len (parts.map λ(i,x)=>(i,a.eval x))).run P w = .ok (.slice (some ⟨w.heap.size,0,none⟩) len len) (w.alloc (.cells vs'.toArray e)):=by
     have hp:(parts.map λ(i,x)=>(i,a.eval x)).toList=parts.toList.map λp=>(p.1,a.eval p.2):=by simp
     have hfill':Instr.fill (λi=>some (i * info.size,info.size)) ((Array.range (len * info.size)).map (z0.cells[· % z0.cells.size]!)) (parts.map λ(i,x)=>(i,a.eval x)).toList=some vs'.toArray:=by
      rw[hp,hsz];rw [hsz,sv] at hfill;exact hfill
     have h24:¬ (len * info.size > 2 ^ 24):=by rw[hsz];omega
     by_cases hz:len * info.size=0
     ·rw [hz,rp,Array.map_empty] at hfill';simp only[Instr.buildSlice,p8,run_underlying hu0,ot,run_sizeOf hi,hz];have hfill2:Instr.fill (λi=>some (i * info.size,info.size)) #[] (List.map (λx=>(x.1,a.eval x.2)) parts.toList)=some vs'.toArray:=by rw[<-hp];exact hfill'
      simp[newRow,rp,hfill2]
     ·exact run_buildSlice w t e len _ _ info z0 hu0 hi hz0 h24 hz hfill'
    simp[execOp,ho,hrun]
   ·cases h
  ·cases h
 ·cases h
theorem zh7[Dr](hTT:TTok P TT){t:TypeId}{x y:Operand}(ho:o.op = .makeSlice t x y)(h:mev TT ts ks (.makeSlice t x y) K)(hM:∀ b,M b->b<w.heap.size)(hT:∀ x,Den w M β (val ts x) (a.eval x)):ji4 P w M β ks a o K:=by
 simp only [mev] at h;split at h
 ·rename_i _ _ _ _ e _ ht;split at h
  ·rename_i size bytes agg zero desc eqk hte;obtain⟨info0,d0,z0',hi0,hu0,_,_,_,_,_,_,_,_,hd0⟩:=qk hTT ht;cases hd0;obtain⟨info,de,z0,hi,hue,hsz,hby,hz0,_,hzl,hzs,hzd,hz1,_⟩:=qk hTT hte;simp only at hsz hzl hzs hzd hby;rw [qq,qq] at h;have hx:=hT x;have hy:=hT y;split at h
   ·rename_i k l k' c ex ey;rw [ex] at hx;rw [ey] at hy;have e1:=jh hx;have e2:=jh hy;have hE:Mem0 M w noE (λ_ _=>False) []:=⟨hM,λ_ _ h=>h.elim,λ_ _ _ h=>h.elim,λ_ _ h=>h.elim,λ_ _ h=>h.elim,λi L k hk=>by simp at hk⟩;obtain⟨ds,fr,h,f1,f2,f3⟩:=ql7 hE _ _ z0.cells.toList h (by simpa using hzl.symm) (λj s u hs hu=>hzd w _ noE j s u hs (by simpa using hu));obtain⟨⟨h0,h1,h2,h3⟩,h⟩:=h;rw [uw] at h;have hsize:ds.length=size:=by rw[f1,hzs]
    have hgetm:∀ (kk q:Nat) (u:Value),q<size->(madeCells z0.cells (c.toNat * info.size))[kk * size+q]? = some u->z0.cells[q]? = some u:=λkk q u hq hu=>by
     obtain⟨_,b2⟩:=uq hu om;rw [hzl,hzs,bn,Nat.mul_add_mod,rq hq] at b2;exact b2
    have hkb:=yn4 (M:=M) (β:=β) (Step.refl _ w) rfl e size l.toNat c.toNat .no (λ_=>ds) (madeCells z0.cells (c.toNat * info.size)) (0,0) sm (λe=>by cases e) (by rw[size_madeCells,hsz]) om (λ_ _=>hsize) (λkk q d u _ hd hu=>by
     have hq:q<size:=by have:=(p6.1 hd).1;omega
     have hu':=hgetm kk q u hq hu;have:=f3 fr (λ_ h=>h) q d u hd (by simpa using hu');exact x7 this (λb hb=>.inl hb)) (λj u hu=>by
     have hj:j<c.toNat * info.size:=by have:=(gq.1 hu).1;rw [size_madeCells] at this;exact this
     have hp:0<z0.cells.size:=by
      rcases dz z0.cells.size with e0|e0
      ·rw [hzl,hzs,<-hsz] at e0;rw [e0] at hj;omega
      ·exact e0
     obtain⟨_,b2⟩:=uq hu hp;exact hz1 _ _ b2)
    refine⟨_,_,_,_,_,w,h,?_,Step.refl _ _,rfl,rfl,hkb,λ_ _ β' hL=>.all _ _ hL rfl⟩;have hrun:=run_make (P:=P) w t e info z0 hu0 hi hz0 k k' l c h0 h1 (by rw[hby,Int.mul_comm];exact h2) h3;simp[execOp,ho,e1,e2,hrun]
   ·cases h
  ·cases h
 ·cases h
theorem zk1[Dr](hTT:TTok P TT){src dst:TypeId}{x:Operand}(ho:o.op = .convert src dst x)(hf:va (.convert src dst x)=true)(h:mev TT ts ks (.convert src dst x) K)(hM:∀ b,M b->b<w.heap.size)(hT:∀ x,Den w M β (val ts x) (a.eval x)):ji4 P w M β ks a o K:=by
 simp only [mev] at h;split at h
 ·rename_i _ _ tis _ _ _ _ e _ hts ht;obtain⟨_,us,_,_,hsrc,_⟩:=qk hTT hts;split at h
  ·rename_i _ _ _ _ _ hte;obtain⟨info0,d0,z0',hi0,hu0,_,_,_,_,_,_,_,_,hd0⟩:=qk hTT ht;cases hd0;obtain⟨info1,d1,z1',hi1,hu1,_,_,_,_,_,_,_,_,hd1⟩:=qk hTT hte;cases hd1;rw [qq] at h;have hx:=hT x;split at h
   ·rename_i s ex;rw [ex] at hx;have ev:=y9 hx;rw [uw] at h;have hrun:=Lib.run_convert_string_bytes (P:=P) w src dst e ⟨s.toArray⟩ hsrc hu0 hu1;rw [jy3,qb4] at hrun;have hge:=jp5 w s.length 0 e;have hC:(Lib.bytesCells w e ⟨s.toArray⟩).size=grownCap w s.length 0 e:=by
     unfold Lib.bytesCells;rw[qb4];simp;omega
    have hget:∀ j u,j<s.length->(Lib.bytesCells w e ⟨s.toArray⟩)[j]? = some u->∃ b,s[j]? = some b/\u = .int .u8 b.toNat:=λj u hj hu=>by
     unfold Lib.bytesCells at hu;rw [rx (by simpa using hj)] at hu;simp at hu;obtain⟨b,h1,h2⟩:=hu;exact⟨b,h1,h2.symm⟩
    have hkb:=yn4 (M:=M) (β:=β) (w:=w) (w1:=w.drew) (Step.drew _ w) rfl e 1 s.length (grownCap w s.length 0 e) .no (λj=>[.int .u8 (qw s j)]) (Lib.bytesCells w e ⟨s.toArray⟩) ((Lib.bytesCells w e ⟨s.toArray⟩).size,(Lib.bytesCells w e ⟨s.toArray⟩).size+1) (λo ho=>by omega) (λe=>by cases e) (by rw[hC,Nat.mul_one]) hge (λ_ _=>rfl) (λk q d u hk hd hu=>by
     cases q with
     |zero =>
      simp at hd;subst hd;obtain⟨b,hb,rfl⟩:=hget k u hk (by simpa using hu);have:qw s (k:Int)=b.toNat:=by unfold qw;simp[hb]
      rw[this];exact .int _ _
     |succ q=>simp at hd) (λj u hu=>by
     unfold Lib.bytesCells at hu;rw [Array.getElem?_append] at hu;split at hu
     ·simp at hu;obtain⟨b,_,rfl⟩:=hu;rfl
     ·have:=sw hu;simp at this;rw[this.2];rfl)
    refine⟨_,_,_,_,_,w.drew,h,?_,Step.drew _ w,rfl,rfl,hkb,λ_ _ β' hL=>.all _ _ hL rfl⟩;simp only[execOp,ho,ev,strV,p8,hrun,ot,o6]
   ·split at h
    ·rename_i hsd hnc;have hb:Nat.beq src dst=true:=hsd;simp only [va,hb] at hf;cases hf
    ·cases h
   ·cases h
  ·cases h
 ·cases h
theorem xn3[Dr](hTT:TTok P TT)(hf:va o.op=true)(h:mev TT ts ks o.op K)(hM:∀ b,M b->b<w.heap.size)(hT:∀ x,Den w M β (val ts x) (a.eval x)):ji4 P w M β ks a o K:=by
 cases ho:o.op with
 |alloc t =>
  rw [ho] at h;simp only [mev] at h;split at h
  ·cases h
  ·rename_i size bytes agg zero desc eqk ht;rw [x6,xe,o5] at h;obtain⟨info,d,z,hi,hu,hsz,_,hz,hag,hzl,hzs,hzd,hz1,_⟩:=qk hTT ht;refine⟨.cells z.cells t,locB w.heap.size,_,_,.pointer (some ⟨w.heap.size,0,none⟩),w,h,?_,Step.refl _ _,rfl,rfl,jk1 (Step.refl _ _) rfl t zero z.cells hzl.symm (λj s u a b=>hzd _ _ _ j s u a b) hz1,λ_ _ β' hL=>.ptr _ 0 (locB w.heap.size) hL⟩;simp[execOp,ho,Instr.alloc,qx5 hi hz,newVar,newRow]
 |box t x =>
  rw [ho] at h;simp only [mev] at h;split at h
  ·cases h
  ·rename_i size bytes agg zero desc eqk ht;rw [qq] at h;obtain⟨h,hcells⟩:=qa7 (w:=w) (M:=M) (β:=β) h;obtain⟨c1,c2,c3⟩:=hcells _ (hT x);split at h
   ·rw [x6,xe,o5] at h;refine⟨.cells (a.eval x).cells t,locB w.heap.size,_,_,.pointer (some ⟨w.heap.size,0,none⟩),w,h,?_,Step.refl _ _,rfl,rfl,jk1 (Step.refl _ _) rfl t (cellsOf (val ts x)) (a.eval x).cells c1 c2 (λj u hu=>c3 u (sw hu)),λ_ _ β' hL=>.ptr _ 0 (locB w.heap.size) hL⟩;simp[execOp,ho,Instr.box,newVar,newRow]
   ·cases h
 |buildSlice t l ps=>rw [ho] at h;exact zh2 hTT ho h hM hT
 |makeSlice t x y=>rw [ho] at h;exact zh7 hTT ho h hM hT
 |convert s d x=>rw [ho] at h hf;exact zk1 hTT ho hf h hM hT
 |_=>rw [ho] at hf;simp [va] at hf
end
def qf6(_:KB):Bool:=false
theorem jz0[Dr]{ks k1:List KB}{k:KB}{s0:SV}(hk:qf6 k=false)(h:w9 ks k (λs k=>(s,k)=(s0,k1))):∃ k,k1=ks++[k]/\qf6 k=false:=by
 rw [uw] at h;exact⟨_,((gp h).2).symm,hk⟩
theorem zz8[Dr]{z:List SV}{n:Nat}{c:List SV->Prop}(h:repK z n c):∃ l,c l:=by rw [qu4] at h;exact ⟨_,h⟩
theorem zv8[Dr]{ts:List SV}{size:Nat}:∀ {parts:List (Nat × Operand)} {cs:List SV} {c:List SV->Prop},fillS ts size cs parts c->∃ l,c l:=by
 intro parts;induction parts with
 |nil=>intro cs c h;exact⟨_,h⟩
 |cons p parts ih =>
  intro cs c h;obtain⟨i,x⟩:=p;simp only [fillS,qq] at h;unfold wb at h
  repeat'(first|exact h.elim|(rw [qn7] at h;exact ih h)|split at h)
theorem xe3[Dr]{ks:List KB}{l:List SV}{c:List DV->List Nat->Prop}(h:dvsK ks l c):∃ d f,c d f:=by
 obtain⟨⟨d,f⟩,_,hk⟩:=(Ex.dvs (ks:=ks) (l:=l) (α:=List DV × List Nat) (G:=λd f K=>K (d,f)) (λd f=>Ex.self (d,f))) (λp=>c p.1 p.2) h;exact⟨d,f,hk⟩
theorem yg3[Dr]{TT:Nat->Option TI}{o:Oper}{ts:List SV}{ks k1:List KB}{s0:SV}(hf:va o.op=true)(h:mev TT ts ks o.op (λs k=>(s,k)=(s0,k1))):∃ k,k1=ks++[k]/\qf6 k=false:=by
 cases ho:o.op <;> rw [ho] at h hf <;> simp only [va,fx] at hf
 ·simp only [mev] at h;split at h
  ·cases h
  ·rw [x6,xe] at h;exact⟨_,((gp h).2).symm,rfl⟩
 ·simp only [mev] at h;split at h
  ·cases h
  ·rw [qq] at h;obtain⟨h,_⟩:=qa7 (w:=default) (M:=λ_=>False) (β:=noE) h;split at h
   ·rw [x6,xe] at h;exact⟨_,((gp h).2).symm,rfl⟩
   ·cases h
 ·simp only [mev] at h
  repeat'(first|exact h.elim|split at h)
  obtain⟨_,h⟩:=zz8 h;obtain⟨_,h⟩:=zv8 h;rw [x6,xe] at h;exact⟨_,((gp h).2).symm,rfl⟩
 ·simp only [mev,qq] at h
  repeat'(first|exact h.elim|split at h)
  ·exact jz0 rfl h
  all_goals simp_all
 ·simp only [mev,qq] at h
  repeat'(first|exact h.elim|split at h)
  obtain⟨_,_,h⟩:=xe3 h;exact jz0 rfl h.2
theorem yd0{ts ts':List SV}{l:List Operand}(h:∀ x ∈ l,val ts x=val ts' x):vals ts l=vals ts' l:=by
 induction l with
 |nil=>rfl
 |cons x l ih=>simp[vals,h x sm,ih (λy hy=>h y (by simp[hy]))]
theorem zq4[Dr]{TT:Nat->Option TI}{ts ts':List SV}{fs:List (Nat × TypeId)}:∀ {parts:List (Nat × Operand)} {cs:List SV} {c:List SV->Prop},(∀ p ∈ parts,val ts p.2=val ts' p.2)->ww TT ts fs cs parts c=ww TT ts' fs cs parts c:=by
 intro parts;induction parts with
 |nil=>intro cs c h;rfl
 |cons p parts ih =>
  intro cs c h;obtain⟨i,x⟩:=p;have hx:val ts x=val ts' x:=h (i,x) sm;have ih':∀ cs c,ww TT ts fs cs parts c=ww TT ts' fs cs parts c:=λcs c=>ih (λq hq=>h q (by simp[hq]))
  simp only[ww,qq,hx,ih']
theorem zq3[Dr]{ts ts':List SV}{size:Nat}:∀ {parts:List (Nat × Operand)} {cs:List SV} {c:List SV->Prop},(∀ p ∈ parts,val ts p.2=val ts' p.2)->fillS ts size cs parts c=fillS ts' size cs parts c:=by
 intro parts;induction parts with
 |nil=>intro cs c h;rfl
 |cons p parts ih =>
  intro cs c h;obtain⟨i,x⟩:=p;have hx:val ts x=val ts' x:=h (i,x) sm;have ih':∀ cs c,fillS ts size cs parts c=fillS ts' size cs parts c:=λcs c=>ih (λq hq=>h q (by simp[hq]))
  simp only[fillS,qq,hx,ih']
theorem jj3[Dr]{ts ts':List SV}{o:Option Operand}{d:Int}{c:Int->Prop}(h:∀ y,o=some y->val ts y=val ts' y):yc ts o d c=yc ts' o d c:=by
 cases o with
 |none=>rfl
 |some y=>simp only[yc,qq,h y rfl]
theorem xb3[Dr]{P:Program}{TT:Nat->Option TI}{ts ts':List SV}{ks:List KB}{op:Op}{K:SV->Prop}(h:∀ x ∈ op.operands,val ts x=val ts' x):pev P TT ts ks op K=pev P TT ts' ks op K:=by
 cases op with
 |call c =>
  obtain⟨callee,args,argTypes⟩:=c;cases callee with
  |builtin b =>
   have ha:∀ x ∈ args.toList,val ts x=val ts' x:=λx hx=>h x (by simp[Op.operands,Call.operands];first|exact .inr (by simpa using hx)|simpa using hx)
   simp only[pev];generalize args.toList=l at ha;cases b <;> simp only[qq]
   all_goals (match l,ha with
    |[],_=>rfl
    |[x],ha=>simp only[ha x sm]
    |[x,y],ha=>simp only[ha x sm,ha y sm]
    |[x,y,z],ha=>simp only[ha x sm,ha y sm,ha z sm]
    |_ :: _ :: _ :: _ :: _,_=>rfl)
  |_=>rfl
 |build t parts =>
  have:∀ p ∈ parts.toList,val ts p.2=val ts' p.2:=λp hp=>h p.2 (by simp[Op.operands];exact⟨p.1,by simpa using hp⟩)
  simp only[pev,zq4 this]
 |makeFunc fn first caps =>
  have:vals ts caps.toList=vals ts' caps.toList:=yd0 λx hx=>h x (by simp[Op.operands];exact .inr (by simpa using hx))
  simp only[pev,qb2,this]
 |slice t x lo hi mx =>
  have hx:val ts x=val ts' x:=h x (by simp[Op.operands]);have hlo:∀ (d:Int) (c:Int->Prop),yc ts lo d c=yc ts' lo d c:=λd c=>jj3 λy hy=>h y (by simp[Op.operands,hy])
  have hhi:∀ (d:Int) (c:Int->Prop),yc ts hi d c=yc ts' hi d c:=λd c=>jj3 λy hy=>h y (by simp[Op.operands,hy])
  have hmx:∀ (d:Int) (c:Int->Prop),yc ts mx d c=yc ts' mx d c:=λd c=>jj3 λy hy=>h y (by simp[Op.operands,hy])
  simp only[pev,qq,hx,hlo,hhi,hmx]
 |_ =>
  simp [Op.operands] at h;simp only[pev,qq,h]
theorem xc1[Dr]{TT:Nat->Option TI}{ts ts':List SV}{ks:List KB}{op:Op}{K:SV->List KB->Prop}(hf:va op=true)(h:∀ x ∈ op.operands,val ts x=val ts' x):mev TT ts ks op K=mev TT ts' ks op K:=by
 cases op with
 |box t x =>
  simp [Op.operands] at h;simp only[mev,qq,h]
 |makeSlice t x y =>
  simp [Op.operands] at h;simp only[mev,qq,h]
 |convert s d x =>
  simp [Op.operands] at h;simp only[mev,qq,h]
 |buildSlice t l parts =>
  have:∀ p ∈ parts.toList,val ts p.2=val ts' p.2:=λp hp=>h p.2 (by simp[Op.operands];exact⟨p.1,by simpa using hp⟩)
  simp only[mev,zq3 this]
 |alloc t=>rfl
 |_=>simp [va] at hf
theorem xf0[Dr]{P:Program}{TT:Nat->Option TI}{ts ts':List SV}{ks:List KB}{g:Operand}{args:Array Operand}{tys:Array TypeId}{K:Bool->SV->List KB->Prop}(h:∀ x ∈ (Op.call ⟨.value g,args,tys⟩).operands,val ts x=val ts' x):cev P TT ts ks g args.toList tys.toList K=cev P TT ts' ks g args.toList tys.toList K:=by
 have hg:val ts g=val ts' g:=h g (by simp[Op.operands,Call.operands]);have ha:vals ts args.toList=vals ts' args.toList:=yd0 λx hx=>h x (by simp[Op.operands,Call.operands];exact .inr (by simpa using hx))
 simp only[cev,qq,qb2,hg,ha]
end
section
def mask(l:List Nat)(ts:List SV):List SV:=(List.range ts.length).map λt=>if memN t l=true then getT ts t else .any
theorem jo8[Dr](l:List Nat)(ts:List SV)(t:Nat):getT (mask l ts) t=if memN t l=true then getT ts t else .any:=by
 rw[vb,mask,mw];by_cases h:t<ts.length
 ·rw[c8 h];rfl
 ·rw[g8 (by simp;omega)];split
  ·rw[vb,g8 om];rfl
  ·rfl
theorem qz4{t:Nat}{l:List Operand}(h : .tmp t ∈ l):t ∈ xg l:=by
 induction l with
 |nil=>cases h
 |cons a l ih =>
  rcases pz.1 h with e|h'
  ·subst e;simp[xg]
  ·cases a <;> simp[xg,ih h']
theorem xl0[Dr]{all:List Oper}{o:Oper}{t:Nat}(h : .tmp t ∈ o.op.operands):memN t (kq all o)=true:=by
 refine jo7 ?_;have:t ∈ xg o.op.operands.toList:=qz4 (by simpa using h);unfold kq;split
 ·exact this
 ·split
  ·exact pz.2 (.inr this)
  ·exact this
theorem jc5[Dr]{all:List Oper}{o:Oper}{ts:List SV}:∀ x ∈ o.op.operands,val ts x=val (mask (kq all o) ts) x:=λx hx=>by
 cases x with
 |tmp t=>simp only[val,jo8,xl0 (all:=all) hx,if_true]
 |_=>rfl
theorem mask_guard[Dr]{all:List Oper}{o:Oper}{ts:List SV}:yu all (mask (kq all o) ts) o=yu all ts o:=by
 unfold yu;cases hg:o.guard with
 |none=>rfl
 |some p =>
  obtain⟨j,want⟩:=p;simp only;cases hd:qh4 all j with
  |none=>rfl
  |some t =>
   have:memN t (kq all o)=true:=jo7 (by simp[kq,hg,hd]);simp only[jo8,this,if_true]
def RefV(s s':SV):Prop:=s'=s\/∃ b,s = .d (.bool b)/\s' = .d (if b then .tt else .ff)
theorem RefV.trans{a b c:SV}(h:RefV a b)(k:RefV b c):RefV a c:=by
 rcases h with rfl|⟨x,rfl,rfl⟩
 ·exact k
 ·rcases k with rfl|⟨y,e,rfl⟩
  ·exact .inr ⟨x,rfl,rfl⟩
  ·cases x <;> simp at e
theorem RefV.den{s s':SV}(h:RefV s s'){w:World}{M:Nat->Prop}{β:Env}{v:Value}(hd:Den w M β s v):Den w M β s' v:=by
 rcases h with rfl|⟨b,rfl,rfl⟩
 ·exact hd
 ·cases hd with|d hr=>cases hr;cases b <;> first|exact .d .tt|exact .d .ff
def Ref(l l':List SV):Prop:=l.length=l'.length/\∀ (t:Nat) (s':SV),l'[t]? = some s'->∃ s,l[t]? = some s/\RefV s s'
theorem Ref.refl(l:List SV):Ref l l:=⟨rfl,λ_ s h=>⟨s,h,.inl rfl⟩⟩
theorem Ref.trans[Dr]{a b c:List SV}(h:Ref a b)(k:Ref b c):Ref a c:=⟨h.1.trans k.1,λt s hs=>by
 obtain⟨s1,e1,r1⟩:=k.2 t s hs;obtain⟨s0,e0,r0⟩:=h.2 t s1 e1;exact⟨s0,e0,r0.trans r1⟩⟩
theorem ya6[Dr](d:Option Tmp)(s:SV)(l:List SV):(putT d s l).length=l.length:=by
 cases d <;> simp[putT,zw]
theorem qs9[Dr](d:Option Tmp)(s:SV)(l:List SV)(t:Nat):(putT d s l)[t]? = if d=some t/\t<l.length then some s else l[t]?:=by
 cases d with
 |none=>simp[putT]
 |some u =>
  simp only[putT,zw,m5];by_cases e:u=t
  ·subst e;by_cases h:u<l.length
   ·simp[h]
   ·simp[h]
  ·rw[if_neg e,if_neg (λh=>e (oq h.1))]
theorem Ref.put[Dr]{l l':List SV}(h:Ref l l')(d:Option Tmp)(s:SV):Ref (putT d s l) (putT d s l'):=by
 refine⟨by simp[ya6,h.1],λt s' hs=>?_⟩;rw [qs9] at hs ⊢;rw[h.1];split
 ·rename_i hc;rw [if_pos hc] at hs;exact ⟨s,rfl,.inl (oq hs).symm⟩
 ·rename_i hc;rw [if_neg hc] at hs;exact h.2 t s' hs
theorem Ref.refine_[Dr]{l:List SV}{t:Nat}{b:Bool}(h:getT l t = .d (.bool b)):Ref l (setT l t (.d (if b then .tt else .ff))):=by
 refine⟨by simp[zw],λu s' hs=>?_⟩;rw [zw,m5] at hs;split at hs
 ·rename_i e;subst e;split at hs
  ·rename_i hl;refine⟨.d (.bool b),?_,.inr ⟨b,rfl,(oq hs).symm⟩⟩;rw [vb,pp hl] at h;rw[pp hl];exact congrArg some h
  ·cases hs
 ·exact⟨s',hs,.inl rfl⟩
section
variable{P:Program}{TT:Nat->Option TI}{all:List Oper}
theorem Tr.cons_inv[Dr]{o:Oper}{os' os:List Oper}{ts ts':List SV}{ks ks':List KB}{hs:List Bool}(h:Tr P TT all os' ts ks ts' ks' hs)(e:os'=o :: os) :
 ∃ tr hd hs' s k1,hs=hd :: hs'/\Ref ts tr/\Stp P TT all tr ks o hd s k1/\Tr P TT all os (putT o.dst s tr) k1 ts' ks' hs':=by
 induction h with
 |nil=>cases e
 |step hst htr _=>cases e;exact⟨_,_,_,_,_,rfl,Ref.refl _,hst,htr⟩
 |refine_ t b hb _ ih =>
  obtain⟨tr,hd,hs',s,k1,e1,hr,hst,htr⟩:=ih e;exact⟨tr,hd,hs',s,k1,e1,(Ref.refine_ hb).trans hr,hst,htr⟩
theorem Tr.places[Dr]:∀ {os:List Oper} {ts ts':List SV} {ks ks':List KB} {hs:List Bool},Tr P TT all os ts ks ts' ks' hs ->
 ∃ (S:Nat->SV) (T:Nat->List SV) (κ:Nat->List KB),T 0=ts/\κ 0=ks/\T os.length=ts'/\κ os.length=ks'/\hs.length=os.length /\
  ∀ (p:Nat) (o:Oper) (h:Bool),os[p]? = some o->hs[p]? = some h->∃ tr,Ref (T p) tr/\Stp P TT all tr (κ p) o h (S p) (κ (p+1))/\T (p+1)=putT o.dst (S p) tr:=by
 intro os;induction os with
 |nil =>
  intro ts ts' ks ks' hs h;cases h;exact⟨λ_=>.any,λ_=>ts,λ_=>ks,rfl,rfl,rfl,rfl,rfl,sm⟩
 |cons o os ih =>
  intro ts ts' ks ks' hs h;obtain⟨tr,hd,hs',s,k1,rfl,hr,hst,htr⟩:=h.cons_inv rfl;obtain⟨S,T,κ,e1,e2,e3,e4,e5,hp⟩:=ih htr;refine⟨λp=>match p with|0=>s|p+1=>S p,λp=>match p with|0=>ts|p+1=>T p,λp=>match p with|0=>ks|p+1=>κ p,rfl,rfl,e3,e4,by simp[e5],?_⟩;intro p o' h' ho hh;cases p with
  |zero =>
   simp only [bx,gu] at ho hh;subst ho;subst hh;refine⟨tr,hr,?_,e1⟩;show Stp P TT all tr ks o hd s (κ 0);rw[e2];exact hst
  |succ p=>exact hp p o' h' (by simpa using ho) (by simpa using hh)
end
def sg(D:Nat->Option Tmp)(S:Nat->SV)(E:Nat->Bool)(ts:List SV)(m:Nat):Nat->List SV
 |0=>ts
 |k+1=>if E (m+k)=true then putT (D (m+k)) (S (m+k)) (sg D S E ts m k) else sg D S E ts m k
section
variable{D:Nat->Option Tmp}{S:Nat->SV}{E:Nat->Bool}{ts:List SV}{m:Nat}
theorem ql5[Dr](k:Nat):(sg D S E ts m k).length=ts.length:=by
 induction k with
 |zero=>rfl
 |succ k ih=>unfold sg;split <;> simp[ya6,ih]
theorem qg1[Dr](k t:Nat)(h:∀ i,m<=i->i<m+k->E i=true->D i≠some t):(sg D S E ts m k)[t]? = ts[t]?:=by
 induction k with
 |zero=>rfl
 |succ k ih =>
  have ih:=ih (λi a b=>h i a om);unfold sg;split
  ·rename_i he;rw[qs9,if_neg (λhc=>h (m+k) om om he hc.1),ih]
  ·exact ih
theorem qw7[Dr](k t i:Nat)(h1:m<=i)(h2:i<m+k)(he:E i=true)(hd:D i=some t)(ht:t<ts.length)(hu:∀ i',m<=i'->i'<m+k->D i'=some t->i'=i):(sg D S E ts m k)[t]? = some (S i):=by
 induction k with
 |zero=>omega
 |succ k ih =>
  unfold sg;by_cases hk:i=m+k
  ·subst hk;rw[if_pos he,qs9,if_pos ⟨hd,by rw[ql5];exact ht⟩]
  ·have ih:=ih om (λi' a b=>hu i' a om);split
   ·rw[qs9,if_neg (λhc=>hk (hu (m+k) om om hc.1).symm),ih]
   ·exact ih
theorem xx5[Dr]{E':Nat->Bool}(k j:Nat)(h1:m<=j)(h2:j<m+k)(he:E j=false)(hE:∀ i,E' i=(E i || decide (i=j)))(hu:∀ i i' t,m<=i->i<m+k->m<=i'->i'<m+k->D i=some t->D i'=some t->i=i') :
 sg D S E' ts m k=putT (D j) (S j) (sg D S E ts m k):=by
 refine ay λt=>?_
 rw[qs9,ql5];split
 ·rename_i hc;exact qw7 k t j h1 h2 (by rw[hE];simp) hc.1 hc.2 (λi' a b c=>hu _ _ t a b h1 h2 c hc.1)
 ·rename_i hc;by_cases hw:∃ i,m<=i/\i<m+k/\E i=true/\D i=some t
  ·obtain⟨i,a,b,c,d⟩:=hw;by_cases ht:t<ts.length
   ·rw[qw7 k t i a b (by rw[hE,c];rfl) d ht (λi' a' b' c'=>hu _ _ t a' b' a b c' d),qw7 k t i a b c d ht (λi' a' b' c'=>hu _ _ t a' b' a b c' d)]
   ·rw[g8 (by rw[ql5];omega),g8 (by rw[ql5];omega)]
  ·have hw:∀ i,m<=i->i<m+k->E i=true->D i≠some t:=λi a b c d=>hw ⟨i,a,b,c,d⟩
   rw[qg1 k t hw];by_cases hj:D j=some t
   ·have ht:¬ t<ts.length:=λh=>hc ⟨hj,h⟩
    rw[g8 (by rw[ql5];omega),g8 om]
   ·refine qg1 k t (λi a b c=>?_);rw [hE] at c;by_cases hij:i=j
    ·rw[hij];exact hj
    ·exact hw i a b (by simpa[hij] using c)
end
inductive Wt (all:List Oper):Nat->Nat->Prop where
 |edge {j i:Nat} {o:Oper} {e:Edge}:all[j]? = some o->e ∈ o.after->Region.binds .any e=true->e.on=i->Wt all j i
 |trans {j k i:Nat}:Wt all j k->Wt all k i->Wt all j i
structure DrawOk(all:List Oper)(hs:List Bool):Prop where
 len:hs.length=all.length
 on:∀ (j:Nat) (o:Oper) (e:Edge),all[j]? = some o->e ∈ o.after->Region.binds .any e=true->e.on<j
 past:∀ (h j:Nat),hs[h]? = some true->h<j->j<all.length->Wt all j h
 first:∀ (h i:Nat),hs[h]? = some true->i<h->Wt all h i
 pair:∀ (i j:Nat) (x y:Oper),i<j->all[i]? = some x->all[j]? = some y->hs[j]? = some false->(∀ h,i<=h->h<j->hs[h]? = some false) ->
  qf1 x.dst y.dst=false/\(Wt all j i\/apart all x y=true)
theorem yh5{m mask i:Nat}(h:jg2 m mask=true)(hi:i<m):mask.testBit i=true:=by
 unfold jg2 at h;have h:=cy h;have h1:(2 ^ m - 1).testBit i=true:=by simp[hi]
 have h2:(mask &&& (2 ^ m - 1)).testBit i=true:=by
  show(Nat.land mask (2 ^ m - 1)).testBit i=true;rw[h];exact h1
 rw [Nat.testBit_and] at h2;simp only [p7] at h2;exact h2.1
theorem jm9{α:Sort 1}(n:Nat)(k:Nat->α):jg1 n k=k n:=by cases n <;> rfl
def jw3(all:List Oper)(acc:List Nat)(i:Nat):Prop:=acc.length=i/\∀ (j b:Nat),j<i->(getN acc (i - 1 - j)).testBit b=true->Wt all j b
theorem xp3{all:List Oper}{acc:List Nat}{i:Nat}{o:Oper}(hb:jw3 all acc i)(ho:all[i]? = some o):∀ (es:List Edge),(∀ e ∈ es,e ∈ o.after)->onLt i es=true->∀ b,(qd0 acc i es).testBit b=true->Wt all i b:=by
 intro es;induction es with
 |nil=>intro _ _ b h;simp [qd0] at h
 |cons e es ih =>
  intro hes hon b h;unfold qd0 at h;unfold onLt at hon;cases hbd:Region.binds .any e with
  |false=>rw [hbd] at h hon;exact ih (λx hx=>hes x (by simp [hx])) hon b h
  |true =>
   rw [hbd] at h hon;simp only at h hon;split at hon
   ·rename_i hlt;have hlt:e.on<i:=au hlt;have hE:Wt all i e.on:=.edge ho (hes e sm) hbd rfl;change ((Nat.shiftLeft 1 e.on ||| getN acc (i - 1 - e.on)) ||| qd0 acc i es).testBit b=true at h;rw [Nat.testBit_or,Nat.testBit_or] at h;simp only [cn] at h;rcases h with(h|h)|h
    ·have:(1 <<< e.on).testBit b=true:=h;rw [Nat.testBit_shiftLeft] at this;simp only [p7,lr] at this;have h2:b - e.on=0:=by
      have:=this.2;rw [Nat.testBit_one_eq_true_iff_self_eq_zero] at this;exact this
     have:b=e.on:=om
     rw[this];exact hE
    ·exact hE.trans (hb.2 e.on b hlt h)
    ·exact ih (λx hx=>hes x (by simp[hx])) hon b h
   ·cases hon
theorem xs1{i:Nat}:∀ {es:List Edge},onLt i es=true->∀ e ∈ es,Region.binds .any e=true->e.on<i:=by
 intro es;induction es with
 |nil=>intro _ e he;cases he
 |cons x es ih =>
  intro hon e he hb;unfold onLt at hon;rcases pz.1 he with rfl|he
  ·rw [hb] at hon;simp only at hon;split at hon
   ·rename_i hlt;exact au hlt
   ·cases hon
  ·split at hon
   ·split at hon
    ·exact ih hon e he hb
    ·cases hon
   ·exact ih hon e he hb
theorem zt9{all:List Oper}{mask:Nat}{y:Oper}:∀ {seg:List (Nat × Oper)},je2 all mask y seg=true->∀ p ∈ seg,qf1 p.2.dst y.dst=false/\(mask.testBit p.1=true\/apart all p.2 y=true):=by
 intro seg;induction seg with
 |nil=>intro _ p hp;cases hp
 |cons q seg ih =>
  intro h p hp;unfold je2 at h;split at h
  ·rename_i hq;rcases pz.1 hp with rfl|hp
   ·unfold zd1 at hq;split at hq
    ·cases hq
    ·rename_i hd;split at hq
     ·rename_i hb;exact⟨hd,.inl hb⟩
     ·exact⟨hd,.inr hq⟩
   ·exact ih h p hp
  ·cases h
theorem xe4[Dr]{all:List Oper}{hsAll:List Bool}:∀ (os:List Oper) (hs:List Bool) (acc:List Nat) (i m:Nat) (seg:List (Nat × Oper)),qg5 all os hs acc i m seg=true->all.drop i=os->hsAll.drop i=hs->i<=all.length->i<=hsAll.length->jw3 all acc i->m<=i ->
 (∀ h,m<=h->h<i->hsAll[h]? = some false)->(m=0\/hsAll[m - 1]? = some true)->(∀ (j:Nat) (o:Oper),m<=j->j<i->all[j]? = some o->(j,o) ∈ seg) ->
 hsAll.length=all.length/\(∀ (j:Nat),i<=j->∀ (o:Oper) (e:Edge),all[j]? = some o->e ∈ o.after->Region.binds .any e=true->e.on<j) /\
 (∀ (h j:Nat),hsAll[h]? = some true->h<j->i<=j->j<all.length->Wt all j h)/\(∀ (h k:Nat),i<=h->hsAll[h]? = some true->k<h->Wt all h k) /\
 (∀ (k j:Nat) (x y:Oper),k<j->i<=j->all[k]? = some x->all[j]? = some y->hsAll[j]? = some false->(∀ h,k<=h->h<j->hsAll[h]? = some false)->qf1 x.dst y.dst=false/\(Wt all j k\/apart all x y=true)):=by
 intro os;induction os with
 |nil =>
  intro hs acc i m seg h hos hhs hi hi' hb hm hseg0 hm0 hseg;cases hs with
  |cons=>simp [qg5] at h
  |nil =>
   have e1:all.length=i:=by have:=List.drop_eq_nil_iff.1 hos;omega
   have e2:hsAll.length=i:=by have:=List.drop_eq_nil_iff.1 hhs;omega
   refine⟨om,λj hj o e ho=>?_,λh j _ _ hj hl=>by omega,λh k hh hk=>?_,λk j x y _ hj _ hy=>?_⟩
   ·have:=(p6.1 ho).1;omega
   ·have:=(p6.1 hk).1;omega
   ·have:=(p6.1 hy).1;omega
 |cons o os ih =>
  intro hs acc i m seg h hos hhs hi hi' hb hm hseg0 hm0 hseg;cases hs with
  |nil=>simp [qg5] at h
  |cons hd hs =>
   have hil:i<all.length:=by
    rcases ox i all.length with h|h
    ·exact h
    ·rw [d5 h] at hos;cases hos
   have hil':i<hsAll.length:=by
    rcases ox i hsAll.length with h|h
    ·exact h
    ·rw [d5 h] at hhs;cases hhs
   rw [lu hil] at hos;rw [lu hil'] at hhs;obtain⟨ho,hos⟩:=lz hos;obtain⟨hh,hhs⟩:=lz hhs;have ho:all[i]? = some o:=by rw[pp hil,ho]
   have hh:hsAll[i]? = some hd:=by rw[pp hil',hh]
   unfold qg5 at h;rw [jm9] at h;split at h
   ·rename_i hon hcov;have hbits:=xp3 hb ho o.after.toList (λe he=>by simpa using he) hon;have hb':jw3 all (qd0 acc i o.after.toList :: acc) (i+1):=by
     refine⟨by simp[hb.1],λj b hj ht=>?_⟩;by_cases hji:j=i
     ·subst hji;simp [getN] at ht;exact hbits b ht
     ·have:i+1 - 1 - j=(i - 1 - j)+1:=om
      rw [this] at ht;exact hb.2 j b om ht
    have hold:∀ h,hsAll[h]? = some true->h<i->h<m:=λh hh hi=>by
     rcases ox h m with h'|h'
     ·exact h'
     ·rw [hseg0 h h' hi] at hh;cases hh
    have base:∀ j,j<m->Wt all i j:=λj hj=>hbits j (yh5 hcov hj)
    have key:∀ (hd':Bool) (m':Nat) (seg':List (Nat × Oper)),qg5 all os hs (qd0 acc i o.after.toList :: acc) (i+1) m' seg'=true->m'<=i+1->(∀ h,m'<=h->h<i+1->hsAll[h]? = some false)->(m'=0\/hsAll[m' - 1]? = some true) ->
     (∀ (j:Nat) (o:Oper),m'<=j->j<i+1->all[j]? = some o->(j,o) ∈ seg')->(hd=true->∀ k,k<i->Wt all i k) ->
     (hd=false->∀ (k:Nat) (x:Oper),m<=k->k<i->all[k]? = some x->qf1 x.dst o.dst=false/\(Wt all i k\/apart all x o=true)) ->
     hsAll.length=all.length/\(∀ (j:Nat),i<=j->∀ (o:Oper) (e:Edge),all[j]? = some o->e ∈ o.after->Region.binds .any e=true->e.on<j) /\
     (∀ (h j:Nat),hsAll[h]? = some true->h<j->i<=j->j<all.length->Wt all j h)/\(∀ (h k:Nat),i<=h->hsAll[h]? = some true->k<h->Wt all h k) /\
     (∀ (k j:Nat) (x y:Oper),k<j->i<=j->all[k]? = some x->all[j]? = some y->hsAll[j]? = some false->(∀ h,k<=h->h<j->hsAll[h]? = some false)->qf1 x.dst y.dst=false/\(Wt all j k\/apart all x y=true)):=by
     intro _ m' seg' hgo hm' hs0 hm0' hsg hfirst hpair;obtain⟨r1,r2,r3,r4,r5⟩:=ih hs _ (i+1) m' seg' hgo hos hhs hil hil' hb' hm' hs0 hm0' hsg;refine⟨r1,λj hj o' e ho' he hbd=>?_,λh0 j hh' hlt hij hjl=>?_,λh0 k hih hh' hk=>?_,λk j x y hkj hij hx hy hj hno=>?_⟩
     ·by_cases e1:j=i
      ·subst e1;rw [ho] at ho';obtain rfl:=oq ho';exact xs1 hon e (by simpa using he) hbd
      ·exact r2 j om o' e ho' he hbd
     ·by_cases e1:j=i
      ·subst e1;exact base h0 (hold h0 hh' hlt)
      ·exact r3 h0 j hh' hlt om hjl
     ·by_cases e1:h0=i
      ·subst e1;rw [hh] at hh';exact hfirst (oq hh') k hk
      ·exact r4 h0 k om hh' hk
     ·by_cases e1:j=i
      ·subst e1;rw [ho] at hy;obtain rfl:=oq hy;rw [hh] at hj;refine hpair (oq hj) k x ?_ hkj hx;rcases ox k m with h'|h'
       ·exfalso;rcases hm0 with e|e
        ·omega
        ·rw [hno (m - 1) om om] at e;cases e
       ·exact h'
      ·exact r5 k j x y hkj om hx hy hj hno
    cases hd with
    |true =>
     simp only at h;split at h
     ·rename_i hci;rw [jm9] at h;exact key true (i+1) [] h (pu _) (λh a b=>by omega) (.inr hh) (λj o a b=>by omega) (λ_ k hk=>hbits k (yh5 hci hk)) (λe=>(by cases e))
     ·cases h
    |false =>
     simp only at h;split at h
     ·rename_i hpo;rw [jm9] at h;refine key false m _ h om (λh a b=>?_) hm0 (λj o' a b ho'=>?_) (λe=>(by cases e)) (λ_ k x hk hki hx=>?_)
      ·by_cases e1:h=i
       ·subst e1;exact hh
       ·exact hseg0 h a om
      ·by_cases e1:j=i
       ·subst e1;rw [ho] at ho';obtain rfl:=oq ho';exact pz.2 (.inl rfl)
       ·exact pz.2 (.inr (hseg j o' a om ho'))
      ·obtain⟨h1,h2⟩:=zt9 hpo (k,x) (hseg k x hk hki hx);exact⟨h1,h2.imp (hbits k) id⟩
     ·cases h
   ·cases h
theorem jn1[Dr]{all:List Oper}{hs:List Bool}(h:vg all hs=true):DrawOk all hs:=by
 obtain⟨r1,r2,r3,r4,r5⟩:=xe4 (all:=all) (hsAll:=hs) all hs [] 0 0 [] h rfl rfl (pv _) (pv _) ⟨rfl,λj b hj=>by omega⟩ (pu _) (λh a b=>by omega) (.inl rfl) (λj o a b=>by omega);exact⟨r1,λj o e=>r2 j (pv _) o e,λh j a b c=>r3 h j a b (pv _) c,λh i a b=>r4 h i (pv _) a b,λi j x y a b c d e=>r5 i j x y a (pv _) b c d e⟩
theorem Sat.ref[Dr]{B:Bs}{w:World}{β:Env}{fp:Nat->Nat->Prop}{ts ts':List SV}{ks:List KB}{a:Act}(h:Sat B w β fp ts ks a)(hr:Ref ts ts'):Sat B w β fp ts' ks a :=
 ⟨h.went,h.df,h.len.trans hr.1,λt s v hs hv=>by
  obtain⟨s0,e,r⟩:=hr.2 t s hs;exact r.den (h.tm t s0 v e hv)⟩
theorem Sat.moreTo[Dr]{B:Bs}{w:World}{β:Env}{fp:Nat->Nat->Prop}{ts:List SV}{ks:List KB}{a:Act}(h:Sat B w β fp ts ks a)(l:List KB)(hl:∀ k ∈ l,qf6 k=false):Sat B w β fp ts (ks++l) a:=by
 have hm:=h.went.mem;refine ⟨⟨⟨⟨hm.xa,hm.xb,hm.dis,hm.kw,hm.kn,λi L k hk hne hL=>?_⟩,λi hi=>hm.kl i (by simp at hi;omega),hm.vo⟩,h.went.st,h.went.ext,h.went.own⟩,h.df,h.len,h.tm⟩
 ·by_cases hi:i<ks.length
  ·rw [mn hi] at hk;exact hm.kb i L k hk hne hL
  ·rw [hm.kl i om] at hL;cases hL
theorem Mem.fill[Dr]{X:Nat->Prop}{w w1:World}{β:Env}{fp:Nat->Nat->Prop}{ks:List KB}(h:Mem X w β fp ks)(h1:Step (λ_=>False) w w1)(hsz:w1.heap.size=w.heap.size){i:Nat}{k:KB}(hn:β i=none)(hki:ks[i]? = some k)(o:Obj)(L:Loc)(hL:L.b=w.heap.size)
 (hk:∀ (M':Nat->Prop) (β':Env),(∀ b,b<w.heap.size->M' b->Mx X fp b)->Ext β β'->KBat (w1.alloc o) M' β' L (· = w.heap.size) k):Went X w β fp (w1.alloc o) (upd β i (some L)) (updP fp i (· = w.heap.size)) ks:=by
 have hil:i<ks.length:=(p6.1 hki).1;have hfi:∀ b,¬ fp i b:=λb hb=>by obtain ⟨L',hL'⟩:=h.kn i b hb;rw [hn] at hL';cases hL'
 have hst:Step (λb=>∃ i,fp i b) w (w1.alloc o):=(h1.mono (λ_ _ e=>e.elim)).trans (Step.alloc _ w1 o);refine h.go hst (qf7 L hn) (λj b hb=>?_) (λp q b hp hq=>?_) (λj b hb=>?_) (λj hj=>?_) (λj b hb=>?_) (λj L' k' hk' hne hL'=>?_)
 ·by_cases e:j=i
  ·subst e;rw [y4] at hb;exact .inr om
  ·rw [ju _ _ e] at hb;exact .inl ⟨j,hb⟩
 ·by_cases e1:p=i <;> by_cases e2:q=i
  ·omega
  ·subst e1;rw [y4] at hp;rw [ju _ _ e2] at hq;have:=h.kw q b hq;omega
  ·subst e2;rw [y4] at hq;rw [ju _ _ e1] at hp;have:=h.kw p b hp;omega
  ·rw [ju _ _ e1] at hp;rw [ju _ _ e2] at hq;exact h.dis p q b hp hq
 ·by_cases e:j=i
  ·subst e;rw [y4] at hb;subst hb;simp [hsz]
  ·rw [ju _ _ e] at hb;have:=h.kw j b hb;simp [hsz];omega
 ·rw[x4 _ _ (show j≠i by omega)];exact h.kl j hj
 ·by_cases e:j=i
  ·subst e;exact⟨L,yr _ _ _⟩
  ·rw [ju _ _ e] at hb;rw [x4 _ _ e];exact h.kn j b hb
 ·by_cases e:j=i
  ·subst e;rw [yr] at hL';cases hL';rw [hki] at hk';cases hk';rw[y4];exact .inr (hk _ _ (λb hb hm=>hm.imp id (λ⟨q,hq⟩=>by
    by_cases e:q=j
    ·subst e;rw [y4] at hq;omega
    ·rw [ju _ _ e] at hq;exact ⟨q,hq⟩)) (qf7 L hn))
  ·rw [x4 _ _ e] at hL';exact .inl ⟨hk',hL',ju _ _ e,λb hb=>(Below.heap_alloc w1 o b (by rw[hsz];exact h.kw j b hb)).trans (h1.block b (h.kw j b hb) (λe=>e))⟩
theorem xe9[Dr]{P:Program}{TT:Nat->Option TI}{ts:List SV}{ks k1:List KB}{g:Operand}{args:List Operand}{tys:List TypeId}{s:SV}(h:cev P TT ts ks g args tys (λh' x k=>(h',x,k)=(false,s,k1))):k1=ks:=by
 unfold cev at h;rw [qq] at h;split at h
 ·rw [qb2,qf9] at h;cases h with
  |data r h1 h2 h3 h4=>exact((gp (gp h4).2).2).symm
  |view r as' fr h1 h2 h3 h4 h5=>exact((gp (gp h5).2).2).symm
  |frz r as' fr h1 h2 h3 h4 h5=>cases (gp h5).1
  |mem r ks' h1 h2=>cases (gp h2).1
 ·cases h
theorem yj2[Dr]{P:Program}{TT:Nat->Option TI}{B:Bs}{w:World}{β:Env}{fp:Nat->Nat->Prop}{ts:List SV}{ks:List KB}{a:Act}{rd:Option Nat}{n:Nat}{Q:Exit->Act->World->Prop}(hTT:TTok P TT){all:List Oper}{o:Oper}{i:Nat}{h:Bool}{s:SV}{k1:List KB}(hst:Stp P TT all ts ks o h s k1)(hi:all.toArray[i]? = some o){next:Act->World->Prop}(hS:Sat B w β fp ts ks a)
 (hn:∀ v w' β' fp',Sat B w' β' fp' (putT o.dst s ts) k1 (a.put o.dst v)->next (a.put o.dst v) w'):wpOpIn (qm rd) n P all.toArray Q i next a w:=by
 unfold wpOpIn;cases hst with
 |ev hg hev =>
  have hw:=qi3 (all:=all) hS.slot hg;simp only[hi,hw,if_true];exact xe0 hTT hev hS.went.mem hS.val (λv w' β' fp' hW hd=>hn v w' β' fp' ((hS.on hW).put _ hd))
 |skip hg =>
  have hw:=qi3 (all:=all) hS.slot hg;simp only[hi,hw,fx,if_false];exact⟨λ_ _=>trivial,hn _ w β fp (hS.put _ (.v _))⟩
section
variable{P:Program}{TT:Nat->Option TI}{B:Bs}{rd:Option Nat}{n:Nat}{Q:Exit->Act->World->Prop}
 {all:List Oper} {hs:List Bool} {S:Nat->SV} {T:Nat->List SV} {κ:Nat->List KB}
def Way[Dr](P:Program)(TT:Nat->Option TI)(all:List Oper)(hs:List Bool)(S:Nat->SV)(T:Nat->List SV)(κ:Nat->List KB):Prop :=
 ∀ (p:Nat) (o:Oper) (h:Bool),all[p]? = some o->hs[p]? = some h->∃ tr,Ref (T p) tr/\Stp P TT all tr (κ p) o h (S p) (κ (p+1))/\T (p+1)=putT o.dst (S p) tr
def dst(all:List Oper)(i:Nat):Option Tmp:=(all[i]?).bind (·.dst)
structure Inv[Dr](B:Bs)(all:List Oper)(hs:List Bool)(S:Nat->SV)(T:Nat->List SV)(κ:Nat->List KB)(m h:Nat)(listed:Array Bool)(a:Act)(w:World):Prop where
 sz:listed.size=all.length
 low:∀ i,i<m->listed.getD i false=true
 mh:m<=h
 hN:h<=all.length
 soft:∀ i,m<=i->i<h->hs[i]? = some false
 stop:h=all.length\/hs[h]? = some true
 high:∀ i,h<=i->listed.getD i false=false
 cl:∀ (j:Nat) (o:Oper) (e:Edge),all[j]? = some o->listed.getD j false=true->e ∈ o.after->Region.binds .any e=true->listed.getD e.on false=true
 st:∃ β fp,Sat B w β fp (sg (dst all) S (λi=>listed.getD i false) (T m) m (h - m)) (κ h) a/\∀ j,m<=j->j<h->listed.getD j false=false->∀ p,(κ j).length<=p->p<(κ (j+1)).length->β p=none
theorem Stp.adds[Dr]{ts:List SV}{ks k1:List KB}{o:Oper}{s:SV}(h:Stp P TT all ts ks o false s k1):∃ l,k1=ks++l/\l.length<=1/\∀ k ∈ l,qf6 k=false:=by
 generalize hnot:(λk:KB=>qf6 k=false)=NA;show ∃ l,k1=ks++l/\l.length<=1/\∀ k ∈ l,(λk:KB=>qf6 k=false) k;rw[hnot];generalize hb:false=b at h;cases h with
 |skip=>exact⟨[],sm⟩
 |ev hg hev =>
  cases hev with
  |pure=>exact⟨[],sm⟩
  |app=>exact⟨[],sm⟩
  |mem _ _ hc hm hev =>
   have hf:va o.op=true:=by
    unfold qg4 at hb;split at hb
    ·assumption
    ·cases hb
   obtain⟨k,rfl,hk⟩:=yg3 hf hev;exact ⟨[k],rfl,sm,λk' hk'=>by rw [<-hnot];simp at hk';subst hk';exact hk⟩
  |call g args tys _ _ _ ho hev =>
   subst hb;exact⟨[],by rw[xe9 hev];simp,sm,sm⟩
theorem qi7[Dr](hw:Way P TT all hs S T κ)(hl:hs.length=all.length){m h:Nat}(hN:h<=all.length)(soft:∀ i,m<=i->i<h->hs[i]? = some false):∀ k j,m<=j->j+k<=h->∃ l,κ (j+k)=κ j++l/\∀ k ∈ l,qf6 k=false:=by
 intro k;induction k with
 |zero=>intro j _ _;exact⟨[],sm,sm⟩
 |succ k ih =>
  intro j hj hk;obtain⟨l,hl',hna⟩:=ih j hj om;have hlt:j+k<all.length:=om
  obtain⟨tr,_,hst,_⟩:=hw (j+k) _ false (pp hlt) (soft (j+k) om om);obtain⟨l2,e2,_,hnb⟩:=hst.adds;exact⟨l++l2,by rw[<-Nat.add_assoc,e2,hl'];simp,λk hk=>(ow.1 hk).elim (hna k) (hnb k)⟩
theorem yw8[Dr](hw:Way P TT all hs S T κ)(hl:hs.length=all.length)(m:Nat):∀ k,m+k<=all.length->Ref (sg (dst all) S (λ_=>true) (T m) m k) (T (m+k)):=by
 intro k;induction k with
 |zero=>intro _;exact Ref.refl _
 |succ k ih =>
  intro hk;have hlt:m+k<all.length:=om
  obtain⟨tr,hr,_,e⟩:=hw (m+k) _ _ (pp hlt) (pp om);rw[<-Nat.add_assoc,e];have:dst all (m+k)=all[m+k].dst:=by simp[dst,hlt]
  simp only[sg,if_true,this];exact((ih om).trans hr).put _ _
theorem xi1{D:Nat->Option Tmp}{S:Nat->SV}{E E':Nat->Bool}{ts:List SV}{m:Nat}:∀ k,(∀ i,m<=i->i<m+k->E i=E' i)->sg D S E ts m k=sg D S E' ts m k:=by
 intro k;induction k with
 |zero=>intro _;rfl
 |succ k ih =>
  intro h;simp only[sg,h (m+k) om om,ih (λi a b=>h i a om)]
theorem xr3{D:Nat->Option Tmp}{S:Nat->SV}{E:Nat->Bool}{ts:List SV}{m:Nat}:∀ k,(∀ i,m<=i->i<m+k->E i=false)->sg D S E ts m k=ts:=by
 intro k;induction k with
 |zero=>intro _;rfl
 |succ k ih =>
  intro h;simp[sg,h (m+k) om om,ih (λi a b=>h i a om)]
theorem xx6(hl:hs.length=all.length):∀ (k m:Nat),m+k=all.length->∃ h,m<=h/\h<=all.length/\(∀ i,m<=i->i<h->hs[i]? = some false)/\(h=all.length\/hs[h]? = some true):=by
 intro k;induction k with
 |zero=>intro m hm;exact⟨m,pu _,om,λi a b=>by omega,.inl om⟩
 |succ k ih =>
  intro m hm;have hlt:m<hs.length:=om
  cases hb:hs[m]'hlt with
  |true=>exact⟨m,pu _,om,λi a b=>by omega,.inr (by rw[pp hlt,hb])⟩
  |false =>
   obtain⟨h,a,b,c,d⟩:=ih (m+1) om;refine⟨h,om,b,λi hi hi'=>?_,d⟩;by_cases e:i=m
   ·subst e;rw[pp hlt,hb]
   ·exact c i om hi'
theorem Inv.start[Dr](hw:Way P TT all hs S T κ)(hdr:DrawOk all hs){m:Nat}(hm:m<=all.length){listed:Array Bool}(hsz:listed.size=all.length)(hE:∀ i,i<all.length->(listed.getD i false=true↔i<m)){a:Act}{w:World}{β:Env}{fp:Nat->Nat->Prop}
 (hS:Sat B w β fp (T m) (κ m) a):∃ h,Inv B all hs S T κ m h listed a w:=by
 obtain⟨h,h1,h2,h3,h4⟩:=xx6 hdr.len (all.length - m) m om;have hF:∀ i,m<=i->listed.getD i false=false:=λi hi=>by
  by_cases hil:i<all.length
  ·cases hb:listed.getD i false with
   |false=>rfl
   |true=>have:=(hE i hil).1 hb;omega
  ·simp[Array.getD,hsz,hil]
 obtain⟨l,hl,hla⟩:=qi7 hw hdr.len h2 h3 (h - m) m (pu _) om;rw [show m+(h - m)=h from by omega] at hl;have hn:∀ p,(κ m).length<=p->β p=none:=hS.went.mem.kl;have hS':=hS.moreTo l hla;rw [<-hl] at hS';refine⟨h,hsz,λi hi=>(hE i om).2 hi,h1,h2,h3,h4,λi hi=>hF i om,λj o e hj hEj he hb=>?_,⟨β,fp,?_,λj hj hjh hEj p hp hp'=>?_⟩⟩
 ·have hjl:j<all.length:=(p6.1 hj).1;have:=(hE j hjl).1 hEj;have:=hdr.on j o e hj he hb;exact(hE e.on om).2 om
 ·rw[xr3 _ (λi a _=>hF i a)];exact hS'
 ·obtain⟨l1,e1,_⟩:=qi7 hw hdr.len h2 h3 (j - m) m (pu _) om;obtain⟨l2,e2,_⟩:=qi7 hw hdr.len h2 h3 (h - (j+1)) (j+1) om om;rw [show m+(j - m)=j from by omega] at e1;rw [show j+1+(h - (j+1))=h from by omega] at e2;exact hn p (by rw [e1] at hp;simp at hp;omega)
theorem jl4{listed:Array Bool}(cl:∀ (j:Nat) (o:Oper) (e:Edge),all[j]? = some o->listed.getD j false=true->e ∈ o.after->Region.binds .any e=true->listed.getD e.on false=true){j i:Nat}(h:Wt all j i) :
 (∀ o e,all[j]? = some o->e ∈ o.after->Region.binds .any e=true->listed.getD e.on false=true)->listed.getD i false=true:=by
 have hc:∀ {j i},Wt all j i->listed.getD j false=true->listed.getD i false=true:=λ{j i} h=>by
  induction h with
  |edge ho he hb hi=>intro hj;exact hi ▸ cl _ _ _ ho hj he hb
  |trans _ _ ih1 ih2=>intro hj;exact ih2 (ih1 hj)
 induction h with
 |edge ho he hb hi=>intro hr;exact hi ▸ hr _ _ ho he hb
 |trans h1 h2 ih1 _=>intro hr;exact hc h2 (ih1 hr)
theorem zx3[Dr]{listed:Array Bool}(cl:∀ (j:Nat) (o:Oper) (e:Edge),all[j]? = some o->listed.getD j false=true->e ∈ o.after->Region.binds .any e=true->listed.getD e.on false=true){j i:Nat}(h:Wt all j i)(hj:listed.getD j false=true):listed.getD i false=true :=
 jl4 cl h (λo e ho he hb=>cl j o e ho hj he hb)
theorem yb0{d:Option Tmp}{l:List Nat}{t:Nat}(h:qg2 d l=true)(hd:d=some t)(ht:memN t l=true):False:=by
 subst hd;simp [qg2,ht] at h
theorem Inv.slots[Dr]{m h j:Nat}{listed:Array Bool}{a:Act}{w:World}(hw:Way P TT all hs S T κ)(hdr:DrawOk all hs)(hI:Inv B all hs S T κ m h listed a w){o:Oper}(ho:all[j]? = some o)(hmj:m<=j)(hjh:j<h)(hEj:listed.getD j false=false)
 (hrd:∀ e ∈ o.after,Region.binds .any e=true->listed.getD e.on false=true) {tr:List SV} (hr:Ref (T j) tr) {t:Nat} (ht:memN t (kq all o)=true) {s':SV} (hs':tr[t]? = some s') :
 ∃ s,(sg (dst all) S (λi=>listed.getD i false) (T m) m (h - m))[t]? = some s/\RefV s s':=by
 have hjN:j<all.length:=(p6.1 ho).1;have hWj:∀ i,Wt all j i->listed.getD i false=true:=λi hi=>jl4 hI.cl hi (λo' e ho' he hb=>by
  rw [ho] at ho';obtain rfl:=oq ho';exact hrd e he hb)
 have h1:=(yw8 hw hdr.len m (j - m) om).trans (by rw[show m+(j - m)=j from by omega];exact hr);obtain⟨s,hs1,hrv⟩:=h1.2 t s' hs';have htl:t<(T m).length:=by
  have:=(p6.1 hs1).1
  rwa [ql5] at this
 refine⟨s,?_,hrv⟩;have uniq:∀ i i',m<=i->i<h->m<=i'->i'<h->dst all i=some t->dst all i'=some t->i=i':=by
  have one:∀ i i',m<=i->i<i'->i'<h->dst all i=some t->dst all i'=some t->False:=λi i' a b c d e=>by
   have hi':i'<all.length:=by have:=hI.hN;omega
   have:=(hdr.pair i i' _ _ b (pp om) (pp hi') (hI.soft i' om c) (λq hq hq'=>hI.soft q om om)).1;simp only [dst,pp hi',pp (show i<all.length by omega),dt] at d e;rw [d,e] at this;simp [qf1,cz] at this
  intro i i' a b c d e f;rcases co i i' with h|h|h
  ·exact(one i i' a h d e f).elim
  ·exact h
  ·exact(one i' i c h b f e).elim
 by_cases hex:∃ i,m<=i/\i<h/\dst all i=some t
 ·obtain⟨i,a1,a2,a3⟩:=hex;have hiN:i<all.length:=by have:=hI.hN;omega
  have hdi:all[i].dst=some t:=by simpa[dst,hiN] using a3
  rcases co i j with hij|hij|hij
  ·-- written by one ahead
   have hp:=(hdr.pair i j _ o hij (pp hiN) ho (hI.soft j hmj hjh) (λq hq hq'=>hI.soft q om om)).2;have hEi:listed.getD i false=true:=by
    rcases hp with hp|hp
    ·exact hWj i hp
    ·exfalso;unfold apart at hp;split at hp
     ·rename_i hoff;exact yb0 hoff hdi ht
     ·cases hp
   rw [qw7 (j - m) t i a1 om rfl a3 htl (λi' b1 b2 b3=>uniq i' i b1 om a1 a2 b3 a3)] at hs1;rw[qw7 (h - m) t i a1 om hEi a3 htl (λi' b1 b2 b3=>uniq i' i b1 om a1 a2 b3 a3)];exact hs1
  ·subst hij;rw [qg1 (i - m) t (λi' b1 b2 _ b3=>by have:=uniq i' i b1 om a1 a2 b3 a3;omega)] at hs1;rw [qg1 (h - m) t (λi' b1 b2 b4 b3=>by have:=uniq i' i b1 om a1 a2 b3 a3;subst this;rw [hEj] at b4;cases b4)];exact hs1
  ·have hp:=(hdr.pair j i o _ hij ho (pp hiN) (hI.soft i a1 a2) (λq hq hq'=>hI.soft q om om)).2;have hEi:listed.getD i false=false:=by
    rcases hp with hp|hp
    ·cases hb:listed.getD i false with
     |false=>rfl
     |true=>have:=zx3 hI.cl hp hb;rw [hEj] at this;cases this
    ·exfalso;unfold apart at hp;split at hp
     ·exact yb0 hp hdi ht
     ·cases hp
   rw [qg1 (j - m) t (λi' b1 b2 _ b3=>by have:=uniq i' i b1 om a1 a2 b3 a3;omega)] at hs1;rw [qg1 (h - m) t (λi' b1 b2 b4 b3=>by have:=uniq i' i b1 om a1 a2 b3 a3;subst this;rw [hEi] at b4;cases b4)];exact hs1
 ·rw [qg1 (j - m) t (λi' b1 b2 _ b3=>hex ⟨i',b1,om,b3⟩)] at hs1;rw[qg1 (h - m) t (λi' b1 b2 _ b3=>hex ⟨i',b1,om,b3⟩)];exact hs1
theorem qe8(l:Array Bool)(j i:Nat)(hj:j<l.size):(l.setIfInBounds j true).getD i false=(l.getD i false || decide (i=j)):=by
 simp only[c7,f5];by_cases e:j=i
 ·subst e;simp[hj]
 ·rw[if_neg e];simp[Ne.symm e]
theorem Inv.next[Dr]{m h j:Nat}{listed:Array Bool}{a:Act}{w:World}(hTT:TTok P TT)(hw:Way P TT all hs S T κ)(hdr:DrawOk all hs)(hI:Inv B all hs S T κ m h listed a w){o:Oper}(ho:all[j]? = some o)(hmj:m<=j)(hjh:j<h)(hEj:listed.getD j false=false)
 (hrd:∀ e ∈ o.after,Region.binds .any e=true->listed.getD e.on false=true) {K:Act->World->Prop} (hK:∀ a' w',Inv B all hs S T κ m h (listed.setIfInBounds j true) a' w'->K a' w'):wpOpIn (qm rd) n P all.toArray Q j K a w:=by
 have hjN:j<all.length:=(p6.1 ho).1;have hjs:j<listed.size:=by rw[hI.sz];exact hjN
 have hsj:=hI.soft j hmj hjh;obtain⟨tr,hr,hst,hT⟩:=hw j o false ho hsj;obtain⟨β,fp,hS,hnone⟩:=hI.st;have hdj:dst all j=o.dst:=by simp[dst,ho]
 -- the masked state
 have slot:∀ t,Den w (Mx B.X fp) β (getT (mask (kq all o) tr) t) (a.tmps.getD t undef):=λt=>by
  rw[jo8];split
  ·rename_i ht;rw[vb];cases hs':tr[t]? with
   |none=>exact .any _
   |some s' =>
    obtain⟨s,e,hrv⟩:=hI.slots hw hdr ho hmj hjh hEj hrd hr ht hs';have:=hS.val (.tmp t);simp only [Go.Eng.val,Act.eval,vb,e] at this;exact hrv.den this
  ·exact .any _
 have hval:∀ x,Den w (Mx B.X fp) β (val (mask (kq all o) tr) x) (a.eval x):=λx=>by
  cases x with
  |tmp t=>exact slot t
  |_ =>
   have:=hS.val;first|exact this (.const _)|exact this (.func _)|exact this (.global _)
 have hk:∀ (i:Nat) (k:KB),(κ j)[i]? = some k->(κ h)[i]? = some k:=λi k hk=>by
  obtain⟨l,e,_⟩:=qi7 hw hdr.len hI.hN hI.soft (h - j) j hmj om;rw [show j+(h - j)=h from by omega] at e;rw[e,mn (p6.1 hk).1];exact hk
 have hM0:Mem0 B.X w β fp (κ j):={ hS.went.mem.toMem0 with kb:=λi L k hki hne hL=>hS.went.mem.kb i L k (hk i k hki) hne hL };have hset:sg (dst all) S (λi=>(listed.setIfInBounds j true).getD i false) (T m) m (h - m)=putT o.dst (S j) (sg (dst all) S (λi=>listed.getD i false) (T m) m (h - m)):=by
  rw[<-hdj];refine xx5 (h - m) j hmj om hEj (λi=>qe8 listed j i hjs) (λi i' t a b c d e f=>?_);have one:∀ i i',m<=i->i<i'->i'<h->dst all i=some t->dst all i'=some t->False:=λi i' a b c d e=>by
   have hi':i'<all.length:=by have:=hI.hN;omega
   have:=(hdr.pair i i' _ _ b (pp om) (pp hi') (hI.soft i' om c) (λq hq hq'=>hI.soft q om om)).1;simp only [dst,pp hi',pp (show i<all.length by omega),dt] at d e;rw [d,e] at this;simp [qf1,cz] at this
  rcases co i i' with hh|hh|hh
  ·exact(one i i' a hh om e f).elim
  ·exact hh
  ·exact(one i' i c hh om f e).elim
 have build:∀ (v:Value) (w':World) (β':Env) (fp':Nat->Nat->Prop),Went B.X w β fp w' β' fp' (κ h)->Den w' (Mx B.X fp') β' (S j) v ->
  (∀ i,m<=i->i<h->i≠j->listed.getD i false=false->∀ p,(κ i).length<=p->p<(κ (i+1)).length->β' p=none)->Inv B all hs S T κ m h (listed.setIfInBounds j true) (a.put o.dst v) w':=by
  intro v w' β' fp' hW hd hn;have hS':=hS.on hW;refine⟨by simp[hI.sz],λi hi=>by rw[qe8 _ _ _ hjs,hI.low i hi];rfl,hI.mh,hI.hN,hI.soft,hI.stop,λi hi=>by rw[qe8 _ _ _ hjs,hI.high i hi];simp;omega,λi o' e ho' hi he hb=>?_,⟨β',fp',?_,λi a1 a2 a3=>?_⟩⟩
  ·rw [qe8 _ _ _ hjs] at hi ⊢;by_cases hij:i=j
   ·subst hij;rw [ho] at ho';obtain rfl:=oq ho';rw[hrd e he hb];rfl
   ·rw[hI.cl i o' e ho' (by simpa[hij] using hi) he hb];rfl
  ·rw[hset];exact hS'.put _ hd
  ·rw [qe8 _ _ _ hjs] at a3;simp only [cp,decide_eq_false_iff_not] at a3;exact hn i a1 a2 a3.2 a3.1
 have hi:all.toArray[j]? = some o:=by simpa using ho
 unfold wpOpIn;generalize hb:false=b at hst;generalize hk1:κ (j+1)=k1 at hst;generalize hsj':S j=sj at hst build;cases hst with
 |skip hg =>
  have hw':=qi3 (B:=B) (β:=β) (fp:=fp) (w:=w) (a:=a) (all:=all) (ts:=mask (kq all o) tr) (λt s hs _=>hs ▸ slot t) (mask_guard.trans hg);simp only[hi,hw',fx,if_false];exact⟨λ_ _=>trivial,hK _ _ (build undef w β fp (Went.refl hS.went.mem) (.v _) (λi a1 a2 _ a3=>hnone i a1 a2 a3))⟩
 |ev hg hev =>
  have hw':=qi3 (B:=B) (β:=β) (fp:=fp) (w:=w) (a:=a) (all:=all) (ts:=mask (kq all o) tr) (λt s hs _=>hs ▸ slot t) (mask_guard.trans hg);simp only[hi,hw',if_true];cases hev with
  |pure _ hc hm hev =>
   rw [xb3 (jc5 (all:=all))] at hev;obtain⟨s',v,hK',hrun,hd⟩:=jb0 hTT hev hval hM0.kb' hM0.apart;subst hK';exact y3 (jj7 hev) hrun (hK _ _ (build v w β fp (Went.refl hS.went.mem) hd (λi a1 a2 _ a3=>hnone i a1 a2 a3)))
  |app _ hev =>
   have hag:∀ x ∈ o.op.operands,val tr x=val (mask (kq all o) tr) x:=jc5 (all:=all);rw [zr1 hag] at hev;obtain⟨d,v,w',hK',hrun,hst',hd⟩:=zb9 hTT hev hS.went.mem.vo.no hM0.mlt hval;refine y3 (λc hc=>?_) hrun (hK _ _ (build v w' β fp (hS.went.mem.quiet hst') (hK' ▸ hd) (λi a1 a2 _ a3=>hnone i a1 a2 a3)));unfold wx at hev;rw [hc] at hev;exact hev
  |call g args tys _ _ _ hop hev =>
   subst hb;have hag:∀ x ∈ (Op.call ⟨.value g,args,tys⟩).operands,val tr x=val (mask (kq all o) tr) x:=λx hx=>jc5 (all:=all) x (by rw[hop];exact hx)
   rw [xf0 hag] at hev;refine zk3 hTT hop hev (λs k e=>by cases (gp e).1) hM0 hS.went.mem.vo.no hval (λs k v w' hs' hst hden=>?_);obtain⟨_,he⟩:=gp hs';obtain⟨rfl,rfl⟩:=gp he;exact hK _ _ (build v w' β fp (hS.went.mem.quiet hst) hden (λi a1 a2 _ a3=>hnone i a1 a2 a3))
  |mem _ _ hc hm hev =>
   have hf:va o.op=true:=by
    unfold qg4 at hb;split at hb
    ·assumption
    ·cases hb
   obtain⟨k,ek,_⟩:=yg3 hf hev;rw [xc1 hf (jc5 (all:=all))] at hev;obtain⟨ob,L,k',s0,v,w1,hKs,hrun,hst1,hsz1,hLb,hkb,hden⟩:=xn3 (M:=Mx B.X fp) (β:=β) hTT hf hev hM0.mlt hval;obtain⟨rfl,rfl⟩:=gp hKs;have hlen:(κ (j+1)).length=(κ j).length+1:=by rw[hk1];simp
   have hnn:β (κ j).length=none:=hnone j hmj hjh hEj _ (pu _) om;have hkh:(κ h)[(κ j).length]? = some k':=by
    obtain⟨l,e,_⟩:=qi7 hw hdr.len hI.hN hI.soft (h - (j+1)) (j+1) om om;rw [show j+1+(h - (j+1))=h from by omega,hk1] at e;rw[e,mn sm];simp
   have hW:=hS.went.mem.fill hst1 hsz1 hnn hkh ob L hLb hkb;refine y3 (λc hc'=>by rw [hc'] at hf;simp [va] at hf) hrun (hK _ _ (build v _ _ _ hW (hden _ _ _ (yr _ _ _)) (λi a1 a2 a4 a3 p hp hp'=>?_)));have hpj:p≠(κ j).length:=λe=>by
    rcases ox i j with hij|hij
    ·obtain⟨l,e1,_⟩:=qi7 hw hdr.len hI.hN hI.soft (j - (i+1)) (i+1) om om;rw [show i+1+(j - (i+1))=j from by omega] at e1;rw [e,e1] at hp';simp at hp';omega
    ·obtain⟨l,e1,_⟩:=qi7 hw hdr.len hI.hN hI.soft (i - (j+1)) (j+1) om om;rw [show j+1+(i - (j+1))=i from by omega] at e1;rw [e1] at hp;simp at hp;omega
   rw[x4 _ _ hpj];exact hnone i a1 a2 a3 p hp hp'
theorem Inv.full[Dr]{m h:Nat}{listed:Array Bool}{a:Act}{w:World}(hw:Way P TT all hs S T κ)(hdr:DrawOk all hs)(hI:Inv B all hs S T κ m h listed a w)(hE:∀ i,i<h->listed.getD i false=true):∃ β fp,Sat B w β fp (T h) (κ h) a:=by
 obtain⟨β,fp,hS,_⟩:=hI.st;have h1:=yw8 hw hdr.len m (h - m) (by have:=hI.hN;have:=hI.mh;omega);rw [show m+(h - m)=h from by have:=hI.mh;omega] at h1;rw [xi1 (E':=λ_=>true) (h - m) (λi a b=>hE i om)] at hS;exact⟨β,fp,hS.ref h1⟩
theorem jn3[Dr](hTT:TTok P TT)(hw:Way P TT all hs S T κ)(hdr:DrawOk all hs)(hQ:∀ a w β fp,Sat B w β fp (T all.length) (κ all.length) a->Q .normal a w) :
 ∀ (fuel:Nat) (listed:Array Bool) (a:Act) (w:World) (m h:Nat) (l:List Nat),Inv B all hs S T κ m h listed a w->(∀ i,i<all.length->listed.getD i false=false->i ∈ l)->l.length<=fuel->wpAnyIn (qm rd) n P .any all.toArray Q fuel listed a w:=by
 have fin:∀ (listed:Array Bool) (a:Act) (w:World) (m h:Nat),Inv B all hs S T κ m h listed a w->(∀ i,i<all.length->listed.getD i false=true)->Q .normal a w:=by
  intro listed a w m h hI hall;have hh:h=all.length:=by
   rcases hI.stop with e|e
   ·exact e
   ·have hlt:h<all.length:=by rw[<-hdr.len];exact(p6.1 e).1
    have:=hI.high h (pu _);rw [hall h hlt] at this;cases this
  obtain⟨β,fp,hS⟩:=hI.full hw hdr (λi hi=>hall i (by have:=hI.hN;omega));rw [hh] at hS;exact hQ a w β fp hS
 intro fuel;induction fuel with
 |zero =>
  intro listed a w m h l hI hl hlen;have hnil:l=[]:=dq om;have hall:∀ i,i<all.length->listed.getD i false=true:=λi hi=>by
   cases hb:listed.getD i false with
   |true=>rfl
   |false=>have:=hl i hi hb;rw [hnil] at this;cases this
  refine⟨?_,fin listed a w m h hI hall⟩;refine ap.2 (λj hj=>?_);obtain⟨h0,o,ho,_⟩:=mem_ready.1 hj;have hjl:j<all.length:=by simpa using(gq.1 ho).1
  have:=hall j hjl;have hjs:j<listed.size:=by rw[hI.sz];exact hjl
  simp [hjs] at h0 this;rw [h0] at this;cases this
 |succ fuel ih =>
  intro listed a w m h l hI hl hlen;refine⟨λhnil=>fin listed a w m h hI (λi hi=>?_),λj hj=>?_⟩
  ·-- none is ready: all are done
   induction i using Nat.strongRecOn with
   |_ i ihi =>
    cases hb:listed.getD i false with
    |true=>rfl
    |false =>
     exfalso;have his:i<listed.size:=by rw[hI.sz];exact hi
     have:i ∈ Region.ready .any all.toArray listed:=mem_ready.2 ⟨by simpa[his] using hb,all[i],by simp[hi],λe he hbd=>by
      have:=hdr.on i _ e (pp hi) he hbd;exact ihi e.on this om⟩
     rw [hnil] at this;cases this
  ·obtain⟨h0,o,ho,hrd⟩:=mem_ready.1 hj;have ho:all[j]? = some o:=by simpa using ho
   have hjl:j<all.length:=(p6.1 ho).1;have hjs:j<listed.size:=by rw[hI.sz];exact hjl
   have hEj:listed.getD j false=false:=by simpa[hjs] using h0
   have hmj:m<=j:=by
    rcases ox j m with h'|h'
    ·rw [hI.low j h'] at hEj;cases hEj
    ·exact h'
   have hWj:∀ i,Wt all j i->listed.getD i false=true:=λi hi=>jl4 hI.cl hi (λo' e ho' he hb=>by
    rw [ho] at ho';obtain rfl:=oq ho';exact hrd e he hb)
   have hl':∀ i,i<all.length->(listed.setIfInBounds j true).getD i false=false->i ∈ l.erase j:=λi hi hE=>by
    rw [qe8 _ _ _ hjs] at hE;simp only [cp,decide_eq_false_iff_not] at hE;exact(List.mem_erase_of_ne hE.2).2 (hl i hi hE.1)
   have hlen':(l.erase j).length<=fuel:=by
    rw[List.length_erase_of_mem (hl j hjl hEj)];omega
   rcases co j h with hjh|hjh|hjh
   ·exact hI.next hTT hw hdr ho hmj hjh hEj hrd (λa' w' hI'=>ih _ a' w' m h _ hI' hl' hlen')
   ·subst hjh;have hst:hs[j]? = some true:=hI.stop.resolve_left om;have hE:∀ i,i<j->listed.getD i false=true:=λi hi=>hWj i (hdr.first j i hst hi)
    obtain⟨β,fp,hS⟩:=hI.full hw hdr hE;obtain⟨tr,hr,hstp,hT⟩:=hw j o true ho hst;refine yj2 hTT hstp (by simpa using ho) (hS.ref hr) (λv w' β' fp' hS'=>?_);rw [<-hT] at hS';obtain⟨h',hI'⟩:=Inv.start hw hdr (m:=j+1) om (listed:=listed.setIfInBounds j true) (by simp[hI.sz]) (λi hi=>by
     rw[qe8 _ _ _ hjs];simp only[cn,lr];constructor
     ·rintro (h1|h1)
      ·rcases ox i (j+1) with h2|h2
       ·exact h2
       ·rw [hI.high i om] at h1;cases h1
      ·omega
     ·intro h1;by_cases e:i=j
      ·exact .inr e
      ·exact .inl (hE i om)) hS'
    exact ih _ _ _ _ _ _ hI' hl' hlen'
   ·exfalso;have hst:hs[h]? = some true:=hI.stop.resolve_left om;have:=hWj h (hdr.past h j hst hjh hjl);rw [hI.high h (pu _)] at this;cases this
end
section
variable{P:Program}{TT:Nat->Option TI}{B:Bs}{w:World}{β:Env}{fp:Nat->Nat->Prop}{ts:List SV}{ks:List KB}{a:Act}{rd:Option Nat}{n:Nat}{Q:Exit->Act->World->Prop}
theorem zn3[Dr](hTT:TTok P TT)(hmix:P.follows .mixedOrders=true){ops:Array Oper}{hs:List Bool}(hdr:vg ops.toList hs=true){id:Nat}{ts':List SV}{ks':List KB}(h:Tr P TT ops.toList ops.toList ts ks ts' ks' hs)(hS:Sat B w β fp ts ks a)
 (hQ:∀ a' w' β' fp',Sat B w' β' fp' ts' ks' a'->Q .normal a' w'):(Code.region id ops true).wpIn (qm rd) n P Q a w:=by
 obtain⟨S,T,κ,e1,e2,e3,e4,e5,hw⟩:=h.places;have hdr:=jn1 hdr;refine wpIn_region_any hmix ?_;have hS0:Sat B { w with drawn:=w.drawn+1 } β fp (T 0) (κ 0) a:=by
  rw[e1,e2];exact hS.on (hS.went.mem.quiet ⟨rfl,rfl,rfl,pu _,λ_ _ _=>rfl,λ_=>by first|exact pu _|exact Nat.le_succ _⟩)
 obtain⟨h',hI⟩:=Inv.start hw hdr (m:=0) (pv _) (listed:=Array.replicate ops.size false) sm (λi hi=>by
  simp at hi;simp [hi]) hS0
 have:=jn3 (rd:=rd) (n:=n) (Q:=Q) hTT hw hdr (λa' w' β' fp' hS'=>hQ a' w' β' fp' (by rw[<-e3,<-e4];exact hS')) ops.size _ a _ 0 h' (List.range ops.size) hI (λi hi _=>by simpa using hi) sm;simpa using this
theorem qw4(l:List Bool)(i:Nat):atB l i=(l[i]?).getD false:=by
 induction l generalizing i with
 |nil=>rfl
 |cons a l ih=>cases i with
  |zero=>rfl
  |succ i=>simp[atB,ih]
theorem qj1(l:List Bool)(i:Nat):vl l i=l.set i true:=by
 induction l generalizing i with
 |nil=>rfl
 |cons a l ih=>cases i with
  |zero=>rfl
  |succ i=>simp[vl,ih]
theorem qb1(l:List Oper):ko l=List.replicate l.length false:=by
 induction l with
 |nil=>rfl
 |cons a l ih=>simp[ko,ih,List.replicate_succ]
theorem xw4{l:List Bool}(h:allT l=true):∀ i,i<l.length->l[i]? = some true:=by
 induction l with
 |nil=>intro i hi;simp at hi
 |cons a l ih =>
  intro i hi;cases a with
  |false=>simp [allT] at h
  |true =>
   cases i with
   |zero=>rfl
   |succ i=>simpa using ih (by simpa[allT] using h) i (by simpa using hi)
theorem jn0[Dr](done:List Bool)(l:List Edge):xp done l=l.all (λe=>!Region.binds .any e || (done[e.on]?).getD false):=by
 induction l with
 |nil=>rfl
 |cons e l ih =>
  simp only[xp,List.all_cons,<-ih,qw4];cases Region.binds .any e <;> cases (done[e.on]?).getD false <;> simp
theorem mem_ready[Dr]{ops:Array Oper}{done:List Bool}(hl:done.length=ops.size){i:Nat}:i ∈ Region.ready .any ops done.toArray↔∃ o,ops.toList[i]? = some o/\atB done i=false/\xp done o.after.toList=true:=by
 unfold Region.ready;rw[ct,o8];have he:∀ o:Oper,xp done o.after.toList=o.after.all (λe=>!Region.binds .any e || done.toArray.getD e.on false):=λo=>by
  rw[jn0,<-Array.all_toList];simp[c7]
 constructor
 ·rintro ⟨hi,h⟩
  have ho:ops[i]? = some ops[i]:=mv hi;refine⟨ops[i],by rw[dy];exact ho,?_,?_⟩
  ·rw [ho] at h;rw[qw4];have hd:done[i]? = some (done[i]' om):=pp _;rw[hd];simp [c7,hd] at h;simpa using h.1
  ·rw [ho] at h;rw[he];simp only [l7,d7,p7] at h;exact h.2
 ·rintro ⟨o,ho,h1,h2⟩
  rw [dy] at ho;have hi:i<ops.size:=(gq.1 ho).1;refine⟨hi,?_⟩;rw[ho];rw [qw4] at h1;have hd:done[i]? = some (done[i]' om):=pp _;rw [hd] at h1;simp only[l7,d7,p7];refine⟨?_,by rw[<-he];exact h2⟩;simp only [d7] at h1;simp[c7,hd,h1]
theorem zw1{done:List Bool}{F:Nat->Oper->Prop}:∀ (os:List Oper) (p:Nat),qh3 done F p os->∀ j o,os[j]? = some o->atB done (p+j)=false->xp done o.after.toList=true->F (p+j) o:=by
 intro os;induction os with
 |nil=>intro p h j o ho;simp at ho
 |cons a os ih =>
  intro p h j o ho h1 h2;cases j with
  |zero =>
   simp only [bx,gu] at ho;subst ho;simp only [qh3,d6] at h h1;rw [h1,h2] at h;exact h.1
  |succ j =>
   have hr:qh3 done F (p+1) os:=by
    simp only [qh3] at h;split at h
    ·exact h
    ·split at h
     ·exact h.2
     ·exact h
   have:=ih (p+1) hr j o (by simpa using ho) (by rw[show p+1+j=p+(j+1) from by omega];exact h1) h2;rw[show p+(j+1)=p+1+j from by omega];exact this
theorem zk0{done:List Bool}:∀ (os:List Oper) (p:Nat),qj2 done p os=true->∃ j o,os[j]? = some o/\atB done (p+j)=false/\xp done o.after.toList=true:=by
 intro os;induction os with
 |nil=>intro p h;simp [qj2] at h
 |cons a os ih =>
  intro p h;have tail:qj2 done (p+1) os=true->∃ j o,(a :: os)[j]? = some o/\atB done (p+j)=false/\xp done o.after.toList=true:=λh=>by
   obtain⟨j,o,h1,h2,h3⟩:=ih (p+1) h;exact⟨j+1,o,by simpa using h1,by rw[show p+(j+1)=p+1+j from by omega];exact h2,h3⟩
  simp only [qj2] at h;split at h
  ·exact tail h
  ·rename_i h1;split at h
   ·rename_i h2;exact⟨0,a,rfl,h1,h2⟩
   ·exact tail h
end
end
section
section
variable{F:Fence}{n:Nat}{P:Program}{Q Q':Exit->Act->World->Prop}{w:World}
theorem qk9{o o':Oper}{a a':Act}{K K':Act->World->Prop}(hsem:o.semAt F.round a.eval=o'.semAt F.round a'.eval)(hab:o.about P w a.eval=o'.about P w a'.eval)
 (hq:∀ e a w,Q' e a w->e = .normal) (hput:∀ v w',K (a.put o.dst v) w'->K' (a'.put o'.dst v) w') (hdef:∀ d w',K ({ a with defers:=d :: a.defers }.put o.dst undef) w'->K' ({ a' with defers:=d :: a'.defers }.put o'.dst undef) w')
 (h:o.wpIn F n P a w K Q'):o'.wpIn F n P a' w K' Q:=by
 unfold Oper.wpIn at *;rw[<-hsem,<-hab];refine⟨h.1,?_⟩;have hh:=h.2;generalize (o.semAt F.round a.eval).run P w=r at *;cases r with
 |ok x w' =>
  cases x <;> simp only [Oper.uponIn] at hh ⊢ <;>
   first
    |exact hput _ _ hh
    |exact hdef _ _ hh
    |exact⟨hh.1,CallsIn.mono hh.2 (λe w'' he=>by
     cases e with
     |returned v=>exact hput _ _ he
     |panicked c=>exact absurd (hq _ _ _ he) (by intro h;cases h)
     |outgrown=>obtain⟨a0,w0,h0⟩:=he;exact absurd (hq _ _ _ h0) (by intro h;cases h))⟩
    |exact⟨hh.1,RowsIn.mono hh.2 (λ_ _ he=>hput _ _ he)⟩
    |exact⟨hh.1,RoundIn.mono hh.2 (λe w'' he=>by
     cases e with
     |returned v=>exact hput _ _ he
     |panicked c=>exact absurd (hq _ _ _ he) (by intro h;cases h)
     |outgrown=>obtain⟨a0,w0,h0⟩:=he;exact absurd (hq _ _ _ h0) (by intro h;cases h))⟩
 |halt x w' =>
  cases x <;> simp only [Oper.uponIn] at hh ⊢ <;> first|exact absurd (hq _ _ _ hh) (by intro h;cases h)|exact hh.elim|exact hh
theorem jx8{ρ ρ':Operand->Value}{b:Builtin}{args:Array Operand}{tys:Array TypeId}{ty:TypeId}(h:∀ y ∈ args,ρ y=ρ' y):resolve ρ ⟨.builtin b,args,tys⟩ ty=resolve ρ' ⟨.builtin b,args,tys⟩ ty:=by
 have e:args.map ρ=args.map ρ':=ry h;simp only[resolve,e]
theorem yg9[Dr]{ρ ρ':Operand->Value}{o:Oper}(hi:wo o.op=true)(h:∀ y ∈ o.op.operands,ρ y=ρ' y):execOp ρ o=execOp ρ' o:=by
 obtain⟨dst,op,ty,after,guard⟩:=o;replace hi:wo op=true:=hi;replace h:∀ y ∈ op.operands,ρ y=ρ' y:=h;cases op <;> first|cases hi|skip
 case move x=>simp only[execOp,h x (by simp[Op.operands])]
 case assign x=>simp only[execOp,h x (by simp[Op.operands])]
 case buildSlice t l ps =>
  have e:(ps.map λp=>(p.1,ρ p.2))=ps.map λp=>(p.1,ρ' p.2):=ry λp hp=>by
   rw[h p.2 (by simp only[Op.operands];simp;exact⟨p.1,by simpa using hp⟩)]
  simp only[execOp];exact congrArg (λz=>(do pure (Next.value (<- Instr.buildSlice t l z)):Sem Next)) e
 case build t fs =>
  have ha:fs.map (λp=>(p.1,ρ p.2))=fs.map (λp=>(p.1,ρ' p.2)):=ry λy hy=>by rw[h y.2 (by simp[Op.operands];exact⟨_,hy⟩)]
  simp only[execOp,ha]
 case load t x=>simp only[execOp,h x (by simp[Op.operands])]
 case store t x y=>simp only[execOp,h x (by simp[Op.operands]),h y (by simp[Op.operands])]
 case nilCheck x=>simp only[execOp,h x (by simp[Op.operands])]
 case fieldAddr s x f=>simp only[execOp,h x (by simp[Op.operands])]
 case call c =>
  obtain⟨cl,args,tys⟩:=c;cases cl <;> first|cases hi|skip
  rename_i b;have:resolve ρ ⟨.builtin b,args,tys⟩ ty=resolve ρ' ⟨.builtin b,args,tys⟩ ty:=jx8 λy hy=>h y (by simp[Op.operands,Call.operands];exact hy)
  simp only[execOp,this]
theorem zz1[Dr]{ro:Option Nat}{ρ ρ':Operand->Value}{o:Oper}(hi:wo o.op=true)(h:∀ y ∈ o.op.operands,ρ y=ρ' y):o.semAt ro ρ=o.semAt ro ρ':=by
 have hnd:∀ c,o.op≠.defer c:=λc e=>by rw [e] at hi;cases hi
 rw[Oper.semAt_eq _ _ _ hnd,Oper.semAt_eq _ _ _ hnd];exact yg9 hi h
theorem yc5[Dr]{ρ ρ':Operand->Value}{o:Oper}(hi:wo o.op=true)(h:∀ y ∈ o.op.operands,ρ y=ρ' y):o.about P w ρ=o.about P w ρ':=by
 obtain⟨dst,op,ty,after,guard⟩:=o;replace hi:wo op=true:=hi;replace h:∀ y ∈ op.operands,ρ y=ρ' y:=h;cases op <;> first|rfl|skip
 case call c =>
  obtain⟨cl,args,tys⟩:=c;cases cl <;> first|cases hi|skip
  rename_i b;have:resolve ρ ⟨.builtin b,args,tys⟩ ty=resolve ρ' ⟨.builtin b,args,tys⟩ ty:=jx8 λy hy=>h y (by simp[Op.operands,Call.operands];exact hy)
  simp only[Oper.about,this]
theorem jc9{a:Act}{d:Tmp}{v:Value}{y:Operand}(h:y≠.tmp d):(a.put (some d) v).eval y=a.eval y:=by
 cases y with
 |tmp t =>
  have:d≠t:=λe=>h (by rw[e])
  simp[Act.put,Act.eval,c7,f5,this]
 |const v=>rfl
 |global g=>rfl
 |func f=>rfl
theorem qs8(a:Act){d:Tmp}{e:Option Tmp}(h:e≠some d)(v u:Value):(a.put (some d) v).put e u=(a.put e u).put (some d) v:=by
 cases e with
 |none=>rfl
 |some t =>
  have:t≠d:=λe=>h (by rw[e])
  simp only[Act.put];congr 1;exact Array.setIfInBounds_comm _ _ (λe=>this e.symm)
structure Idle(ops:Array Oper)(o0:Oper)(d:Tmp)(x:Operand):Prop where
 at0:ops[0]? = some o0
 op:o0.op = .move x
 dst:o0.dst=some d
 guard:o0.guard=none
 after:o0.after.toList=[]
 rest:∀ (j:Nat) (o:Oper),j≠0->ops[j]? = some o->o.guard=none/\wo o.op=true/\o.dst≠some d/\(∀ t,o.dst=some t->x≠.tmp t)/\(.tmp d ∈ o.op.operands->∃ e ∈ o.after,Region.binds .any e=true/\e.on=0)
theorem zm2{o:Oper}{y:Nat->Option Bool}(h:o.guard=none):Region.wanted o y=true:=by
 unfold Region.wanted;rw[h]
variable{ops ops':Array Oper}{o0:Oper}{d:Tmp}{x:Operand}
theorem vn[Dr]{i:Nat}{o:Oper}(ho:ops[i]? = some o)(hg:o.guard=none){K:Act->World->Prop}{a:Act}:wpOpIn F n P ops Q i K a w=o.wpIn F n P a w K Q:=by
 unfold wpOpIn;simp only[ho,zm2 hg,if_true]
theorem xc[Dr](l:Array Bool)(j i:Nat)(hj:j<l.size):(l.setIfInBounds j true).getD i false=(l.getD i false || decide (i=j)):=qe8 l j i hj
theorem yk{ops:Array Oper}{listed:Array Bool}(hl:listed.size=ops.size){i:Nat}:i ∈ Region.ready .any ops listed↔∃ o,ops[i]? = some o/\listed.getD i false=false/\(∀ e ∈ o.after,Region.binds .any e=true->listed.getD e.on false=true):=by
 rw[Go.mem_ready];constructor
 ·rintro ⟨h1,o,ho,h2⟩
  have hi:i<ops.size:=(gq.1 ho).1;refine⟨o,ho,?_,h2⟩;have:i<listed.size:=om
  simp [c7,this] at h1 ⊢;exact h1
 ·rintro ⟨o,ho,h1,h2⟩
  have hi:i<ops.size:=(gq.1 ho).1;refine⟨?_,o,ho,h2⟩;have:i<listed.size:=om
  simp [c7,this] at h1 ⊢;exact h1
theorem xp6[Dr](hI:Idle ops o0 d x)(hq:∀ e a w,Q' e a w->e = .normal)(hqq:∀ a w,Q' .normal a w->Q .normal a w):∀ (fuel:Nat) (listed:Array Bool) (a:Act) (w:World),listed.size=ops.size->listed.getD 0 false=false ->
 wpAnyIn F n P .any ops Q' fuel (listed.setIfInBounds 0 true) (a.put (some d) (a.eval x)) w->wpAnyIn F n P .any ops Q (fuel+1) listed a w:=by
 have h0s:0<ops.size:=(gq.1 hI.at0).1;have first:∀ (listed:Array Bool) (a:Act) (w:World) (K:Act->World->Prop),K (a.put (some d) (a.eval x)) w->wpOpIn F n P ops Q 0 K a w:=by
  intro listed a w K hK;rw[vn hI.at0 hI.guard];unfold Oper.wpIn;have hnd:∀ c,o0.op≠.defer c:=λc e=>by rw [hI.op] at e;cases e
  rw[Oper.semAt_eq _ _ _ hnd];refine⟨λf hf=>?_,?_⟩
  ·simp [Oper.about,hI.op] at hf
  ·simp only[execOp,hI.op];show K (a.put o0.dst (a.eval x)) w;rw[hI.dst];exact hK
 have zero:∀ listed:Array Bool,listed.size=ops.size->listed.getD 0 false=false->0 ∈ Region.ready .any ops listed:=λlisted hl h0=>(yk hl).2 ⟨o0,hI.at0,h0,λe he=>by
  have:e ∈ o0.after.toList:=fv.1 he;rw [hI.after] at this;cases this⟩
 have more:∀ listed:Array Bool,listed.size=ops.size->∀ i,i≠0->i ∈ Region.ready .any ops listed->i ∈ Region.ready .any ops (listed.setIfInBounds 0 true):=λlisted hl i hi h=>by
  obtain⟨o,ho,h1,h2⟩:=(yk hl).1 h;refine(yk (by simp[hl])).2 ⟨o,ho,?_,λe he hb=>?_⟩
  ·rw[xc _ _ _ om,h1];simp[hi]
  ·rw[xc _ _ _ om,h2 e he hb]
   rfl
 intro fuel;induction fuel with
 |zero =>
  intro listed a w hl h0 h;refine⟨λhe=>?_,λi hi=>?_⟩
  ·have:=zero listed hl h0;rw [he] at this;cases this
  ·by_cases hi0:i=0
   ·subst hi0;exact first listed a w _ ⟨h.1,hqq _ _ h.2⟩
   ·have:=more listed hl i hi0 hi;rw [h.1] at this;cases this
 |succ fuel ih =>
  intro listed a w hl h0 h;refine⟨λhe=>?_,λi hi=>?_⟩
  ·have:=zero listed hl h0;rw [he] at this;cases this
  ·by_cases hi0:i=0
   ·subst hi0;refine first listed a w _ ?_;have:∀ (fuel:Nat) (listed:Array Bool) (a:Act) (w:World),wpAnyIn F n P .any ops Q' fuel listed a w->wpAnyIn F n P .any ops Q fuel listed a w:=by
     intro fuel;induction fuel with
     |zero=>exact λl a w h=>⟨h.1,hqq _ _ h.2⟩
     |succ fuel ih =>
      intro l a w h;refine⟨λhe=>hqq _ _ (h.1 he),λi hi=>?_⟩;have hh:=h.2 i hi;cases ho:ops[i]? with
      |none=>unfold wpOpIn at hh ⊢;rw [ho] at hh ⊢;exact ih _ _ _ hh
      |some o =>
       have hg:o.guard=none:=by
        by_cases e:i=0
        ·subst e;rw [hI.at0] at ho;obtain rfl:=oq ho;exact hI.guard
        ·exact(hI.rest i o e ho).1
       rw [vn ho hg] at hh ⊢;exact qk9 rfl rfl hq (λv w' h=>ih _ _ _ h) (λd w' h=>ih _ _ _ h) hh
    exact this _ _ _ _ h
   ·have hm:=more listed hl i hi0 hi;obtain⟨o,ho,h1,h2⟩:=(yk hl).1 hi;obtain⟨r1,r2,r3,r4,r5⟩:=hI.rest i o hi0 ho;have hil:i<listed.size:=by have:=(gq.1 ho).1;omega
    have hny:∀ y ∈ o.op.operands,y≠.tmp d:=λy hy e=>by
     subst e;obtain⟨e,he,hb,hon⟩:=r5 hy;have:=h2 e he hb;rw [hon,h0] at this;cases this
    have hev:∀ y ∈ o.op.operands,(a.put (some d) (a.eval x)).eval y=a.eval y:=λy hy=>jc9 (hny y hy)
    have hh:=h.2 i hm;rw [vn ho r1] at hh ⊢;have hcomm:(listed.setIfInBounds 0 true).setIfInBounds i true=(listed.setIfInBounds i true).setIfInBounds 0 true:=Array.setIfInBounds_comm _ _ (λe=>hi0 e.symm);have hset0:(listed.setIfInBounds i true).getD 0 false=false:=by
     rw[xc _ _ _ hil,h0];simp[Ne.symm hi0]
    have hex:∀ (b:Act) (v:Value),(b.put o.dst v).eval x=b.eval x:=λb v=>by
     cases hd:o.dst with
     |none=>rfl
     |some t=>exact jc9 (r4 t hd)
    refine qk9 (zz1 r2 hev) (yc5 r2 hev) hq (λv w' hk=>?_) (λdd w' hk=>?_) hh
    ·refine ih _ _ _ (by simp[hl]) hset0 ?_;rw [hcomm] at hk;rw[hex,<-qs8 a r3];exact hk
    ·refine ih _ _ _ (by simp[hl]) hset0 ?_;rw [hcomm] at hk;rw[hex,<-qs8 _ r3];exact hk
theorem xp7[Dr](hI:Idle ops o0 d x)(hsz:ops'.size=ops.size)(hrest:∀ (j:Nat) (o:Oper),j≠0->ops[j]? = some o->ops'[j]? = some (addE o))(hq:∀ e a w,Q' e a w->e = .normal)(hqq:∀ a w,Q' .normal a w->Q .normal a w) :
 ∀ (fuel:Nat) (listed:Array Bool) (a:Act) (w:World),listed.size=ops.size->listed.getD 0 false=true->wpAnyIn F n P .any ops' Q' fuel listed a w->wpAnyIn F n P .any ops Q fuel listed a w:=by
 have same:∀ listed:Array Bool,listed.size=ops.size->listed.getD 0 false=true->∀ i,i ∈ Region.ready .any ops listed↔i ∈ Region.ready .any ops' listed:=by
  intro listed hl h0 i;by_cases hi:i=0
  ·subst hi;constructor
   ·intro h;obtain⟨o,ho,h1,_⟩:=(yk hl).1 h;rw [h0] at h1;cases h1
   ·intro h;obtain⟨o,ho,h1,_⟩:=(yk om).1 h;rw [h0] at h1;cases h1
  ·constructor
   ·intro h;obtain⟨o,ho,h1,h2⟩:=(yk hl).1 h;refine(yk om).2 ⟨addE o,hrest i o hi ho,h1,λe he hb=>?_⟩;have he:e ∈ (⟨0,.data⟩ :: o.after.toList:List Edge):=fv.1 he;rcases pz.1 he with rfl|he
    ·exact h0
    ·exact h2 e (fv.2 he) hb
   ·intro h;obtain⟨o',ho',h1,h2⟩:=(yk om).1 h;have hil:i<ops.size:=by have:=(gq.1 ho').1;omega
    have ho:ops[i]? = some ops[i]:=mv hil;rw [hrest i _ hi ho] at ho';obtain rfl:=oq ho';exact(yk hl).2 ⟨_,ho,h1,λe he hb=>h2 e (fv.2 (gt _ (fv.1 he))) hb⟩
 intro fuel;induction fuel with
 |zero =>
  intro listed a w hl h0 h;refine⟨ap.2 λi hi=>?_,hqq _ _ h.2⟩;have:=(same listed hl h0 i).1 hi;rw [h.1] at this;cases this
 |succ fuel ih =>
  intro listed a w hl h0 h;refine⟨λhe=>hqq _ _ (h.1 (ap.2 λi hi=>?_)),λi hi=>?_⟩
  ·have:=(same listed hl h0 i).2 hi;rw [he] at this;cases this
  ·obtain⟨o,ho,h1,h2⟩:=(yk hl).1 hi;have hi0:i≠0:=λe=>by subst e;rw [h0] at h1;cases h1
   have hil:i<listed.size:=by have:=(gq.1 ho).1;omega
   have hg:=(hI.rest i o hi0 ho).1;have hh:=h.2 i ((same listed hl h0 i).1 hi);rw [vn (hrest i o hi0 ho) (show (addE o).guard=none from hg)] at hh;rw[vn ho hg];have hset0:(listed.setIfInBounds i true).getD 0 false=true:=by
    rw[xc _ _ _ hil,h0];rfl
   exact qk9 (o:=addE o) rfl rfl hq (λv w' hk=>ih _ _ _ (by simp[hl]) hset0 hk) (λdd w' hk=>ih _ _ _ (by simp[hl]) hset0 hk) hh
end
theorem jm4[Dr]:∀ {l:List Edge},qv7 l=true->∃ e ∈ l,Region.binds .any e=true/\e.on=0
 |[],h=>by cases h
 |e :: l,h=>by
  simp only [qv7] at h;split at h
  ·rename_i hb;split at h
   ·rename_i h0;exact⟨e,l6 ..,hb,h0⟩
   ·obtain⟨e',h1,h2⟩:=jm4 h;exact⟨e',gt _ h1,h2⟩
  ·obtain⟨e',h1,h2⟩:=jm4 h;exact⟨e',gt _ h1,h2⟩
theorem jk0[Dr]{d:Nat}{x:Operand}:∀ {l:List Oper},qt2 d (xg [x]) l=true->∀ o ∈ l,o.guard=none/\wo o.op=true/\o.dst≠some d/\(∀ t,o.dst=some t->x≠.tmp t)/\(.tmp d ∈ o.op.operands->∃ e ∈ o.after,Region.binds .any e=true/\e.on=0)
 |[],_,o,ho=>by cases ho
 |a :: l,h,o,ho=>by
  simp only [qt2] at h;split at h
  ·cases h
  ·rename_i hg;split at h
   ·rename_i h1 h2;have hoff:∀ t,a.dst=some t->t ∉ (d :: xg [x]):=λt ht hm=>by
     rw [ht] at h2;simp only [qg2] at h2;split at h2
     ·cases h2
     ·rename_i hn;exact qt0 hn hm
    have base:a.guard=none/\wo a.op=true/\a.dst≠some d/\(∀ t,a.dst=some t->x≠.tmp t):=by
     refine⟨hg,h1,λe=>hoff d e (l6 ..),λt ht e=>hoff t ht ?_⟩;rw[e];exact gt _ (l6 ..)
    split at h
    ·rename_i hm;rcases pz.1 ho with rfl|ho
     ·exact⟨base.1,base.2.1,base.2.2.1,base.2.2.2,λhd=>absurd (qz4 (fv.1 hd)) (qt0 hm)⟩
     ·exact jk0 h o ho
    ·split at h
     ·rename_i hz;rcases pz.1 ho with rfl|ho
      ·exact⟨base.1,base.2.1,base.2.2.1,base.2.2.2,λ_=>by
        obtain⟨e,he,h3⟩:=jm4 hz;exact⟨e,fv.2 he,h3⟩⟩
      ·exact jk0 h o ho
     ·cases h
   ·cases h
theorem ys9[Dr]:∀ (l:List Oper) (j:Nat) (o:Oper),l[j]? = some o->(mapE l)[j]? = some (addE o)
 |a :: l,0,o,h=>by simp at h;subst h;rfl
 |a :: l,j+1,o,h=>by simpa[mapE] using ys9 l j o (by simpa using h)
 |[],j,o,h=>by simp at h
theorem ys8[Dr]:∀ l:List Oper,(mapE l).length=l.length
 |[]=>rfl
 |_ :: l=>congrArg (· + 1) (ys8 l)
theorem xm3[Dr]{ops:Array Oper}{l:List Oper}(h:qw9 ops.toList=some l):∃ o0 d x,Idle ops o0 d x/\l.length=ops.size/\l[0]? = some o0/\∀ (j:Nat) (o:Oper),j≠0->ops[j]? = some o->l[j]? = some (addE o):=by
 obtain⟨os⟩:=ops;have h:qw9 os=some l:=h;cases os with
 |nil=>cases h
 |cons o r =>
  simp only [qw9] at h;split at h
  ·rename_i x d h1 h2 h3 h4;split at h
   ·rename_i h5;split at h
    ·cases h;refine⟨o,d,x,⟨sm,h1,h2,h3,h4,λj o' hj ho'=>?_⟩,by simp[ys8],rfl,λj o' hj ho'=>?_⟩
     ·cases j with
      |zero=>exact absurd rfl hj
      |succ j =>
       have:r[j]? = some o':=by simpa using ho'
       exact jk0 h5 o' (ov this)
     ·cases j with
      |zero=>exact absurd rfl hj
      |succ j =>
       have:r[j]? = some o':=by simpa using ho'
       simpa using ys9 r j o' this
    ·cases h
   ·cases h
  ·cases h
section
variable{P:Program}{TT:Nat->Option TI}{B:Bs}{w:World}{β:Env}{fp:Nat->Nat->Prop}{ts:List SV}{ks:List KB}{a:Act}{rd:Option Nat}{n:Nat}{Q:Exit->Act->World->Prop}
theorem zn2[Dr](hTT:TTok P TT)(hmix:P.follows .mixedOrders=true){ops:Array Oper}{l:List Oper}(hil:qw9 ops.toList=some l){hs:List Bool}(hdr:vg l hs=true){id:Nat}{ts':List SV}{ks':List KB}(h:Tr P TT l l ts ks ts' ks' hs)(hS:Sat B w β fp ts ks a)
 (hQ:∀ a' w' β' fp',Sat B w' β' fp' ts' ks' a'->Q .normal a' w'):(Code.region id ops true).wpIn (qm rd) n P Q a w:=by
 obtain⟨o0,d,x,hI,hlen,hl0,hlr⟩:=xm3 hil;obtain⟨S,T,κ,e1,e2,e3,e4,e5,hw⟩:=h.places;have hdr:=jn1 hdr;have h0s:0<ops.size:=(gq.1 hI.at0).1;refine wpIn_region_any hmix ?_;have hS0:Sat B { w with drawn:=w.drawn+1 } β fp (T 0) (κ 0) a:=by
  rw[e1,e2];exact hS.on (hS.went.mem.quiet ⟨rfl,rfl,rfl,pu _,λ_ _ _=>rfl,λ_=>by first|exact pu _|exact Nat.le_succ _⟩)
 obtain⟨h',hInv⟩:=Inv.start hw hdr (m:=0) (pv _) (listed:=Array.replicate ops.size false) (by simp[hlen]) (λi hi=>by
  simp [<-hlen] at hi ⊢;simp [hi]) hS0
 have hany:=jn3 (rd:=rd) (n:=n) (Q:=λe a w=>e = .normal/\Q .normal a w) hTT hw hdr (λa' w' β' fp' hS'=>⟨rfl,hQ a' w' β' fp' (by rw[<-e3,<-e4];exact hS')⟩) ops.size _ a _ 0 h' (List.range ops.size) hInv (λi hi _=>by simpa[<-hlen] using hi) sm;obtain⟨k,hk⟩:∃ k,ops.size=k+1:=⟨ops.size - 1,om⟩;have hq:∀ (e:Exit) (a:Act) (w:World),(e = .normal/\Q .normal a w)->e = .normal:=λe a w h=>h.1
 have hz:0 ∈ Region.ready .any l.toArray (Array.replicate ops.size false):=(yk (by simp[hlen])).2 ⟨o0,by simpa using hl0,by simp[c7,h0s],λe he=>by
  have:e ∈ o0.after.toList:=fv.1 he;rw [hI.after] at this;cases this⟩
 rw [show ops.size=k+1 from hk] at hany ⊢;rw [hk] at hz;have h1:=hany.2 0 hz;rw [vn (by simpa using hl0) hI.guard] at h1;have h2:wpAnyIn (qm rd) n P .any l.toArray (λe a w=>e = .normal/\Q .normal a w) k ((Array.replicate (k+1) false).setIfInBounds 0 true) (a.put (some d) (a.eval x)) { w with drawn:=w.drawn+1 }:=by
  have hnd:∀ c,o0.op≠.defer c:=λc e=>by rw [hI.op] at e;cases e
  unfold Oper.wpIn at h1;rw [Oper.semAt_eq _ _ _ hnd] at h1;have h1:=h1.2;simp only [execOp,hI.op] at h1;have h1:wpAnyIn (qm rd) n P .any l.toArray (λe a w=>e = .normal/\Q .normal a w) k ((Array.replicate (k+1) false).setIfInBounds 0 true) (a.put o0.dst (a.eval x)) { w with drawn:=w.drawn+1 }:=h1;rw [hI.dst] at h1;exact h1
 refine xp6 (Q':=λe a w=>e = .normal/\Q .normal a w) hI hq (λa w h=>h.2) k _ a _ (by simp[hk]) (by simp[c7]) ?_;refine xp7 (ops':=l.toArray) hI (by simp[hlen]) (λj o hj ho=>by simpa using hlr j o hj ho) hq (λa w h=>⟨rfl,h.2⟩) k _ _ _ (by simp[hk]) (by
  rw[xc _ _ _ sm];simp) h2
end
section
variable{X:Nat->Prop}{w:World}{β:Env}{fp:Nat->Nat->Prop}{ks:List KB}
theorem Mem.csRow[Dr](h:Mem X w β fp ks){i:Nat}{e:TypeId}{L:Loc}(hi:ks[i]? = some (.cells e []))(hL0:β i=some L)(sz:Nat)(f:Nat->List DV) :
 ∃ fp',Went X w β fp w (upd β ks.length (some ⟨L.b,0,0,sz,false⟩)) fp' (ks.set i .gone++[.row e sz 0 .no f]):=by
 have hil:i<ks.length:=(p6.1 hi).1;have hn:=h.kl ks.length (pu _);obtain⟨β',hβ'⟩:∃ β':Env,β'=upd β ks.length (some ⟨L.b,0,0,sz,false⟩):=⟨_,rfl⟩;rw[<-hβ'];obtain⟨fp',hfp'⟩:∃ fp':Nat->Nat->Prop,fp'=λp b=>(p=ks.length/\fp i b)\/(p≠i/\p≠ks.length/\fp p b):=⟨_,rfl⟩
 have bs:β' ks.length=some ⟨L.b,0,0,sz,false⟩:=by rw[hβ'];exact yr _ _ _
 have bo:∀ p,p≠ks.length->β' p=β p:=λp hp=>by rw[hβ'];exact x4 _ _ hp
 have hext:Ext β β':=λp L hL=>by
  have:p≠ks.length:=λe=>by rw [e,hn] at hL;cases hL
  rw[bo p this];exact hL
 have fs:fp' ks.length=fp i:=by
  rw[hfp'];funext b;apply propext;constructor
  ·rintro (⟨_,h1⟩|⟨_,h1,_⟩)
   ·exact h1
   ·exact absurd rfl h1
  ·exact λh1=>.inl ⟨rfl,h1⟩
 have fo:∀ p,p≠i->p≠ks.length->fp' p=fp p:=λp h1 h2=>by
  rw[hfp'];funext b;apply propext;constructor
  ·rintro (⟨h3,_⟩|⟨_,_,h3⟩)
   ·exact absurd h3 h2
   ·exact h3
  ·exact λh3=>.inr ⟨h1,h2,h3⟩
 have fi:∀ p b,fp' p b->∃ p0,fp p0 b:=λp b hb=>by
  rw [hfp'] at hb;rcases hb with⟨_,h1⟩|⟨_,_,h1⟩
  ·exact⟨i,h1⟩
  ·exact⟨p,h1⟩
 have hMx:∀ b,Mx X fp' b->Mx X fp b:=λb hb=>hb.imp id (λ⟨p,hp⟩=>fi p b hp)
 refine⟨fp',⟨⟨⟨h.xa,λp b hb=>?_,λp p' b hb hb'=>?_,λp b hb=>?_,λp b hb=>?_,λp L1 k hk hne hL=>?_⟩,λp hp=>?_,h.vo.sub fi⟩,Step.refl _ _,hext,λp b hb=>.inl (fi p b hb)⟩⟩
 ·obtain⟨p0,h0⟩:=fi p b hb;exact h.xb p0 b h0
 ·rw [hfp'] at hb hb';rcases hb with⟨rfl,h1⟩|⟨h1,h2,h3⟩
  ·rcases hb' with⟨h4,_⟩|⟨h4,_,h5⟩
   ·exact h4.symm
   ·exact absurd (h.dis _ _ _ h1 h5).symm h4
  ·rcases hb' with⟨_,h4⟩|⟨_,_,h5⟩
   ·exact absurd (h.dis _ _ _ h3 h4) h1
   ·exact h.dis _ _ _ h3 h5
 ·obtain⟨p0,h0⟩:=fi p b hb;exact h.kw p0 b h0
 ·rw [hfp'] at hb;rcases hb with⟨rfl,h1⟩|⟨_,h2,h3⟩
  ·exact⟨_,bs⟩
  ·rw[bo p h2];exact h.kn p b h3
 ·by_cases hp:p=ks.length
  ·subst hp;rw [m7 sm] at hk;simp at hk;subst hk;rw [bs] at hL;cases hL;rw[fs];have hkb:=h.kb i L _ hi sm hL0;cases hkb with
   |cells _ _ vs h0 h1 h3 h4 h5 =>
    have hz:vs.size=0:=h3.symm;exact .row e sz 0 .no f vs (0,0) h0 rfl rfl rfl (λe=>by cases e) h1 (λo ho=>by omega) (by simpa using hz) (pu _) (λk hk=>absurd hk (fw _)) (λk j d u hk=>absurd hk (fw _)) h5
  ·have hpl:p<ks.length:=by
    have:=(p6.1 hk).1;simp at this;omega
   rw [mn (by simpa using hpl),m5] at hk;split at hk
   ·cases hk;exact absurd rfl hne
   ·rename_i hpi;rw [bo p hp] at hL;rw[fo p (λe=>hpi e.symm) hp];exact(h.kb p L1 k hk hne hL).mono (Step.refl _ _) (λb _=>hMx b) hext (λb _=>rfl)
 ·have:ks.length+1<=p:=by simpa using hp
  rw[bo p om];exact h.kl p om
end
end
section
def QS{α:Type}(s:Sem α):Prop:=∀ (P:Program) (w:World) (x:α) (w':World),s.run P w = .ok x w'->w'=w
theorem QS.pure{α:Type}(a:α):QS (pure a:Sem α):=λP w x w' h=>by simp at h;exact h.2.symm
theorem QS.halt{α:Type}(a:Halt):QS (.halt a:Sem α):=λP w x w' h=>by simp at h
theorem QS.bind{α β:Type}{s:Sem α}{f:α->Sem β}(h1:QS s)(h2:∀ a,QS (f a)):QS (s >>= f):=λP w x w' h=>by
 rw [p8] at h;cases hr:s.run P w with
 |ok a w1 =>
  rw [hr] at h;have:=h1 _ _ _ _ hr;subst this;exact h2 a _ _ _ _ h
 |halt a w1=>rw [hr] at h;cases h
theorem QS.stuck{α:Type}(s:String):QS (stuck s:Sem α):=QS.halt _
theorem QS.unsup{α:Type}(s:Unsupported):QS (unsupported s:Sem α):=QS.halt _
theorem QS.load(a:Addr)(m:Mode):QS (load a m):=λP w x w' h=>by
 simp only [Go.load,Sem.run] at h;split at h
 ·cases h;rfl
 ·split at h
  ·cases h;rfl
  ·cases h
theorem QS.shape(r:Nat):QS (shape r):=λP w x w' h=>by simp only [Go.shape,Sem.run] at h;cases h;rfl
theorem QS.getObj(r:Nat):QS (getObj r):=λP w x w' h=>by
 simp only [Go.getObj,Sem.run] at h;split at h
 ·cases h
 ·cases h;rfl
 ·cases h
theorem QS.program:QS program:=λP w x w' h=>by simp only [Go.program,Sem.run] at h;cases h;rfl
theorem QS.typeInfo(t:TypeId):QS (typeInfo t):=QS.bind QS.program λp=>by
 split
 ·exact QS.pure _
 ·exact QS.stuck _
theorem QS.underlying(t:TypeId):QS (underlying t):=QS.bind QS.program λp=>by
 split
 ·exact QS.pure _
 ·exact QS.stuck _
theorem QS.sizeOf(t:TypeId):QS (sizeOf t):=QS.bind (QS.typeInfo t) λ_=>QS.pure _
theorem QS.isAgg(t:TypeId):QS (isAgg t):=QS.bind (QS.underlying t) λp=>by
 split <;> exact QS.pure _
theorem QS.loadCells(a:Addr):∀ (n i:Nat) (acc:Array Value),QS (loadCellsFrom a i n acc)
 |0,_,_=>QS.pure _
 |n+1,i,_=>QS.bind (QS.load _ _) λ_=>QS.loadCells a n (i+1) _
theorem QS.loadVar(t:TypeId)(a:Addr):QS (loadVar t a):=QS.bind (QS.isAgg t) λb=>by
 split
 ·refine QS.bind (s:=Go.sizeOf t) (QS.sizeOf t) λn=>?_
  exact QS.bind (s:=Go.loadCells a n) (QS.loadCells a n 0 _) λ_=>QS.pure _
 ·exact QS.load _ _
theorem QS.sureAddr(v:Value):QS (Instr.sureAddr v):=by
 unfold Instr.sureAddr;split
 ·exact QS.pure _
 ·exact QS.stuck _
theorem QS.noView(a:Addr):QS (noView a):=by
 unfold Go.noView;refine QS.bind ?_ λv=>?_
 ·unfold Go.viewAt;refine QS.bind (QS.shape _) λv=>?_
  split
  ·exact QS.pure _
  ·refine QS.bind (QS.getObj _) λv=>?_
   split <;> exact QS.pure _
 ·split
  ·exact QS.unsup _
  ·exact QS.pure _
theorem QS.byteOf(a:Addr):QS (byteOf a):=by
 unfold Go.byteOf;split
 ·exact QS.pure _
 ·refine QS.bind QS.program λp=>QS.bind (QS.noView _) λ_=>QS.bind (QS.shape _) λx=>?_
  split
  ·dsimp only
   split
   ·exact QS.pure _
   ·split
    ·exact QS.pure _
    ·exact QS.stuck _
  ·exact QS.stuck _
theorem QS.fieldPlace(a:Addr)(f:Field):QS (fieldPlace a f):=by
 unfold Go.fieldPlace;refine QS.bind (QS.sizeOf _) λn=>?_
 split
 ·unfold Go.partAt;exact QS.bind (QS.byteOf _) λ_=>QS.bind (QS.byteOf _) λ_=>QS.pure _
 ·exact QS.pure _
theorem QS.bounds{α:Type}(k:IntKind)(x y:Int)(c:BoundsCode):QS (boundsPanic k x y c:Sem α):=λP w v w' h=>by
 have np:∀ (x y:Int) (s:Bool) (w1:World),(runtimePanic (.bounds x y s c):Sem α).run P w1≠.ok v w':=λx y s w1 hc=>by
  simp [runtimePanic,goPanic] at hc
 unfold boundsPanic at h
 dsimp only at h
 split at h
 ·rw [p8] at h;generalize (Sem.run P _ w)=r at h;cases r with
  |ok s w1=>exact(np _ _ _ _ h).elim
  |halt x w1=>cases h
 ·rw [p8] at h;simp only [o6,ot] at h;exact(np _ _ _ _ h).elim
theorem QS.fieldAt(s:TypeId)(v:Value)(f:Nat):QS (Instr.fieldAt s v f):=by
 unfold Instr.fieldAt;refine QS.bind (QS.underlying _) λd=>?_
 split
 ·split
  ·exact QS.bind (QS.sureAddr _) λa=>QS.bind (QS.fieldPlace _ _) λ_=>QS.pure _
  ·exact QS.stuck _
 ·exact QS.stuck _
theorem QS.asIntOf(v:Value):QS (asIntOf v):=by
 unfold Go.asIntOf;split
 ·exact QS.pure _
 ·exact QS.unsup _
 ·exact QS.stuck _
theorem QS.indexAt(t:TypeId)(x i:Value):QS (Instr.indexAt t x i):=by
 unfold Instr.indexAt;refine QS.bind (s:=Go.asIntOf i) (QS.asIntOf _) λki=>?_
 dsimp only
 refine QS.bind (s:=Go.underlying t) (QS.underlying _) λd=>?_
 have key:∀ q:Option Addr × Nat × TypeId,QS (match q with
  |(base,len,elem)=>do
   let d <- Go.underlying t
   match base with
    |some a =>
     if 0<=ki.2/\ki.2<(len:Int) then do
      let n <- Go.sizeOf elem
      Pure.pure (Value.pointer (some (a.add (ki.2.toNat * n))))
     else if (decide (len<=1) && match d with
      |TypeDesc.array ..=>true
      | _ => false) = true then unsupported (.noEntry "op/indexAddr.an index out of range at an array of length 0 or 1 (ledger 616)")
     else boundsPanic ki.1 ki.2 len BoundsCode.index
    |none=>boundsPanic ki.1 ki.2 0 BoundsCode.index:Sem Value):=λq=>by
  obtain⟨b,l,e⟩:=q;refine QS.bind (s:=Go.underlying t) (QS.underlying _) λd=>?_
  cases b with
  |none=>exact QS.bounds _ _ _ _
  |some a =>
   dsimp only
   split
   ·exact QS.bind (s:=Go.sizeOf e) (QS.sizeOf _) λ_=>QS.pure _
   ·repeat' split
    all_goals first|exact QS.unsup _|exact QS.bounds _ _ _ _
 split
 ·exact QS.bind (QS.sureAddr _) λ_=>QS.bind (QS.pure _) key
 ·exact QS.bind (QS.pure _) key
 ·exact QS.bind (QS.stuck _) key
def Grown(w w':World):Prop:=∀ (r:Nat) (o:Obj),w.heap[r]? = some o->w'.heap[r]? = some o
theorem Grown.refl(w:World):Grown w w:=λ_ _ h=>h
theorem Grown.trans{a b c:World}(h:Grown a b)(k:Grown b c):Grown a c:=λr o e=>k r o (h r o e)
def GS{α:Type}(s:Sem α):Prop:=∀ (P:Program) (w:World) (x:α) (w':World),s.run P w = .ok x w'->Grown w w'
theorem QS.grow{α:Type}{s:Sem α}(h:QS s):GS s:=λP w x w' hr=>by rw[h P w x w' hr];exact .refl _
theorem GS.bind{α β:Type}{s:Sem α}{f:α->Sem β}(h1:GS s)(h2:∀ a,GS (f a)):GS (s >>= f):=λP w x w' h=>by
 rw [p8] at h;cases hr:s.run P w with
 |ok a w1=>rw [hr] at h;exact (h1 _ _ _ _ hr).trans (h2 a _ _ _ _ h)
 |halt a w1=>rw [hr] at h;cases h
theorem GS.newObj(o:Obj):GS (newObj o):=λP w x w' h=>by
 simp only [Go.newObj,Sem.run] at h;cases h;intro r b hb;show(w.heap.push o)[r]? = some b;have hr:r<w.heap.size:=(gq.1 hb).1;rw[s5 hr,<-hb,mv hr]
theorem GS.newRow(t:TypeId)(cs:Array Value):GS (newRow t cs):=GS.bind (GS.newObj _) λ_=>(QS.pure _).grow
theorem GS.newVar(t:TypeId)(v:Value):GS (newVar t v):=GS.newRow _ _
theorem QS.zeroValue(t:TypeId):QS (zeroValue t):=QS.bind (QS.typeInfo t) λ_=>by
 split
 ·exact QS.pure _
 ·exact QS.unsup _
theorem GS.alloc(t:TypeId):GS (Instr.alloc t true (.tuple #[])):=by
 unfold Instr.alloc;exact GS.bind (QS.zeroValue _).grow λ_=>GS.bind (GS.newVar _ _) λ_=>(QS.pure _).grow
theorem GS.buildSlice(t:TypeId)(n:Nat)(ps:Array (Nat × Value)):GS (Instr.buildSlice t n ps):=by
 have key:∀ (m:Nat) (e:TypeId) (zero:Array Value),GS (match Instr.fill (λi=>some (i * m,m)) ((Array.range (n * m)).map (zero[· % zero.size]!)) ps.toList with
  |some cells=>(do pure (.slice (some (<- Go.newRow e cells)) n n):Sem Value)
  | _ => stuck "buildSlice: a part of the wrong size") := fun m e zero => by
  split
  ·exact GS.bind (GS.newRow _ _) λ_=>(QS.pure _).grow
  ·exact(QS.stuck _).grow
 have tail:∀ (m:Nat) (e:TypeId),GS (do
  let zero <- if n * m=0 then Pure.pure #[] else do Pure.pure (<- Go.zeroValue e).cells
  match Instr.fill (λi=>some (i * m,m)) ((Array.range (n * m)).map (zero[· % zero.size]!)) ps.toList with
  |some cells=>(do pure (.slice (some (<- Go.newRow e cells)) n n):Sem Value)
  | _ => stuck "buildSlice: a part of the wrong size") := fun m e => by
  dsimp only
  split
  ·exact GS.bind (QS.pure _).grow λ_=>key _ _ _
  ·exact GS.bind (QS.zeroValue _).grow λ_=>GS.bind (QS.pure _).grow λ_=>key _ _ _
 unfold Instr.buildSlice;refine GS.bind (s:=Go.underlying t) (QS.underlying _).grow λd=>?_
 split
 ·refine GS.bind (s:=Go.sizeOf _) (QS.sizeOf _).grow λm=>?_
  have ht:=tail m
  dsimp only
  split
  ·exact GS.bind (QS.unsup _).grow λ_=>ht _
  ·exact ht _
 ·exact(QS.stuck _).grow
theorem QS.numberAt(r:Nat):QS (numberAt r):=by
 unfold Go.numberAt;refine QS.bind (s:=Go.shape r) (QS.shape _) λx=>?_
 split
 ·exact QS.pure _
 ·refine QS.bind (s:=Go.getObj r) (QS.getObj _) λo=>?_
  split <;> exact QS.pure _
theorem QS.viewAt(r:Nat):QS (viewAt r):=by
 unfold Go.viewAt;refine QS.bind (QS.shape _) λv=>?_
 split
 ·exact QS.pure _
 ·refine QS.bind (QS.getObj _) λv=>?_
  split <;> exact QS.pure _
theorem QS.asInt(v:Value):QS (asInt v):=QS.bind (QS.asIntOf v) λ_=>QS.pure _
theorem QS.unsafeAdd(x y:Value)(t:TypeId):QS (Builtin.unsafeAdd_ #[] t #[x,y]):=by
 have rest:∀ (a:Addr) (n:Int),QS (do
  match <- Go.shape a.block with
  |some (e,cells)=>do
   let p <- Go.program
   match cellAtBytes p p.depth e (cells / p.cellsOf e) a.off n with
    |some off=>Pure.pure (Value.pointer (some { a with off }))
    | none => unsupported (.unsafePointer "Add")
  | _ => unsupported (.unsafePointer "Add") : Sem Value) := fun a n => by
  refine QS.bind (QS.shape _) λs=>?_
  split
  ·refine QS.bind QS.program λp=>?_
   split
   ·exact QS.pure _
   ·exact QS.unsup _
  ·exact QS.unsup _
 unfold Builtin.unsafeAdd_;cases x with
 |pointer ptr =>
  refine QS.bind (s:=Go.asInt _) (QS.asInt _) λn=>?_
  cases ptr with
  |none =>
   dsimp only
   split
   ·exact QS.unsup _
   ·split
    ·exact QS.bind (QS.unsup _) λ_=>QS.unsup _
    ·exact QS.unsup _
  |some a =>
   dsimp only
   split
   ·refine QS.bind (QS.viewAt _) λv=>?_
    split
    ·exact QS.bind (QS.unsup _) λ_=>QS.pure _
    ·exact QS.pure _
   ·split
    ·exact QS.bind (QS.unsup _) λ_=>rest _ _
    ·exact rest _ _
 |_=>exact QS.stuck _
theorem GS.asNumber(a:Addr)(l:Bool):GS (asNumber a l):=GS.bind (GS.newObj _) λ_=>(QS.pure _).grow
theorem QS.behindNumber(n:Addr):QS (behindNumber n):=QS.bind (QS.numberAt _) λ_=>QS.pure _
theorem GS.movedNumber(t:TypeId)(x y:Value):GS (movedNumber t x y):=by
 have tail:∀ n:Addr,GS (do
  let q <- Go.behindNumber n
  match <- Builtin.unsafeAdd_ #[] t #[.pointer (some q.1),y] with
   | .pointer (some b)=>Go.asNumber b q.2
   |v=>Pure.pure v:Sem Value):=λn=>by
  refine GS.bind (QS.behindNumber _).grow λq=>?_
  refine GS.bind (QS.unsafeAdd _ _ _).grow λv=>?_
  split
  ·exact GS.asNumber _ _
  ·exact(QS.pure _).grow
 unfold Go.movedNumber;refine GS.bind (s:=Go.underlying t) (QS.underlying _).grow λd=>?_
 dsimp only
 have rest:GS (match x with
  | .pointer (some n)=>(do
   let q <- Go.behindNumber n
   match <- Builtin.unsafeAdd_ #[] t #[.pointer (some q.1),y] with
    | .pointer (some b)=>Go.asNumber b q.2
    |v=>Pure.pure v:Sem Value)
  |_=>Builtin.unsafeAdd_ #[] t #[x,y]):=by
  split
  ·exact tail _
  ·exact(QS.unsafeAdd _ _ _).grow
 rcases x with _|_|_|_|_|⟨_|n⟩
 all_goals
  dsimp only at rest ⊢
  split
  ·exact GS.bind (QS.unsup _).grow λ_=>rest
  ·exact rest
theorem GS.movedPointer(t:TypeId)(x y:Value):GS (movedPointer t x y):=by
 unfold Go.movedPointer
 dsimp only
 split
 ·refine GS.bind (QS.numberAt _).grow λv=>?_
  split
  ·exact GS.bind (QS.unsup _).grow λ_=>(QS.unsafeAdd _ _ _).grow
  ·exact(QS.unsafeAdd _ _ _).grow
 ·exact(QS.unsafeAdd _ _ _).grow
theorem GS.addInt(t:TypeId)(x:Value)(k:IntKind)(n:Int):GS (binOp .add t x (.int k n)):=by
 cases x with
 |int k' a =>
  unfold binOp
  dsimp only
  split
  ·exact(QS.stuck _).grow
  ·exact(QS.pure _).grow
 |pointer p =>
  unfold binOp
  dsimp only
  refine GS.bind (s:=Go.underlying t) (QS.underlying _).grow λd=>?_
  split
  ·exact GS.movedPointer _ _ _
  ·exact GS.movedNumber _ _ _
 |_=>unfold binOp;first|exact(QS.stuck _).grow|exact(QS.unsup _).grow
theorem GS.subInt(t:TypeId)(x:Value)(k:IntKind)(n:Int):GS (binOp .sub t x (.int k n)):=by
 cases x with
 |int k' a =>
  unfold binOp
  dsimp only
  split
  ·exact(QS.stuck _).grow
  ·exact(QS.pure _).grow
 |pointer p =>
  unfold binOp
  dsimp only
  exact GS.movedNumber _ _ _
 |_=>unfold binOp;first|exact(QS.stuck _).grow|exact(QS.unsup _).grow
theorem GS.value{s:Sem Value}(h:GS s){P:Program}{w:World}{x:Next}{w':World}(hr:(do Pure.pure (Next.value (<- s)):Sem Next).run P w = .ok x w'):(∃ v,x = .value v)/\Grown w w':=by
 rw [p8] at hr;cases hs:s.run P w with
 |ok a w1 =>
  rw [hs] at hr;have:=h _ _ _ _ hs;simp at hr;exact⟨⟨a,hr.1.symm⟩,hr.2 ▸ this⟩
 |halt a w1=>rw [hs] at hr;cases hr
def LkS{α:Type}(s:Sem α):Prop:=∀ (P:Program) (w:World) (x:α) (w1:World),s.run P w = .ok x w1->w1=w/\∀ w',Grown w w'->s.run P w' = .ok x w'
theorem LkS.pure{α:Type}(a:α):LkS (pure a:Sem α):=λP w x w1 h=>by simp at h;exact ⟨h.2.symm,λw' _=>by simp [h.1]⟩
theorem LkS.halt{α:Type}(a:Halt):LkS (.halt a:Sem α):=λP w x w1 h=>by simp at h
theorem LkS.bind{α β:Type}{s:Sem α}{f:α->Sem β}(h1:LkS s)(h2:∀ a,LkS (f a)):LkS (s >>= f):=λP w x w1 h=>by
 rw [p8] at h;cases hr:s.run P w with
 |ok a w2 =>
  rw [hr] at h;obtain⟨rfl,h3⟩:=h1 _ _ _ _ hr;obtain⟨rfl,h4⟩:=h2 a _ _ _ _ h;exact⟨rfl,λw' hg=>by rw[p8,h3 w' hg];exact h4 w' hg⟩
 |halt a w2=>rw [hr] at h;cases h
theorem zs5{P:Program}{w w':World}{b:Addr}{u:TypeId}{k:Addr}{at_:Bool}{r}(h:w.viewLoad P b u k at_ = .ok r)(hg:Grown w w'):w'.viewLoad P b u k at_ = .ok r:=by
 cases hb:w.heap[b.block]? with
 |some o =>
  have:w'.seen P b u k at_=w.seen P b u k at_:=by unfold World.seen;rw[hb,hg _ _ hb]
  unfold World.viewLoad at h ⊢;rw[this];exact h
 |none =>
  have:∀ r,w.seen P b u k at_≠.ok r:=λr hr=>by
   unfold World.seen at hr;rw [hb] at hr;simp only [bind,Except.bind] at hr
   repeat' split at hr
   all_goals cases hr
  unfold World.viewLoad at h;cases hs:w.seen P b u k at_ with
  |ok r=>exact absurd hs (this r)
  |error e=>rw [hs] at h;cases h
theorem LkS.load(a:Addr)(m:Mode):LkS (load a m):=λP w x w1 h=>by
 simp only [Go.load,Sem.run] at h;cases hb:w.heap[a.block]? with
 |none=>simp [World.cell?,World.farLoad,hb] at h
 |some o =>
  have hc:∀ w',Grown w w'->w'.cell? a=w.cell? a:=λw' hg=>by unfold World.cell?;rw[hb,hg _ _ hb]
  cases hx:w.cell? a with
  |some v =>
   rw [hx] at h;cases h;exact⟨rfl,λw' hg=>by simp only[Go.load,Sem.run];rw[hc w' hg,hx]⟩
  |none =>
   rw [hx] at h;dsimp only at h;cases hf:w.farLoad P a (m == .atomic) with
   |error e=>rw [hf] at h;cases h
   |ok r =>
    obtain⟨v,l⟩:=r;rw [hf] at h;cases h;refine⟨rfl,λw' hg=>?_⟩;have hf':w'.farLoad P a (m == .atomic) = .ok (x,l):=by
     unfold World.farLoad at hf ⊢;rw [hb] at hf;rw[hg _ _ hb];cases o <;> first|cases hf|skip
     rename_i b u
     dsimp only at hf ⊢
     cases hv:w.viewLoad P b u a (m == .atomic) with
     |error e=>rw [hv] at hf;cases hf
     |ok r =>
      rw [hv] at hf;cases hf;rw[zs5 hv hg]
    simp only[Go.load,Sem.run];rw[hc w' hg,hx,hf']
theorem LkS.program:LkS program:=λP w x w1 h=>by simp only [Go.program,Sem.run] at h;cases h;exact ⟨rfl,λw' _=>rfl⟩
theorem LkS.typeInfo(t:TypeId):LkS (typeInfo t):=LkS.bind LkS.program λp=>by
 split
 ·exact LkS.pure _
 ·exact LkS.halt _
theorem LkS.underlying(t:TypeId):LkS (underlying t):=LkS.bind LkS.program λp=>by
 split
 ·exact LkS.pure _
 ·exact LkS.halt _
theorem LkS.sizeOf(t:TypeId):LkS (sizeOf t):=LkS.bind (LkS.typeInfo t) λ_=>LkS.pure _
theorem LkS.isAgg(t:TypeId):LkS (isAgg t):=LkS.bind (LkS.underlying t) λp=>by
 split <;> exact LkS.pure _
theorem LkS.loadCells(a:Addr):∀ (n i:Nat) (acc:Array Value),LkS (loadCellsFrom a i n acc)
 |0,_,_=>LkS.pure _
 |n+1,i,_=>LkS.bind (LkS.load _ _) λ_=>LkS.loadCells a n (i+1) _
theorem LkS.loadVar(t:TypeId)(a:Addr):LkS (loadVar t a):=LkS.bind (LkS.isAgg t) λb=>by
 split
 ·refine LkS.bind (s:=Go.sizeOf t) (LkS.sizeOf t) λn=>?_
  exact LkS.bind (s:=Go.loadCells a n) (LkS.loadCells a n 0 _) λ_=>LkS.pure _
 ·exact LkS.load _ _
theorem LkS.sureAddr(v:Value):LkS (Instr.sureAddr v):=by
 unfold Instr.sureAddr;split
 ·exact LkS.pure _
 ·exact LkS.halt _
theorem zu8[Dr]{o:Oper}{ρ:Operand->Value}(hl:ldOp o.op=true){P:Program}{w w':World}{x:Next}(h:(execOp ρ o).run P w = .ok x w)(hg:Grown w w'):(execOp ρ o).run P w' = .ok x w':=by
 cases ho:o.op with
 |load t y =>
  have hm:LkS (execOp ρ o):=by
   simp only[execOp,ho];exact LkS.bind (LkS.bind (LkS.sureAddr _) λ_=>LkS.loadVar _ _) λ_=>LkS.pure _
  exact(hm _ _ _ _ h).2 w' hg
 |_=>rw [ho] at hl;exact (cu hl).elim
theorem QS.value{s:Sem Value}(h:QS s){P:Program}{w:World}{x:Next}{w':World}(hr:(do Pure.pure (Next.value (<- s)):Sem Next).run P w = .ok x w'):(∃ v,x = .value v)/\w'=w:=by
 rw [p8] at hr;cases hs:s.run P w with
 |ok a w1 =>
  rw [hs] at hr;have:=h _ _ _ _ hs;subst this;simp at hr;exact⟨⟨a,hr.1.symm⟩,hr.2.symm⟩
 |halt a w1=>rw [hs] at hr;cases hr
theorem QS.part(t:TypeId)(cs:Array Value)(off:Nat):QS (Go.part t cs off):=by
 unfold Go.part;refine QS.bind (s:=Go.isAgg t) (QS.isAgg _) λb=>?_
 split
 ·exact QS.bind (s:=Go.sizeOf t) (QS.sizeOf _) λ_=>QS.pure _
 ·split
  ·exact QS.pure _
  ·exact QS.stuck _
theorem QS.followBlind:∀ (l:List FieldStep) (t:TypeId) (x:Option Value),QS (Go.followBlind l t x)
 |[],_,_=>QS.pure _
 |s :: l,_,x=>by
  unfold Go.followBlind;refine QS.bind (s:=Go.underlying s.struct) (QS.underlying _) λd=>?_
  split
  ·split
   ·split
    ·exact QS.pure _
    ·exact QS.followBlind l _ _
    ·exact QS.stuck _
    ·exact QS.pure _
    ·exact QS.bind (QS.part _ _ _) λ_=>QS.followBlind l _ _
    ·exact QS.stuck _
    ·exact QS.followBlind l _ _
   ·exact QS.stuck _
  ·exact QS.stuck _
theorem QS.nilAhead:∀ (n:Nat) (t:TypeId) (v:Value) (name:String),QS (Go.nilAhead n t v name)
 |0,_,_,_=>QS.pure _
 |n+1,t,v,name=>by
  unfold Go.nilAhead;refine QS.bind (s:=Go.typeInfo t) (QS.typeInfo _) λd=>?_
  split
  ·refine QS.bind (QS.followBlind _ _ _) λr=>?_
   split
   ·exact QS.pure _
   ·split
    ·exact QS.nilAhead n _ _ _
    ·exact QS.pure _
    ·exact QS.stuck _
    ·exact QS.pure _
    ·exact QS.pure _
    ·refine QS.bind (QS.underlying _) λd=>?_
     split <;> exact QS.pure _
  ·exact QS.stuck _
theorem xa6[Dr]{o:Oper}{ρ:Operand->Value}(hq:yx7 o.op=true){P:Program}{w:World}{x:Next}{w':World}(h:(execOp ρ o).run P w = .ok x w'):(∃ v,x = .value v)/\w'=w:=by
 cases ho:o.op with
 |move y=>simp only [execOp,ho] at h;simp at h;exact ⟨⟨_,h.1.symm⟩,h.2.symm⟩
 |assign y=>simp only [execOp,ho] at h;simp at h;exact ⟨⟨_,h.1.symm⟩,h.2.symm⟩
 |load t y=>simp only [execOp,ho] at h;exact QS.value (QS.bind (QS.sureAddr _) λ_=>QS.loadVar _ _) h
 |fieldAddr s y f=>simp only [execOp,ho] at h;exact QS.value (QS.fieldAt _ _ _) h
 |indexAddr t y i=>simp only [execOp,ho] at h;exact QS.value (QS.indexAt _ _ _) h
 |nilCheck y =>
  simp only [execOp,ho] at h;have np:∀ (w1:World),(runtimePanic .nilDeref:Sem Next).run P w1≠.ok x w':=λw1 hc=>by
   simp [runtimePanic,goPanic] at hc
  split at h
  ·exact(np _ h).elim
  ·exact(np _ h).elim
  ·exact(np _ h).elim
  ·split at h
   ·exact(np _ h).elim
   ·rw [p8] at h;simp only [Go.program,Sem.run,ot] at h;rw [p8] at h;cases hn:(Go.nilAhead (P.types.size+Made.depth) _ _ _).run P w with
    |halt a w1=>rw [hn] at h;cases h
    |ok a w1 =>
     rw [hn] at h;have:=QS.nilAhead _ _ _ _ _ _ _ _ hn;subst this;simp only [ot] at h;split at h
     ·rw [p8] at h;simp [unsupported] at h
     ·simp at h;exact ⟨⟨_,h.1.symm⟩,h.2.symm⟩
   ·simp at h;exact ⟨⟨_,h.1.symm⟩,h.2.symm⟩
  ·simp at h;exact ⟨⟨_,h.1.symm⟩,h.2.symm⟩
 |extract y k =>
  simp only [execOp,ho] at h;refine QS.value (s:=Instr.extract (ρ y) k) ?_ h;unfold Instr.extract;split
  ·split
   ·exact QS.pure _
   ·exact QS.stuck _
  ·exact QS.stuck _
 |_=>rw [ho] at hq;exact (cu hq).elim
theorem xm8[Dr]{o:Oper}{ρ:Operand->Value}(hρ:∀ v,ρ (.const v)=v)(hq:ju1 o.op=true){P:Program}{w:World}{x:Next}{w':World}(h:(execOp ρ o).run P w = .ok x w'):(∃ v,x = .value v)/\Grown w w':=by
 unfold ju1 at hq;split at hq
 ·rename_i t ho;simp only [execOp,ho] at h;exact GS.value (GS.alloc _) h
 ·rename_i t n ps ho;simp only [execOp,ho] at h;exact GS.value (GS.buildSlice _ _ _) h
 ·rename_i t y k m t' ho;simp only [execOp,ho,eqGuard] at h;refine GS.value (s:=binOp .add t (ρ y) (ρ (.const (.int k m)))) ?_ (by simpa using h);rw[hρ];exact GS.addInt _ _ _ _
 ·rename_i t y k m t' ho;simp only [execOp,ho,eqGuard] at h;refine GS.value (s:=binOp .sub t (ρ y) (ρ (.const (.int k m)))) ?_ (by simpa using h);rw[hρ];exact GS.subInt _ _ _ _
 ·cases hq
section
variable{F:Fence}{n:Nat}{P:Program}{Q Q':Exit->Act->World->Prop}{w:World}
theorem zx4[Dr]{o o':Oper}{a a':Act}{K K':Act->World->Prop}(hqo:qw1 o.op=true)(hsem:o.semAt F.round a.eval=o'.semAt F.round a'.eval)(hab:o.about P w a.eval=o'.about P w a'.eval)
 (hq:∀ e a w,Q' e a w->e = .normal) (hput:∀ v w1,Grown w w1->K (a.put o.dst v) w1->K' (a'.put o'.dst v) w1)
 (h:o.wpIn F n P a w K Q'):o'.wpIn F n P a' w K' Q:=by
 have hnd:∀ c,o.op≠.defer c:=λc e=>by rw [e] at hqo;cases hqo
 unfold Oper.wpIn at *;rw[<-hsem,<-hab];refine⟨h.1,?_⟩;have hh:=h.2;have hr:∀ x w',(o.semAt F.round a.eval).run P w = .ok x w'->(∃ v,x = .value v)/\Grown w w':=λx w' e=>by
  rw [Oper.semAt_eq _ _ _ hnd] at e;unfold qw1 at hqo;split at hqo
  ·rename_i hz;obtain⟨h1,h2⟩:=xa6 hz e;exact⟨h1,h2 ▸ Grown.refl _⟩
  ·exact xm8 (λ_=>rfl) hqo e
 generalize (o.semAt F.round a.eval).run P w=r at *;cases r with
 |ok x w' =>
  obtain⟨⟨v,rfl⟩,hg⟩:=hr _ _ rfl;exact hput _ _ hg hh
 |halt x w' =>
  cases x <;> simp only [Oper.uponIn] at hh ⊢ <;> first|exact absurd (hq _ _ _ hh) (by intro h;cases h)|exact hh.elim|exact hh
end
end
section
theorem ju3[Dr]:∀ (l:List Oper) (j:Nat),atO l j=l[j]?
 |[],_=>by simp[atO]
 |_ :: _,0=>rfl
 |_ :: l,j+1=>by rw[List.getElem?_cons_succ,<-ju3 l j];rfl
theorem jr8[Dr]{i:Nat}:∀ {l:List Nat},memB i l=true->i ∈ l
 |[],h=>by cases h
 |a :: l,h=>by
  simp only [memB] at h;split at h
  ·rename_i e;rw[cy e];exact l6 ..
  ·exact gt _ (jr8 h)
section
variable{all:List Oper}
def u7(all:List Oper)(listed:Array Bool):Prop:=∀ (i:Nat) (o:Oper),all[i]? = some o->listed.getD i false=true->∀ e ∈ o.after,Region.binds .any e=true->listed.getD e.on false=true
theorem yc2[Dr]{listed:Array Bool}{f:Nat->List Nat}:∀ (l:List Edge),(∀ e ∈ l,Region.binds .any e=true->listed.getD e.on false=true/\∀ i ∈ f e.on,listed.getD i false=true)->∀ i ∈ ancE f l,listed.getD i false=true
 |[],_,i,hi=>by cases hi
 |e :: l,h,i,hi=>by
  have ih:=yc2 l (λe he=>h e (gt _ he));simp only [ancE] at hi;split at hi
  ·rename_i hb;obtain⟨h1,h2⟩:=h e (l6 ..) hb;rcases pz.1 hi with rfl|hi
   ·exact h1
   ·rcases ow.1 hi with hi|hi
    ·exact h2 i hi
    ·exact ih i hi
  ·exact ih i hi
theorem ja5[Dr]{listed:Array Bool}(hc:u7 all listed):∀ (k j:Nat) (o:Oper),all[j]? = some o->(∀ e ∈ o.after,Region.binds .any e=true->listed.getD e.on false=true)->∀ i ∈ ancs all k j,listed.getD i false=true
 |0,_,_,_,_,i,hi=>by cases hi
 |k+1,j,o,ho,he,i,hi=>by
  simp only [ancs,ju3,ho] at hi;refine yc2 o.after.toList (λe hm hb=>?_) i hi;have h1:=he e (fv.2 hm) hb;refine⟨h1,?_⟩;cases hq:all[e.on]? with
  |some q=>exact ja5 hc k e.on q hq (hc e.on q hq h1)
  |none =>
   intro i hi;cases k with
   |zero=>cases hi
   |succ k=>simp only [ancs,ju3,hq] at hi;cases hi
end
section
variable{F:Fence}{n:Nat}{P:Program}{Q Q':Exit->Act->World->Prop}{w:World}
theorem yh7[Dr]{all:List Oper}{listed:Array Bool}{j:Nat}{p:Oper}(hc:u7 all listed)(hp:all[j]? = some p)(hj:j<listed.size)(h2:∀ e ∈ p.after,Region.binds .any e=true->listed.getD e.on false=true):u7 all (listed.setIfInBounds j true):=by
 intro i q hq hi e he hb;rw [xc _ _ _ hj] at hi ⊢;by_cases e1:i=j
 ·subst e1;rw [hp] at hq;cases hq;rw[h2 e he hb];rfl
 ·rw [po e1,Bool.or_false] at hi;rw[hc i q hq hi e he hb];rfl
theorem yb8[Dr]{ρ ρ':Operand->Value}{o:Oper}(hi:qc6 o.op=true)(h:∀ y ∈ o.op.operands,ρ y=ρ' y):execOp ρ o=execOp ρ' o:=by
 by_cases h1:wo o.op=true
 ·exact yg9 h1 h
 obtain⟨dst,op,ty,after,guard⟩:=o;replace hi:qc6 op=true:=hi;replace h:∀ y ∈ op.operands,ρ y=ρ' y:=h;replace h1:¬ wo op=true:=h1;cases op <;> first|exact(cu hi).elim|exact(h1 rfl).elim|skip
 case indexAddr t x y=>simp only[execOp,h x (by simp[Op.operands]),h y (by simp[Op.operands])]
 case binOp op t x y q=>simp only[execOp,h x (by simp[Op.operands]),h y (by simp[Op.operands])]
 case convert t t' x=>simp only[execOp,h x (by simp[Op.operands])]
 case alloc t=>rfl
 case extract x k=>simp only[execOp,h x (by simp[Op.operands])]
 case lookup t x y c=>simp only[execOp,h x (by simp[Op.operands]),h y (by simp[Op.operands])]
 case mapEntry t x y=>simp only[execOp,h x (by simp[Op.operands]),h y (by simp[Op.operands])]
 case call c =>
  obtain⟨cl,args,tys⟩:=c;cases cl <;> first|exact(cu hi).elim|exact(h1 rfl).elim|skip
  rename_i f;have hf:ρ f=ρ' f:=h f (by simp[Op.operands,Call.operands]);have ha:args.map ρ=args.map ρ':=ry λy hy=>h y (by simp[Op.operands,Call.operands];exact .inr (by simpa using hy))
  simp only[execOp,resolve,hf,ha]
theorem yd7[Dr]{ro:Option Nat}{ρ ρ':Operand->Value}{o:Oper}(hi:qc6 o.op=true)(h:∀ y ∈ o.op.operands,ρ y=ρ' y):o.semAt ro ρ=o.semAt ro ρ':=by
 have hnd:∀ c,o.op≠.defer c:=λc e=>by rw [e] at hi;cases hi
 rw[Oper.semAt_eq _ _ _ hnd,Oper.semAt_eq _ _ _ hnd];exact yb8 hi h
theorem jz4[Dr]{ρ ρ':Operand->Value}{o:Oper}(hi:qc6 o.op=true)(h:∀ y ∈ o.op.operands,ρ y=ρ' y):o.about P w ρ=o.about P w ρ':=by
 by_cases h1:wo o.op=true
 ·exact yc5 h1 h
 obtain⟨dst,op,ty,after,guard⟩:=o;replace hi:qc6 op=true:=hi;replace h1:¬ wo op=true:=h1;replace h:∀ y ∈ op.operands,ρ y=ρ' y:=h;cases op <;> first|rfl|skip
 case call c =>
  obtain⟨cl,args,tys⟩:=c;cases cl <;> first|exact(cu hi).elim|exact(h1 rfl).elim|skip
  rename_i f;have hf:ρ f=ρ' f:=h f (by simp[Op.operands,Call.operands]);have ha:args.map ρ=args.map ρ':=ry λy hy=>h y (by simp[Op.operands,Call.operands];exact .inr (by simpa using hy))
  simp only[Oper.about,resolve,hf,ha]
structure Free(ops:Array Oper)(i:Nat)(o:Oper)(d:Nat):Prop where
 at':ops[i]? = some o
 dst:o.dst=some d
 guards:∀ (j:Nat) (p:Oper),ops[j]? = some p->p.guard=none
 rest:∀ (j:Nat) (p:Oper),j≠i->ops[j]? = some p->(∃ e ∈ o.after,Region.binds .any e=true/\e.on=j) \/
  (∃ e ∈ p.after,Region.binds .any e=true/\e.on=i) \/
  (qc6 p.op=true/\p.dst≠some d/\(∀ t,p.dst=some t->.tmp t ∉ o.op.operands)/\.tmp d ∉ p.op.operands/\(ldOp o.op=true->qw1 p.op=true))\/i ∈ ancs ops.toList 8 j
variable{ops:Array Oper}{o:Oper}{i d:Nat}
theorem jd4[Dr](hg:∀ (j:Nat) (p:Oper),ops[j]? = some p->p.guard=none)(hq:∀ e a w,Q' e a w->e = .normal)(hqq:∀ a w,Q' .normal a w->Q .normal a w):∀ (fuel:Nat) (listed:Array Bool) (a:Act) (w:World),wpAnyIn F n P .any ops Q' fuel listed a w->wpAnyIn F n P .any ops Q fuel listed a w:=by
 intro fuel;induction fuel with
 |zero=>exact λl a w h=>⟨h.1,hqq _ _ h.2⟩
 |succ fuel ih =>
  intro l a w h;refine⟨λhe=>hqq _ _ (h.1 he),λj hj=>?_⟩;have hh:=h.2 j hj;cases hp:ops[j]? with
  |none=>unfold wpOpIn at hh ⊢;rw [hp] at hh ⊢;exact ih _ _ _ hh
  |some p =>
   rw [vn hp (hg j p hp)] at hh ⊢;exact qk9 rfl rfl hq (λv w' h=>ih _ _ _ h) (λd w' h=>ih _ _ _ h) hh
theorem xf8[Dr](hI:Free ops i o d)(hq:∀ e a w,Q' e a w->e = .normal)(hqq:∀ a w,Q' .normal a w->Q .normal a w){V:Operand->Value}{v:Value}{w0:World}(hpv:∀ (a:Act) (w:World) (K:Act->World->Prop),(ldOp o.op=true->Grown w0 w)->(∀ y ∈ o.op.operands,a.eval y=V y)->K (a.put (some d) v) w->o.wpIn F n P a w K Q) :
 ∀ (fuel:Nat) (listed:Array Bool) (a:Act) (w:World),u7 ops.toList listed->(ldOp o.op=true->Grown w0 w)->listed.size=ops.size->listed.getD i false=false->(∀ e ∈ o.after,Region.binds .any e=true->listed.getD e.on false=true)->(∀ y ∈ o.op.operands,a.eval y=V y) ->
 wpAnyIn F n P .any ops Q' fuel (listed.setIfInBounds i true) (a.put (some d) v) w->wpAnyIn F n P .any ops Q (fuel+1) listed a w:=by
 have hii:i<ops.size:=(gq.1 hI.at').1;have first:∀ (a:Act) (w:World) (K:Act->World->Prop),(ldOp o.op=true->Grown w0 w)->(∀ y ∈ o.op.operands,a.eval y=V y)->K (a.put (some d) v) w->wpOpIn F n P ops Q i K a w:=by
  intro a w K hw hV hK;rw[vn hI.at' (hI.guards i o hI.at')];exact hpv a w K hw hV hK
 have zero:∀ listed:Array Bool,listed.size=ops.size->listed.getD i false=false->(∀ e ∈ o.after,Region.binds .any e=true->listed.getD e.on false=true)->i ∈ Region.ready .any ops listed:=λlisted hl h0 hd=>(yk hl).2 ⟨o,hI.at',h0,hd⟩
 have more:∀ listed:Array Bool,listed.size=ops.size->∀ j,j≠i->j ∈ Region.ready .any ops listed->j ∈ Region.ready .any ops (listed.setIfInBounds i true):=λlisted hl j hj h=>by
  obtain⟨p,hp,h1,h2⟩:=(yk hl).1 h;refine(yk (by simp[hl])).2 ⟨p,hp,?_,λe he hb=>?_⟩
  ·rw[xc _ _ _ om,h1];simp[hj]
  ·rw[xc _ _ _ om,h2 e he hb]
   rfl
 have allQ:=jd4 (F:=F) (n:=n) (P:=P) (ops:=ops) hI.guards hq hqq;intro fuel;induction fuel with
 |zero =>
  intro listed a w hc hw hl h0 hd hV h;refine⟨λhe=>?_,λj hj=>?_⟩
  ·have:=zero listed hl h0 hd;rw [he] at this;cases this
  ·by_cases hj0:j=i
   ·subst hj0;exact first a w _ hw hV ⟨h.1,hqq _ _ h.2⟩
   ·have:=more listed hl j hj0 hj;rw [h.1] at this;cases this
 |succ fuel ih =>
  intro listed a w hc hw hl h0 hd hV h;refine⟨λhe=>?_,λj hj=>?_⟩
  ·have:=zero listed hl h0 hd;rw [he] at this;cases this
  ·by_cases hj0:j=i
   ·subst hj0;exact first a w _ hw hV (allQ _ _ _ _ h)
   ·have hm:=more listed hl j hj0 hj;obtain⟨p,hp,h1,h2⟩:=(yk hl).1 hj;rcases hI.rest j p hj0 hp with⟨e,he,hb,hon⟩|⟨e,he,hb,hon⟩|⟨r2,r3,r4,r5,r6⟩|hanc
    ·have:=hd e he hb;rw [hon,h1] at this;cases this
    ·have:=h2 e he hb;rw [hon,h0] at this;cases this
    rotate_left
    ·have:=ja5 hc 8 j p (by simpa using hp) h2 i hanc;rw [h0] at this;cases this
    have hjl:j<listed.size:=by have:=(gq.1 hp).1;omega
    have hny:∀ y ∈ p.op.operands,y≠.tmp d:=λy hy e=>r5 (e ▸ hy)
    have hev:∀ y ∈ p.op.operands,(a.put (some d) v).eval y=a.eval y:=λy hy=>jc9 (hny y hy)
    have hh:=h.2 j hm;rw [vn hp (hI.guards j p hp)] at hh ⊢;have hcomm:(listed.setIfInBounds i true).setIfInBounds j true=(listed.setIfInBounds j true).setIfInBounds i true:=Array.setIfInBounds_comm _ _ (λe=>hj0 e.symm);have hset0:(listed.setIfInBounds j true).getD i false=false:=by
     rw[xc _ _ _ hjl,h0];simp[Ne.symm hj0]
    have hc':u7 ops.toList (listed.setIfInBounds j true):=yh7 hc (by simpa using hp) hjl h2;have hd':∀ e ∈ o.after,Region.binds .any e=true->(listed.setIfInBounds j true).getD e.on false=true:=λe he hb=>by
     rw[xc _ _ _ hjl,hd e he hb];rfl
    have hex:∀ (b:Act) (u:Value) (y:Operand),y ∈ o.op.operands->(b.put p.dst u).eval y=b.eval y:=λb u y hy=>by
     cases hdp:p.dst with
     |none=>rfl
     |some t=>exact jc9 (λe=>r4 t hdp (e ▸ hy))
    cases hld:ldOp o.op with
    |true =>
     refine zx4 (r6 hld) (yd7 r2 hev) (jz4 r2 hev) hq (λu w1 hg hk=>?_) hh;refine ih _ _ _ hc' (λe=>(hw e).trans hg) (by simp[hl]) hset0 hd' (λy hy=>(hex a u y hy).trans (hV y hy)) ?_;rw [hcomm] at hk;rw[<-qs8 a r3];exact hk
    |false =>
     have hno:∀ w':World,ldOp o.op=true->Grown w0 w':=λw' e=>by rw [hld] at e;cases e
     refine qk9 (yd7 r2 hev) (jz4 r2 hev) hq (λu w' hk=>?_) (λdd w' hk=>?_) hh
     ·refine ih _ _ _ hc' (hno _) (by simp[hl]) hset0 hd' (λy hy=>(hex a u y hy).trans (hV y hy)) ?_;rw [hcomm] at hk;rw[<-qs8 a r3];exact hk
     ·refine ih _ _ _ hc' (hno _) (by simp[hl]) hset0 hd' (λy hy=>(hex _ _ y hy).trans (hV y hy)) ?_;rw [hcomm] at hk;rw[<-qs8 _ r3];exact hk
end
theorem jb2[Dr]{i:Nat}:∀ {l:List Edge},qo6 i l=true->∃ e ∈ l,Region.binds .any e=true/\e.on=i
 |[],h=>by cases h
 |e :: l,h=>by
  simp only [qo6] at h;split at h
  ·rename_i hb;split at h
   ·rename_i h0;exact⟨e,l6 ..,hb,cy h0⟩
   ·obtain⟨e',h1,h2⟩:=jb2 h;exact⟨e',gt _ h1,h2⟩
  ·obtain⟨e',h1,h2⟩:=jb2 h;exact⟨e',gt _ h1,h2⟩
theorem yn5[Dr]{all:List Oper}{i d:Nat}{o:Oper}:∀ (l:List Oper) (k:Nat),wa all i o d k l=true->∀ (j:Nat) (p:Oper),k+j≠i->l[j]? = some p->(∃ e ∈ o.after,Region.binds .any e=true/\e.on=k+j) \/
 (∃ e ∈ p.after,Region.binds .any e=true/\e.on=i) \/
 (qc6 p.op=true/\p.dst≠some d/\(∀ t,p.dst=some t->.tmp t ∉ o.op.operands)/\.tmp d ∉ p.op.operands/\(ldOp o.op=true->qw1 p.op=true))\/i ∈ ancs all 8 (k+j)
 |[],_,_,j,p,_,hp=>by simp at hp
 |a :: l,k,h,0,p,hne,hp=>by
  simp at hp;subst hp;simp only [wa] at h;split at h
  ·rename_i hb;exact absurd (cy hb).symm hne
  ·split at h
   ·rename_i he;obtain⟨e,h1,h2,h3⟩:=jb2 he;exact .inl ⟨e,fv.2 h1,h2,h3⟩
   ·split at h
    ·rename_i hz;obtain⟨e,h1,h2,h3⟩:=jb2 hz;exact .inr (.inl ⟨e,fv.2 h1,h2,h3⟩)
    ·split at h
     ·rename_i h1 h2 h3 h4;have hoff:∀ t,a.dst=some t->t ∉ (d :: xg o.op.operands.toList):=λt ht hm=>by
       rw [ht] at h2;simp only [qg2] at h2;split at h2
       ·cases h2
       ·rename_i hn;exact qt0 hn hm
      refine .inr (.inr (.inl ⟨h1,λe=>hoff d e (l6 ..),λt ht hm=>hoff t ht (gt _ (qz4 (fv.1 hm))),λhd=>absurd (qz4 (fv.1 hd)) (qt0 h4),λhl=>?_⟩));simp only [zb6,hl] at h3;exact h3
     ·split at h
      ·rename_i hm;exact .inr (.inr (.inr (jr8 hm)))
      ·cases h
 |a :: l,k,h,j+1,p,hne,hp=>by
  have hrest:wa all i o d (k+1) l=true:=by
   simp only [wa] at h
   repeat' split at h
   all_goals first|exact h|cases h
  have:=yn5 l (k+1) hrest j p om (by simpa using hp);rw [show k+1+j=k+(j+1) from by omega] at this;exact this
theorem jb6[Dr]{all:List Oper}:∀ (l:List Oper) (i:Nat) (K:List Bool->Prop),kj all i l K->∃ fr,K fr/\∀ (j:Nat),atB fr j=true->∃ o d,l[j]? = some o/\o.dst=some d/\qo4 o.op=true/\wa all (i+j) o d 0 all=true
 |[],_,K,h=>⟨[],h,λj hj=>by simp [atB] at hj⟩
 |o :: r,i,K,h=>by
  have tail:∀ (b:Bool) (_:b=true->∃ d,o.dst=some d/\qo4 o.op=true/\wa all i o d 0 all=true),kj all (i+1) r (λl=>K (b :: l))->∃ fr,K fr/\∀ (j:Nat),atB fr j=true->∃ o' d,(o :: r)[j]? = some o'/\o'.dst=some d/\qo4 o'.op=true/\wa all (i+j) o' d 0 all=true:=λb hb h=>by
   obtain⟨fr,h1,h2⟩:=jb6 r (i+1) _ h;refine⟨b :: fr,h1,λj hj=>?_⟩;cases j with
   |zero =>
    obtain⟨d,a1,a2,a3⟩:=hb (by simpa[atB] using hj);exact⟨o,d,rfl,a1,a2,a3⟩
   |succ j =>
    obtain⟨o',d,a1,a2,a3,a4⟩:=h2 j (by simpa[atB] using hj);exact⟨o',d,by simpa using a1,a2,a3,by rw[show i+(j+1)=i+1+j from by omega];exact a4⟩
  simp only [kj] at h;split at h
  ·rename_i d h1 h2;split at h
   ·rename_i h3;exact tail true (λ_=>⟨d,h1,h2,h3⟩) h
   ·exact tail false (λe=>by cases e) h
  ·exact tail false (λe=>by cases e) h
theorem qd3[Dr]:∀ {l:List Oper},ky l=true->∀ o ∈ l,o.guard=none
 |[],_,o,ho=>by cases ho
 |a :: l,h,o,ho=>by
  simp only [ky] at h;split at h
  ·rename_i hg;rcases pz.1 ho with rfl|ho
   ·exact hg
   ·exact qd3 h o ho
  ·cases h
theorem ys0[Dr]{ts:List SV}{fr done:List Bool}:∀ (l:List Oper) (k:Nat) {i:Nat} {o:Oper},qc2 ts fr done k l=some (i,o)->∃ j,i=k+j/\l[j]? = some o/\atB done i=false/\atB fr i=true/\xp done o.after.toList=true/\qn8 ts o.op=true
 |[],_,_,_,h=>by simp [qc2] at h
 |a :: l,k,i,o,h=>by
  have tail:qc2 ts fr done (k+1) l=some (i,o)->∃ j,i=k+j/\(a :: l)[j]? = some o/\atB done i=false/\atB fr i=true/\xp done o.after.toList=true/\qn8 ts o.op=true:=λh=>by
   obtain⟨j,a1,a2⟩:=ys0 l (k+1) h;exact⟨j+1,om,by simpa using a2⟩
  simp only [qc2] at h;split at h
  ·exact tail h
  ·rename_i h1;split at h
   ·rename_i h2;split at h
    ·rename_i h3;split at h
     ·rename_i h4;cases h;exact⟨0,rfl,rfl,h1,h2,h3,h4⟩
     ·exact tail h
    ·exact tail h
   ·exact tail h
section
variable{P:Program}{TT:Nat->Option TI}{B:Bs}{w:World}{β:Env}{fp:Nat->Nat->Prop}{ts:List SV}{ks:List KB}{a:Act}{rd:Option Nat}{n:Nat}{Q:Exit->Act->World->Prop}
theorem yl8{k:IntKind}{i m:Int}{c:BoundsCode}{v:Value}{w w':World}(h:(boundsPanic k i m c:Sem Value).run P w = .ok v w'):False:=by
 have np:∀ (x y:Int) (s:Bool) (w1:World),(runtimePanic (.bounds x y s c):Sem Value).run P w1≠.ok v w':=λx y s w1 hc=>by
  simp [runtimePanic,goPanic] at hc
 unfold boundsPanic at h
 dsimp only at h
 split at h
 ·rw [p8] at h;generalize (Sem.run P _ w)=r at h;cases r with
  |ok s w1=>exact np _ _ _ _ h
  |halt x w1=>cases h
 ·rw [p8] at h;simp only [o6,ot] at h;exact np _ _ _ _ h
theorem xd1[Dr]{t:TypeId}{ad:Option Addr}{m c:Nat}{k:IntKind}{ix:Int}{v:Value}{w w':World}(h:(Instr.indexAt t (.slice ad m c) (.int k ix)).run P w = .ok v w):(Instr.indexAt t (.slice ad m c) (.int k ix)).run P w' = .ok v w':=by
 cases hu:P.underlying t with
 |none=>simp [Instr.indexAt,asIntOf,underlying,hu] at h
 |some d =>
  cases d <;> simp [Instr.indexAt,asIntOf,run_underlying hu,Instr.sureAddr] at h ⊢
  rename_i e;cases ad with
  |none=>exact(yl8 (by simpa using h)).elim
  |some a =>
   simp only at h ⊢;split at h
   ·rename_i hix;rw[if_pos hix];cases hi:P.info? e with
    |none=>simp [sizeOf,typeInfo,hi] at h
    |some info=>simp [sizeOf,typeInfo,hi] at h ⊢;exact h
   ·exact(yl8 (by simpa using h)).elim
theorem xj7[Dr]{o:Oper}{ρ ρ':Operand->Value}{M:Nat->Prop}(hTT:TTok P TT){K:SV->Prop}(hpev:pev P TT ts ks o.op K)(hp:qo4 o.op=true)(hn:qn8 ts o.op=true)(hT:∀ x,Den w M β (val ts x) (ρ x)){v:Value}(h:(execOp ρ o).run P w = .ok (.value v) w)(he:∀ y ∈ o.op.operands,ρ' y=ρ y)(w':World)(hw:ldOp o.op=true->Grown w w'):(execOp ρ' o).run P w' = .ok (.value v) w':=by
 have hid:qc6 o.op=true:=by
  cases ho:o.op <;> rw [ho] at hp <;> first|rfl|exact (cu hp).elim
 rw[yb8 hid he];cases hld:ldOp o.op with
 |true=>exact zu8 hld h (hw hld)
 |false =>
 cases ho:o.op with
 |load t x=>rw [ho] at hld;cases hld
 |nilCheck x =>
  rw [ho] at hpev;simp only [pev,qq] at hpev;simp only [execOp,ho] at h ⊢;have hv:=hT x;generalize ρ x=av at hv h ⊢;split at hpev
  ·rename_i hx;rw [hx] at hv;cases hv;simpa using h
  ·rename_i hx;rw [hx] at hv;cases hv;simpa using h
  ·rename_i hx;rw [hx] at hv;cases hv;simpa using h
  ·rename_i hx;rw [hx] at hv;cases hv;simpa using h
  ·exact hpev.elim
 |fieldAddr s x f =>
  rw [ho] at hpev;simp only [pev,qq] at hpev;simp only [execOp,ho] at h ⊢;have hv:=hT x;generalize ρ x=av at hv h ⊢;split at hpev
  ·rename_i size bytes agg zero fs eqk ht;split at hpev
   ·rename_i off ft hf;rw [je7] at hf;obtain⟨info,d,z,hi,hu,_,_,_,_,_,_,_,_,fields,rfl,hsz,hfs⟩:=qk hTT ht;obtain⟨fd,fi,hfd,hoff,hty,hfi,hz⟩:=hfs f off ft hf;have hrun:=λw1 ad=>ya0 (w:=w1) hu hfd (by rw[hty];exact hfi) hz ad
    split at hpev
    ·rename_i hx;rw [hx] at hv;cases hv;simp only [p8,hrun] at h ⊢;simpa using h
    ·rename_i hx;rw [hx] at hv;cases hv;simp only [p8,hrun] at h ⊢;simpa using h
    ·rename_i hx;rw [hx] at hv;cases hv;simp only [p8,hrun] at h ⊢;simpa using h
    ·exact hpev.elim
   ·exact hpev.elim
  ·exact hpev.elim
 |move x=>simp only [execOp,ho] at h ⊢;simpa using h
 |assign x=>simp only [execOp,ho] at h ⊢;simpa using h
 |extract x k =>
  simp only [execOp,ho,p8] at h ⊢;unfold Instr.extract at h ⊢;generalize ρ x=av at h ⊢;cases av <;> simp at h ⊢
  split at h <;> simp_all
 |binOp op t x y q =>
  rw [ho] at hn hp;simp only [qn8] at hn;split at hn
  ·rename_i k p hx;split at hn
   ·rename_i k' p' hy;have hv:=hT x;have hw:=hT y;rw [hx] at hv;rw [hy] at hw;have e1:=jh hv;have e2:=jh hw;have hk:=vz hn;subst hk;cases op <;> first|exact(cu hp).elim|skip
    ·simp [execOp,ho,e1,e2,eqGuard,binOp,Op.intArith] at h ⊢;exact h
    ·simp [execOp,ho,e1,e2,eqGuard,binOp,Op.intArith] at h ⊢;exact h
   ·cases hn
  ·cases hn
 |indexAddr t x y =>
  rw [ho] at hn;simp only [qn8] at hn;split at hn
  ·rename_i k p hy;have hw:=hT y;rw [hy] at hw;have e2:=jh hw;have hv:=hT x;have hs:∃ ad m c,ρ x = .slice ad m c:=by
    generalize ρ x=av at hv;split at hn
    ·rename_i hx;rw [hx] at hv;cases jj hv
     ·exact⟨_,_,_,rfl⟩
     ·exact⟨_,_,_,rfl⟩
    ·rename_i hx;rw [hx] at hv;cases hv <;> exact⟨_,_,_,rfl⟩
    ·rename_i hx;rw [hx] at hv;cases hv <;> exact⟨_,_,_,rfl⟩
    ·cases hn
   obtain⟨ad,m,c,e1⟩:=hs;simp only [execOp,ho,e1,e2,p8] at h ⊢;cases hr:(Instr.indexAt t (.slice ad m c) (.int k p)).run P w with
   |ok u w1 =>
    rw [hr] at h;simp at h;obtain⟨rfl,rfl⟩:=h;rw[xd1 hr];simp
   |halt x w1=>rw [hr] at h;simp at h
  ·cases hn
 |_=>rw [ho] at hp;exact (cu hp).elim
theorem ji8[Dr]{ops:Array Oper}(hTT:TTok P TT){fr:List Bool}(hfr:∀ (j:Nat),atB fr j=true->∃ o d,ops.toList[j]? = some o/\o.dst=some d/\qo4 o.op=true/\wa ops.toList j o d 0 ops.toList=true)(hng:∀ o ∈ ops.toList,o.guard=none){K:List SV->List KB->Prop}
 (hQ:∀ ts ks a w β fp,K ts ks->Sat B w β fp ts ks a->Q .normal a w):∀ (k:Nat) (done:List Bool) (ts:List SV) (ks:List KB) (a:Act) (w:World) (β:Env) (fp:Nat->Nat->Prop),done.length=ops.size->u7 ops.toList done.toArray->xi P TT ops.toList fr K k done ts ks->Sat B w β fp ts ks a->wpAnyIn (qm rd) n P .any ops (λe a w=>e = .normal/\Q .normal a w) k done.toArray a w:=by
 intro k;induction k with
 |zero =>
  intro done ts ks a w β fp hl hcl h hS;simp only [xi] at h;split at h
  ·rename_i hd;refine⟨?_,rfl,hQ _ _ _ _ _ _ h hS⟩;rw[ap];intro i hi;obtain⟨o,ho,h1,_⟩:=(mem_ready hl).1 hi;have:i<ops.toList.length:=(p6.1 ho).1;rw [qw4,xw4 hd i (by simpa [hl] using this)] at h1;cases h1
  ·cases h
 |succ k ih =>
  intro done ts ks a w β fp hl hcl h hS;have hed:∀ o:Oper,xp done o.after.toList=true->∀ e ∈ o.after,Region.binds .any e=true->done.toArray.getD e.on false=true:=λo h3 e he hb=>by
   rw [jn0,o7] at h3;have:=h3 e (fv.1 he);rw [hb] at this;simpa using this
  have hcm:∀ (i:Nat) (o:Oper),ops.toList[i]? = some o->xp done o.after.toList=true->u7 ops.toList (vl done i).toArray:=λi o ho he=>by
   have hi:i<done.toArray.size:=by
    have:=(p6.1 ho).1;simp at this ⊢;omega
   have:=yh7 hcl ho hi (hed o he);rw[qj1];simpa using this
  simp only [xi] at h;split at h
  ·rename_i i o hpk;obtain⟨j,hj,ho,h1,h2,h3,h4⟩:=ys0 _ _ hpk;rw [o5] at hj;subst hj;obtain⟨o',d,ho',hd,hpu,hfo⟩:=hfr i h2;rw [ho] at ho';obtain rfl:=oq ho';have hoi:ops[i]? = some o:=by simpa using ho
   have hI:Free ops i o d:=⟨hoi,hd,λj p hp=>hng p (ov (by simpa using hp)),λj p hne hp=>by
    have:=yn5 ops.toList 0 hfo j p om (by simpa using hp);rw [o5] at this;exact this⟩
   have hex:exec P TT o ts ks (λ_ ts' ks'=>xi P TT ops.toList fr K k (vl done i) ts' ks')=pev P TT ts ks o.op (λv=>yb o.dst v ts (λts'=>xi P TT ops.toList fr K k (vl done i) ts' ks)):=by
    cases hop:o.op with
    |move=>simp only[exec,hop,kr,wl,bu]
    |assign=>simp only[exec,hop,kr,wl,bu]
    |binOp=>simp only[exec,hop,kr,wl,bu]
    |indexAddr=>simp only[exec,hop,kr,wl,bu]
    |extract=>simp only[exec,hop,kr,wl,bu]
    |load=>simp only[exec,hop,kr,wl,bu]
    |nilCheck=>simp only[exec,hop,kr,wl,bu]
    |fieldAddr=>simp only[exec,hop,kr,wl,bu]
    |_=>rw [hop] at hpu;exact (cu hpu).elim
   rw [hex] at h;have hpv:=h;have hval:∀ x,Den w (Mx B.X fp) β (val ts x) (a.eval x):=hS.val;obtain⟨s,v,hK,hrun,hden⟩:=jb0 hTT h hval (λi L kk a1 a2 a3=>⟨_,hS.went.mem.kb i L kk a1 a2 a3⟩) hS.went.mem.apart;rw [hd] at hK;simp only [yb,vq] at hK;have hS':Sat B w β fp (setT ts d s) ks (a.put (some d) v):=hS.put d hden;have hrec:=ih (vl done i) _ ks _ w β fp (by rw[qj1];simpa using hl) (hcm i o ho h3) hK hS';rw [qj1] at hrec;have hnd:∀ c,o.op≠.defer c:=λc e=>by rw [e] at hpu;cases hpu
   refine xf8 (Q':=λe a w=>e = .normal/\Q .normal a w) (V:=a.eval) (v:=v) (w0:=w) hI (λe a w h=>h.1) (λa w h=>h) (λa' w' K' hw he hk=>?_) k done.toArray a w hcl (λ_=>Grown.refl _) (by simpa using hl) (by rw [qw4] at h1;simpa using h1) (λe he hb=>?_) (λ_ _=>rfl) (by simpa using hrec)
   ·unfold Oper.wpIn;rw[Oper.semAt_eq _ _ _ hnd];have hpa:=xj7 (w:=w) (M:=Mx B.X fp) (β:=β) hTT hpv hpu h4 hval hrun he w' hw;refine⟨λf hf=>?_,?_⟩
    ·cases hop:o.op with
     |move=>simp [Oper.about,hop] at hf
     |assign=>simp [Oper.about,hop] at hf
     |binOp=>simp [Oper.about,hop] at hf
     |indexAddr=>simp [Oper.about,hop] at hf
     |extract=>simp [Oper.about,hop] at hf
     |load=>simp [Oper.about,hop] at hf
     |nilCheck=>simp [Oper.about,hop] at hf
     |fieldAddr=>simp [Oper.about,hop] at hf
     |_=>rw [hop] at hpu;exact (cu hpu).elim
    ·rw[hpa];show K' (a'.put o.dst v) w';rw[hd];exact hk
   ·rw [jn0,o7] at h3;have:=h3 e (fv.1 he);rw [hb] at this;simpa using this
  ·split at h
   ·rename_i hr;refine⟨λhe=>?_,λi hi=>?_⟩
    ·obtain⟨j,o,h1,h2,h3⟩:=zk0 _ _ hr;rw [o5] at h2;have:j ∈ Region.ready .any ops done.toArray:=(mem_ready hl).2 ⟨o,h1,h2,h3⟩;rw [he] at this;cases this
    ·obtain⟨o,ho,h1,h2⟩:=(mem_ready hl).1 hi;have hF:=zw1 _ _ h i o ho (by rw[o5];exact h1) h2;rw [o5] at hF;split at hF
     ·rename_i hg;have hi':ops.toList.toArray[i]? = some o:=by
       rw [dy] at ho;simpa using ho
      split at hF
      ·have:wpOpIn (qm rd) n P ops.toList.toArray (λe a w=>e = .normal/\Q .normal a w) i (wpAnyIn (qm rd) n P .any ops (λe a w=>e = .normal/\Q .normal a w) k (done.toArray.setIfInBounds i true)) a w:=by
        unfold wpOpIn;have hw:=qi3 (all:=ops.toList) (o:=o) (b:=true) hS.slot (by simp[yu,hg]);simp only[hi',hw,if_true];refine yj9 hTT hF hS.went.mem hS.val (λs k1 v w' β' fp' hk hW hden=>?_);rw [x5] at hk;have:=ih (vl done i) _ _ _ w' β' fp' (by rw[qj1];simpa using hl) (hcm i o ho h2) hk ((hS.on hW).put _ hden);rw [qj1] at this;simpa using this
       simpa using this
      obtain⟨hd,s,k1,hev,hk⟩:=za2 hF;have hst:Stp P TT ops.toList ts ks o hd s k1:=.ev (by simp[yu,hg]) hev;have:=yj2 (rd:=rd) (n:=n) (Q:=λe a w=>e = .normal/\Q .normal a w) (next:=wpAnyIn (qm rd) n P .any ops (λe a w=>e = .normal/\Q .normal a w) k (done.toArray.setIfInBounds i true)) hTT hst hi' hS (λv w' β' fp' hS'=>by
       have:=ih (vl done i) _ _ _ w' β' fp' (by rw[qj1];simpa using hl) (hcm i o ho h2) hk hS';rw [qj1] at this;simpa using this)
      simpa using this
     ·exact hF.elim
   ·cases h
theorem jx9[Dr](hTT:TTok P TT)(hmix:P.follows .mixedOrders=true){ops:Array Oper}{id:Nat}{w:World}{β:Env}{fp:Nat->Nat->Prop}{ts ts':List SV}{ks ks':List KB}{a:Act}(hng:ky ops.toList=true)(h:kj ops.toList 0 ops.toList (λfr=>xi P TT ops.toList fr (λt k=>t=ts'/\k=ks') ops.toList.length (ko ops.toList) ts ks))(hS:Sat B w β fp ts ks a)
 (hQ:∀ a' w' β' fp',Sat B w' β' fp' ts' ks' a'->Q .normal a' w'):(Code.region id ops true).wpIn (qm rd) n P Q a w:=by
 refine wpIn_region_any hmix ?_;have hS0:Sat B { w with drawn:=w.drawn+1 } β fp ts ks a:=hS.on (hS.went.mem.quiet ⟨rfl,rfl,rfl,pu _,λ_ _ _=>rfl,λ_=>by first|exact pu _|exact Nat.le_succ _⟩);obtain⟨fr,h,hfr⟩:=jb6 _ _ _ h;have:=ji8 (rd:=rd) (n:=n) (B:=B) (Q:=Q) hTT (fr:=fr) (λj hj=>by
  obtain⟨o,d,a1,a2,a3,a4⟩:=hfr j hj;rw [o5] at a4;exact⟨o,d,a1,a2,a3,a4⟩) (qd3 hng) (K:=λt k=>t=ts'/\k=ks') (λt k a w β fp hk hS=>by
  obtain⟨rfl,rfl⟩:=hk;exact hQ _ _ _ _ hS) ops.toList.length (ko ops.toList) ts ks a _ β fp (by rw [qb1];simp) (λi o _ hi=>by rw [qb1] at hi;simp [Array.getD] at hi) h hS0
 rw [qb1] at this;have:=jd4 (Q':=λe a w=>e = .normal/\Q .normal a w) (Q:=Q) (λj p hp=>qd3 hng p (ov (by simpa using hp))) (λe a w h=>h.1) (λa w h=>h.2) _ _ _ _ this;simpa using this
theorem zj3[Dr](hTT:TTok P TT)(hmix:P.follows .mixedOrders=true){ops:Array Oper}{id nb:Nat}{w:World}{β:Env}{fp:Nat->Nat->Prop}{ts ts':List SV}{ks ks':List KB}{a:Act}(hnb:∀ i,nb<=i->B.β0 i=none)(hng:ky ops.toList=true)(h:kj ops.toList 0 ops.toList (λfr=>xi P TT ops.toList fr (λt k=>(t=ts'/\k=ks')\/∃ ρ,Subs nb ρ t k ts' ks') ops.toList.length (ko ops.toList) ts ks))(hS:Sat B w β fp ts ks a)
 (hQ:∀ a' w' β' fp',Sat B w' β' fp' ts' ks' a'->Q .normal a' w'):(Code.region id ops true).wpIn (qm rd) n P Q a w:=by
 refine wpIn_region_any hmix ?_;have hS0:Sat B { w with drawn:=w.drawn+1 } β fp ts ks a:=hS.on (hS.went.mem.quiet ⟨rfl,rfl,rfl,pu _,λ_ _ _=>rfl,λ_=>by first|exact pu _|exact Nat.le_succ _⟩);obtain⟨fr,h,hfr⟩:=jb6 _ _ _ h;have:=ji8 (rd:=rd) (n:=n) (B:=B) (Q:=Q) hTT (fr:=fr) (λj hj=>by
  obtain⟨o,d,a1,a2,a3,a4⟩:=hfr j hj;rw [o5] at a4;exact⟨o,d,a1,a2,a3,a4⟩) (qd3 hng) (K:=λt k=>(t=ts'/\k=ks')\/∃ ρ,Subs nb ρ t k ts' ks') (λt k a w β fp hk hS=>by
  rcases hk with⟨rfl,rfl⟩|⟨ρ,hs⟩
  ·exact hQ _ _ _ _ hS
  ·obtain⟨β',fp',hS'⟩:=hS.weaken hnb hs;exact hQ _ _ _ _ hS') ops.toList.length (ko ops.toList) ts ks a _ β fp (by rw [qb1];simp) (λi o _ hi=>by rw [qb1] at hi;simp [Array.getD] at hi) h hS0
 rw [qb1] at this;have:=jd4 (Q':=λe a w=>e = .normal/\Q .normal a w) (Q:=Q) (λj p hp=>qd3 hng p (ov (by simpa using hp))) (λe a w h=>h.1) (λa w h=>h.2) _ _ _ _ this;simpa using this
theorem Sat.forget[Dr]{w:World}{β:Env}{fp:Nat->Nat->Prop}{ks:List KB}{a:Act}:∀ (l:List Nat) {ts:List SV},Sat B w β fp ts ks a->Sat B w β fp (wv l ts) ks a
 |[],_,h=>h
 |d :: l,ts,h=>Sat.forget l (ts:=setT ts d .any) ⟨h.went,h.df,by rw[zw,lw];exact h.len,λt s v hs hv=>by
  rw [zw,m5] at hs;split at hs
  ·split at hs
   ·obtain rfl:=oq hs;exact .any _
   ·cases hs
  ·exact h.tm t s v hs hv⟩
theorem yn2(k:List SV->Prop):∀ (l:List Nat) (ts:List SV),qg3 l ts k=k (wv l ts)
 |[],_=>rfl
 |d :: l,ts=>by
  show setK ts d .any (λl'=>qg3 l l' k)=k (wv l (setT ts d .any));rw[vq,yn2 k l]
theorem zj4[Dr](hTT:TTok P TT)(hmix:P.follows .mixedOrders=true){ops:Array Oper}{id:Nat}{w:World}{β:Env}{fp:Nat->Nat->Prop}{ts:List SV}{ks ks':List KB}{a:Act}{W:List Nat}(hng:ky ops.toList=true)(h:kj ops.toList 0 ops.toList (λfr=>xi P TT ops.toList fr (λt k=>wv W t=wv W ts/\k=ks') ops.toList.length (ko ops.toList) ts ks))(hS:Sat B w β fp ts ks a)
 (hQ:∀ a' w' β' fp',Sat B w' β' fp' (wv W ts) ks' a'->Q .normal a' w'):(Code.region id ops true).wpIn (qm rd) n P Q a w:=by
 refine wpIn_region_any hmix ?_;have hS0:Sat B { w with drawn:=w.drawn+1 } β fp ts ks a:=hS.on (hS.went.mem.quiet ⟨rfl,rfl,rfl,pu _,λ_ _ _=>rfl,λ_=>by first|exact pu _|exact Nat.le_succ _⟩);obtain⟨fr,h,hfr⟩:=jb6 _ _ _ h;have:=ji8 (rd:=rd) (n:=n) (B:=B) (Q:=Q) hTT (fr:=fr) (λj hj=>by
  obtain⟨o,d,a1,a2,a3,a4⟩:=hfr j hj;rw [o5] at a4;exact⟨o,d,a1,a2,a3,a4⟩) (qd3 hng) (K:=λt k=>wv W t=wv W ts/\k=ks') (λt k a w β fp hk hS=>by
  obtain⟨h1,rfl⟩:=hk;have:=Sat.forget W hS;rw [h1] at this;exact hQ _ _ _ _ this) ops.toList.length (ko ops.toList) ts ks a _ β fp (by rw [qb1];simp) (λi o _ hi=>by rw [qb1] at hi;simp [Array.getD] at hi) h hS0
 rw [qb1] at this;have:=jd4 (Q':=λe a w=>e = .normal/\Q .normal a w) (Q:=Q) (λj p hp=>qd3 hng p (ov (by simpa using hp))) (λe a w h=>h.1) (λa w h=>h.2) _ _ _ _ this;simpa using this
end
end
section
theorem yq7[Dr]:∀ (p:Nat) (l:List Oper),qk2 p l=l.take p
 |0,_=>by simp[qk2]
 |_+1,[]=>rfl
 |p+1,o :: l=>by rw[List.take_succ_cons,<-yq7 p l];rfl
theorem jp8[Dr]:∀ (p:Nat) (l:List Oper),qp8 p l=l.drop p
 |0,l=>by cases l <;> rfl
 |_+1,[]=>rfl
 |p+1,o :: l=>by rw[List.drop_succ_cons,<-jp8 p l];rfl
theorem yc3[Dr]{l:List Nat}:∀ {j:Nat},jd6 l j=true->∀ i,i<j->i ∈ l
 |0,_,i,hi=>absurd hi (fw _)
 |j+1,h,i,hi=>by
  simp only [jd6] at h;split at h
  ·rename_i e;rcases ox i j with hl|hl
   ·exact yc3 h i hl
   ·have:i=j:=om
    rw[this];exact jr8 e
  ·cases h
theorem qx7[Dr]{j:Nat}:∀ {l:List Edge},qr8 j l=true->∀ e ∈ l,Region.binds .any e=true->e.on<j
 |[],_,e,he=>by cases he
 |a :: l,h,e,he=>by
  simp only [qr8] at h;intro hb;split at h
  ·rename_i ha;split at h
   ·rename_i hlt;rcases pz.1 he with rfl|he
    ·rw [Nat.blt_eq] at hlt;exact hlt
    ·exact qx7 h e he hb
   ·cases h
  ·rename_i ha;rcases pz.1 he with rfl|he
   ·rw [hb] at ha;cases ha
   ·exact qx7 h e he hb
structure Ser(all:List Oper)(p:Nat):Prop where
 back:∀ (j:Nat) (o:Oper),all[j]? = some o->∀ e ∈ o.after,Region.binds .any e=true->e.on<j
 chain:∀ (j:Nat) (o:Oper),all[j]? = some o->p<=j->∀ i,i<j->i ∈ ancs all 8 j
theorem jn6[Dr]{all:List Oper}{p:Nat}:∀ (l:List Oper) (k:Nat),qp2 all p l k=true->∀ (j:Nat) (o:Oper),l[j]? = some o->(∀ e ∈ o.after,Region.binds .any e=true->e.on<k+j)/\(p<=k+j->∀ i,i<k+j->i ∈ ancs all 8 (k+j))
 |[],_,_,j,o,ho=>by simp at ho
 |a :: l,k,h,j,o,ho=>by
  simp only [qp2] at h;split at h
  case h_2=>cases h
  rename_i he;have tail:qp2 all p l (k+1)=true->∀ (j:Nat) (o:Oper),(a :: l)[j+1]? = some o->(∀ e ∈ o.after,Region.binds .any e=true->e.on<k+(j+1))/\(p<=k+(j+1)->∀ i,i<k+(j+1)->i ∈ ancs all 8 (k+(j+1))):=λh j o ho=>by
   have:=jn6 l (k+1) h j o (by simpa using ho);rw [show k+1+j=k+(j+1) from by omega] at this;exact this
  split at h
  ·rename_i hlt;cases j with
   |succ j=>exact tail h j o ho
   |zero =>
    simp at ho;subst ho;rw [Nat.blt_eq] at hlt;exact⟨λe h1 h2=>qx7 he e (fv.1 h1) h2,λh1=>by omega⟩
  ·split at h
   case h_2=>cases h
   rename_i hab;cases j with
   |succ j=>exact tail h j o ho
   |zero =>
    simp at ho;subst ho;exact⟨λe h1 h2=>qx7 he e (fv.1 h1) h2,λ_ i hi=>yc3 hab i hi⟩
theorem yb3[Dr]{all:List Oper}:∀ (l:List Oper) (k:Nat) {p:Nat},qm4 all l k=some p->p<k+l.length
 |[],_,_,h=>by cases h
 |o :: l,k,p,h=>by
  have tail:qm4 all l (k+1)=some p->p<k+(l.length+1):=λh=>by have:=yb3 l (k+1) h;omega
  simp only [qm4] at h;split at h
  ·split at h
   ·cases h;simp
   ·exact tail h
  ·exact tail h
theorem yr0[Dr]{all:List Oper}{p:Nat}(h:qw8 all=some p):p<all.length/\ky all=true/\Ser all p:=by
 simp only [qw8] at h;split at h
 case h_1=>cases h
 rename_i p' hp';split at h
 case h_2=>cases h
 rename_i hng;split at h
 case h_2=>cases h
 rename_i hs;cases h;have:=yb3 all 0 hp';refine⟨om,hng,λj o ho=>?_,λj o ho hj i hi=>?_⟩
 ·have:=(jn6 all 0 hs j o ho).1
  rwa [o5] at this
 ·have:=(jn6 all 0 hs j o ho).2;rw [o5] at this;exact this hj i hi
section
variable{F:Fence}{n:Nat}{P:Program}{Q:Exit->Act->World->Prop}{all:List Oper}{p:Nat}
theorem xh5[Dr](hs:Ser all p)(hng:∀ o ∈ all,o.guard=none):∀ (d m fuel:Nat) (listed:Array Bool) (a:Act) (w:World),m+d=all.length->p<=m->d<=fuel->listed.size=all.length->(∀ i,i<m->listed.getD i false=true)->(∀ i,m<=i->i<all.length->listed.getD i false=false)->u7 all listed ->
 wpOpsIn F n P all.toArray Q (List.range' m d) a w->wpAnyIn F n P .any all.toArray Q fuel listed a w:=by
 intro d;induction d with
 |zero =>
  intro m fuel listed a w hm _ _ hsz hlo _ _ h;refine wpAnyIn_done ?_ (by simpa[wpOpsIn] using h) fuel;apply ap.2;intro j hj;obtain⟨o,ho,h1,_⟩:=(yk (by simpa using hsz)).1 hj;have hj:j<all.length:=by simpa using(gq.1 ho).1
  rw [hlo j om] at h1;cases h1
 |succ d ih =>
  intro m fuel listed a w hm hpm hf hsz hlo hhi hc h;obtain⟨f,rfl⟩:∃ f,fuel=f+1:=⟨fuel - 1,om⟩;have hml:m<all.length:=om
  have hmo:all.toArray[m]? = some all[m]:=by simp[hml]
  have hmo':all[m]? = some all[m]:=pp hml;have hrm:m ∈ Region.ready .any all.toArray listed:=(yk (by simpa using hsz)).2 ⟨all[m],hmo,hhi m (pu _) hml,λe he hb=>hlo e.on (hs.back m _ hmo' e he hb)⟩;rw [bw,wpOpsIn_cons] at h;refine ⟨λe=>(by rw [e] at hrm;cases hrm),λj hj=>?_⟩;obtain⟨o,ho,h1,h2⟩:=(yk (by simpa using hsz)).1 hj;have hjl:j<all.length:=by simpa using(gq.1 ho).1
  have ho':all[j]? = some o:=by simpa using ho
  have hjm:j=m:=by
   rcases co j m with hl|hl|hl
   ·rw [hlo j hl] at h1;cases h1
   ·exact hl
   ·have:=ja5 hc 8 j o ho' h2 m (hs.chain j o ho' om m hl);rw [hhi m (pu _) hml] at this;cases this
  subst hjm;refine wpOpIn_mono (λa' w' h'=>ih (j+1) f _ a' w' om om om (by simpa using hsz) (λi hi=>?_) (λi h3 h4=>?_) ?_ h') h
  ·rw[xc _ _ _ om];by_cases e:i=j
   ·subst e;simp
   ·rw[hlo i om];rfl
  ·rw[xc _ _ _ om,hhi i om h4];simp;omega
  ·intro i q hq hi e he hb;rw [xc _ _ _ om] at hi ⊢;by_cases e1:i=j
   ·subst e1;rw [ho'] at hq;cases hq;rw[h2 e he hb];rfl
   ·rw [po e1,Bool.or_false] at hi;rw[hc i q hq hi e he hb];rfl
theorem ym7[Dr]{f:Nat->Bool}:∀ p:Nat,(∀ i,i<p->f i=true)\/∃ j,j<p/\f j=false/\∀ i,i<j->f i=true
 |0=>.inl λi hi=>absurd hi (fw _)
 |p+1=>by
  rcases ym7 (f:=f) p with h|⟨j,h1,h2,h3⟩
  ·cases e:f p
   ·exact .inr ⟨p,gw _,e,h⟩
   ·refine .inl λi hi=>?_
    rcases ox i p with hl|hl
    ·exact h i hl
    ·have:i=p:=om
     rw[this];exact e
  ·exact .inr ⟨j,om,h2,h3⟩
theorem xr8[Dr](hs:Ser all p)(hp:p<all.length)(hng:∀ o ∈ all,o.guard=none):∀ (fuel:Nat) (lp listed:Array Bool) (a:Act) (w:World),lp.size=p->listed.size=all.length->(∀ i,i<p->listed.getD i false=lp.getD i false)->(∀ i,p<=i->i<all.length->listed.getD i false=false)->u7 all listed ->
 wpAnyIn F n P .any (all.take p).toArray (λe a w=>e = .normal/\wpOpsIn F n P all.toArray Q (List.range' p (all.length - p)) a w) fuel lp a w->wpAnyIn F n P .any all.toArray Q (fuel+(all.length - p)) listed a w:=by
 have hpl:(all.take p).toArray.size=p:=by simp;omega
 have hpo:∀ (j:Nat),j<p->(all.take p).toArray[j]? = all.toArray[j]?:=λj hj=>by
  simp[List.getElem?_take_of_lt hj]
 have least:∀ (lp:Array Bool),lp.size=p->(∀ i,i<p->lp.getD i false=true)\/∃ j,j ∈ Region.ready .any (all.take p).toArray lp/\j<p/\lp.getD j false=false:=λlp hl=>by
  rcases ym7 (f:=λi=>lp.getD i false) p with h|⟨j,h1,h2,h3⟩
  ·exact .inl h
  ·have hjl:j<all.length:=om
   refine .inr ⟨j,(yk (by rw[hpl,hl])).2 ⟨all[j],by rw[hpo j h1];simp[hjl],h2,λe he hb=>h3 e.on (hs.back j _ (pp hjl) e he hb)⟩,h1,h2⟩
 have done:∀ (lp listed:Array Bool) (a:Act) (w:World) (fuel:Nat),lp.size=p->listed.size=all.length->(∀ i,i<p->listed.getD i false=lp.getD i false)->(∀ i,p<=i->i<all.length->listed.getD i false=false)->u7 all listed->(∀ i,i<p->lp.getD i false=true)->wpOpsIn F n P all.toArray Q (List.range' p (all.length - p)) a w->wpAnyIn F n P .any all.toArray Q (fuel+(all.length - p)) listed a w:=λlp listed a w fuel h1 h2 h3 h4 h5 h6 h =>
  xh5 hs hng (all.length - p) p _ listed a w om (pu _) om h2 (λi hi=>(h3 i hi).trans (h6 i hi)) h4 h5 h
 intro fuel;induction fuel with
 |zero =>
  intro lp listed a w h1 h2 h3 h4 h5 H;rcases least lp h1 with h6|⟨j,hj,_⟩
  ·exact done lp listed a w 0 h1 h2 h3 h4 h5 h6 H.2.2
  ·rw [H.1] at hj;cases hj
 |succ fuel ih =>
  intro lp listed a w h1 h2 h3 h4 h5 H;rcases least lp h1 with h6|⟨j0,hj0,hj1,hj2⟩
  ·refine done lp listed a w (fuel+1) h1 h2 h3 h4 h5 h6 (H.1 ?_).2;apply ap.2;intro j hj;obtain⟨o,ho,k1,_⟩:=(yk (by rw[hpl,h1])).1 hj;have hj:j<p:=by have:=(gq.1 ho).1;rwa [hpl] at this
   rw [h6 j hj] at k1;cases k1
  ·rw[show fuel+1+(all.length - p)=fuel+(all.length - p)+1 from by omega];have hsz:listed.size=all.toArray.size:=by simpa using h2
   refine⟨λe=>?_,λj hj=>?_⟩
   ·obtain⟨o,ho,k1,k2⟩:=(yk (by rw[hpl,h1])).1 hj0;have:j0 ∈ Region.ready .any all.toArray listed:=(yk hsz).2 ⟨o,by rw[<-hpo j0 hj1];exact ho,(h3 j0 hj1).trans hj2,λe he hb=>by
     have hlt:e.on<j0:=hs.back j0 o (by rw [hpo j0 hj1] at ho;simpa using ho) e he hb;rw[h3 e.on om];exact k2 e he hb⟩
    rw [e] at this;cases this
   ·obtain⟨o,ho,k1,k2⟩:=(yk hsz).1 hj;have ho':all[j]? = some o:=by simpa using ho
    have hjl:j<all.length:=(p6.1 ho').1;have hjp:j<p:=by
     rcases ox j p with hl|hl
     ·exact hl
     ·have:=ja5 h5 8 j o ho' k2 j0 (hs.chain j o ho' hl j0 om);rw [h3 j0 hj1,hj2] at this;cases this
    have hg:o.guard=none:=hng o (ov ho');have hjr:j ∈ Region.ready .any (all.take p).toArray lp:=(yk (by rw[hpl,h1])).2 ⟨o,by rw[hpo j hjp];exact ho,by rw[<-h3 j hjp];exact k1,λe he hb=>by
     have hlt:e.on<j:=hs.back j o ho' e he hb;rw[<-h3 e.on om];exact k2 e he hb⟩
    have hh:=H.2 j hjr;rw [vn (by rw [hpo j hjp];exact ho) hg] at hh;rw[vn ho hg];have next:∀ (a':Act) (w':World),wpAnyIn F n P .any (all.take p).toArray (λe a w=>e = .normal/\wpOpsIn F n P all.toArray Q (List.range' p (all.length - p)) a w) fuel (lp.setIfInBounds j true) a' w'->wpAnyIn F n P .any all.toArray Q (fuel+(all.length - p)) (listed.setIfInBounds j true) a' w':=λa' w' h'=>by
     refine ih (lp.setIfInBounds j true) (listed.setIfInBounds j true) a' w' (by simpa using h1) (by simpa using h2) (λi hi=>?_) (λi h7 h8=>?_) (λi q hq hi e he hb=>?_) h'
     ·rw[xc _ _ _ om,xc _ _ _ om,h3 i hi]
     ·rw[xc _ _ _ om,h4 i h7 h8];simp;omega
     ·rw [xc _ _ _ om] at hi ⊢;by_cases e1:i=j
      ·subst e1;rw [ho'] at hq;cases hq;rw[k2 e he hb];rfl
      ·rw [po e1,Bool.or_false] at hi;rw[h5 i q hq hi e he hb];rfl
    exact qk9 rfl rfl (λe a w h=>h.1) (λv w' h=>next _ _ h) (λd w' h=>next _ _ h) hh
end
section
variable{P:Program}{TT:Nat->Option TI}{B:Bs}{w:World}{β:Env}{fp:Nat->Nat->Prop}{ts:List SV}{ks:List KB}{a:Act}{rd:Option Nat}{n:Nat}{Q:Exit->Act->World->Prop}
theorem zs9[Dr](hTT:TTok P TT)(hmix:P.follows .mixedOrders=true){ops:Array Oper}{p:Nat}(hp:qw8 ops.toList=some p){hs:List Bool}(hdr:vg (ops.toList.take p) hs=true){id:Nat}{ts':List SV}{ks':List KB}(h:Tr P TT (ops.toList.take p) (ops.toList.take p) ts ks ts' ks' hs)(hS:Sat B w β fp ts ks a)
 (hQ:∀ a' w' β' fp',Sat B w' β' fp' ts' ks' a'->wpOpsIn (qm rd) n P ops.toList.toArray Q (List.range' p (ops.toList.length - p)) a' w'):(Code.region id ops true).wpIn (qm rd) n P Q a w:=by
 obtain⟨hpl,hng,hser⟩:=yr0 hp;obtain⟨S,T,κ,e1,e2,e3,e4,e5,hw⟩:=h.places;have hdr:=jn1 hdr;refine wpIn_region_any hmix ?_;have hS0:Sat B { w with drawn:=w.drawn+1 } β fp (T 0) (κ 0) a:=by
  rw[e1,e2];exact hS.on (hS.went.mem.quiet ⟨rfl,rfl,rfl,pu _,λ_ _ _=>rfl,λ_=>by first|exact pu _|exact Nat.le_succ _⟩)
 have hlen:(ops.toList.take p).length=p:=by rw[o4];omega
 have hrep:∀ (k i:Nat),(Array.replicate k false).getD i false=false:=λk i=>by
  simp[Array.getD]
 obtain⟨h',hI⟩:=Inv.start hw hdr (m:=0) (pv _) (listed:=Array.replicate p false) (by rw[Array.size_replicate,hlen]) (λi hi=>by
  rw[hrep];simp) hS0
 have hpre:=jn3 (rd:=rd) (n:=n) (Q:=λe a w=>e = .normal/\wpOpsIn (qm rd) n P ops.toList.toArray Q (List.range' p (ops.toList.length - p)) a w) hTT hw hdr (λa' w' β' fp' hS'=>⟨rfl,hQ a' w' β' fp' (by rw[<-e3,<-e4];exact hS')⟩) p _ a _ 0 h' (List.range p) hI (λi hi _=>by simpa[hlen] using hi) sm;have:=xr8 hser hpl (qd3 hng) p (Array.replicate p false) (Array.replicate ops.size false) a _ sm sm (λi _=>by rw [hrep,hrep]) (λi _ _=>hrep _ _) (λi o _ hi=>by rw [hrep] at hi;cases hi) hpre;rw[show p+(ops.toList.length - p)=ops.size from by
  have:ops.toList.length=ops.size:=by simp
  omega] at this
 simpa using this
end
end
section
section
variable{P:Program}{TT:Nat->Option TI}{IN:Nat->Option Inl}{B:Bs}{w:World}{β:Env}{fp:Nat->Nat->Prop}{ts:List SV}{ks:List KB}{a:Act}
theorem zz7[Dr](hTT:TTok P TT)(hS:Sat B w β fp ts ks a):∀ (rs:List ResultVar) (c:List SV->Prop),resK TT ts ks rs c->∃ (ss:List SV) (vs:List Value),c ss/\ss.length=vs.length/\vs.length=rs.length /\
 (∀ (j:Nat) (s:SV) (u:Value),ss[j]? = some s->vs[j]? = some u->Den w (Mx B.X fp) β s u) /\
 (rs.mapM λ(r:ResultVar)=>(match r with
  | .tmp t=>pure (a.tmps.getD t undef)
  | .cell b t=>do loadVar t (<- asAddr (a.tmps.getD b undef)):Sem Value)).run P w = .ok vs w:=by
 have slot:∀ t:Nat,Den w (Mx B.X fp) β (getT ts t) (a.tmps.getD t undef):=λt=>by
  have:=hS.val (.tmp t);simpa only[Go.Eng.val,Act.eval] using this
 intro rs;induction rs with
 |nil=>intro c h;exact⟨[],[],h,rfl,rfl,sm,sm⟩
 |cons r rs ih =>
  intro c h;cases r with
  |tmp t =>
   simp only [resK,qe7] at h;obtain⟨ss,vs,hc,h1,h2,h3,h4⟩:=ih _ h;refine⟨getT ts t :: ss,a.tmps.getD t undef :: vs,hc,by simp[h1],by simp[h2],λj s u hs hu=>?_,by
    simp only[List.mapM_cons,p8,o6,ot,h4]⟩
   cases j with
   |zero=>simp only [bx,gu] at hs hu;rw [<-hs,<-hu];exact slot t
   |succ j=>exact h3 j s u (by simpa using hs) (by simpa using hu)
  |cell t ty =>
   simp only [resK] at h;split at h
   ·cases h
   ·rename_i size bytes agg zero desc eqk hty;rw [qe7] at h;have hv:=slot t;split at h
    ·rename_i i off hx;rw [hx] at hv;have ev:∃ L,β i=some L/\a.tmps.getD t undef = .pointer (some ⟨L.b,off,none⟩):=by
      generalize a.tmps.getD t undef=av at hv;cases hv with
      |ptr _ _ L hL=>exact⟨L,hL,rfl⟩
     obtain⟨L,hL,ev⟩:=ev;rw [jc] at h;split at h
     ·rename_i t' l hg;have hk:=hS.went.mem.at (qt hg sm) sm hL;cases hk with
      |cells _ _ vs hfp hb hl hd h1 =>
       obtain⟨r0,v0,hK,hr,hd'⟩:=qr5 (w:=w) (M:=Mx B.X fp) (β:=β) hTT hty ⟨L.b,0,none⟩ l off vs.toList (by simpa using hl) (λj s u hs hu=>hd j s u hs (by simpa using hu)) (λu hu=>by
        obtain⟨j,hj,rfl⟩:=mr.1 hu;exact h1 j _ sm) (λj u hu=>by
        rw[ym];simpa[World.cell?,hb] using hu) h
       rw [ym,o5] at hr;obtain⟨ss,us,hc,e1,e2,e3,e4⟩:=ih _ hK;refine⟨r0 :: ss,v0 :: us,hc,by simp[e1],by simp[e2],λj s u hs hu=>?_,?_⟩
       ·cases j with
        |zero=>simp only [bx,gu] at hs hu;rw [<-hs,<-hu];exact hd'
        |succ j=>exact e3 j s u (by simpa using hs) (by simpa using hu)
       ·have ha:(asAddr (a.tmps.getD t undef)).run P w = .ok ⟨L.b,off,none⟩ w:=by rw[ev];rfl
        simp only[List.mapM_cons,p8,ha,o6,ot,hr,e4]
     ·cases h
    ·cases h
theorem qq2[Dr](hTT:TTok P TT){fn:Func}(hS:Sat B w β fp ts ks a){c:List SV->Prop}(h:resK TT ts ks fn.results.toList c):∃ (ss:List SV) (us:List Value) (v:Value),c ss/\ss.length=us.length/\(∀ (j:Nat) (s:SV) (u:Value),ss[j]? = some s->us[j]? = some u->Den w (Mx B.X fp) β s u) /\
 (results fn a.tmps).run P w = .ok v w/\v=(if hh:us.toArray.size=1 then us.toArray[0] else .tuple us.toArray)/\Den w (Mx B.X fp) β (retV ss) v:=by
 obtain⟨ss,us,hc,e1,e2,e3,e4⟩:=zz7 (P:=P) hTT hS _ _ h;refine⟨ss,us,_,hc,e1,e3,?_,rfl,?_⟩
 ·have e4':(fn.results.mapM λ(r:ResultVar)=>(match r with
   | .tmp t=>pure (a.tmps.getD t undef)
   | .cell b t=>do loadVar t (<- asAddr (a.tmps.getD b undef)):Sem Value)).run P w = .ok us.toArray w:=by
   rw[Array.mapM_eq_mapM_toList];simp only[Sem.run_map,e4,ot]
  unfold results;simp only[p8];exact(congrArg (λr=>Result.andThen r _) e4').trans rfl
 ·unfold retV;split
  ·rename_i s;have hu1:us.length=1:=by rw[<-e1];rfl
   match us,hu1,e3 with
   |[u],_,e3=>exact e3 0 s u rfl rfl
  ·rename_i l hne;have hu1:¬ us.toArray.size=1:=λe=>by
    have:ss.length=1:=by rw[e1];simpa using e
    match ss,this with
    |[s],_=>exact hne s rfl
   rw[dif_neg hu1];exact .tup ss us e1 e3
theorem Went.other[Dr]{X:Nat->Prop}{w0:World}{β0:Env}{fp0:Nat->Nat->Prop}(h:Went X w0 β0 fp0 w β fp ks){r:Nat}{ob o:Obj}(hr:w.heap[r]? = some ob)(hob:∀ c e f,ob≠.cells c e f)(h0:w0.heap.size<=r)(hM:¬ Mx X fp r) :
 Went X w0 β0 fp0 (World.setBlock w r o) β fp ks/\Keep (Mx X fp) w (World.setBlock w r o):=by
 have hk:Keep (Mx X fp) w (World.setBlock w r o):=⟨by simp[World.setBlock],λp u _ hp=>by
  have hne:p.block≠r:=λe=>by
   unfold World.cell? at hp;rw [e,hr] at hp;split at hp
   ·rename_i c e f heq;cases heq;exact hob _ _ _ rfl
   ·cases hp
  have:=qa6 w r p.block o hne;unfold World.cell? at hp ⊢;rw[this];exact hp⟩
 have hm:=h.mem;refine⟨⟨⟨⟨λb hb=>by simpa[World.setBlock] using hm.xa b hb,hm.xb,hm.dis,λi b hb=>by simpa[World.setBlock] using hm.kw i b hb,hm.kn,λi L k hki hne hL=>?_⟩,hm.kl,λp hp=>?_⟩,⟨h.st.os,h.st.tape,h.st.output,by simpa[World.setBlock] using h.st.size,λb hb hn=>?_,h.st.dr⟩,h.ext,h.own⟩,hk⟩
 ·exact(hm.kb i L k hki hne hL).keep hk (λ_ _ e=>e) (Ext.refl _) (λb hb=>qa6 w r b o (λe=>hM (.inr ⟨i,e ▸ hb⟩)))
 ·obtain⟨⟨vs,t,fz,e,h1⟩,h2⟩:=hm.vo p hp;have hne:p.1≠r:=λe1=>by
   rw [e1,hr] at e;cases e;exact hob _ _ _ rfl
  exact⟨⟨vs,t,fz,(qa6 w r p.1 o hne).trans e,h1⟩,h2⟩
 ·rw[qa6 w r b o om];exact h.st.block b hb hn
theorem qq6[Dr]{F:Fence}{n:Nat}{fn:Func}{R:Ending->World->Prop}(hfin:∀ w',Sat B w' β fp ts ks { a with defers:=[] }->∃ v,(results fn a.tmps).run P w' = .ok v w'/\R (.returned v) w') :
 ∀ (ds:List Deferred) (w:World),Sat B w β fp ts ks { a with defers:=ds }->LeavesInM F n P fn a.tmps R ds .returning w:=by
 intro ds;induction ds with
 |nil=>intro w hS;exact hfin w hS
 |cons d ds ih =>
  intro w hS;obtain⟨r,hd,h0,hr,hM⟩:=hS.df.marks d sm;obtain⟨hW,hk⟩:=hS.went.other (o:=.deferred none) hr (λ_ _ _ e=>by cases e) h0 hM;refine⟨sm,.inl ⟨r,World.setBlock w r (.deferred none),hd,?_,ih _ ⟨hW,⟨λd' hd'=>?_,(dw.1 hS.df.un).2⟩,hS.len,λt s v hs hv=>(hS.tm t s v hs hv).keep hk (λ_ _ e=>e) (Ext.refl _)⟩⟩⟩
  ·have hg:(getObj r).run P w = .ok (.deferred (some [])) w:=by simp[getObj,Sem.run,hr]
   have hs:(setObj r (.deferred none)).run P w = .ok () (World.setBlock w r (.deferred none)):=by simp[setObj,Sem.run,hr,World.setBlock]
   simp[Instr.takeDeferred,hg,hs]
  ·obtain⟨r',e1,e2,e3,e4⟩:=hS.df.marks d' (by simp[hd']);have hne:=(dw.1 hS.df.un).1 d' hd' r r' hd e1;exact⟨r',e1,e2,by rw[qa6 w r r' _ (Ne.symm hne)];exact e3,e4⟩
def E(P:Program)(rd:Option Nat)(n:Nat)(SJ:(List SV->List KB->Prop)->Act->World->Prop)(Q:Exit->Act->World->Prop):List It->Exit->Act->World->Prop
 |[],e,a,w=>Q e a w
 | .code c :: r,.normal,a,w=>c.wpIn (qm rd) n P (E P rd n SJ Q r) a w
 | .code _ :: r,e,a,w=>E P rd n SJ Q r e a w
 | .ops _ _ all os :: r,.normal,a,w=>wpOpsIn (qm rd) n P all.toArray (E P rd n SJ Q r) (List.range' (all.length - os.length) os.length) a w
 | .ops _ _ _ _ :: r,e,a,w=>E P rd n SJ Q r e a w
 | .blk id :: r,.exit id',a,w=>if id'=id then E P rd n SJ Q r .normal a w else E P rd n SJ Q r (.exit id') a w
 | .blk _ :: r,e,a,w=>E P rd n SJ Q r e a w
 | .scp :: _,.goto _,_,_=>False
 | .scp :: r,e,a,w=>E P rd n SJ Q r e a w
 | .lp J :: _,.normal,a,w=>SJ J a w
 | .lp _ :: r,e,a,w=>E P rd n SJ Q r e a w
 | .again c :: r,.normal,a,w=>qk7 (qm rd) n P c (E P rd n SJ Q r) a w
 | .again _ :: r,e,a,w=>E P rd n SJ Q r e a w
theorem qk8{P:Program}{b:Frame}{a:Act}{k:List Item}{cs:List Frame}{w:World}{c:Code}:step P (lone (b.atR a (.code (.scope c) :: k)) cs w) = .next (lone (b.atR a (.code c :: .inScope c :: k)) cs w) :=
 step_lone_go (by simp[stepG,stepG.exec,Frame.atR])
theorem zj0{P:Program}{b:Frame}{a:Act}{k:List Item}{cs:List Frame}{w:World}{c:Code}:step P (lone (b.atR a (.inScope c :: k)) cs w) = .next (lone (b.atR a k) cs w) :=
 step_lone_go (by simp[stepG,stepG.exec,Frame.atR])
theorem zr7[Dr]{P:Program}{F:Fence}{n:Nat}{a:Act}{w:World}{Q:Exit->Act->World->Prop}{c:Code}(h:c.wpIn F n P (Exit.noGoto Q) a w):(Code.scope c).wpIn F n P Q a w:=by
 intro b k cs hro hb hr;have h0:(lone (b.atR a (.code (.scope c) :: k)) cs w).fenced P F:=fenced_calm hb hr rfl;obtain⟨e,a₁,w₁,hq,harr⟩:=h b (.inScope c :: k) cs hro hb hr;cases e with
 |normal=>exact⟨.normal,a₁,w₁,hq,.head h0 qk8 (StepsIn.trans harr (.one (fenced_calm hb hr rfl) zj0))⟩
 |exit id' =>
  have hx:exitTo id' (.inScope c :: k)=exitTo id' k:=by simp[exitTo]
  exact⟨.exit id',a₁,w₁,hq,λk' hk=>.head h0 qk8 (harr.1 k' (by rw[hx];exact hk)),
   λhr' hk=>let ⟨k₁,h1,h2⟩:=harr.2 hr' (by rw[hx];exact hk);⟨k₁,h1,.head h0 qk8 h2⟩⟩
 |goto l=>exact hq.elim
 |ret=>exact⟨_,a₁,w₁,hq,.of_steps (.one h0 qk8) harr⟩
 |panic ch=>exact⟨_,a₁,w₁,hq,.of_steps (.one h0 qk8) harr⟩
 |outgrown=>exact⟨_,a₁,w₁,hq,.of_steps (.one h0 qk8) harr⟩
def qc3:List It->Prop
 |[]=>True
 | .ops d _ all os :: r=>d=false/\(∃ i,all.drop i=os)/\qc3 r
 |_ :: r=>qc3 r
variable{rd:Option Nat}{n:Nat}{Q:Exit->Act->World->Prop}{SJ:(List SV->List KB->Prop)->Act->World->Prop}
theorem kd1(r:List It)(a:Act)(w:World)(h:Q .ret a w):E P rd n SJ Q r .ret a w:=by
 induction r with
 |nil=>exact h
 |cons x r ih=>cases x <;> exact ih
theorem ka2[Dr](id:Nat)(r:List It)(a:Act)(w:World):(∀ r',qh0 id r=some r'->E P rd n SJ Q r' .normal a w)->(qh0 id r=none->Q (.exit id) a w)->E P rd n SJ Q r (.exit id) a w:=by
 induction r with
 |nil=>intro _ h;exact h rfl
 |cons x r ih =>
  intro h1 h2;cases x with
  |blk i =>
   simp only[E];simp only [qh0] at h1 h2;by_cases he:id=i
   ·subst he;rw[if_pos rfl];rw [show Nat.beq id id=true from cz id] at h1;exact h1 r rfl
   ·rw[if_neg he];have hb:Nat.beq i id=false:=by
     cases hq:Nat.beq i id with
     |false=>rfl
     |true=>exact absurd (jg hq).symm he
    rw [hb] at h1 h2;exact ih h1 h2
  |scp=>exact ih h1 h2
  |code c=>exact ih h1 h2
  |ops x y=>exact ih h1 h2
  |lp J=>exact ih h1 h2
  |again c=>exact ih h1 h2
theorem xj8{id:Nat}{r r':List It}(h:qh0 id r=some r')(hr:qc3 r):qc3 r':=by
 induction r with
 |nil=>cases h
 |cons x r ih =>
  cases x with
  |blk i =>
   simp only [qh0] at h;split at h
   ·cases h;exact hr
   ·exact ih h hr
  |scp=>exact ih h hr
  |code c=>exact ih h hr
  |ops x y=>exact ih h hr.2.2
  |lp J=>exact ih h hr
  |again c=>exact ih h hr
theorem yt7[Dr](body:Code)(ts:List SV)(ks:List KB)(u:List (Nat × SV))(k:List (Nat × KB)):∃ ts' ks',∀ c',qa3 body ts ks u k c'=c' ts' ks':=by
 have h1:∀ (l:List Nat) (ts:List SV),∃ ts',∀ c,qg3 l ts c=c ts':=by
  intro l;induction l with
  |nil=>intro ts;exact⟨ts,λ_=>rfl⟩
  |cons t l ih=>intro ts;obtain⟨ts',h⟩:=ih (setT ts t .any);exact⟨ts',λc=>by simp only[qg3,vq];exact h c⟩
 have h2:∀ (l:List (Nat × SV)) (ts:List SV),∃ ts',∀ c,jg9 l ts c=c ts':=by
  intro l;induction l with
  |nil=>intro ts;exact⟨ts,λ_=>rfl⟩
  |cons p l ih=>obtain⟨t,v⟩:=p;intro ts;obtain⟨ts',h⟩:=ih (setT ts t v);exact⟨ts',λc=>by simp only[jg9,vq];exact h c⟩
 have h3:∀ (l:List (Nat × KB)) (ks:List KB),∃ ks',∀ c,jf5 l ks c=c ks':=by
  intro l;induction l with
  |nil=>intro ks;exact⟨ks,λ_=>rfl⟩
  |cons p l ih=>obtain⟨t,v⟩:=p;intro ks;obtain⟨ks',h⟩:=ih (ks.set t v);exact⟨ks',λc=>by simp only[jf5,y8];exact h c⟩
 obtain⟨t1,e1⟩:=h1 (qb7 body) ts;obtain⟨t2,e2⟩:=h2 u t1;obtain⟨k2,e3⟩:=h3 k ks;exact⟨t2,k2,λc'=>by unfold qa3;rw[e1,e2,e3]⟩
theorem jh4[Dr]{M:Nat->Prop}{x:DV}{v:Value}(h:Den w M β (.d x) v):v=(match x with| .tt=>.bool true| .ff=>.bool false| .bool b=>.bool b|_=>v):=by
 cases jj h <;> rfl
def INok(P:Program)(IN:Nat->Option Inl):Prop:=∀ f i,IN f=some i->∃ fn:Func,P.funcs[f]? = some fn/\fn.body=some i.body/\fn.results.toList=i.results/\fn.ntmps=i.nargs+i.extra/\∀ (args:Array Value) (w:World),(callFunc f args).run P w = .ok (.enter f args) w
theorem xp5(n j:Nat)(s:SV)(h:(anys n)[j]? = some s):s = .any:=by
 induction n generalizing j with
 |zero=>simp [anys] at h
 |succ n ih=>cases j with
  |zero=>simp [anys] at h;exact h.symm
  |succ j=>exact ih j (by simpa[anys] using h)
theorem zr2(n:Nat):(anys n).length=n:=by
 induction n with
 |zero=>rfl
 |succ n ih=>simp[anys,ih]
theorem qs4[Dr]{X:Nat->Prop}(hM:Mem X w β fp ks){as:List SV}{vs:List Value}(hl:as.length=vs.length)(hd:∀ (j:Nat) (s:SV) (u:Value),as[j]? = some s->vs[j]? = some u->Den w (Mx X fp) β s u){k m:Nat}(hm:m=as.length+k) :
 Sat ⟨X,w,β,fp⟩ w β fp (as++anys k) ks { tmps:=vs.toArray++Array.replicate (m - vs.toArray.size) undef,defers:=[] }:=by
 refine⟨Went.refl hM,Dfs.nil _ _ _,by simp[zr2];omega,λt s v hs hv=>?_⟩;by_cases ht:t<as.length
 ·rw [mn ht] at hs;have hv':vs[t]? = some v:=by
   rw [rx (by simp;omega)] at hv;simpa using hv
  exact hd t s v hs hv'
 ·rw [m7 om] at hs;rw[xp5 _ _ _ hs];exact .any _
end
end
end Go.Eng
