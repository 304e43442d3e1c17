/-
  Part of the proof: lemmas about the functions that the row calls, and about the steps of a run. Conditions: those ahead of each lemma.
-/
import Derived.OrdersIn
import Derived.Scope
import Derived.RangeFuncLeaves
import Derived.Test.YtoefgnnkajhmiaaGreatDoorN2
set_option linter.unusedVariables false
set_option linter.unusedSimpArgs false
set_option maxRecDepth 100000
set_option maxHeartbeats 64000000
namespace Go.Eng
open Go Go.RowKit
section
section
variable{P:Program}{TT:Nat->Option TI}{X:Nat->Prop}{w:World}{β:Env}{fp:Nat->Nat->Prop}{ts:List SV}{ks:List KB}{a:Act}{o:Oper}{r:Option Nat}{n:Nat}{next:Act->World->Prop}{Q:Exit->Act->World->Prop}
theorem jc1[Dr]{M M':Nat->Prop}{s:SV}{v:Value}(h:Den w M β s v)(hM:∀ b,M' b->M b):Den w M' β s v:=h.mono (Step.refl _ _) (fun b _ e=>hM b e) (Ext.refl _)
theorem jx5[Dr](h:Mem0 X w β fp ks){s:SV}{K:SV->List Nat->Prop}(hk:qn5 ks s K){v:Value}(hv:Den w (Mx X fp) β s v) :
 ∃ s' fr,K s' fr/\(∀ i ∈ fr,i<ks.length)/\∀ fr',(∀ i ∈ fr,i ∈ fr')->Den w (Mx X (jv fr' fp)) β s' v:=by
 unfold qn5 at hk;split at hk
 ·obtain⟨d,fr,hk,h1,h2⟩:=qm1 h hk hv;exact⟨_,fr,hk,h1,fun fr' hf=>.d (h2 fr' hf)⟩
 ·obtain⟨d,fr,hk,h1,h2⟩:=qm1 h hk hv;exact⟨_,fr,hk,h1,fun fr' hf=>.d (h2 fr' hf)⟩
 ·obtain⟨d,fr,hk,h1,h2⟩:=qm1 h hk hv;exact⟨_,fr,hk,h1,fun fr' hf=>.d (h2 fr' hf)⟩
 ·exact⟨s,[],hk,by simp,fun fr' _=>jc1 hv (h.goneM fr')⟩
theorem jw5[Dr](h:Mem0 X w β fp ks):∀ (l:List SV) (K:List SV->List Nat->Prop) (vs:List Value),qi9 ks l K->l.length=vs.length->(∀ (j:Nat) (s:SV) (u:Value),l[j]? = some s->vs[j]? = some u->Den w (Mx X fp) β s u) ->
 ∃ l' fr,K l' fr/\l'.length=l.length/\(∀ i ∈ fr,i<ks.length)/\∀ fr',(∀ i ∈ fr,i ∈ fr')->∀ (j:Nat) (s:SV) (u:Value),l'[j]? = some s->vs[j]? = some u->Den w (Mx X (jv fr' fp)) β s u:=by
 intro l;induction l with
 |nil=>intro K vs hk hl _;exact ⟨[],[],hk,rfl,by simp,fun _ _ j d u hd=>by simp at hd⟩
 |cons a l ih =>
  intro K vs hk hl hd;match vs,hl with
  |v :: vs,hl =>
   simp only [qi9] at hk;obtain⟨d,fr,hk,h1,h2⟩:=jx5 h hk (hd 0 a v rfl rfl);obtain⟨ds,fr2,hk,h3,h4,h5⟩:=ih _ vs hk (by simpa using hl) (fun j s u hs hu=>hd (j+1) s u (by simpa using hs) (by simpa using hu));rw [je2] at hk;refine⟨d :: ds,fr++fr2,hk,by simp[h3],fun i hi=>(o3.1 hi).elim (h1 i) (h4 i),fun fr' hf j x u hx hu=>?_⟩;cases j with
   |zero=>simp at hx hu;subst hx hu;exact h2 fr' (fun i hi=>hf i (by simp [hi]))
   |succ j=>exact h5 fr' (fun i hi=>hf i (by simp[hi])) j x u (by simpa using hx) (by simpa using hu)
theorem zb8[Dr](h:Mem0 X w β fp ks){i off n c size:Nat}{K:Nat->(Nat->List DV)->List Nat->Prop}(hk:srcK ks size (.cs i off n c) K){v:Value}(hv:Den w (Mx X fp) β (.cs i off n c) v) :
 ∃ k g fr,K k g fr/\(∀ q ∈ i :: fr,q<ks.length)/\∀ fr',(∀ q ∈ i :: fr,q ∈ fr')->Rd w (Mx X (jv fr' fp)) (.sl false k size g) v:=by
 cases hv with
 |cs _ _ _ _ L hL hnc =>
  unfold srcK at hk;simp only at hk;rw [qs] at hk;split at hk
  ·rename_i t l hg;split at hk
   ·rename_i hble;rw [y9] at hble;have hble:=jr hble;rw [qa3,qa1] at hk;have hki:=qk hg (by simp);have hil:i<ks.length:=(pq.1 hki).1;have hb:=h.at hki (by simp) hL;cases hb with
    |cells _ _ vs hfp hb hl hd h1 =>
     obtain⟨ds,fr,hk,h2,h3,h4⟩:=ql3 h _ _ ((vs.toList.drop off).take (n * size)) hk (by simp[hl]) (fun j s u hs hu=>by
      rw [mu] at hs hu;split at hs
      ·rename_i hj;rw [if_pos hj] at hu;rw [lq] at hs hu;exact hd _ _ _ hs (by simpa using hu)
      ·cases hs)
     have hdl:ds.length=n * size:=by rw[h2];simp;omega
     have hch:∀ j,j<n->(qx ds size j).length=size:=fun j hj=>by
      unfold qx;have:(j+1) * size<=n * size:=o6 _ hj;rw [ow,mv] at this;simp[hdl];omega
     have hin:∀ j q,j<n->q<size->off+(j * size+q)<vs.size:=fun j q hj hq=>by
      have:(j+1) * size<=n * size:=o6 _ hj;rw [ow,mv] at this;omega
     refine⟨n,_,fr,hk,fun q hq=>?_,fun fr' hf=>.sl n size _ ⟨L.b,off,none⟩ c (fun j q=>vs[off+(j * size+q)]?.getD undef) hnc (fun _=>⟨jo hb,h.goneOut (hf i (by simp)) ((hfp _).2 rfl)⟩) hch (fun j q d hj hdd=>?_) (fun j q d hj hdd=>?_)⟩
     ·rcases pv.1 hq with e|e
      ·subst e;exact hil
      ·exact h3 q e
     ·have hq:q<size:=by have:=(pq.1 hdd).1;rw [hch _ hj] at this;exact this
      rw[yc];simp[World.cell?,hb,hin j q hj hq]
     ·have hq:q<size:=by have:=(pq.1 hdd).1;rw [hch _ hj] at this;exact this
      unfold qx at hdd;rw [mu,if_pos hq,lq] at hdd;have hlt:=hin j q hj hq;refine h4 fr' (fun i hi=>hf i (by simp[hi])) (j * size+q) d _ hdd ?_;rw[mu,if_pos (by
       have:(j+1) * size<=n * size:=o6 _ hj;rw [ow,mv] at this;omega),lq]
      simp[hlt]
   ·exact hk.elim
  ·exact hk.elim
theorem zn1[Dr](hTT:TTok P TT)(h:Mem0 X w β fp ks){s:SV}{ty:Option TypeId}{K:SV->List Nat->Prop}(hk:qv8 TT ks s ty K){v:Value}(hv:Den w (Mx X fp) β s v) :
 ∃ s' fr,K s' fr/\(∀ i ∈ fr,i<ks.length)/\∀ fr',(∀ i ∈ fr,i ∈ fr')->Den w (Mx X (jv fr' fp)) β s' v:=by
 unfold qv8 at hk;split at hk
 ·rename_i l;cases hv with
  |agg _ vs hl hd h1 =>
   obtain⟨l',fr,hk,e1,e2,e3⟩:=jw5 h l _ vs hk hl hd;exact⟨_,fr,hk,e2,fun fr' hf=>.agg l' vs (by omega) (e3 fr' hf) h1⟩
 ·rename_i i off n c;split at hk
  ·split at hk
   ·rename_i _ _ _ _ e _ ht;split at hk
    ·rename_i size _ _ _ _ _ hte;rw [qs] at hk;split at hk
     ·rename_i e' sz m z f hg;split at hk
      ·rename_i hsz;cases qv hsz;obtain⟨⟨h1,h2,h3⟩,hk⟩:=hk;have hki:=qk hg (by simp);have hi:i<ks.length:=(pq.1 hki).1;cases hv with
       |cs _ _ _ _ L hL hnc =>
        have hb:=h.at hki (by simp) hL;cases hb with
        |rowNil=>omega
        |row _ _ _ _ _ vs fz hfp _ hLs hLn hzz hb hfz hvs hng hfl hr _ =>
         exact⟨_,_,hk,by simp[hi],fun fr' hf=>.d (qn7 (M':=Mx X (jv fr' fp)) hb hvs hng hfl hr (Nat.div off size) n off c h2 hnc (fun _=>h1) (h.goneOut (hf i (by simp)) ((hfp _).2 rfl)) (h.goneM fr'))⟩
      ·exact hk.elim
     ·obtain⟨k,g,fr,hk,h1,h2⟩:=zb8 h hk hv;exact⟨_,_,hk,h1,fun fr' hf=>.d (h2 fr' hf)⟩
    ·exact hk.elim
   ·exact hk.elim
  ·exact hk.elim
 ·exact jx5 h hk hv
theorem qh0[Dr](hTT:TTok P TT)(h:Mem0 X w β fp ks):∀ (l:List SV) (tys:List TypeId) (K:List SV->List Nat->Prop) (vs:List Value),ve TT ks l tys K->l.length=vs.length->(∀ (j:Nat) (s:SV) (u:Value),l[j]? = some s->vs[j]? = some u->Den w (Mx X fp) β s u) ->
 ∃ l' fr,K l' fr/\l'.length=l.length/\(∀ i ∈ fr,i<ks.length)/\∀ fr',(∀ i ∈ fr,i ∈ fr')->∀ (j:Nat) (s:SV) (u:Value),l'[j]? = some s->vs[j]? = some u->Den w (Mx X (jv fr' fp)) β s u:=by
 intro l;induction l with
 |nil=>intro tys K vs hk hl _;exact ⟨[],[],hk,rfl,by simp,fun _ _ j d u hd=>by simp at hd⟩
 |cons a l ih =>
  intro tys K vs hk hl hd;match vs,hl with
  |v :: vs,hl =>
   simp only [ve] at hk;obtain⟨d,fr,hk,h1,h2⟩:=zn1 hTT h hk (hd 0 a v rfl rfl);obtain⟨ds,fr2,hk,h3,h4,h5⟩:=ih _ _ vs hk (by simpa using hl) (fun j s u hs hu=>hd (j+1) s u (by simpa using hs) (by simpa using hu));rw [je2] at hk;refine⟨d :: ds,fr++fr2,hk,by simp[h3],fun i hi=>(o3.1 hi).elim (h1 i) (h4 i),fun fr' hf j x u hx hu=>?_⟩;cases j with
   |zero=>simp at hx hu;subst hx hu;exact h2 fr' (fun i hi=>hf i (by simp [hi]))
   |succ j=>exact h5 fr' (fun i hi=>hf i (by simp[hi])) j x u (by simpa using hx) (by simpa using hu)
theorem Mem.quiet[Dr](h:Mem X w β fp ks){w':World}(hs:Step (fun _=>False) w w'):Went X w β fp w' β fp ks :=
 h.go (hs.mono (fun _ _ e=>e.elim)) (Ext.refl _) (fun i b hb=>.inl ⟨i,hb⟩) h.dis (fun i b hb=>bx (h.kw i b hb) hs.size) h.kl h.ka h.kn (fun i L k hk _ hL=>.inl ⟨hk,hL,rfl,fun b hb=>hs.block b (h.kw i b hb) (fun e=>e)⟩)
theorem qm3[Dr]{M:Nat->Prop}(hT:∀ x,Den w M β (val ts x) (a.eval x))(args:List Operand)(caps:List SV)(vs:List Value)(hl:caps.length=vs.length)(hd:∀ (j:Nat) (s:SV) (u:Value),caps[j]? = some s->vs[j]? = some u->Den w M β s u) :
 (vals ts args++caps).length=(args.map a.eval++vs).length/\∀ (j:Nat) (s:SV) (u:Value),(vals ts args++caps)[j]? = some s->(args.map a.eval++vs)[j]? = some u->Den w M β s u:=by
 refine⟨by simp[qq3,hl],fun j s u hs hu=>?_⟩;by_cases hj:j<args.length
 ·rw [ot (by rw [qq3];exact hj),ym6] at hs;rw [ot (by simpa using hj),o4] at hu;cases hx:args[j]? with
  |none=>rw [hx] at hs;cases hs
  |some x =>
   rw [hx] at hs hu;cases hs;cases hu;exact hT x
 ·rw [o5 (by rw [qq3];omega),qq3] at hs;rw [o5 (by simp;omega),mn] at hu;exact hd _ _ _ hs hu
theorem vx[Dr]{g:Operand}{args:Array Operand}{tys:Array TypeId}(ho:o.op = .call ⟨.value g,args,tys⟩){f:FuncId}{vs:List Value}(ev:a.eval g = .func (.func f) #[] vs.toArray)(hent:∀ (args:Array Value) (w:World),(callFunc f args).run P w = .ok (.enter f args) w)
 {R:Ending->World->Prop} (hc:Calls P f (args.toList.map a.eval++vs).toArray w R) (hR:∀ e w',R e w'->∃ v,e = .returned v/\next (a.put o.dst v) w'):o.wpIn (ql r) n P a w next Q:=by
 refine⟨fun _ _=>trivial,?_⟩;rw[Oper.semAt_eq _ _ _ (by rw[ho];simp)];have hrun:(execOp a.eval o).run P w = .ok (.enter f (args.toList.map a.eval++vs).toArray) w:=by
  have hargs:args.map a.eval++vs.toArray=(args.toList.map a.eval++vs).toArray:=by apply Array.ext';simp
  simp only[execOp,ho,resolve,ev,Deferred.ofValue,p6,oy,p9,invoke,Array.empty_append,hargs,hent]
 rw[hrun];refine ⟨fun hsm=>by simp [ql,Fence.wide] at hsm,jw3 ?_⟩;refine hc.mono ?_;intro e w' he;obtain⟨v,rfl,hv⟩:=hR e w' he;exact hv
def yt0[Dr](X:Nat->Prop)(w:World)(β:Env)(fp:Nat->Nat->Prop)(a:Act)(o:Oper)(K:Bool->SV->List KB->Prop)(next:Act->World->Prop):Prop :=
 ∀ h r ks' v w' β' fp',K h r ks'->Went X w β fp w' β' fp' ks'->Den w' (Mx X fp') β' r v->next (a.put o.dst v) w'
theorem qh5[Dr]{f:FuncId}{as:List SV}{res:SV}{M:Nat->Prop}{vs:List Value}(hok:FnOk P f as res)(hV:VOk w (fun _ _=>False))(hM:∀ b,M b->b<w.heap.size)(hl:as.length=vs.length)(hd:∀ (j:Nat) (s:SV) (u:Value),as[j]? = some s->vs[j]? = some u->Den w M β s u)(hcl:xj as=true) :
 Calls P f vs.toArray w fun e w'=>∃ v,e = .returned v/\Step (fun _=>False) w w'/\Den w' M noE res v :=
 hok.2 M w vs hV hM hl (fun j s u hs hu=>(hd j s u hs hu).closed (qq7 hcl j s hs) _)
theorem jz9[Dr]{f:FuncId}{as:List SV}{res:SV}{M M':Nat->Prop}{vs:List Value}(hok:zb9 P f as res)(hV:VOk w (fun _ _=>False))(hM:∀ b,M b->b<w.heap.size)(hM':∀ b,M' b->b<w.heap.size)(hl:as.length=vs.length)(hd:∀ (j:Nat) (s:SV) (u:Value),as[j]? = some s->vs[j]? = some u->Den w M β s u)(hcl:xj as=true) :
 Calls P f vs.toArray w fun e w'=>∃ v,e = .returned v/\Step (fun _=>False) w w'/\Den w' M' noE res v :=
 hok.2 M M' w vs hV hM hM' hl (fun j s u hs hu=>(hd j s u hs hu).closed (qq7 hcl j s hs) _)
theorem jv4[Dr](hTT:TTok P TT){K:Bool->SV->List KB->Prop}{g:Operand}{args:Array Operand}{tys:Array TypeId}{tl:List TypeId}(ho:o.op = .call ⟨.value g,args,tys⟩){f:FuncId}{caps:List SV}{vs:List Value}(ev:a.eval g = .func (.func f) #[] vs.toArray)
 (hl:caps.length=vs.length) (hd:∀ (j:Nat) (s:SV) (u:Value),caps[j]? = some s->vs[j]? = some u->Den w (Mx X fp) β s u) (h:CallStop P TT f (vals ts args.toList++caps) tl ks K) (hM:Mem X w β fp ks) (hT:∀ x,Den w (Mx X fp) β (val ts x) (a.eval x)) (hn:yt0 X w β fp a o K next) :
 o.wpIn (ql r) n P a w next Q:=by
 obtain⟨al,ad⟩:=qm3 (a:=a) hT args.toList caps vs hl hd;cases h with
 |data res hok hcl hcr hK =>
  refine vx ho ev hok.1 (qh5 hok hM.vo.no hM.mlt al ad hcl) ?_;rintro e w' ⟨v,rfl,hst,hden⟩;exact⟨v,rfl,hn _ _ _ _ _ _ _ hK (hM.quiet hst) (hden.closed hcr β)⟩
 |view res as' fr hok hview hcl hsc hK =>
  obtain⟨l',fr',⟨rfl,rfl⟩,e1,e2,e3⟩:=qh0 hTT hM.toMem0 _ _ _ _ hview al ad;refine vx ho ev hok.1 (qh5 hok hM.vo.no (fun b hb=>hM.mlt b (hM.goneM fr' b hb)) (by omega) (e3 fr' (fun _ h=>h)) hcl) ?_
  rintro e w' ⟨v,rfl,hst,hden⟩
  exact⟨v,rfl,hn _ _ _ _ _ _ _ hK (hM.quiet hst) (hden.scalar hsc _ _ _)⟩
 |fresh res as' fr hok hview hcl hcr hK =>
  obtain⟨l',fr',⟨rfl,rfl⟩,e1,e2,e3⟩:=qh0 hTT hM.toMem0 _ _ _ _ hview al ad;refine vx ho ev hok.1 (jz9 hok hM.vo.no (fun b hb=>hM.mlt b (hM.goneM fr' b hb)) hM.mlt (by omega) (e3 fr' (fun _ h=>h)) hcl) ?_
  rintro e w' ⟨v,rfl,hst,hden⟩
  exact⟨v,rfl,hn _ _ _ _ _ _ _ hK (hM.quiet hst) (hden.closed hcr β)⟩
 |frz res as' fr hok hview hcl hcr hK =>
  obtain⟨l',fr',⟨rfl,rfl⟩,e1,e2,e3⟩:=qh0 hTT hM.toMem0 _ _ _ _ hview al ad;refine vx ho ev hok.1 (qh5 hok hM.vo.no (fun b hb=>hM.mlt b (hM.goneM fr' b hb)) (by omega) (e3 fr' (fun _ h=>h)) hcl) ?_
  rintro e w' ⟨v,rfl,hst,hden⟩
  have hW:=hM.gone fr';exact⟨v,rfl,hn _ _ _ _ _ _ _ hK (hW.trans (hW.mem.quiet hst)) (hden.closed hcr β)⟩
 |mem res ks' hok hK =>
  refine vx ho ev hok.1 (hok.2 X w β fp _ hM al ad) ?_;rintro e w' ⟨v,s,k2,β',fp',rfl,⟨rfl,rfl⟩,hW,hden⟩;exact⟨v,rfl,hn _ _ _ _ _ _ _ hK hW hden⟩
theorem zd6[Dr](hTT:TTok P TT){K:Bool->SV->List KB->Prop}{g:Operand}{args:Array Operand}{tys:Array TypeId}{tl:List TypeId}(ho:o.op = .call ⟨.value g,args,tys⟩){f:FuncId}{caps:List SV}{vs:List Value}(ev:a.eval g = .func (.func f) #[] vs.toArray)
 (hl:caps.length=vs.length) (hd:∀ (j:Nat) (s:SV) (u:Value),caps[j]? = some s->vs[j]? = some u->Den w (Mx X fp) β s u) (h:CallStop P TT f (vals ts args.toList++caps) tl ks K) (hf:∀ s k,¬ K true s k) (hM:Mem0 X w β fp ks) (hV:VOk w (fun _ _=>False)) (hT:∀ x,Den w (Mx X fp) β (val ts x) (a.eval x))
 (hn:∀ s k v w',K false s k->Step (fun _=>False) w w'->Den w' (Mx X fp) β s v->next (a.put o.dst v) w') :
 o.wpIn (ql r) n P a w next Q:=by
 obtain⟨al,ad⟩:=qm3 (a:=a) hT args.toList caps vs hl hd;cases h with
 |data res hok hcl hcr hK =>
  refine vx ho ev hok.1 (qh5 hok hV hM.mlt al ad hcl) ?_;rintro e w' ⟨v,rfl,hst,hden⟩;exact⟨v,rfl,hn _ _ _ _ hK hst (hden.closed hcr β)⟩
 |view res as' fr hok hview hcl hsc hK =>
  obtain⟨l',fr',⟨rfl,rfl⟩,e1,e2,e3⟩:=qh0 hTT hM _ _ _ _ hview al ad;refine vx ho ev hok.1 (qh5 hok hV (fun b hb=>hM.mlt b (hM.goneM fr' b hb)) (by omega) (e3 fr' (fun _ h=>h)) hcl) ?_
  rintro e w' ⟨v,rfl,hst,hden⟩
  exact⟨v,rfl,hn _ _ _ _ hK hst (hden.scalar hsc _ _ _)⟩
 |fresh res as' fr hok hview hcl hcr hK =>
  obtain⟨l',fr',⟨rfl,rfl⟩,e1,e2,e3⟩:=qh0 hTT hM _ _ _ _ hview al ad;refine vx ho ev hok.1 (jz9 hok hV (fun b hb=>hM.mlt b (hM.goneM fr' b hb)) hM.mlt (by omega) (e3 fr' (fun _ h=>h)) hcl) ?_
  rintro e w' ⟨v,rfl,hst,hden⟩
  exact⟨v,rfl,hn _ _ _ _ hK hst (hden.closed hcr β)⟩
 |frz res as' fr hok hview hcl hcr hK=>exact absurd hK (hf _ _)
 |mem res ks' hok hK=>exact absurd hK (hf _ _)
theorem jb8{M:Nat->Prop}{g:Operand}{f:FuncId}{caps:List SV}(hv:Den w M β (.fn f caps) (a.eval g)):∃ vs:List Value,a.eval g = .func (.func f) #[] vs.toArray/\caps.length=vs.length/\∀ (j:Nat) (s:SV) (u:Value),caps[j]? = some s->vs[j]? = some u->Den w M β s u:=by
 generalize a.eval g=av at hv;cases hv with
 |fn _ _ vs hl hd=>exact⟨vs,rfl,hl,hd⟩
theorem xa2[Dr](hTT:TTok P TT){K:Bool->SV->List KB->Prop}{g:Operand}{args:Array Operand}{tys:Array TypeId}(ho:o.op = .call ⟨.value g,args,tys⟩)(h:cev P TT ts ks g args.toList tys.toList K)(hM:Mem X w β fp ks)(hT:∀ x,Den w (Mx X fp) β (val ts x) (a.eval x))(hn:yt0 X w β fp a o K next) :
 o.wpIn (ql r) n P a w next Q:=by
 unfold cev at h;rw [qm] at h;have hv:=hT g;split at h
 ·rename_i f caps hg;rw [hg] at hv;rw [qa0,qe7] at h;obtain⟨vs,ev,hl,hd⟩:=jb8 hv;exact jv4 hTT ho ev hl hd h hM hT hn
 ·cases h
theorem zf5[Dr](hTT:TTok P TT){K:Bool->SV->List KB->Prop}{g:Operand}{args:Array Operand}{tys:Array TypeId}(ho:o.op = .call ⟨.value g,args,tys⟩)(h:cev P TT ts ks g args.toList tys.toList K)(hf:∀ s k,¬ K true s k)(hM:Mem0 X w β fp ks)(hV:VOk w (fun _ _=>False))(hT:∀ x,Den w (Mx X fp) β (val ts x) (a.eval x))
 (hn:∀ s k v w',K false s k->Step (fun _=>False) w w'->Den w' (Mx X fp) β s v->next (a.put o.dst v) w'):o.wpIn (ql r) n P a w next Q:=by
 unfold cev at h;rw [qm] at h;have hv:=hT g;split at h
 ·rename_i f caps hg;rw [hg] at hv;rw [qa0,qe7] at h;obtain⟨vs,ev,hl,hd⟩:=jb8 hv;exact zd6 hTT ho ev hl hd h hf hM hV hT hn
 ·cases h
theorem xm8{t:Nat}{l:List Nat}(h:memN t l=true):t ∈ l:=by
 induction l with
 |nil=>cases h
 |cons a l ih =>
  simp only [memN] at h;split at h
  ·rename_i e;rw[bq e];exact mz ..
  ·exact m8 _ (ih h)
theorem qs4{t:Nat}{l:List Nat}(h:memN t l=false):t ∉ l:=by
 induction l with
 |nil=>simp
 |cons a l ih =>
  simp only [memN] at h;split at h
  ·cases h
  ·rename_i e;intro hm;rcases pv.1 hm with rfl|hm
   ·rw [cw] at e;cases e
   ·exact ih h hm
theorem yn2[Dr]{l m:List Nat}(h:subN l m=true):∀ i ∈ l,i ∈ m:=by
 induction l with
 |nil=>intro i hi;cases hi
 |cons a l ih =>
  simp only [subN] at h;split at h
  ·rename_i e;intro i hi;rcases pv.1 hi with rfl|hi
   ·exact xm8 e
   ·exact ih h i hi
  ·cases h
theorem yb8[Dr]{fr:List Nat}:∀ {js:List (Nat × TypeId × List SV)},qt6 ks fr js->∀ p ∈ js,∃ l,getB ks p.1 = .cells p.2.1 l/\qi9 ks l (fun m f=>m=p.2.2/\subN f fr=true)/\memN p.1 fr=false
 |[],_,p,hp=>by cases hp
 |(j,t,l') :: r,h,p,hp=>by
  rcases pv.1 hp with rfl|hp
  ·exact h.1
  ·exact yb8 h.2 p hp
theorem ju9[Dr]:∀ (js:List (Nat × TypeId × List SV)) (l:List KB),(qi4 l js).length=l.length
 |[],_=>rfl
 |(j,t,l') :: r,l=>by simp only[qi4];rw[ju9 r,yr,gn]
theorem ji0[Dr]:∀ (js:List (Nat × TypeId × List SV)) (l:List KB) (i:Nat) (k:KB),(qi4 l js)[i]? = some k->l[i]? = some k\/∃ p ∈ js,p.1=i/\k = .cells p.2.1 p.2.2
 |[],l,i,k,h=>.inl h
 |(j,t,l') :: r,l,i,k,h=>by
  rcases ji0 r _ i k h with h|⟨p,hp,h1,h2⟩
  ·rw [yr,oq] at h;split at h
   ·rename_i e;split at h
    ·simp only [my] at h;exact .inr ⟨(j,t,l'),mz ..,e,h.symm⟩
    ·cases h
   ·exact .inl h
  ·exact .inr ⟨p,m8 _ hp,h1,h2⟩
theorem Mem.still[Dr](h:Mem X w β fp ks){fr:List Nat}{js:List (Nat × TypeId × List SV)}(hs:qt6 ks fr js):Went X w β fp w β (jv fr fp) (qi4 (jm fr ks) js):=by
 refine h.go (Step.refl _ _) (Ext.refl _) (fun i b hb=>.inl ⟨i,hb.2⟩) (fun i j b hi hj=>h.dis i j b hi.2 hj.2) (fun i b hb=>h.kw i b hb.2) (fun i hi=>?_) (fun i t dom cols hi=>?_) (fun i b hb=>h.kn i b hb.2) (fun i L k hk hne hL=>?_)
 ·rw [ju9,ji5] at hi;exact h.kl i hi
 ·rcases ji0 _ _ _ _ hi with hi|⟨p,_,_,e⟩
  ·exact h.ka i t dom cols (ja4 fr ks i _ hi (by simp)).2
  ·cases e
 ·rcases ji0 _ _ _ _ hk with hk|⟨p,hp,rfl,rfl⟩
  ·obtain⟨h1,h2⟩:=ja4 fr ks i k hk hne;exact .inl ⟨h2,hL,by funext b;simp[jv,h1],fun _ _=>rfl⟩
  ·obtain⟨l,hg,hv,hm⟩:=yb8 hs p hp;have hnm:=qs4 hm;have hkb:=h.kb p.1 L _ (qk hg (by simp)) (by simp) hL;refine .inr ?_;cases hkb with
   |cells _ _ vs h0 h1 h3 h4 h5 =>
    obtain⟨l',f',⟨rfl,hsub⟩,e1,_,e3⟩:=jw5 h.toMem0 l _ vs.toList hv (by simpa using h3) (fun j s u hs hu=>h4 j s u hs (by simpa using hu));exact .cells _ _ vs (fun x=>by simp only[jv];rw[<-h0 x];exact⟨fun a=>a.2,fun a=>⟨hnm,a⟩⟩) h1 (by omega) (fun j s u hs hu=>e3 fr (yn2 hsub) j s u hs (by simpa using hu)) h5
theorem ze4[Dr](hTT:TTok P TT){K:SV->List KB->Prop}{g:Operand}{args:Array Operand}{tys:Array TypeId}{tl:List TypeId}(ho:o.op = .call ⟨.value g,args,tys⟩){f:FuncId}{caps:List SV}{vs:List Value}(ev:a.eval g = .func (.func f) #[] vs.toArray)
 (hl:caps.length=vs.length) (hd:∀ (j:Nat) (s:SV) (u:Value),caps[j]? = some s->vs[j]? = some u->Den w (Mx X fp) β s u) (h:SeqStop P TT f (vals ts args.toList++caps) tl ks K) (hM:Mem X w β fp ks) (hT:∀ x,Den w (Mx X fp) β (val ts x) (a.eval x)) (hn:zp X w β fp a o K next) :
 o.wpIn (ql r) n P a w next Q:=by
 induction h generalizing fp with
 |one h=>exact jv4 hTT ho ev hl hd h hM hT (fun _ r ks' v w' β' fp' hK hW hD=>hn r ks' v w' β' fp' hK hW hD)
 |fz fr js hst _ ih =>
  have hW:=hM.still hst;exact ih (fun j s u hs hu=>hW.den (hd j s u hs hu)) hW.mem (fun x=>hW.den (hT x)) (fun r ks' v w' β' fp' hK hW' hD=>hn r ks' v w' β' fp' hK (hW.trans hW') hD)
 |rel R hok hK =>
  obtain⟨al,ad⟩:=qm3 (a:=a) hT args.toList caps vs hl hd;refine vx ho ev hok.1 (hok.2 X w β fp _ hM al ad) ?_;rintro e w' ⟨v,s,k2,β',fp',rfl,hr,hW,hden⟩;exact⟨v,rfl,hn _ _ _ _ _ _ (hK _ _ hr) hW hden⟩
 |still fr js res as' hst hview hok hcl hcr hK =>
  obtain⟨al,ad⟩:=qm3 (a:=a) hT args.toList caps vs hl hd;obtain⟨l',fr',⟨rfl,hsub⟩,e1,e2,e3⟩:=qh0 hTT hM.toMem0 _ _ _ _ hview al ad;refine vx ho ev hok.1 (qh5 hok hM.vo.no (fun b hb=>hM.mlt b (hM.goneM fr b hb)) (by omega) (e3 fr (yn2 hsub)) hcl) ?_
  rintro e w' ⟨v,rfl,hq,hden⟩
  have hW:=hM.still hst;exact⟨v,rfl,hn _ _ _ _ _ _ hK (hW.trans (hW.mem.quiet hq)) (hden.closed hcr β)⟩
end
end
section
def Ex{α:Type}(F:(α->Prop)->Prop):Prop:=∀ K:α->Prop,F K->∃ s,F (fun x=>x=s)/\K s
namespace Ex
variable{α:Type}
theorem self(s:α):Ex (fun K:α->Prop=>K s):=fun _ h=>⟨s,rfl,h⟩
theorem no:Ex (fun _:α->Prop=>False):=fun _ h=>h.elim
theorem and{c:Prop}{F:(α->Prop)->Prop}(h:Ex F):Ex (fun K=>c/\F K):=fun K hk=>by
 obtain⟨s,a,b⟩:=h K hk.2;exact⟨s,⟨hk.1,a⟩,b⟩
theorem two{b:Bool}{F G:(α->Prop)->Prop}(hF:Ex F)(hG:Ex G):Ex (fun K=>(b=true->F K)/\(b=false->G K)):=fun K hk=>by
 cases b with
 |false =>
  obtain⟨s,x,y⟩:=hG K (hk.2 rfl);exact⟨s,⟨fun e=>(by cases e),fun _=>x⟩,y⟩
 |true =>
  obtain⟨s,x,y⟩:=hF K (hk.1 rfl);exact⟨s,⟨fun _=>x,fun e=>(by cases e)⟩,y⟩
theorem on{β:Type}{H:(β->Prop)->Prop}{v:β}(hH:∀ k,H k=k v){G:β->(α->Prop)->Prop}(h:Ex (G v)):Ex (fun K=>H (fun x=>G x K)):=fun K hk=>by
 have hk':G v K:=by have:=hH (fun x=>G x K);rw[<-this];exact hk
 obtain⟨s,a,b⟩:=h K hk';refine⟨s,?_,b⟩;have:=hH (fun x=>G x (fun y=>y=s));show H (fun x=>G x (fun y=>y=s));rw[this];exact a
theorem val[Dr]{ts:List SV}{x:Operand}{G:SV->(α->Prop)->Prop}(h:∀ v,Ex (G v)):Ex (fun K=>valK ts x (fun v=>G v K)):=on (fun k=>qm ts x k) (h _)
theorem vals[Dr]{ts:List SV}{x:List Operand}{G:List SV->(α->Prop)->Prop}(h:∀ v,Ex (G v)):Ex (fun K=>qf5 ts x (fun v=>G v K)):=on (fun k=>qa0 ts x k) (h _)
theorem app[Dr]{l m:List SV}{G:List SV->(α->Prop)->Prop}(h:∀ v,Ex (G v)):Ex (fun K=>appK l m (fun v=>G v K)):=on (fun k=>qe7 l m k) (h _)
theorem getT[Dr]{ts:List SV}{n:Nat}{G:SV->(α->Prop)->Prop}(h:∀ v,Ex (G v)):Ex (fun K=>ug ts n (fun v=>G v K)):=on (fun k=>qd9 ts n k) (h _)
theorem getB[Dr]{ts:List KB}{n:Nat}{G:KB->(α->Prop)->Prop}(h:∀ v,Ex (G v)):Ex (fun K=>qp ts n (fun v=>G v K)):=on (fun k=>qs ts n k) (h _)
theorem take[Dr]{l:List SV}{n:Nat}{G:List SV->(α->Prop)->Prop}(h:∀ v,Ex (G v)):Ex (fun K=>vh l n (fun v=>G v K)):=on (fun k=>qa1 l n k) (h _)
theorem drop[Dr]{l:List SV}{n:Nat}{G:List SV->(α->Prop)->Prop}(h:∀ v,Ex (G v)):Ex (fun K=>vm l n (fun v=>G v K)):=on (fun k=>qa3 l n k) (h _)
theorem mapD[Dr]{l:List DV}{G:List SV->(α->Prop)->Prop}(h:∀ v,Ex (G v)):Ex (fun K=>qp1 l (fun v=>G v K)):=on (fun k=>jo2 l k) (h _)
theorem put[Dr]{l m:List SV}{n:Nat}{G:List SV->(α->Prop)->Prop}(h:∀ v,Ex (G v)):Ex (fun K=>putK l n m (fun v=>G v K)):=on (fun k=>qj1 l n m k) (h _)
theorem addB[Dr]{l:List KB}{k:KB}{G:List KB->(α->Prop)->Prop}(h:∀ v,Ex (G v)):Ex (fun K=>uh l k (fun v=>G v K)):=on (fun c=>xr l k c) (h _)
theorem setB[Dr]{l:List KB}{n:Nat}{k:KB}{G:List KB->(α->Prop)->Prop}(h:∀ v,Ex (G v)):Ex (fun K=>jf l n k (fun v=>G v K)):=on (fun c=>jp l n k c) (h _)
theorem lenB[Dr]{l:List KB}{n:Nat}{G:Nat->(α->Prop)->Prop}(h:∀ v,Ex (G v)):Ex (fun K=>wv l n (fun v=>G v K)):=on (fun c=>zx l n c) (h _)
theorem bool[Dr]{x:DV}{G:Bool->(α->Prop)->Prop}(h:∀ v,Ex (G v)):Ex (fun K=>qc3 x (fun v=>G v K) False):=by
 unfold qc3;split
 ·exact h _
 ·exact h _
 ·exact h _
 ·exact no
theorem cells[Dr]{v:SV}{G:List SV->(α->Prop)->Prop}(h:∀ v,Ex (G v)):Ex (fun K=>km v (fun l=>G l K)):=by
 unfold km;split
 ·exact h _
 ·exact no
 ·exact no
 ·split
  ·exact h _
  ·exact no
 ·exact h _
theorem pack[Dr]{agg:Bool}{size:Nat}{l:List SV}{off:Nat}{G:SV->(α->Prop)->Prop}(h:∀ v,Ex (G v)):Ex (fun K=>wd agg size l off (fun v=>G v K)):=by
 unfold wd;split
 ·split
  ·exact drop fun m=>take fun r=>h _
  ·split
   ·exact getT h
   ·exact no
 ·exact no
theorem ints[Dr]{k:IntKind}:∀ {l:List SV} {G:List Int->(α->Prop)->Prop} (_:∀ v,Ex (G v)),Ex (fun K=>qb7 k l (fun v=>G v K)):=by
 intro l;induction l with
 |nil=>intro G h;exact h []
 |cons s l ih =>
  intro G h;cases s with
  |d x=>cases x with
   |int k' n =>
    simp only[qb7];split
    ·exact ih fun r=>h (n :: r)
    ·exact no
   |_=>exact no
  |_=>exact no
theorem putI[Dr]{k:IntKind}{i n:Int}:∀ {l:List SV} {j:Int} {G:List SV->(α->Prop)->Prop} (_:∀ v,Ex (G v)),Ex (fun K=>qp0 k i n l j (fun v=>G v K)):=by
 intro l;induction l with
 |nil=>intro j G h;exact h []
 |cons s l ih =>
  intro j G h;cases s with
  |d x=>cases x with
   |int k' n =>
    simp only[qp0];split
    ·exact ih fun r=>h (_ :: r)
    ·exact no
   |_=>exact no
  |_=>exact no
theorem eqS[Dr]{es:List EK}:∀ {l m:List SV} {G:Bool->(α->Prop)->Prop} (_:∀ v,Ex (G v)),Ex (fun K=>eqSK es l m (fun v=>G v K)):=by
 induction es with
 |nil=>intro l m G h;cases l <;> cases m <;> first|exact h true|exact no
 |cons e es ih =>
  intro l m G h;cases l with
  |nil=>cases e <;> exact no
  |cons s xs=>cases m with
   |nil=>cases e <;> cases s <;> first|exact no|(rename_i x;cases x <;> exact no)
   |cons t ys =>
    cases s with
    |d x=>cases t with
     |d y =>
      cases e with
      |int k=>cases x <;> cases y <;> first|exact no|(simp only[eqSK];split <;> first|exact no|exact ih fun r=>h _)
      |bool=>exact bool fun p=>bool fun q=>ih fun r=>h _
      |str=>cases x <;> cases y <;> first|exact no|exact ih fun r=>h _
     |_=>cases e <;> first|exact no|(cases x <;> exact no)
    |_=>cases e <;> exact no
theorem fill[Dr]{TT:Nat->Option TI}{ts:List SV}{fs:List (Nat × TypeId)}:∀ {parts:List (Nat × Operand)} {cs:List SV} {G:List SV->(α->Prop)->Prop} (_:∀ v,Ex (G v)),Ex (fun K=>wx TT ts fs cs parts (fun v=>G v K)):=by
 intro parts;induction parts with
 |nil=>intro cs G h;exact h cs
 |cons p parts ih =>
  intro cs G h;simp only[wx];split
  ·exact no
  ·split
   ·exact no
   ·refine val fun v=>cells fun vs=>?_
    split
    ·exact put fun cs'=>ih h
    ·exact no
theorem bin[Dr]{td:TD}{op:BinOp}{x y:DV}:Ex (fun K:SV->Prop=>Go.Eng.bin td op x y K):=by
 unfold Go.Eng.bin
 repeat'(first|exact no|exact self _|refine and ?_|refine bool fun _=>?_|split)
theorem bound[Dr]{ts:List SV}{o:Option Operand}{d:Int}{G:Int->(α->Prop)->Prop}(h:∀ v,Ex (G v)):Ex (fun K=>j9 ts o d (fun v=>G v K)):=by
 unfold j9;split
 ·exact h _
 ·refine val fun v=>?_
  split
  ·exact h _
  ·exact no
theorem arena[Dr]{x:SV}{G:Nat->Nat->(α->Prop)->Prop}(h:∀ i n,Ex (G i n)):Ex (fun K=>qu8 x (fun i n=>G i n K)):=by
 cases x with
 |np i n=>exact h i n
 |ap i n off=>cases off with
  |zero=>exact h i n
  |succ=>exact no
 |_=>exact no
theorem ptrEq[Dr]{ks:List KB}{x y:SV}{G:DV->(α->Prop)->Prop}(h:∀ v,Ex (G v)):Ex (fun K=>qn9 ks x y (fun v=>G v K)):=by
 unfold qn9
 repeat'(first|exact no|exact h _|refine and ?_|refine arena fun _ _=>?_|refine getB fun _=>?_|split)
theorem neg[Dr]{x:DV}{G:SV->(α->Prop)->Prop}(h:∀ v,Ex (G v)):Ex (fun K=>jg4 x (fun v=>G v K)):=by
 unfold jg4
 repeat'(first|exact no|exact h _|split)
theorem told{γ:Type}{v:γ}{G:γ->(α->Prop)->Prop}(h:∀ v,Ex (G v)):Ex (fun K=>∃ r,v=r/\G r K):=fun K hk=>by
 obtain⟨r,rfl,hk⟩:=hk;obtain⟨s,a,b⟩:=h _ K hk;exact⟨s,⟨_,rfl,a⟩,b⟩
theorem allD0[Dr]:∀ {l:List SV} {G:List DV->(α->Prop)->Prop} (_:∀ v,Ex (G v)),Ex (fun K=>qc5 l (fun v=>G v K)):=by
 intro l;induction l with
 |nil=>intro G h;exact h _
 |cons a l ih =>
  intro G h;cases a <;> first|exact no|exact ih fun ds=>h _
theorem key[Dr]{eks:List EK}{ka:Bool}{x:SV}{G:List DV->(α->Prop)->Prop}(h:∀ v,Ex (G v)):Ex (fun K=>keyK eks ka x (fun v=>G v K)):=by
 unfold keyK
 repeat'(first|exact no|exact h _|refine allD0 fun _=>?_|split)
theorem xu1[Dr]{agg:Bool}{vs:List SV}{G:SV->(α->Prop)->Prop}(h:∀ v,Ex (G v)):Ex (fun K=>k6 agg vs (fun v=>G v K)):=by
 unfold k6
 repeat'(first|exact no|exact h _|split)
theorem look[Dr]{c agg:Bool}{zero:List SV}{r:Option (List SV)}{G:SV->(α->Prop)->Prop}(h:∀ v,Ex (G v)):Ex (fun K=>lookK c agg zero r (fun v=>G v K)):=by
 unfold lookK
 repeat'(first|exact no|exact h _|refine xu1 fun _=>?_|split)
theorem cols[Dr]{l:List Col}{n:Nat}{G:List SV->(α->Prop)->Prop}(h:∀ v,Ex (G v)):Ex (fun K=>qw7 l n (fun v=>G v K)):=on (fun k=>yr5 l n k) (h _)
theorem putc[Dr]{c:Col}{n:Nat}{v:SV}{G:Col->(α->Prop)->Prop}(h:∀ v,Ex (G v)):Ex (fun K=>qw2 c n v (fun v=>G v K)):=by
 unfold qw2
 repeat'(first|exact no|exact h _|refine bool fun _=>?_|split)
theorem putC[Dr]:∀ {l:List Col} {off n:Nat} {vs:List SV} {G:List Col->(α->Prop)->Prop} (_:∀ v,Ex (G v)),Ex (fun K=>zu l off n vs (fun v=>G v K)):=by
 intro l;induction l with
 |nil=>intro off n vs G h;cases vs <;> first|(simp only[zu];exact h _)|(simp only[zu];exact no)
 |cons c l ih =>
  intro off n vs G h;cases vs with
  |nil=>simp only[zu];exact h _
  |cons v vs=>cases off with
   |zero=>simp only[zu];exact putc fun _=>ih fun _=>h _
   |succ off=>simp only[zu];exact ih fun _=>h _
theorem elem[Dr]{ea:Bool}{v:SV}{G:List SV->(α->Prop)->Prop}(h:∀ v,Ex (G v)):Ex (fun K=>qp4 ea v (fun l=>G l K)):=by
 unfold qp4
 repeat'(first|exact no|exact h _|refine cells fun _=>?_|split)
theorem isInt[Dr]{ts:List SV}{o:Option Operand}{F:(α->Prop)->Prop}(h:Ex F):Ex (fun K=>ja3 ts o (F K)):=by
 unfold ja3
 repeat'(first|exact no|exact h|refine val fun _=>?_|split)
theorem appN[Dr]{l m:List Nat}{G:List Nat->(α->Prop)->Prop}(h:∀ v,Ex (G v)):Ex (fun K=>Go.Eng.appN l m (fun v=>G v K)):=on (fun k=>je2 l m k) (h _)
theorem gone[Dr]{l:List Nat}{ks:List KB}{G:List KB->(α->Prop)->Prop}(h:∀ v,Ex (G v)):Ex (fun K=>uc l ks (fun v=>G v K)):=on (fun k=>qd8 l ks k) (h _)
theorem allD[Dr]:∀ {l:List SV} {G:List DV->(α->Prop)->Prop} (_:∀ v,Ex (G v)),Ex (fun K=>qc5 l (fun v=>G v K)):=by
 intro l;induction l with
 |nil=>intro G h;exact h _
 |cons a l ih =>
  intro G h;cases a <;> first|exact no|exact ih fun ds=>h _
theorem dv[Dr]{ks:List KB}{s:SV}{G:DV->List Nat->(α->Prop)->Prop}(h:∀ d l,Ex (G d l)):Ex (fun K=>dvK ks s (fun d l=>G d l K)):=by
 unfold dvK
 repeat'(first|exact no|exact h _ _|refine and ?_|refine getB fun _=>?_|refine drop fun _=>?_|refine take fun _=>?_|refine allD fun _=>?_|split)
theorem dvs[Dr]{ks:List KB}:∀ {l:List SV} {G:List DV->List Nat->(α->Prop)->Prop} (_:∀ d l,Ex (G d l)),Ex (fun K=>dvsK ks l (fun d l=>G d l K)):=by
 intro l;induction l with
 |nil=>intro G h;exact h _ _
 |cons a l ih=>intro G h;exact dv fun d fr=>ih fun ds fr'=>appN fun r=>h _ _
theorem src[Dr]{ks:List KB}{sz:Nat}{x:SV}{G:Nat->(Nat->List DV)->List Nat->(α->Prop)->Prop}(h:∀ n g l,Ex (G n g l)):Ex (fun K=>srcK ks sz x (fun n g l=>G n g l K)):=by
 unfold srcK
 repeat'(first|exact no|exact h _ _ _|refine and ?_|refine getB fun _=>?_|refine drop fun _=>?_|refine take fun _=>?_|refine dvs fun _ _=>?_|split)
theorem rep[Dr]{z:List SV}{n:Nat}{G:List SV->(α->Prop)->Prop}(h:∀ v,Ex (G v)):Ex (fun K=>repK z n (fun v=>G v K)):=on (fun k=>qt8 z n k) (h _)
theorem fillS[Dr]{ts:List SV}{size:Nat}:∀ {parts:List (Nat × Operand)} {cs:List SV} {G:List SV->(α->Prop)->Prop} (_:∀ v,Ex (G v)),Ex (fun K=>Go.Eng.fillS ts size cs parts (fun v=>G v K)):=by
 intro parts;induction parts with
 |nil=>intro cs G h;exact h cs
 |cons p parts ih =>
  intro cs G h;simp only[Go.Eng.fillS];refine val fun v=>cells fun vs=>?_
  split
  ·exact put fun cs'=>ih h
  ·exact no
theorem newRow[Dr]{ks:List KB}{k:KB}{G:SV->List KB->(α->Prop)->Prop}(h:∀ s l,Ex (G s l)):Ex (fun K=>ky ks k (fun s l=>G s l K)):=by
 unfold ky;exact addB fun _=>lenB fun _=>h _ _
theorem xv6[Dr]{k:Nat}{g:Nat->List DV}:∀ {l:List SV} {q:Nat} {G:List SV->(α->Prop)->Prop},(∀ r,Ex (G r))->Ex (fun K=>qo4 k g q l (fun r=>G r K)):=by
 intro l;induction l with
 |nil=>intro q G h;exact h []
 |cons a l ih =>
  intro q G h;cases a with
  |d x =>
   cases x with
   |int k1 b =>
    simp only[qo4];split
    ·split
     ·exact ih fun r=>h _
     ·exact no
    ·exact no
   |_=>exact no
  |_=>exact no
theorem copy[Dr]{ks:List KB}{size:Nat}{d:SV}{k:Nat}{g:Nat->List DV}{G:SV->List KB->(α->Prop)->Prop}(h:∀ s l,Ex (G s l)):Ex (fun K=>jh1 ks size d k g (fun s l=>G s l K)):=by
 unfold jh1;split
 ·refine getB fun _=>?_
  split
  ·split
   ·exact and (setB fun _=>h _ _)
   ·exact no
  ·exact no
 ·refine getB fun _=>?_
  split
  ·split
   ·exact and (setB fun _=>h _ _)
   ·exact no
  ·exact no
 ·split
  ·refine getB fun _=>?_
   split
   ·split
    ·exact and (drop fun _=>take fun _=>xv6 fun _=>put fun _=>setB fun _=>h _ _)
    ·exact no
   ·exact no
  ·exact no
 ·exact no
end Ex
theorem xs4[Dr](P:Program)(TT:Nat->Option TI)(ts:List SV)(ks:List KB)(op:Op):Ex (fun K=>pev P TT ts ks op K):=by
 cases op with
 |call c =>
  obtain⟨callee,args,argTypes⟩:=c;simp only[pev]
  repeat'(first|exact Ex.no|exact Ex.self _|refine Ex.and ?_|refine Ex.val fun _=>?_|refine Ex.vals fun _=>?_|refine Ex.getB fun _=>?_|split)
 |_ =>
  simp only[pev]
  repeat'(first|exact Ex.no|exact Ex.self _|exact Ex.bin|refine Ex.and ?_|refine Ex.two ?_ ?_|refine Ex.val fun _=>?_|refine Ex.vals fun _=>?_|refine Ex.getB fun _=>?_|refine Ex.getT fun _=>?_|refine Ex.pack fun _=>?_|refine Ex.drop fun _=>?_|refine Ex.take fun _=>?_|refine Ex.ints fun _=>?_|refine Ex.mapD fun _=>?_|refine Ex.eqS fun _=>?_|refine Ex.fill fun _=>?_|refine Ex.bound fun _=>?_|refine Ex.ptrEq fun _=>?_|refine Ex.neg fun _=>?_|refine Ex.key fun _=>?_|refine Ex.told fun _=>?_|refine Ex.look fun _=>?_|refine Ex.cols fun _=>?_|split)
theorem xs9[Dr](TT:Nat->Option TI)(ts:List SV)(ks:List KB)(op:Op):Ex (fun K:SV × List KB->Prop=>mev TT ts ks op (fun s k=>K (s,k))):=by
 cases op with
 |call c =>
  obtain⟨callee,args,argTypes⟩:=c;cases callee with
  |builtin b =>
   cases b with
   |append =>
    simp only[mev]
    repeat'(first|exact Ex.no|exact Ex.self _|refine Ex.and ?_|refine Ex.val fun _=>?_|refine Ex.src fun _ _ _=>?_|refine Ex.getB fun _=>?_|refine Ex.gone fun _=>?_|refine Ex.setB fun _=>?_|refine Ex.newRow fun _ _=>?_|refine Ex.dvs fun _ _=>?_|split)
   |copy =>
    simp only[mev]
    repeat'(first|exact Ex.no|exact Ex.self _|refine Ex.val fun _=>?_|refine Ex.src fun _ _ _=>?_|refine Ex.copy fun _ _=>?_|split)
   |clear =>
    simp only[mev]
    repeat'(first|exact Ex.no|exact Ex.self _|refine Ex.and ?_|refine Ex.val fun _=>?_|refine Ex.getB fun _=>?_|refine Ex.allD0 fun _=>?_|refine Ex.setB fun _=>?_|split)
   |unsafeString =>
    simp only[mev]
    repeat'(first|exact Ex.no|exact Ex.self _|refine Ex.and ?_|refine Ex.val fun _=>?_|refine Ex.getB fun _=>?_|refine Ex.setB fun _=>?_|split)
   |delete =>
    simp only[mev]
    repeat'(first|exact Ex.no|exact Ex.self _|refine Ex.val fun _=>?_|refine Ex.getB fun _=>?_|refine Ex.key fun _=>?_|refine Ex.told fun _=>?_|refine Ex.setB fun _=>?_|split)
   |_=>exact Ex.no
  |_=>exact Ex.no
 |makeMap t x =>
  simp only[mev]
  repeat'(first|exact Ex.no|exact Ex.self _|refine Ex.isInt ?_|refine Ex.addB fun _=>?_|refine Ex.lenB fun _=>?_|split)
 |mapUpdate t m k v =>
  simp only[mev]
  repeat'(first|exact Ex.no|exact Ex.self _|refine Ex.val fun _=>?_|refine Ex.getB fun _=>?_|refine Ex.key fun _=>?_|refine Ex.elem fun _=>?_|refine Ex.told fun _=>?_|refine Ex.setB fun _=>?_|split)
 |alloc t =>
  simp only[mev]
  repeat'(first|exact Ex.no|exact Ex.self _|refine Ex.addB fun _=>?_|refine Ex.lenB fun _=>?_|split)
 |box t x =>
  simp only[mev]
  repeat'(first|exact Ex.no|exact Ex.self _|refine Ex.val fun _=>?_|refine Ex.cells fun _=>?_|refine Ex.addB fun _=>?_|refine Ex.lenB fun _=>?_|split)
 |buildSlice t l ps =>
  simp only[mev]
  repeat'(first|exact Ex.no|exact Ex.self _|refine Ex.rep fun _=>?_|refine Ex.fillS fun _=>?_|refine Ex.addB fun _=>?_|refine Ex.lenB fun _=>?_|split)
 |makeSlice t x y =>
  simp only[mev]
  repeat'(first|exact Ex.no|exact Ex.self _|refine Ex.and ?_|refine Ex.val fun _=>?_|refine Ex.dvs fun _ _=>?_|refine Ex.newRow fun _ _=>?_|split)
 |convert s d x =>
  simp only[mev]
  repeat'(first|exact Ex.no|exact Ex.self _|refine Ex.val fun _=>?_|refine Ex.getB fun _=>?_|refine Ex.ints fun _=>?_|refine Ex.setB fun _=>?_|refine Ex.newRow fun _ _=>?_|split)
 |store t x y =>
  simp only[mev]
  repeat'(first|exact Ex.no|exact Ex.self _|refine Ex.val fun _=>?_|refine Ex.getB fun _=>?_|refine Ex.cells fun _=>?_|refine Ex.put fun _=>?_|refine Ex.setB fun _=>?_|refine Ex.drop fun _=>?_|refine Ex.take fun _=>?_|refine Ex.putI fun _=>?_|refine Ex.dvs fun _ _=>?_|refine Ex.gone fun _=>?_|refine Ex.and ?_|refine Ex.putC fun _=>?_|split)
 |_=>exact Ex.no
theorem xt2[Dr](P:Program)(TT:Nat->Option TI)(ts:List SV)(ks:List KB)(g:Operand)(args:List Operand)(tys:List TypeId):Ex (fun K:Bool × SV × List KB->Prop=>cev P TT ts ks g args tys (fun h s k=>K (h,s,k))):=by
 unfold cev;refine Ex.val fun v=>?_
 split
 ·refine Ex.vals fun _=>Ex.app fun as=>?_
  intro K h;cases h with
  |data r h1 h2 h3 h4=>exact⟨(false,r,ks),.data r h1 h2 h3 rfl,h4⟩
  |view r as' fr h1 h2 h3 h4 h5=>exact⟨(false,r,ks),.view r as' fr h1 h2 h3 h4 rfl,h5⟩
  |fresh r as' fr h1 h2 h3 h4 h5=>exact⟨(false,r,ks),.fresh r as' fr h1 h2 h3 h4 rfl,h5⟩
  |frz r as' fr h1 h2 h3 h4 h5=>exact⟨(true,r,jm fr ks),.frz r as' fr h1 h2 h3 h4 rfl,h5⟩
  |mem r ks' h1 h2=>exact⟨(true,r,ks'),.mem r ks' h1 rfl,h2⟩
 ·exact Ex.no
end
section
section
variable{P:Program}{TT:Nat->Option TI}{w:World}{β:Env}{ts:List SV}{a:Act}{K:SV->Prop}{o:Oper}{M:Nat->Prop}
theorem xi7(hV:VOk w (fun _ _=>False))(hM:∀ b,M b->b<w.heap.size):Mem M w noE (fun _ _=>False) [] :=
 ⟨⟨hM,fun _ _ h=>h.elim,fun _ _ _ h=>h.elim,fun _ _ h=>h.elim,fun _ _ h=>h.elim,fun i L k hk=>by simp at hk⟩,fun _ _=>rfl,fun i t d c h=>by simp at h,hV⟩
theorem yh0(off:Nat):∀ (l:List (Value × Nat)) (cells:Array Value),(l.foldl (fun cs (x:Value × Nat)=>cs.setIfInBounds (off+x.2) x.1) cells).size=cells.size
 |[],_=>rfl
 |x :: l,cells=>by rw[List.foldl_cons,yh0 off l];simp
theorem yl0(place:Nat->Option (Nat × Nat)):∀ (parts:List (Nat × Value)) (cells r:Array Value),Instr.fill place cells parts=some r->r.size=cells.size
 |[],cells,r,h=>by simp only [Instr.fill,my] at h;rw [h]
 |(i,v) :: rest,cells,r,h=>by
  simp only [Instr.fill] at h;split at h
  ·cases h
  ·split at h
   ·cases h
   ·rw[yl0 place rest _ r h,<-s4];exact yh0 _ _ _
theorem xq0[Dr](hTT:TTok P TT){t:TypeId}{len:Nat}{parts:Array (Nat × Operand)}(ho:o.op = .buildSlice t len parts)(h:wz TT ts (.buildSlice t len parts) K)(hM:∀ b,M b->b<w.heap.size)(hT:∀ x,Den w M β (val ts x) (a.eval x)) :
 ∃ d v w',K (.d d)/\(execOp a.eval o).run P w = .ok (.value v) w'/\Step (fun _=>False) w w'/\Den w' M β (.d d) v:=by
 simp only [wz] at h;split at h
 ·rename_i _ _ _ _ e _ ht;split at h
  ·rename_i size bytes agg zero desc eqk hte;split at h
   ·rename_i hble;have hble:=jr hble;obtain⟨info0,d0,z0',hi0,hu0,_,_,_,_,_,_,_,_,hd0⟩:=qi hTT ht;cases hd0;obtain⟨info,de,z0,hi,hue,hsz,hby,hz0,_,hzl,hzs,hzd,hz1,_⟩:=qi hTT hte;simp only at hsz hzl hzs hzd;rw [qt8] at h;have hlen0:((List.replicate len zero).flatten).length=len * size:=by simp[hzs]
    have hbase:((Array.range (len * info.size)).map (z0.cells[· % z0.cells.size]!)).toList.length=len * size:=by simp[hsz]
    have hzpos:∀ m,m<len * size->0<z0.cells.size:=fun m hm=>by
     rcases fq z0.cells.size with e0|e0
     ·rw [hzl,hzs] at e0;rw [e0] at hm;omega
     ·exact e0
    obtain⟨cs',vs',h,hfill,r1,r2,r3⟩:=jk3 (a:=a) hT parts.toList _ _ ((Array.range (len * info.size)).map (z0.cells[· % z0.cells.size]!)).toList h (by rw[hlen0,hbase]) (fun j s u hs hu=>by
     obtain⟨a1,a2⟩:=jq0 zero len j s hs;have hu':((Array.range (len * info.size)).map (z0.cells[· % z0.cells.size]!))[j]? = some u:=by rw[<-f7];exact hu
     obtain ⟨b1,b2⟩:=ui hu' (hzpos j (by rw [hzs] at a2;exact a2));rw [hzl] at b2;exact hzd w _ β _ s u a1 b2) (fun u hu=>by
     obtain⟨j,hj,rfl⟩:=o9.1 hu;have hu':=pp hj;rw [f7] at hu';rw [hbase] at hj;obtain⟨b1,b2⟩:=ui hu' (hzpos j hj);exact hz1 _ _ b2)
    obtain⟨ds,hK,hcs⟩:=jk7 _ _ h;have hsize:vs'.toArray.size=len * size:=by
     have:=yl0 _ _ _ _ hfill;rw[this];simp[hsz]
    have hdl:ds.length=len * size:=by
     have:cs'.length=ds.length:=by rw[hcs,mn]
     rw[<-this,r1];simpa using hsize
    have hrun:(Instr.buildSlice t len (parts.map fun(i,x)=>(i,a.eval x))).run P w = .ok (.slice (some ⟨w.heap.size,0,none⟩) len len) (w.alloc (.cells vs'.toArray e)):=by
     have hp:(parts.map fun(i,x)=>(i,a.eval x)).toList=parts.toList.map fun p=>(p.1,a.eval p.2):=by simp
     have hfill':Instr.fill (fun i=>some (i * info.size,info.size)) ((Array.range (len * info.size)).map (z0.cells[· % z0.cells.size]!)) (parts.map fun(i,x)=>(i,a.eval x)).toList=some vs'.toArray:=by
      rw[hp,hsz];rw [hsz,s5] at hfill;exact hfill
     have h24:¬ (len * info.size > 2 ^ 24):=by rw[hsz];omega
     by_cases hz:len * info.size=0
     ·rw [hz,rx,Array.map_empty] at hfill';simp only[Instr.buildSlice,p6,run_underlying hu0,p9,run_sizeOf hi,hz];have hfill2:Instr.fill (fun i=>some (i * info.size,info.size)) #[] (List.map (fun x=>(x.1,a.eval x.2)) parts.toList)=some vs'.toArray:=by rw[<-hp];exact hfill'
      simp[newRow,rx,hfill2]
     ·exact run_buildSlice w t e len _ _ info z0 hu0 hi hz0 h24 hz hfill'
    refine⟨_,.slice (some ⟨w.heap.size,0,none⟩) len len,w.alloc (.cells vs'.toArray e),hK,by simp[execOp,ho,hrun],Step.alloc _ w _,.d ?_⟩;have hrow:=qn7 (w:=w.alloc (.cells vs'.toArray e)) (M:=M) (M':=M) (L:=⟨w.heap.size,len,len,size,false⟩) (e:=e) (sz:=size) (m:=len) (vs:=vs'.toArray) (fz:=(0,0)) (f:=qx ds size) (by show(w.heap.push _)[w.heap.size]? = _;simp) hsize (pr _) (fun k hk=>qr7 hdl k hk) (fun k j d u hk hd hu=>by
     have hget:ds[k * size+j]? = some d:=by
      unfold qx at hd;rw [mu] at hd;split at hd
      ·rw [lq] at hd;exact hd
      ·cases hd
     have:=r2 (k * size+j) (.d d) u (by rw[hcs,o4,hget];rfl) (by simpa using hu);exact(jb this).mono (Step.alloc M w _) (fun b _ e=>e)) 0 len 0 len (by omega) (pr _) (fun _=>by simp) (fun e=>by have:=hM _ e;exact absurd this (c9 _)) (fun _ e=>e)
    exact hrow.congr (fun i _=>by rw[ox])
   ·cases h
  ·cases h
 ·cases h
theorem zi1{ts ts':List SV}{size:Nat}:∀ {parts:List (Nat × Operand)} {cs:List SV} {c:List SV->Prop},(∀ p ∈ parts,val ts p.2=val ts' p.2)->fillS ts size cs parts c=fillS ts' size cs parts c:=by
 intro parts;induction parts with
 |nil=>intro cs c h;rfl
 |cons p parts ih =>
  intro cs c h;obtain⟨i,x⟩:=p;have hx:val ts x=val ts' x:=h (i,x) (by simp);have ih':∀ cs c,fillS ts size cs parts c=fillS ts' size cs parts c:=fun cs c=>ih (fun q hq=>h q (by simp[hq]))
  simp only[fillS,qm,hx,ih']
theorem yx2[Dr](hTT:TTok P TT)(h:wz TT ts o.op K)(hV:VOk w (fun _ _=>False))(hM:∀ b,M b->b<w.heap.size)(hT:∀ x,Den w M β (val ts x) (a.eval x)) :
 ∃ d v w',K (.d d)/\(execOp a.eval o).run P w = .ok (.value v) w'/\Step (fun _=>False) w w'/\Den w' M β (.d d) v:=by
 have h':=h;unfold wz at h;split at h
 ·rename_i args argTypes ho;obtain⟨args⟩:=args;obtain⟨argTypes⟩:=argTypes;simp only at h;split at h
  ·rename_i s x st xt;split at h
   ·rename_i _ _ _ _ e _ ht;split at h
    ·rename_i size bytes _ _ _ _ hte;split at h
     ·rename_i hbs;rw [p8,p8] at hbs;have hpos:0<size:=jr hbs.1;have hbp:0<bytes:=jr hbs.2.1;have htx:=jj9 hTT hbs.2.2;obtain⟨info0,d0,z0',hi0,hu0,_,_,_,_,_,_,_,_,hd0⟩:=qi hTT ht;cases hd0;obtain⟨info,de,z0,hi,hue,hsz,hby,hz0,_,hzl,hzs,_,hz1,_⟩:=qi hTT hte;simp only at hsz hby hzl hzs;have hzs':z0.cells.size=size:=by omega
      rw [qm] at h;have hvs:=hT s;split at h
      ·rename_i i hs;rw [hs] at hvs;rw [qm] at h;have hvx:=hT x;split at h
       ·rename_i b n sz f hx;rw [hx] at hvx;split at h
        ·rename_i hbe;have hsz':sz=size:=qv hbe;subst hsz';obtain⟨hb,hK⟩:=h;have hn63:n<=9223372036854775807:=by
          have:n * 1<=n * bytes:=Nat.mul_le_mul_left _ (by omega);omega
         have hE:=xi7 (w:=w) hV hM;have hmx:∀ q,Mx M (fun _ _=>False) q↔M q:=fun q=>⟨fun h=>h.elim id (fun⟨_,h⟩=>h.elim),.inl⟩
         have hdx:Den w (Mx M (fun _ _=>False)) noE (.d (.sl b n sz f)) (a.eval x):=.d (z6 (jb hvx) (fun q hq=>(hmx q).1 hq));obtain⟨k,g,fr,us,hk,_,hsrc⟩:=jl1 (K:=fun k g fr=>k=n/\g=f/\fr=[]) hE.toMem0 hpos (by show(match Nat.beq sz sz with|true=>_|false=>_);rw[cw];exact⟨rfl,rfl,rfl⟩) hdx htx;obtain⟨rfl,rfl,rfl⟩:=hk;have hS:=(hsrc [] (fun _ hi=>hi)).less (M':=Mx M (fun _ _=>False)) (fun q hq=>.inl ((hmx q).1 hq));have fin:∀ (v:Value) (w':World),(Builtin.append_ #[st,xt] o.type #[a.eval s,a.eval x]).run P w = .ok v w'->(execOp a.eval o).run P w = .ok (.value v) w':=fun v w' hrun=>by
          simp[execOp,ho,resolve,invoke,builtin,hrun]
         generalize a.eval s=vs at hvs fin;cases hvs with
         |cs _ _ _ _ L hL _ =>
          by_cases hk0:k=0
          ·subst hk0;have hus:us=[]:=f8 (by rw[hS.src.newsLen];simp);subst hus;have hrun:=run_append_nothing w st xt o.type e info hu0 hi (some ⟨L.b,0,none⟩) 0 0 (pr _) (a.eval x) (hsz ▸ hS.src);refine⟨_,_,_,hK,fin _ _ hrun,Step.refl _ _,.d ?_⟩;exact .sl 0 sz g ⟨L.b,0,none⟩ 0 (fun _ _=>undef) (pr _) (fun h=>absurd h (c9 _)) (fun i hi=>absurd hi (gy _)) (fun i j d hi=>absurd hi (gy _)) (fun i j d hi=>absurd hi (gy _))
          ·obtain ⟨v,w',β',fp',r1,r2,r3⟩:=qy3 (P:=P) (st:=st) (xt:=xt) (ty:=o.type) hE hu0 hi hz0 hsz hzs' hz1 (some ⟨L.b,0,none⟩) 0 0 (fun _=>[]) [] (run_firstCells_some w.drew sz 0 ⟨L.b,0,none⟩ 0 0 _ (by simp) (fun j u hu=>by simp at hu)) (by simp) (fun u hu=>by cases hu) (fun k hk=>absurd hk (gy _)) (fun k j d u hk=>absurd hk (gy _)) hS (by omega) (by rw [hby,ox];exact hb) (by omega) .no;obtain⟨d,fr,⟨rfl,rfl⟩,_,hrd⟩:=qm1 (K:=fun d fr=>d = .sl false (0+k) sz (catF 0 (fun _=>[]) g)/\fr=[0]) r2.mem.toMem0 (s:=.all 0) ⟨rfl,rfl⟩ r3;have hc:catF 0 (fun _=>[]) g=g:=by funext t;simp[catF]
           have hrd:=hrd [0] (fun _ h=>h);rw [hc,ox] at hrd;exact⟨_,v,w',hK,fin _ _ r1,r2.st.mono (fun q _ ⟨_,hq⟩=>hq),.d (z6 hrd (fun q hq=>.inl hq))⟩
        ·cases h
       ·cases h
      ·cases h
     ·cases h
    ·cases h
   ·cases h
  ·cases h
 ·rename_i t len parts ho;rw [ho] at h';exact xq0 hTT ho h' hM hT
 ·cases h
theorem zm0[Dr]{ts ts':List SV}{op:Op}(h:∀ x ∈ op.operands,val ts x=val ts' x):wz TT ts op K=wz TT ts' op K:=by
 unfold wz;split
 ·rename_i args argTypes;obtain⟨args⟩:=args;split
  ·rename_i s x st xt hl _;have hl:args=[s,x]:=hl;subst hl;simp [Op.operands,Call.operands] at h;simp only[qm,h.1,h.2]
  ·rfl
 ·rename_i t len parts;have:∀ p ∈ parts.toList,val ts p.2=val ts' p.2:=fun p hp=>h p.2 (by simp[Op.operands];exact⟨p.1,by simpa using hp⟩)
  simp only[zi1 this]
 ·rfl
theorem xj7[Dr](TT:Nat->Option TI)(ts:List SV)(op:Op):Ex (fun K:SV->Prop=>wz TT ts op K):=by
 unfold wz
 repeat'(first|exact Ex.no|exact Ex.self _|refine Ex.and ?_|refine Ex.val fun _=>?_|refine Ex.rep fun _=>?_|refine Ex.fillS fun _=>?_|refine Ex.allD fun _=>?_|split)
end
end
section
def putT(d:Option Tmp)(s:SV)(ts:List SV):List SV :=
 match d with
 |none=>ts
 |some t=>setT ts t s
theorem ke[Dr](d:Option Tmp)(s:SV)(ts:List SV)(K:List SV->Prop):j7 d s ts K=K (putT d s ts):=by
 cases d <;> simp[j7,putT,vt]
def yj(all:List Oper)(ts:List SV)(o:Oper):Option Bool :=
 match o.guard with
 |none=>some true
 |some (j,want)=>match qg6 all j with
  |none=>none
  |some t=>match getT ts t with
   | .d .tt=>some want
   | .d .ff=>some (!want)
   | .v (.tuple _)=>some false
   |_=>none
def je8:Op->Bool
 | .call ⟨.value _,_,_⟩=>true
 |_=>false
inductive Evs [Dr] (P:Program) (TT:Nat->Option TI) (ts:List SV) (ks:List KB) (op:Op):Bool->SV->List KB->Prop where
 |pure (s:SV):je8 op=false->(x5 op || wm TT op)=false->pev P TT ts ks op (fun x=>x=s)->Evs P TT ts ks op false s ks
 |mem (s:SV) (k1:List KB):je8 op=false->(x5 op || wm TT op)=true->mev TT ts ks op (fun x k=>(x,k)=(s,k1))->Evs P TT ts ks op (qa9 op) s k1
 |call (g:Operand) (args:Array Operand) (tys:Array TypeId) (h:Bool) (s:SV) (k1:List KB):op = .call ⟨.value g,args,tys⟩->cev P TT ts ks g args.toList tys.toList (fun h' x k=>(h',x,k)=(h,s,k1))->Evs P TT ts ks op h s k1
 |app (s:SV):wz TT ts op (fun x=>x=s)->Evs P TT ts ks op false s ks
inductive Stp [Dr] (P:Program) (TT:Nat->Option TI) (all:List Oper) (ts:List SV) (ks:List KB) (o:Oper):Bool->SV->List KB->Prop where
 |ev {h:Bool} {s:SV} {k1:List KB}:yj all ts o=some true->Evs P TT ts ks o.op h s k1->Stp P TT all ts ks o h s k1
 |skip:yj all ts o=some false->Stp P TT all ts ks o false qf6 ks
inductive Tr [Dr] (P:Program) (TT:Nat->Option TI) (all:List Oper):List Oper->List SV->List KB->List SV->List KB->List Bool->Prop where
 |nil (ts:List SV) (ks:List KB):Tr P TT all [] ts ks ts ks []
 |step {o:Oper} {os:List Oper} {ts ts':List SV} {ks ks':List KB} {h:Bool} {hs:List Bool} {s:SV} {k1:List KB}:Stp P TT all ts ks o h s k1->Tr P TT all os (putT o.dst s ts) k1 ts' ks' hs->Tr P TT all (o :: os) ts ks ts' ks' (h :: hs)
 |refine_ {o:Oper} {os:List Oper} {ts ts':List SV} {ks ks':List KB} {hs:List Bool} (t:Nat) (b:Bool):getT ts t = .d (.bool b)->Tr P TT all (o :: os) (setT ts t (.d (if b then .tt else .ff))) ks ts' ks' hs->Tr P TT all (o :: os) ts ks ts' ks' hs
theorem yw2[Dr]{P:Program}{TT:Nat->Option TI}{o:Oper}{ts:List SV}{ks:List KB}{K:Bool->List SV->List KB->Prop}(h:exec P TT o ts ks K):∃ hd s k1,Evs P TT ts ks o.op hd s k1/\K hd (putT o.dst s ts) k1:=by
 have noncall:je8 o.op=false->(match x5 o.op || wm TT o.op with
  |true=>mev TT ts ks o.op (fun v ks'=>j7 o.dst v ts (fun ts'=>K (qa9 o.op) ts' ks'))
  |false=>pev P TT ts ks o.op (fun v=>j7 o.dst v ts (fun ts'=>K false ts' ks)))->∃ hd s k1,Evs P TT ts ks o.op hd s k1/\K hd (putT o.dst s ts) k1:=fun hc h=>by
  split at h
  ·rename_i hm;obtain⟨⟨s,k1⟩,hev,hk⟩:=xs9 TT ts ks o.op (fun p=>j7 o.dst p.1 ts (fun ts'=>K (qa9 o.op) ts' p.2)) h;rw [ke] at hk;exact⟨_,s,k1,.mem s k1 hc hm hev,hk⟩
  ·rename_i hm;obtain⟨s,hev,hk⟩:=xs4 P TT ts ks o.op _ h;rw [ke] at hk;exact⟨_,s,ks,.pure s hc hm hev,hk⟩
 unfold exec at h;split at h
 ·rename_i g args tys ho;obtain⟨⟨hd,s,k1⟩,hev,hk⟩:=xt2 P TT ts ks g args.toList tys.toList (fun p=>j7 o.dst p.2.1 ts (fun ts'=>K p.1 ts' p.2.2)) h;rw [ke] at hk;exact⟨hd,s,k1,.call g args tys hd s k1 ho hev,hk⟩
 ·rename_i hno;refine noncall ?_ h;unfold je8;split
  ·rename_i g args tys he;exact absurd he (hno g args tys)
  ·rfl
section
variable{P:Program}{TT:Nat->Option TI}{IN:Nat->Option Inl}{K:Exit->List SV->List KB->Prop}{all:List Oper}{r:List It}{nb:Nb}
theorem yn6[Dr](n:Nat):run P TT IN (n+1)=jg0 P TT IN (run P TT IN n):=rfl
theorem xi4[Dr]{P:Program}{TT:Nat->Option TI}{b:Bool}{o:Oper}{ts:List SV}{ks:List KB}{K:Bool->List SV->List KB->Prop}(h:qp3 P TT b o ts ks K):∃ hd s k1,Evs P TT ts ks o.op hd s k1/\K hd (putT o.dst s ts) k1:=by
 unfold qp3 at h;split at h
 ·obtain⟨s,hev,hk⟩:=xj7 TT ts o.op _ h;rw [ke] at hk;exact⟨false,s,ks,.app s hev,hk⟩
 ·exact yw2 h
theorem jr0[Dr]{b:Bool}{o:Oper}{os:List Oper}{ts:List SV}{ks:List KB}{n:Nat}{hs:List Bool}(hg:yj all ts o=some true)(h:qp3 P TT b o ts ks (fun h ts' ks'=>run P TT IN n nb (.ops true (h :: hs) all os :: r) ts' ks' K))
 (ih:∀ ts ks hs,run P TT IN n nb (.ops true hs all os :: r) ts ks K->∃ n' ts' ks' hs',n'<=n/\Tr P TT all os ts ks ts' ks' hs'/\kh all (revB (revB hs' hs) [])=true/\run P TT IN n' nb r ts' ks' K) :
 ∃ n' ts' ks' hs',n'<=n+1/\Tr P TT all (o :: os) ts ks ts' ks' hs'/\kh all (revB (revB hs' hs) [])=true/\run P TT IN n' nb r ts' ks' K:=by
 obtain⟨hd,s,k1,hev,hk⟩:=xi4 h;obtain⟨n',ts',ks',hs',hn,htr,hdr,hrun⟩:=ih _ _ _ hk;exact⟨n',ts',ks',_,by omega,.step (.ev hg hev) htr,hdr,hrun⟩
theorem jd1[Dr]:∀ (n:Nat) (os:List Oper) (ts:List SV) (ks:List KB) (hs:List Bool),run P TT IN n nb (.ops true hs all os :: r) ts ks K->∃ n' ts' ks' hs',n'<=n/\Tr P TT all os ts ks ts' ks' hs'/\kh all (revB (revB hs' hs) [])=true/\run P TT IN n' nb r ts' ks' K:=by
 intro n;induction n with
 |zero=>intro os ts ks hs h;exact h.elim
 |succ n ih =>
  intro os ts ks hs h;rw [yn6] at h;simp only [jg0] at h;cases os with
  |nil =>
   simp only at h;split at h
   ·rename_i hd;exact⟨n,ts,ks,[],by omega,.nil ts ks,hd,h⟩
   ·cases h
  |cons o os =>
   simp only at h;split at h
   ·rename_i hg;exact jr0 (by simp[yj,hg]) h (ih os)
   ·rename_i j want hg;split at h
    ·cases h
    ·rename_i t hd;rw [qd9] at h;split at h
     ·rename_i hv;split at h
      ·exact jr0 (by simp[yj,hg,hd,hv]) h (ih os)
      ·rw [ke] at h;obtain⟨n',ts',ks',hs',hn,htr,hdr,hrun⟩:=ih _ _ _ _ h;exact⟨n',ts',ks',_,by omega,.step (.skip (by simp[yj,hg,hd,hv])) htr,hdr,hrun⟩
     ·rename_i hv;split at h
      ·exact jr0 (by simp[yj,hg,hd,hv]) h (ih os)
      ·rw [ke] at h;obtain⟨n',ts',ks',hs',hn,htr,hdr,hrun⟩:=ih _ _ _ _ h;exact⟨n',ts',ks',_,by omega,.step (.skip (by simp[yj,hg,hd,hv])) htr,hdr,hrun⟩
     ·rename_i hv;rw [ke] at h;obtain⟨n',ts',ks',hs',hn,htr,hdr,hrun⟩:=ih _ _ _ _ h;exact⟨n',ts',ks',_,by omega,.step (.skip (by simp[yj,hg,hd,hv])) htr,hdr,hrun⟩
     ·rename_i b hv;obtain⟨h1,h2⟩:=h;cases b with
      |true =>
       have h1:=h1 rfl;rw [vt] at h1;obtain⟨n',ts',ks',hs',hn,htr,hdr,hrun⟩:=ih _ _ _ _ h1;exact⟨n',ts',ks',hs',by omega,.refine_ t true hv htr,hdr,hrun⟩
      |false =>
       have h2:=h2 rfl;rw [vt] at h2;obtain⟨n',ts',ks',hs',hn,htr,hdr,hrun⟩:=ih _ _ _ _ h2;exact⟨n',ts',ks',hs',by omega,.refine_ t false hv htr,hdr,hrun⟩
     ·cases h
end
theorem qe2(l m:List Bool):revB l m=l.reverse++m:=by
 induction l generalizing m with
 |nil=>rfl
 |cons a l ih=>simp[revB,ih]
theorem xi8(all:List Oper)(j:Nat):qg6 all j=(all[j]?).bind (·.dst):=by
 induction all generalizing j with
 |nil=>rfl
 |cons o l ih=>cases j with
  |zero=>rfl
  |succ j=>simp[qg6,ih]
section
variable{P:Program}{TT:Nat->Option TI}{B:Bs}{w:World}{β:Env}{fp:Nat->Nat->Prop}{ts:List SV}{ks:List KB}{a:Act}{rd:Option Nat}{n:Nat}{Q:Exit->Act->World->Prop}
theorem Sat.val[Dr](h:Sat B w β fp ts ks a)(x:Operand):Den w (Mx B.X fp) β (val ts x) (a.eval x):=by
 cases x with
 |tmp t =>
  simp only[Go.Eng.val,Act.eval,wn];cases hs:ts[t]? with
  |none=>exact .any _
  |some s =>
   have hlt:t<a.tmps.size:=by rw[h.len];exact(pq.1 hs).1
   simp only[dz];have:=h.tm t s _ hs (oz hlt);simpa[Array.getD,hlt] using this
 |const v =>
  simp only[Go.Eng.val,Act.eval];unfold jd5;split
  ·exact .d (.int _ _)
  ·exact .d .tt
  ·exact .d .ff
  ·rename_i s;have:(Value.string s)=strV s.data.toList:=by
    show Value.string s = .string ⟨s.data.toList.toArray⟩;simp
   rw[this];exact .d (.str _)
  ·exact .d (.nil 0 _)
  ·exact .v _
 |func f=>exact .fn f [] [] rfl (fun j s u hs=>by simp at hs)
 |global g=>exact .any _
theorem Sat.put[Dr](h:Sat B w β fp ts ks a)(d:Option Tmp){s:SV}{v:Value}(hd:Den w (Mx B.X fp) β s v):Sat B w β fp (putT d s ts) ks (a.put d v):=by
 cases d with
 |none=>exact h
 |some d =>
  refine⟨h.went,h.df,?_,fun t s' v' hs hv=>?_⟩
  ·simp only[putT,zo,gn];simpa[Act.put] using h.len
  ·simp only [putT] at hs;rw [zo,oq] at hs;have hv:(a.tmps.setIfInBounds d v)[t]? = some v':=hv;rw [f6] at hv;split at hs
   ·rename_i e;subst e;rw [if_pos rfl] at hv;split at hs
    ·split at hv
     ·cases hs;cases hv;exact hd
     ·cases hv
    ·cases hs
   ·rename_i e;rw [if_neg e] at hv;exact h.tm t s' v' hs hv
theorem Sat.refine_[Dr](h:Sat B w β fp ts ks a)(t:Nat){b:Bool}(ht:getT ts t = .d (.bool b)):Sat B w β fp (setT ts t (.d (if b then .tt else .ff))) ks a:=by
 refine⟨h.went,h.df,by rw[zo];simpa using h.len,fun u s' v' hs hv=>?_⟩;rw [zo,oq] at hs;split at hs
 ·rename_i e;subst e;split at hs
  ·rename_i hlt;rw [wn,pp hlt] at ht;have hd:=h.tm t _ v' (pp hlt) hv;simp only [dz] at ht;rw [ht] at hd;cases hs;cases hd with
   |d hd =>
    cases hd;cases b
    ·exact .d .ff
    ·exact .d .tt
  ·cases hs
 ·exact h.tm u s' v' hs hv
theorem qh7[Dr](hS:∀ (t:Nat) (s:SV),getT ts t=s->s≠.any->Den w (Mx B.X fp) β s (a.tmps.getD t undef)){all:List Oper}{o:Oper}{b:Bool}(h:yj all ts o=some b):Region.wanted o (yielded all.toArray a.tmps)=b:=by
 unfold yj at h;unfold Region.wanted;split at h
 ·rename_i hg;simp[hg];simpa using h
 ·rename_i j want hg;split at h
  ·cases h
  ·rename_i t hd;rw [xi8] at hd;split at h
   ·rename_i hv;have:=hS t _ hv (by simp);have hv':a.tmps.getD t undef = .bool true:=by
     generalize a.tmps.getD t undef=x at this;cases this with|d h=>cases h;rfl
    have hv2:a.tmps[t]? = some (.bool true):=by
     cases hq:a.tmps[t]? with
     |none=>simp [hq,undef] at hv'
     |some x=>simpa[hq] using hv'
    simp[hg,yielded,hd,hv2];cases want <;> simp at h <;> subst h <;> rfl
   ·rename_i hv;have:=hS t _ hv (by simp);have hv':a.tmps.getD t undef = .bool false:=by
     generalize a.tmps.getD t undef=x at this;cases this with|d h=>cases h;rfl
    have hv2:a.tmps[t]? = some (.bool false):=by
     cases hq:a.tmps[t]? with
     |none=>simp [hq,undef] at hv'
     |some x=>simpa[hq] using hv'
    simp[hg,yielded,hd,hv2];cases want <;> simp at h <;> subst h <;> rfl
   ·rename_i z hv;have:=hS t _ hv (by simp);have hv':a.tmps.getD t undef = .tuple z:=by
     generalize a.tmps.getD t undef=x at this;cases this;rfl
    obtain rfl:=p7 h;cases hq:a.tmps[t]? with
    |none=>simp[hg,yielded,hd,hq]
    |some x =>
     have hx:x = .tuple z:=by simpa[hq] using hv'
     simp[hg,yielded,hd,hq,hx]
   ·cases h
theorem Sat.slot[Dr](hS:Sat B w β fp ts ks a):∀ (t:Nat) (s:SV),getT ts t=s->s≠.any->Den w (Mx B.X fp) β s (a.tmps.getD t undef):=by
 intro t s hs _;have:=hS.val (.tmp t);simp only [Go.Eng.val,Act.eval,hs] at this;exact this
theorem jj0{ts:List SV}{ks:List KB}{op:Op}{K:SV->Prop}(h:pev P TT ts ks op K):∀ c,op≠.defer c:=fun c hc=>by rw [hc] at h;exact h
theorem zz3[Dr](hTT:TTok P TT){o:Oper}{h:Bool}{s:SV}{k1:List KB}{X:Nat->Prop}(hst:Evs P TT ts ks o.op h s k1)(hM:Mem X w β fp ks)(hT:∀ x,Den w (Mx X fp) β (val ts x) (a.eval x)){next:Act->World->Prop}
 (hn:∀ v w' β' fp',Went X w β fp w' β' fp' k1->Den w' (Mx X fp') β' s v->next (a.put o.dst v) w'):o.wpIn (ql rd) n P a w next Q:=by
 cases hst with
 |pure _ hc hm hev =>
  obtain⟨s',v,hK,hr,hd⟩:=qz7 hTT hev hT hM.kb' hM.apart;subst hK;exact jz (jj0 hev) hr (hn v w β fp (Went.refl hM) hd)
 |mem _ _ hc hm hev =>
  refine yj1 hTT hev hM hT (fun s' k' v w' β' fp' hs' hW hden=>?_);obtain⟨rfl,rfl⟩:=lw hs';exact hn v w' β' fp' hW hden
 |app _ hev =>
  obtain⟨d,v,w',hK,hr,hst,hd⟩:=yx2 hTT hev hM.vo.no hM.mlt hT;refine jz (fun c hc=>?_) hr (hn v w' β fp (hM.quiet hst) (hK ▸ hd));unfold wz at hev;rw [hc] at hev;exact hev
 |call g args tys _ _ _ ho hev =>
  refine xa2 hTT ho hev hM hT (fun h' s' k' v w' β' fp' hs' hW hden=>?_);obtain⟨rfl,he⟩:=lw hs';obtain⟨rfl,rfl⟩:=lw he;exact hn v w' β' fp' hW hden
theorem zv8[Dr]{i:Nat}{ρ:List Nat}:∀ {p q:Nat},posN i ρ p=some q->∃ k,q=p+k/\ρ[k]? = some i:=by
 induction ρ with
 |nil=>intro p q h;cases h
 |cons a l ih =>
  intro p q h;simp only [posN] at h;split at h
  ·rename_i hb;cases h;exact⟨0,rfl,by rw[qv hb];rfl⟩
  ·obtain⟨k,rfl,hk⟩:=ih h;exact⟨k+1,by omega,by simpa using hk⟩
def renE(ρ:List Nat)(β:Env):Env:=fun k=>(ρ[k]?).bind β
def renF(ρ:List Nat)(fp:Nat->Nat->Prop):Nat->Nat->Prop:=fun k b=>∃ i,ρ[k]? = some i/\fp i b
theorem wk[Dr]{ρ:List Nat}{β:Env}{i p:Nat}{L:Loc}(h:posN i ρ 0=some p)(hL:β i=some L):renE ρ β p=some L:=by
 obtain⟨k,rfl,hk⟩:=zv8 h;rw[ox];simp[renE,hk,hL]
theorem qd6(ρ:List Nat)(l:List SV)(j:Nat):(renL ρ l)[j]? = (l[j]?).map (renV ρ):=by
 induction l generalizing j with
 |nil=>simp[renL]
 |cons a l ih=>cases j <;> simp[renL,ih]
theorem qd0(ρ:List Nat)(l:List SV):(renL ρ l).length=l.length:=by
 induction l with
 |nil=>rfl
 |cons a l ih=>simp[renL,ih]
theorem xe3(ρ:List Nat)(l:List (List DV × List SV))(j:Nat):(renM ρ l)[j]? = (l[j]?).map (fun p=>(p.1,renL ρ p.2)):=by
 induction l generalizing j with
 |nil=>simp[renM]
 |cons a l ih=>obtain⟨k,v⟩:=a;cases j <;> simp[renM,ih]
theorem zi6(ρ:List Nat)(l:List (List DV × List SV)):(renM ρ l).length=l.length:=by
 induction l with
 |nil=>rfl
 |cons a l ih=>obtain⟨k,v⟩:=a;simp[renM,ih]
theorem zv4(ρ:List Nat)(l:List Col)(j:Nat):(qj7 ρ l)[j]? = (l[j]?).map (renC ρ):=by
 induction l generalizing j with
 |nil=>simp[qj7]
 |cons a l ih=>cases j <;> simp[qj7,ih]
theorem zg3(ρ:List Nat)(l:List Col):(qj7 ρ l).length=l.length:=by
 induction l with
 |nil=>rfl
 |cons a l ih=>simp[qj7,ih]
theorem Den.ren[Dr]{M:Nat->Prop}(ρ:List Nat){s:SV}{v:Value}(h:Den w M β s v):Den w M (renE ρ β) (renV ρ s) v:=by
 induction h with
 |d h=>exact .d h
 |ptr i off L h =>
  simp only[renV];split
  ·exact .ptr _ _ L (wk (by assumption) h)
  ·exact .any _
 |aptr i off len ix L h1 h2 h3 =>
  simp only[renV];split
  ·exact .aptr _ _ _ _ L h1 h2 (wk (by assumption) h3)
  ·exact .any _
 |dptr cells off ad u h1 h2 h3 h4=>exact .dptr cells off ad u h1 h2 h3 h4
 |allNil i L h h1 =>
  simp only[renV];split
  ·exact .allNil _ L (wk (by assumption) h) h1
  ·exact .any _
 |all i L h h1 =>
  simp only[renV];split
  ·exact .all _ L (wk (by assumption) h) h1
  ·exact .any _
 |rowNil i L h h1 =>
  simp only[renV];split
  ·exact .rowNil _ L (wk (by assumption) h) h1
  ·exact .any _
 |row i lo n off L h h1 h2 h3 =>
  simp only[renV];split
  ·exact .row _ lo n off L (wk (by assumption) h) h1 h2 h3
  ·exact .any _
 |cs i off n c L h h1 =>
  simp only[renV];split
  ·exact .cs _ off n c L (wk (by assumption) h) h1
  ·exact .any _
 |rptr i j off sz L h h1 =>
  simp only[renV];split
  ·exact .rptr _ j off sz L (wk (by assumption) h) h1
  ·exact .any _
 |agg l vs h1 _ h3 ih =>
  refine .agg _ vs (by rw[qd0];exact h1) (fun j s u a b=>?_) h3;rw [qd6] at a;cases hl:l[j]? with
  |none=>rw [hl] at a;cases a
  |some s0=>rw [hl] at a;cases a;exact ih j s0 u hl b
 |tup l vs h1 _ ih =>
  refine .tup _ vs (by rw[qd0];exact h1) (fun j s u a b=>?_);rw [qd6] at a;cases hl:l[j]? with
  |none=>rw [hl] at a;cases a
  |some s0=>rw [hl] at a;cases a;exact ih j s0 u hl b
 |fn f l vs h1 _ ih =>
  refine .fn f _ vs (by rw[qd0];exact h1) (fun j s u a b=>?_);rw [qd6] at a;cases hl:l[j]? with
  |none=>rw [hl] at a;cases a
  |some s0=>rw [hl] at a;cases a;exact ih j s0 u hl b
 |map i L h =>
  simp only[renV];split
  ·exact .map _ L (wk (by assumption) h)
  ·exact .any _
 |ap i n off L h =>
  simp only[renV];split
  ·exact .ap _ n off L (wk (by assumption) h)
  ·exact .any _
 |npNil i =>
  simp only[renV];split
  ·exact .npNil _
  ·exact .any _
 |np i n L h =>
  simp only[renV];split
  ·exact .np _ n L (wk (by assumption) h)
  ·exact .any _
 |yl i L h =>
  simp only[renV];split
  ·exact .yl _ L (wk (by assumption) h)
  ·exact .any _
 |ln n c ad=>exact .ln n c ad
 |err b v h1 h2=>exact .err b v h1 h2
 |v x=>exact .v x
 |any x=>exact .any x
theorem KBat.ren[Dr]{M:Nat->Prop}(ρ:List Nat){L:Loc}{f:Nat->Prop}{k:KB}(h:KBat w M β L f k)(hng:renK ρ k≠.gone):KBat w M (renE ρ β) L f (renK ρ k):=by
 cases h with
 |cells t l vs h0 h1 h3 h4 h5 =>
  refine .cells t _ vs h0 h1 (by rw[qd0];exact h3) (fun j s u a b=>?_) h5;rw [qd6] at a;cases hl:l[j]? with
  |none=>rw [hl] at a;cases a
  |some s0=>rw [hl] at a;cases a;exact (h4 j s0 u hl b).ren ρ
 |rowNil e sz z f h0 h1 h2 h3 h4=>exact .rowNil e sz z f h0 h1 h2 h3 h4
 |row e sz n z f vs fz h0 h1 h2 hn h3 h4 h5 h6 h7 h8 h9 h10=>exact .row e sz n z f vs fz h0 h1 h2 hn h3 h4 h5 h6 h7 h8 h9 h10
 |rows e sz n f vs fz h0 h1 h2 hn h4 h5 h6 h7 h8 h9 h10 =>
  refine .rows e sz n _ vs fz h0 h1 h2 hn h4 h5 h6 h7 (fun k hk=>by rw[qd0];exact h8 k hk) (fun k j s u hk hs hu=>?_) h10;rw [qd6] at hs;cases hl:(f k)[j]? with
  |none=>rw [hl] at hs;cases hs
  |some s0=>rw [hl] at hs;cases hs;exact (h9 k j s0 u hk hl hu).ren ρ
 |mapr eks ka e sz l st es clock bl cp h0 h1 h2 h3 h4 h5 h6 h7 h8=>exact .mapr eks ka e sz l st es clock bl cp h0 h1 h2 h3 h4 h5 h6 h7 h8
 |iter i bs c rem lst Li seen h0 h1 h2 h3 h4 h5 h6 =>
  simp only [renK] at hng ⊢;split
  ·rename_i p hp;exact .iter p bs c rem lst Li seen h0 (wk hp h1) h2 h3 h4 h5 h6
  ·rename_i hp;rw [hp] at hng;exact absurd rfl hng
 |mapx eks ka ea l st es clock h0 h1 h2 h3 h4 h5 =>
  refine .mapx eks ka ea _ st es clock h0 h1 (by rw[zi6];exact h2) (fun j p e hp he=>?_) h4 h5;rw [xe3] at hp;cases hl:l[j]? with
  |none=>rw [hl] at hp;cases hp
  |some p0 =>
   rw [hl] at hp;cases hp;obtain⟨kc,vc,a1,a2,a3,a4,a5,a6,a7,a8,a9,a10,a11⟩:=(h3 j p0 e hl he).ex;refine⟨kc,vc,a1,a2,a3,by simp[qd0,a4],a5,a6,a7,a8,a9,fun q s u hs hu=>?_,a11⟩;simp only [qd6] at hs;cases hq:p0.2[q]? with
   |none=>rw [hq] at hs;cases hs
   |some s0=>rw [hq] at hs;cases hs;exact (a10 q s0 u hq hu).ren ρ
 |arena t dom cols h0 h1 h2 =>
  refine .arena t dom _ h0 h1 (fun x hx=>?_);obtain⟨vs,a1,a2,a3,a4⟩:=h2 x hx;refine⟨vs,a1,by rw[zg3];exact a2,fun j c u hc hu=>?_,a4⟩;rw [zv4] at hc;cases hl:cols[j]? with
  |none=>rw [hl] at hc;cases hc
  |some c0 =>
   rw [hl] at hc;cases hc;have:=(a3 j c0 u hl hu).ren ρ;cases c0 with
   |np i f =>
    simp only [Col.at,renV] at this;cases hp:posN i ρ 0 with
    |none=>rw [hp] at this;simp only [renC,hp,Col.at];exact this
    |some p=>rw [hp] at this;simp only [renC,hp,Col.at];exact this
   |_=>exact this
 |obj φ h1 h2=>exact .obj φ h1 h2
 |loop l ps asg body st r h0 h1 h2 h3 h4 h5 h6 h7 =>
  refine .loop _ ps asg body st r h0 h1 (by rw[qd0];exact h2) (fun j s u a b=>?_) h4 h5 h6 h7;rw [qd6] at a;cases hl:l[j]? with
  |none=>rw [hl] at a;cases a
  |some s0=>rw [hl] at a;cases a;exact (h3 j s0 u hl b).ren ρ
theorem yo8[Dr]{m:Nat}{ρ:List Nat}(h:okN m ρ=true):(∀ (k i:Nat),ρ[k]? = some i->i<m)/\∀ (j k i:Nat),ρ[j]? = some i->ρ[k]? = some i->j=k:=by
 induction ρ with
 |nil=>exact ⟨fun k i h=>by simp at h,fun j k i h=>by simp at h⟩
 |cons a l ih =>
  simp only [okN] at h;split at h
  ·rename_i hm hb;obtain⟨h1,h2⟩:=ih h;have hnot:=qo2 hm;refine⟨fun k i hk=>?_,fun j k i hj hk=>?_⟩
   ·cases k with
    |zero=>simp at hk;subst hk;exact jr hb
    |succ k=>exact h1 k i (by simpa using hk)
   ·cases j <;> cases k
    ·rfl
    ·simp at hj hk;subst hj;exact absurd (ov hk) hnot
    ·simp at hj hk;subst hk;exact absurd (ov hj) hnot
    ·rename_i j k;have:=h2 j k i (by simpa using hj) (by simpa using hk);omega
  ·cases h
theorem zq1[Dr]{n i:Nat}{ρ:List Nat}(h:qj9 n i ρ=true):∀ k,k<n->ρ[k]? = some (i+k):=by
 induction n generalizing i ρ with
 |zero=>intro k hk;omega
 |succ n ih =>
  cases ρ with
  |nil=>simp [qj9] at h
  |cons a l =>
   simp only [qj9] at h;split at h
   ·rename_i hb;intro k hk;cases k with
    |zero=>simp[qv hb]
    |succ k=>have:=ih h k (by omega);simp[this];omega
   ·cases h
theorem yo0(ρ:List Nat)(ks:List KB)(l:List Nat)(j:Nat):(renB ρ ks l)[j]? = (l[j]?).map (fun o=>renK ρ (getB ks o)):=by
 induction l generalizing j with
 |nil=>simp[renB]
 |cons a l ih=>cases j <;> simp[renB,ih]
theorem zi7(ρ:List Nat)(ks:List KB)(l:List Nat):(renB ρ ks l).length=l.length:=by
 induction l with
 |nil=>rfl
 |cons a l ih=>simp[renB,ih]
theorem Went.ren[Dr]{X:Nat->Prop}{w0:World}{β0:Env}{fp0:Nat->Nat->Prop}{nb:Nat}(h:Went X w0 β0 fp0 w β fp ks)(hnb:∀ i,nb<=i->β0 i=none)(ρ:List Nat)(h1:okN ks.length ρ=true)(h2:qj9 nb 0 ρ=true) :
 Went X w0 β0 fp0 w (renE ρ β) (renF ρ fp) (renB ρ ks ρ):=by
 obtain⟨o1,o2⟩:=yo8 h1;have hk:=zq1 h2;have hM:∀ b,Mx X (renF ρ fp) b->Mx X fp b:=fun b hm=>hm.imp id (fun⟨k,i,_,hb⟩=>⟨i,hb⟩)
 refine⟨⟨⟨h.mem.xa,fun k b ⟨i,_,hb⟩=>h.mem.xb i b hb,fun j k b ⟨i,hi,hb⟩ ⟨i',hi',hb'⟩=>?_,fun k b ⟨i,_,hb⟩=>h.mem.kw i b hb,fun k b ⟨i,hi,hb⟩=>?_,fun k L kb hkb hne hL=>?_⟩,fun k hk'=>?_,fun k t dom cols hkb=>?_,h.mem.vo.sub (fun k b ⟨i,_,hb⟩=>⟨i,hb⟩)⟩,h.st,fun i L hL=>?_,fun k b ⟨i,_,hb⟩=>h.own i b hb⟩
 ·have:=h.mem.dis i i' b hb hb';subst this;exact o2 j k i hi hi'
 ·obtain⟨L,hL⟩:=h.mem.kn i b hb;exact⟨L,by simp[renE,hi,hL]⟩
 ·rw [yo0] at hkb;cases hi:ρ[k]? with
  |none=>rw [hi] at hkb;cases hkb
  |some i =>
   rw [hi] at hkb;simp only [o8] at hkb;cases hkb;have hL':β i=some L:=by simpa[renE,hi] using hL
   have hil:=o1 k i hi;have hgi:ks[i]? = some (getB ks i):=by rw[wo,pp hil];rfl
   have hne':getB ks i≠.gone:=fun e=>by rw [e] at hne;exact hne rfl
   have hb:=(h.mem.kb i L _ hgi hne' hL').ren ρ hne;have hfp:renF ρ fp k=fp i:=by
    funext b;simp only[renF,hi];simp
   rw[hfp];exact hb.mono (Step.refl _ _) (fun b _ e=>hM b e) (Ext.refl _) (fun _ _=>rfl)
 ·rw [zi7] at hk';simp[renE,gp hk']
 ·rw [yo0] at hkb;cases hi:ρ[k]? with
  |none=>rw [hi] at hkb;cases hkb
  |some i =>
   rw [hi] at hkb;simp only [o8,my] at hkb;have hil:=o1 k i hi;have hgi:ks[i]? = some (getB ks i):=by rw[wo,pp hil];rfl
   generalize getB ks i=kb at hkb hgi;have hkb':∃ t dom cols,kb = .arena t dom cols:=by
    cases kb with
    |arena t dom cols=>exact⟨_,_,_,rfl⟩
    |iter i bs c rem lst=>simp only [renK] at hkb;split at hkb <;> cases hkb
    |_=>simp [renK] at hkb
   obtain⟨_,_,_,rfl⟩:=hkb';obtain⟨L,hL⟩:=h.mem.ka i _ _ _ hgi;exact⟨L,by simp[renE,hi,hL]⟩
 ·have hi:i<nb:=by
   rcases oo i nb with e|e
   ·exact e
   ·rw [hnb i e] at hL;cases hL
  have hr:=hk i hi;rw [ox] at hr;simp[renE,hr,h.ext i L hL]
theorem qy4{l m:List SV}(h:SubL l m):l.length=m.length:=by
 induction l generalizing m with
 |nil=>cases m with
  |nil=>rfl
  |cons=>exact h.elim
 |cons a l ih=>cases m with
  |nil=>exact h.elim
  |cons b m=>simp[ih h.2]
theorem jc9{l m:List SV}(h:SubL l m)(j:Nat)(s:SV)(hs:m[j]? = some s):∃ s0,l[j]? = some s0/\SubV s0 s:=by
 induction l generalizing m j with
 |nil=>cases m with
  |nil=>simp at hs
  |cons=>exact h.elim
 |cons a l ih=>cases m with
  |nil=>exact h.elim
  |cons b m =>
   cases j with
   |zero=>simp at hs;subst hs;exact ⟨a,rfl,h.1⟩
   |succ j=>exact ih h.2 j (by simpa using hs)
theorem qm5[Dr]{s0 s:SV}(h:SubV s0 s){v:Value}{M:Nat->Prop}(hd:Den w M β s0 v):Den w M β s v:=by
 unfold SubV at h;split at h
 ·exact .any _
 ·split at h
  ·obtain⟨rfl,rfl,rfl⟩:=h;cases hd with
   |ap _ n _ L hL=>exact .np _ n L hL
  ·subst h;cases hd;exact .npNil _
  ·exact h ▸ hd
 ·split at h
  ·subst h;cases jb hd;exact .d (.bool true)
  ·subst h;cases jb hd;exact .d (.bool false)
  ·exact h ▸ hd
 ·exact h ▸ hd
theorem zm3{l m:List KB}(h:SubB l m):l.length=m.length:=by
 induction l generalizing m with
 |nil=>cases m with
  |nil=>rfl
  |cons=>exact h.elim
 |cons a l ih=>cases m with
  |nil=>exact h.elim
  |cons b m=>simp[ih h.2]
theorem ys8{l m:List KB}(h:SubB l m)(j:Nat)(k:KB)(hk:m[j]? = some k):∃ k0,l[j]? = some k0/\SubK k0 k:=by
 induction m generalizing l j with
 |nil=>simp at hk
 |cons b m ih=>cases l with
  |nil=>exact h.elim
  |cons a l =>
   cases j with
   |zero=>simp at hk;subst hk;exact ⟨a,rfl,h.1⟩
   |succ j=>exact ih h.2 j (by simpa using hk)
theorem zm2{dom:Nat->Prop}{l m:List Col}(h:SubC dom l m):l.length=m.length:=by
 induction l generalizing m with
 |nil=>cases m with
  |nil=>rfl
  |cons=>exact h.elim
 |cons a l ih=>cases m with
  |nil=>exact h.elim
  |cons b m=>simp[ih h.2]
theorem xk5{dom:Nat->Prop}{l m:List Col}(h:SubC dom l m)(j:Nat)(c:Col)(hc:m[j]? = some c):∃ c0,l[j]? = some c0/\∀ n,dom n->c0.at n=c.at n:=by
 induction m generalizing l j with
 |nil=>simp at hc
 |cons b m ih=>cases l with
  |nil=>exact h.elim
  |cons a l =>
   cases j with
   |zero=>simp at hc;subst hc;exact ⟨a,rfl,h.1⟩
   |succ j=>exact ih h.2 j (by simpa using hc)
theorem yb1[Dr]:∀ {l m:List (List DV × Nat × (Nat->List DV))},SubR l m->l.length=m.length
 |[],[],_=>rfl
 |(_,_,_) :: _,(_,_,_) :: _,h=>congrArg (· + 1) (yb1 h.2)
 |[],_ :: _,h=>h.elim
 |_ :: _,[],h=>h.elim
theorem jp6[Dr]:∀ {l m:List (List DV × Nat × (Nat->List DV))},SubR l m->∀ (j:Nat) (p:List DV × Nat × (Nat->List DV)),m[j]? = some p->∃ p0,l[j]? = some p0/\p0.1=p.1/\p0.2.1=p.2.1/\∀ i,i<p0.2.1->p0.2.2 i=p.2.2 i
 |[],[],_,_,_,hp=>by simp at hp
 |(k,n,f) :: l,(k',n',f') :: m,h,0,p,hp=>by
  simp at hp;subst hp;exact⟨_,rfl,h.1.1,h.1.2.1,h.1.2.2⟩
 |(k,n,f) :: l,(k',n',f') :: m,h,j+1,p,hp=>by
  obtain⟨p0,a,b⟩:=jp6 h.2 j p (by simpa using hp);exact⟨p0,by simpa using a,b⟩
 |[],_ :: _,h,_,_,_=>h.elim
 |_ :: _,[],h,_,_,_=>h.elim
theorem RowAt.congr{w:World}{M:Nat->Prop}{e:TypeId}{sz n b c:Nat}{f g:Nat->List DV}(h:RowAt w M e sz n f b c)(hf:∀ i,i<n->f i=g i):RowAt w M e sz n g b c:=by
 obtain⟨vs,fz,a1,a2,a3,a4,a5,a6,a7⟩:=h.ex;exact⟨vs,fz,a1,a2,a3,a4,fun k hk=>hf k hk ▸ a5 k hk,fun k j d u hk hd hu=>a6 k j d u hk (by rw[hf k hk];exact hd) hu,a7⟩
theorem xq5[Dr]{M:Nat->Prop}{L:Loc}{f:Nat->Prop}{k0 k:KB}(h:SubK k0 k)(hne:k≠.gone)(hb:KBat w M β L f k0):KBat w M β L f k:=by
 unfold SubK at h;split at h
 ·exact absurd rfl hne
 ·rename_i t l t' l';obtain⟨rfl,hsl⟩:=h;cases hb with
  |cells _ _ vs h0 h1 h3 h4 h5 =>
   refine .cells t l' vs h0 h1 (by rw[<-qy4 hsl];exact h3) (fun j s u hs hu=>?_) h5;obtain⟨s0,hs0,hsv⟩:=jc9 hsl j s hs;exact qm5 hsv (h4 j s0 u hs0 hu)
 ·rename_i e sz n z f e' sz' n' z' f';obtain⟨rfl,rfl,rfl,hz,hf⟩:=h;cases hb with
  |rowNil _ _ _ _ h0 h1 h2 h3 h4=>exact .rowNil e sz z' f' h0 h1 h2 h3 (by cases z <;> cases z' <;> simp [SubZ] at hz h4 ⊢)
  |row _ _ _ _ _ vs fz h0 h1 h2 hn h3 h4 h5 h6 h7 h8 h9 h10 =>
   exact .row e sz n z' f' vs fz h0 h1 h2 hn (fun ez=>by subst ez;cases z with|no=>exact hz.elim|iff=>exact h3 rfl|may=>exact hz) h4 h5 h6 h7 (fun k hk=>hf k hk ▸ h8 k hk) (fun k j d u hk hd hu=>h9 k j d u hk (by rw[hf k hk];exact hd) hu) h10
 ·rename_i e sz n f e' sz' n' f';obtain⟨rfl,rfl,rfl,hf⟩:=h;cases hb with
  |rows _ _ _ _ vs fz h0 h1 h2 hn h4 h5 h6 h7 h8 h9 h10 =>
   refine .rows e sz n f' vs fz h0 h1 h2 hn h4 h5 h6 h7 (fun k hk=>by rw[<-qy4 (hf k hk)];exact h8 k hk) (fun k j s u hk hs hu=>?_) h10;obtain⟨s0,hs0,hsv⟩:=jc9 (hf k hk) j s hs;exact qm5 hsv (h9 k j s0 u hk hs0 hu)
 ·rename_i eks ka ea l st eks' ka' ea' l' st';cases st' with
  |free =>
   obtain⟨⟨rfl,rfl,rfl⟩,hl⟩:=h;cases hl;cases hb with
   |mapx _ _ _ _ _ es clock h0 h1 h2 h3 h4 h5=>exact .mapx _ _ _ _ .free es clock h0 h1 h2 h3 h4 trivial
  |opn q s =>
   obtain⟨⟨⟨rfl,rfl,rfl⟩,hl⟩,rfl⟩:=h;cases hl;exact hb
  |born bs c =>
   obtain⟨⟨⟨rfl,rfl,rfl⟩,hl⟩,rfl⟩:=h;cases hl;exact hb
 ·obtain⟨⟨⟨rfl,rfl,rfl,rfl⟩,hl⟩,rfl⟩:=h;cases hb with
  |mapr _ _ _ _ l _ es clock bl cp h0 h1 h2 h3 h4 h5 h6 h7 h8 =>
   refine .mapr _ _ _ _ _ _ es clock bl cp h0 h1 (by rw[<-yb1 hl];exact h2) (fun j p e hp he=>?_) (fun j p en hp he hm=>?_) h5 h6 h7 h8
   ·obtain⟨p0,hp0,e1,e2,e3⟩:=jp6 hl j p hp;rw[<-e1];exact h3 j p0 e hp0 he
   ·obtain⟨p0,hp0,e1,e2,e3⟩:=jp6 hl j p hp;obtain⟨a,b⟩:=h4 j p0 en hp0 he hm;rw[<-e2];exact⟨a,b.congr e3⟩
 ·obtain⟨rfl,rfl,rfl,rfl,rfl⟩:=h;exact hb
 ·rename_i t dom cols t' dom' cols';obtain⟨rfl,hdom,hc⟩:=h;cases hb with
  |arena _ _ _ h0 h1 h2 =>
   refine .arena t dom' cols' (fun x=>(h0 x).trans (hdom _)) (fun e=>h1 ((hdom _).2 e)) (fun x hx=>?_);obtain⟨vs,a1,a2,a3,a4⟩:=h2 x ((hdom _).2 hx);refine⟨vs,a1,by rw[a2,zm2 hc],fun j c u hcj hu=>?_,a4⟩;obtain⟨c0,hc0,he⟩:=xk5 hc j c hcj;rw[<-he _ ((hdom _).2 hx)];exact a3 j c0 u hc0 hu
 ·rename_i φ φ';cases hb with
  |obj _ h1 h2 =>
   obtain⟨a,b⟩:=h w M L f h2;exact .obj φ' a b
 ·rename_i l ps a b st l' ps' a' b' st';obtain⟨hsl,rfl,rfl,rfl,rfl⟩:=h;cases hb with
  |loop _ _ _ _ _ r h0 h1 h2 h3 h4 h5 h6 h7 =>
   refine .loop l' ps a b st r h0 h1 (by rw[<-qy4 hsl];exact h2) (fun j s u hs hu=>?_) h4 h5 h6 h7;obtain⟨s0,hs0,hsv⟩:=jc9 hsl j s hs;exact qm5 hsv (h3 j s0 u hs0 hu)
 ·cases h
theorem Went.less[Dr]{X:Nat->Prop}{w0:World}{β0:Env}{fp0:Nat->Nat->Prop}{ks':List KB}(h:Went X w0 β0 fp0 w β fp ks)(hs:SubB ks ks'):Went X w0 β0 fp0 w β fp ks':=by
 refine⟨⟨⟨h.mem.xa,h.mem.xb,h.mem.dis,h.mem.kw,h.mem.kn,fun i L k hk hne hL=>?_⟩,fun i hi=>h.mem.kl i (by rw[zm3 hs];exact hi),fun i t dom cols hi=>?_,h.mem.vo⟩,h.st,h.ext,h.own⟩
 ·obtain⟨k0,hk0,hsk⟩:=ys8 hs i k hk;have hne0:k0≠.gone:=fun e=>by
   subst e;unfold SubK at hsk;split at hsk
   ·exact hne rfl
   all_goals simp_all
  exact xq5 hsk hne (h.mem.kb i L k0 hk0 hne0 hL)
 ·obtain⟨k0,hk0,hsk⟩:=ys8 hs i _ hi;unfold SubK at hsk;cases k0 <;> simp at hsk
  exact h.mem.ka i _ _ _ hk0
theorem Sat.weaken[Dr]{nb:Nat}{ρ:List Nat}{ts':List SV}{ks':List KB}(h:Sat B w β fp ts ks a)(hnb:∀ i,nb<=i->B.β0 i=none)(hs:Subs nb ρ ts ks ts' ks'):∃ β' fp',Sat B w β' fp' ts' ks' a:=by
 unfold Subs at hs;split at hs
 ·rename_i h1 h2;rw [qa4] at h1;obtain⟨hl,hk⟩:=hs;have hW:=h.went.ren hnb ρ h1 h2;have hM:∀ b,Mx B.X (renF ρ fp) b->Mx B.X fp b:=fun b hm=>hm.imp id (fun⟨k,i,_,hb⟩=>⟨i,hb⟩)
  refine⟨renE ρ β,renF ρ fp,hW.less hk,h.df.mono (Step.refl _ _) (fun b _ e=>hM b e),by rw[h.len,<-qy4 hl,qd0],fun t s v hs hv=>?_⟩;obtain⟨s0,hs0,hsv⟩:=jc9 hl t s hs;rw [qd6] at hs0;cases hq:ts[t]? with
  |none=>rw [hq] at hs0;cases hs0
  |some s1 =>
   rw [hq] at hs0;cases hs0;exact qm5 hsv (((h.tm t s1 v hq hv).mono (Step.refl _ _) (fun b _ e=>hM b e) (Ext.refl _)).ren ρ)
 ·exact hs.elim
def qk3(F:Fence)(n:Nat)(P:Program)(c:Code)(Q:Exit->Act->World->Prop)(a:Act)(w:World):Prop :=
 ∀ (b:Frame) (k:List Item) (cs:List Frame),b.roundOf=F.round->F.fn b.fn->F.room (cs.length+1+n) ->
  ∃ e a' w',Q e a' w'/\ArrivesIn (Machine.fenced P F) P (lone (b.atR a (.code c :: .inLoop c :: k)) cs w) b k cs e a' w'
theorem ze0{F:Fence}{c:Code}(h:qk3 F n P c Q a w):(Code.loop c).wpIn F n P Q a w:=by
 intro b k cs hro hb hr;obtain⟨e,a',w',hq,harr⟩:=h b k cs hro hb hr;exact⟨e,a',w',hq,.of_steps (.one (fenced_calm hb hr rfl) stepR_loop) harr⟩
theorem ya9{F:Fence}{c:Code}(h:c.wpIn F n P (Exit.then (fun a' w'=>qk3 F n P c Q a' w') Q) a w):qk3 F n P c Q a w:=by
 intro b k cs hro hb hr;obtain⟨e,a₁,w₁,hq,harr⟩:=h b (.inLoop c :: k) cs hro hb hr;cases e with
 |normal =>
  obtain⟨e₂,a₂,w₂,hq₂,harr₂⟩:=hq b k cs hro hb hr;exact⟨e₂,a₂,w₂,hq₂,.of_steps (StepsIn.trans harr (.one (fenced_calm hb hr rfl) stepR_inLoop)) harr₂⟩
 |exit id=>exact⟨_,a₁,w₁,hq,.pass (x:=.inLoop c) rfl (fun _ _=>.inl (by simp)) harr⟩
 |goto l=>exact⟨_,a₁,w₁,hq,.pass (x:=.inLoop c) rfl (fun _ _=>.inl (by simp)) harr⟩
 |ret=>exact⟨_,a₁,w₁,hq,.pass (x:=.inLoop c) rfl (fun _ _=>.inl (by simp)) harr⟩
 |panic ch=>exact⟨_,a₁,w₁,hq,.pass (x:=.inLoop c) rfl (fun _ _=>.inl (by simp)) harr⟩
 |outgrown=>exact⟨_,a₁,w₁,hq,.pass (x:=.inLoop c) rfl (fun _ _=>.inl (by simp)) harr⟩
theorem xk3[Dr]{ι:Type}{F:Fence}{c:Code}(Fit:ι->Act->World->Prop)(μ:ι->Nat)(i:ι)(h₀:Fit i a w)
 (round:∀ i a w,Fit i a w->c.wpIn F n P (Exit.then (fun a' w'=>∃ j,Fit j a' w'/\μ j<μ i) Q) a w):qk3 F n P c Q a w:=by
 have key:∀ m i a w,μ i=m->Fit i a w->qk3 F n P c Q a w:=by
  intro m;induction m using Nat.strongRecOn with
  |_ m ih =>
   intro i a w hn hI;refine ya9 (wpIn_mono (round i a w hI) (fun e a1 w1 he=>?_));cases e with
   |normal =>
    obtain⟨j,hI₁,hlt⟩:=he;exact ih (μ j) (hn ▸ hlt) j a1 w1 rfl hI₁
   |_=>exact he
 exact key _ i a w rfl h₀
end
end
section
section
variable{P:Program}{TT:Nat->Option TI}{X:Nat->Prop}{w:World}{β:Env}{M:Nat->Prop}{ts:List SV}{ks:List KB}{a:Act}{K:SV->List KB->Prop}{o:Oper}
def jh4[Dr](P:Program)(w:World)(M:Nat->Prop)(β:Env)(ks:List KB)(a:Act)(o:Oper)(K:SV->List KB->Prop):Prop :=
 ∃ (ob:Obj) (L:Loc) (k:KB) (s0:SV) (v:Value) (w1:World),K s0 (ks++[k])/\(execOp a.eval o).run P w = .ok (.value v) (w1.alloc ob)/\Step (fun _=>False) w w1/\w1.heap.size=w.heap.size/\L.b=w.heap.size /\
  (∀ (M':Nat->Prop) (β':Env),(∀ b,b<w.heap.size->M' b->M b)->Ext β β'->KBat (w1.alloc ob) M' β' L (· = w.heap.size) k)/\∀ (w':World) (M':Nat->Prop) (β':Env),β' ks.length=some L->Den w' M' β' s0 v
theorem jj5[Dr]{w1:World}(h1:Step (fun _=>False) w w1)(hsz:w1.heap.size=w.heap.size)(t:TypeId)(l:List SV)(vs:Array Value)(hl:l.length=vs.size)(hd:∀ (j:Nat) (s:SV) (u:Value),l[j]? = some s->vs[j]? = some u->Den w M β s u)(ho:∀ (j:Nat) (u:Value),vs[j]? = some u->u.oneCell'=true) :
 ∀ (M':Nat->Prop) (β':Env),(∀ b,b<w.heap.size->M' b->M b)->Ext β β'->KBat (w1.alloc (.cells vs t)) M' β' (locB w.heap.size) (· = w.heap.size) (.cells t l):=fun M' β' hM hE =>
 .cells t l vs (fun x=>Iff.rfl) (by show(w1.heap.push _)[w.heap.size]? = _;rw[<-hsz];simp) hl (fun j s u a b=>(hd j s u a b).mono ((h1.mono (fun _ _ e=>e.elim)).trans (Step.alloc _ w1 _)) hM hE) ho
theorem yk3[Dr]{w1:World}(h1:Step (fun _=>False) w w1)(hsz:w1.heap.size=w.heap.size)(e:TypeId)(sz n c:Nat)(z:Z)(f:Nat->List DV)(vs:Array Value)(fz:Nat × Nat)(hfz:∀ o,o<vs.size->¬ (fz.1<=o/\o<fz.2))(hz:z = .iff->0<n)(hs:vs.size=c * sz)(hn:n<=c)(hfl:∀ k,k<n->(f k).length=sz)
 (hr:∀ (k j:Nat) (d:DV) (u:Value),k<n->(f k)[j]? = some d->vs[k * sz+j]? = some u->Rd w M d u) (ho:∀ (j:Nat) (u:Value),vs[j]? = some u->u.oneCell'=true) :
 ∀ (M':Nat->Prop) (β':Env),(∀ b,b<w.heap.size->M' b->M b)->Ext β β'->KBat (w1.alloc (.cells vs e fz)) M' β' ⟨w.heap.size,n,c,sz,false⟩ (· = w.heap.size) (.row e sz n z f):=fun M' β' hM hE =>
 .row e sz n z f vs fz (fun x=>Iff.rfl) rfl rfl rfl hz (by show(w1.heap.push _)[w.heap.size]? = _;rw[<-hsz];simp) hfz hs hn hfl (fun k j d u a b c=>(hr k j d u a b c).mono ((h1.mono (fun _ _ e=>e.elim)).trans (Step.alloc _ w1 _)) hM) ho
theorem zc4[Dr](hTT:TTok P TT){t:TypeId}{len:Nat}{parts:Array (Nat × Operand)}(ho:o.op = .buildSlice t len parts)(h:mev TT ts ks (.buildSlice t len parts) K)(hM:∀ b,M b->b<w.heap.size)(hT:∀ x,Den w M β (val ts x) (a.eval x)):jh4 P w M β ks a o K:=by
 simp only [mev] at h;split at h
 ·rename_i _ _ _ _ e _ ht;split at h
  ·rename_i size bytes agg zero desc eqk hte;split at h
   ·rename_i hble;have hble:=jr hble;obtain⟨info0,d0,z0',hi0,hu0,_,_,_,_,_,_,_,_,hd0⟩:=qi hTT ht;cases hd0;obtain⟨info,de,z0,hi,hue,hsz,hby,hz0,_,hzl,hzs,hzd,hz1,_⟩:=qi hTT hte;simp only at hsz hzl hzs hzd;rw [qt8] at h;have hlen0:((List.replicate len zero).flatten).length=len * size:=by simp[hzs]
    have hbase:((Array.range (len * info.size)).map (z0.cells[· % z0.cells.size]!)).toList.length=len * size:=by simp[hsz]
    have hzpos:∀ m,m<len * size->0<z0.cells.size:=fun m hm=>by
     rcases fq z0.cells.size with e0|e0
     ·rw [hzl,hzs] at e0;rw [e0] at hm;omega
     ·exact e0
    obtain⟨cs',vs',h,hfill,r1,r2,r3⟩:=jk3 (a:=a) hT parts.toList _ _ ((Array.range (len * info.size)).map (z0.cells[· % z0.cells.size]!)).toList h (by rw[hlen0,hbase]) (fun j s u hs hu=>by
     obtain⟨a1,a2⟩:=jq0 zero len j s hs;have hu':((Array.range (len * info.size)).map (z0.cells[· % z0.cells.size]!))[j]? = some u:=by rw[<-f7];exact hu
     obtain ⟨b1,b2⟩:=ui hu' (hzpos j (by rw [hzs] at a2;exact a2));rw [hzl] at b2;exact hzd w _ β _ s u a1 b2) (fun u hu=>by
     obtain⟨j,hj,rfl⟩:=o9.1 hu;have hu':=pp hj;rw [f7] at hu';rw [hbase] at hj;obtain⟨b1,b2⟩:=ui hu' (hzpos j hj);exact hz1 _ _ b2)
    rw [xr,zx,ox] at h;refine⟨.cells vs'.toArray e,locB w.heap.size,_,_,.slice (some ⟨w.heap.size,0,none⟩) len len,w,h,?_,Step.refl _ _,rfl,rfl,jj5 (Step.refl _ _) rfl e cs' vs'.toArray (by simpa using r1) (fun j s u hs hu=>r2 j s u hs (by simpa using hu)) (fun j u hu=>r3 u (ov (by simpa using hu))),fun _ _ β' hL=>.cs _ 0 len len (locB w.heap.size) hL (pr _)⟩;have hrun:(Instr.buildSlice t len (parts.map fun(i,x)=>(i,a.eval x))).run P w = .ok (.slice (some ⟨w.heap.size,0,none⟩) len len) (w.alloc (.cells vs'.toArray e)):=by
     have hp:(parts.map fun(i,x)=>(i,a.eval x)).toList=parts.toList.map fun p=>(p.1,a.eval p.2):=by simp
     have hfill':Instr.fill (fun i=>some (i * info.size,info.size)) ((Array.range (len * info.size)).map (z0.cells[· % z0.cells.size]!)) (parts.map fun(i,x)=>(i,a.eval x)).toList=some vs'.toArray:=by
      rw[hp,hsz];rw [hsz,s5] at hfill;exact hfill
     have h24:¬ (len * info.size > 2 ^ 24):=by rw[hsz];omega
     by_cases hz:len * info.size=0
     ·rw [hz,rx,Array.map_empty] at hfill';simp only[Instr.buildSlice,p6,run_underlying hu0,p9,run_sizeOf hi,hz];have hfill2:Instr.fill (fun i=>some (i * info.size,info.size)) #[] (List.map (fun x=>(x.1,a.eval x.2)) parts.toList)=some vs'.toArray:=by rw[<-hp];exact hfill'
      simp[newRow,rx,hfill2]
     ·exact run_buildSlice w t e len _ _ info z0 hu0 hi hz0 h24 hz hfill'
    simp[execOp,ho,hrun]
   ·cases h
  ·cases h
 ·cases h
theorem zc9[Dr](hTT:TTok P TT){t:TypeId}{x y:Operand}(ho:o.op = .makeSlice t x y)(h:mev TT ts ks (.makeSlice t x y) K)(hM:∀ b,M b->b<w.heap.size)(hT:∀ x,Den w M β (val ts x) (a.eval x)):jh4 P w M β ks a o K:=by
 simp only [mev] at h;split at h
 ·rename_i _ _ _ _ e _ ht;split at h
  ·rename_i size bytes agg zero desc eqk hte;obtain⟨info0,d0,z0',hi0,hu0,_,_,_,_,_,_,_,_,hd0⟩:=qi hTT ht;cases hd0;obtain⟨info,de,z0,hi,hue,hsz,hby,hz0,_,hzl,hzs,hzd,hz1,_⟩:=qi hTT hte;simp only at hsz hzl hzs hzd hby;rw [qm,qm] at h;have hx:=hT x;have hy:=hT y;split at h
   ·rename_i k l k' c ex ey;rw [ex] at hx;rw [ey] at hy;have e1:=ja hx;have e2:=ja hy;have hE:Mem0 M w noE (fun _ _=>False) []:=⟨hM,fun _ _ h=>h.elim,fun _ _ _ h=>h.elim,fun _ _ h=>h.elim,fun _ _ h=>h.elim,fun i L k hk=>by simp at hk⟩;obtain⟨ds,fr,h,f1,f2,f3⟩:=ql3 hE _ _ z0.cells.toList h (by simpa using hzl.symm) (fun j s u hs hu=>hzd w _ noE j s u hs (by simpa using hu));obtain⟨⟨h0,h1,h2,h3⟩,h⟩:=h;rw [uo] at h;have hsize:ds.length=size:=by rw[f1,hzs]
    have hgetm:∀ (kk q:Nat) (u:Value),q<size->(madeCells z0.cells (c.toNat * info.size))[kk * size+q]? = some u->z0.cells[q]? = some u:=fun kk q u hq hu=>by
     obtain⟨_,b2⟩:=ui hu (by omega);rw [hzl,hzs,c7,Nat.mul_add_mod,rq hq] at b2;exact b2
    have hkb:=yk3 (M:=M) (β:=β) (Step.refl _ w) rfl e size l.toNat c.toNat .no (fun _=>ds) (madeCells z0.cells (c.toNat * info.size)) (0,0) (by simp) (fun e=>by cases e) (by rw[size_madeCells,hsz]) (by omega) (fun _ _=>hsize) (fun kk q d u _ hd hu=>by
     have hq:q<size:=by have:=(pq.1 hd).1;omega
     have hu':=hgetm kk q u hq hu;have:=f3 fr (fun _ h=>h) q d u hd (by simpa using hu');exact z6 this (fun b hb=>.inl hb)) (fun j u hu=>by
     have hj:j<c.toNat * info.size:=by have:=(m7.1 hu).1;rw [size_madeCells] at this;exact this
     have hp:0<z0.cells.size:=by
      rcases fq z0.cells.size with e0|e0
      ·rw [hzl,hzs,<-hsz] at e0;rw [e0] at hj;omega
      ·exact e0
     obtain⟨_,b2⟩:=ui hu hp;exact hz1 _ _ b2)
    refine⟨_,_,_,_,_,w,h,?_,Step.refl _ _,rfl,rfl,hkb,fun _ _ β' hL=>.all _ _ hL rfl⟩;have hrun:=run_make (P:=P) w t e info z0 hu0 hi hz0 k k' l c h0 h1 (by rw[hby,Int.mul_comm];exact h2) h3;simp[execOp,ho,e1,e2,hrun]
   ·cases h
  ·cases h
 ·cases h
theorem zf4[Dr](hTT:TTok P TT){src dst:TypeId}{x:Operand}(ho:o.op = .convert src dst x)(hf:va (.convert src dst x)=true)(h:mev TT ts ks (.convert src dst x) K)(hM:∀ b,M b->b<w.heap.size)(hT:∀ x,Den w M β (val ts x) (a.eval x)):jh4 P w M β ks a o K:=by
 simp only [mev] at h;split at h
 ·rename_i _ _ tis _ _ _ _ e _ hts ht;obtain⟨_,us,_,_,hsrc,_⟩:=qi hTT hts;split at h
  ·rename_i _ _ _ _ _ hte;obtain⟨info0,d0,z0',hi0,hu0,_,_,_,_,_,_,_,_,hd0⟩:=qi hTT ht;cases hd0;obtain⟨info1,d1,z1',hi1,hu1,_,_,_,_,_,_,_,_,hd1⟩:=qi hTT hte;cases hd1;rw [qm] at h;have hx:=hT x;split at h
   ·rename_i s ex;rw [ex] at hx;have ev:=yk hx;rw [uo] at h;have hrun:=Lib.run_convert_string_bytes (P:=P) w src dst e ⟨s.toArray⟩ hsrc hu0 hu1;rw [jw4,qa2] at hrun;have hge:=jo6 w s.length 0 e;have hC:(Lib.bytesCells w e ⟨s.toArray⟩).size=grownCap w s.length 0 e:=by
     unfold Lib.bytesCells;rw[qa2];simp;omega
    have hget:∀ j u,j<s.length->(Lib.bytesCells w e ⟨s.toArray⟩)[j]? = some u->∃ b,s[j]? = some b/\u = .int .u8 b.toNat:=fun j u hj hu=>by
     unfold Lib.bytesCells at hu;rw [sq (by simpa using hj)] at hu;simp at hu;obtain⟨b,h1,h2⟩:=hu;exact⟨b,h1,h2.symm⟩
    have hkb:=yk3 (M:=M) (β:=β) (w:=w) (w1:=w.drew) (Step.drew _ w) rfl e 1 s.length (grownCap w s.length 0 e) .no (fun j=>[.int .u8 (jc s j)]) (Lib.bytesCells w e ⟨s.toArray⟩) ((Lib.bytesCells w e ⟨s.toArray⟩).size,(Lib.bytesCells w e ⟨s.toArray⟩).size+1) (fun o ho=>by omega) (fun e=>by cases e) (by rw[hC,Nat.mul_one]) hge (fun _ _=>rfl) (fun k q d u hk hd hu=>by
     cases q with
     |zero =>
      simp at hd;subst hd;obtain⟨b,hb,rfl⟩:=hget k u hk (by simpa using hu);have:jc s (k:Int)=b.toNat:=by unfold jc;simp[hb]
      rw[this];exact .int _ _
     |succ q=>simp at hd) (fun j u hu=>by
     unfold Lib.bytesCells at hu;rw [Array.getElem?_append] at hu;split at hu
     ·simp at hu;obtain⟨b,_,rfl⟩:=hu;rfl
     ·have:=s6 hu;simp at this;rw[this.2];rfl)
    refine⟨_,_,_,_,_,w.drew,h,?_,Step.drew _ w,rfl,rfl,hkb,fun _ _ β' hL=>.all _ _ hL rfl⟩;simp only[execOp,ho,ev,strV,p6,hrun,p9,oy]
   ·split at h
    ·rename_i hsd hnc;have hb:Nat.beq src dst=true:=hsd;simp only [va,hb] at hf;cases hf
    ·cases h
   ·cases h
  ·cases h
 ·cases h
theorem xh8[Dr](hTT:TTok P TT)(hf:va o.op=true)(h:mev TT ts ks o.op K)(hM:∀ b,M b->b<w.heap.size)(hT:∀ x,Den w M β (val ts x) (a.eval x)):jh4 P w M β ks a o K:=by
 cases ho:o.op with
 |alloc t =>
  rw [ho] at h;simp only [mev] at h;split at h
  ·cases h
  ·rename_i size bytes agg zero desc eqk ht;rw [xr,zx,ox] at h;obtain⟨info,d,z,hi,hu,hsz,_,hz,hag,hzl,hzs,hzd,hz1,_⟩:=qi hTT ht;refine⟨.cells z.cells t,locB w.heap.size,_,_,.pointer (some ⟨w.heap.size,0,none⟩),w,h,?_,Step.refl _ _,rfl,rfl,jj5 (Step.refl _ _) rfl t zero z.cells hzl.symm (fun j s u a b=>hzd _ _ _ j s u a b) hz1,fun _ _ β' hL=>.ptr _ 0 (locB w.heap.size) hL⟩;simp[execOp,ho,Instr.alloc,qp9 hi hz,newVar,newRow]
 |box t x =>
  rw [ho] at h;simp only [mev] at h;split at h
  ·cases h
  ·rename_i size bytes agg zero desc eqk ht;rw [qm] at h;obtain⟨h,hcells⟩:=ul (w:=w) (M:=M) (β:=β) h;obtain⟨c1,c2,c3⟩:=hcells _ (hT x);split at h
   ·rw [xr,zx,ox] at h;refine⟨.cells (a.eval x).cells t,locB w.heap.size,_,_,.pointer (some ⟨w.heap.size,0,none⟩),w,h,?_,Step.refl _ _,rfl,rfl,jj5 (Step.refl _ _) rfl t (cellsOf (val ts x)) (a.eval x).cells c1 c2 (fun j u hu=>c3 u (s6 hu)),fun _ _ β' hL=>.ptr _ 0 (locB w.heap.size) hL⟩;simp[execOp,ho,Instr.box,newVar,newRow]
   ·cases h
 |buildSlice t l ps=>rw [ho] at h;exact zc4 hTT ho h hM hT
 |makeSlice t x y=>rw [ho] at h;exact zc9 hTT ho h hM hT
 |convert s d x=>rw [ho] at h hf;exact zf4 hTT ho hf h hM hT
 |_=>rw [ho] at hf;simp [va] at hf
end
def qa5:KB->Bool
 | .arena _ _ _=>true
 |_=>false
theorem jw8[Dr]{ks k1:List KB}{k:KB}{s0:SV}(hk:qa5 k=false)(h:ky ks k (fun s k=>(s,k)=(s0,k1))):∃ k,k1=ks++[k]/\qa5 k=false:=by
 rw [uo] at h;exact⟨_,((lw h).2).symm,hk⟩
theorem zv3[Dr]{z:List SV}{n:Nat}{c:List SV->Prop}(h:repK z n c):∃ l,c l:=by rw [qt8] at h;exact ⟨_,h⟩
theorem zq8[Dr]{ts:List SV}{size:Nat}:∀ {parts:List (Nat × Operand)} {cs:List SV} {c:List SV->Prop},fillS ts size cs parts c->∃ l,c l:=by
 intro parts;induction parts with
 |nil=>intro cs c h;exact⟨_,h⟩
 |cons p parts ih =>
  intro cs c h;obtain⟨i,x⟩:=p;simp only [fillS,qm] at h;unfold km at h
  repeat'(first|exact h.elim|(rw [qj1] at h;exact ih h)|split at h)
theorem zz8[Dr]{ks:List KB}{l:List SV}{c:List DV->List Nat->Prop}(h:dvsK ks l c):∃ d f,c d f:=by
 obtain⟨⟨d,f⟩,_,hk⟩:=(Ex.dvs (ks:=ks) (l:=l) (α:=List DV × List Nat) (G:=fun d f K=>K (d,f)) (fun d f=>Ex.self (d,f))) (fun p=>c p.1 p.2) h;exact⟨d,f,hk⟩
theorem yd9[Dr]{TT:Nat->Option TI}{o:Oper}{ts:List SV}{ks k1:List KB}{s0:SV}(hf:va o.op=true)(h:mev TT ts ks o.op (fun s k=>(s,k)=(s0,k1))):∃ k,k1=ks++[k]/\qa5 k=false:=by
 cases ho:o.op <;> rw [ho] at h hf <;> simp only [va,d6] at hf
 ·simp only [mev] at h;split at h
  ·cases h
  ·rw [xr,zx] at h;exact⟨_,((lw h).2).symm,rfl⟩
 ·simp only [mev] at h;split at h
  ·cases h
  ·rw [qm] at h;obtain⟨h,_⟩:=ul (w:=default) (M:=fun _=>False) (β:=noE) h;split at h
   ·rw [xr,zx] at h;exact⟨_,((lw h).2).symm,rfl⟩
   ·cases h
 ·simp only [mev] at h
  repeat'(first|exact h.elim|split at h)
  obtain⟨_,h⟩:=zv3 h;obtain⟨_,h⟩:=zq8 h;rw [xr,zx] at h;exact⟨_,((lw h).2).symm,rfl⟩
 ·simp only [mev,qm] at h
  repeat'(first|exact h.elim|split at h)
  ·exact jw8 rfl h
  all_goals simp_all
 ·simp only [mev,qm] at h
  repeat'(first|exact h.elim|split at h)
  obtain⟨_,_,h⟩:=zz8 h;exact jw8 rfl h.2
theorem yb5{ts ts':List SV}{l:List Operand}(h:∀ x ∈ l,val ts x=val ts' x):vals ts l=vals ts' l:=by
 induction l with
 |nil=>rfl
 |cons x l ih=>simp[vals,h x (by simp),ih (fun y hy=>h y (by simp[hy]))]
theorem zl3[Dr]{TT:Nat->Option TI}{ts ts':List SV}{fs:List (Nat × TypeId)}:∀ {parts:List (Nat × Operand)} {cs:List SV} {c:List SV->Prop},(∀ p ∈ parts,val ts p.2=val ts' p.2)->wx TT ts fs cs parts c=wx TT ts' fs cs parts c:=by
 intro parts;induction parts with
 |nil=>intro cs c h;rfl
 |cons p parts ih =>
  intro cs c h;obtain⟨i,x⟩:=p;have hx:val ts x=val ts' x:=h (i,x) (by simp);have ih':∀ cs c,wx TT ts fs cs parts c=wx TT ts' fs cs parts c:=fun cs c=>ih (fun q hq=>h q (by simp[hq]))
  simp only[wx,qm,hx,ih']
theorem zl2[Dr]{ts ts':List SV}{size:Nat}:∀ {parts:List (Nat × Operand)} {cs:List SV} {c:List SV->Prop},(∀ p ∈ parts,val ts p.2=val ts' p.2)->fillS ts size cs parts c=fillS ts' size cs parts c:=by
 intro parts;induction parts with
 |nil=>intro cs c h;rfl
 |cons p parts ih =>
  intro cs c h;obtain⟨i,x⟩:=p;have hx:val ts x=val ts' x:=h (i,x) (by simp);have ih':∀ cs c,fillS ts size cs parts c=fillS ts' size cs parts c:=fun cs c=>ih (fun q hq=>h q (by simp[hq]))
  simp only[fillS,qm,hx,ih']
theorem ji7[Dr]{ts ts':List SV}{o:Option Operand}{d:Int}{c:Int->Prop}(h:∀ y,o=some y->val ts y=val ts' y):j9 ts o d c=j9 ts' o d c:=by
 cases o with
 |none=>rfl
 |some y=>simp only[j9,qm,h y rfl]
theorem zw5[Dr]{P:Program}{TT:Nat->Option TI}{ts ts':List SV}{ks:List KB}{op:Op}{K:SV->Prop}(h:∀ x ∈ op.operands,val ts x=val ts' x):pev P TT ts ks op K=pev P TT ts' ks op K:=by
 cases op with
 |call c =>
  obtain⟨callee,args,argTypes⟩:=c;cases callee with
  |builtin b =>
   have ha:∀ x ∈ args.toList,val ts x=val ts' x:=fun x hx=>h x (by simp[Op.operands,Call.operands];first|exact .inr (by simpa using hx)|simpa using hx)
   simp only[pev];generalize args.toList=l at ha;cases b <;> simp only[qm]
   all_goals (match l,ha with
    |[],_=>rfl
    |[x],ha=>simp only[ha x (by simp)]
    |[x,y],ha=>simp only[ha x (by simp),ha y (by simp)]
    |[x,y,z],ha=>simp only[ha x (by simp),ha y (by simp),ha z (by simp)]
    |_ :: _ :: _ :: _ :: _,_=>rfl)
  |_=>rfl
 |build t parts =>
  have:∀ p ∈ parts.toList,val ts p.2=val ts' p.2:=fun p hp=>h p.2 (by simp[Op.operands];exact⟨p.1,by simpa using hp⟩)
  simp only[pev,zl3 this]
 |makeFunc fn first caps =>
  have:vals ts caps.toList=vals ts' caps.toList:=yb5 fun x hx=>h x (by simp[Op.operands];exact .inr (by simpa using hx))
  simp only[pev,qa0,this]
 |slice t x lo hi mx =>
  have hx:val ts x=val ts' x:=h x (by simp[Op.operands]);have hlo:∀ (d:Int) (c:Int->Prop),j9 ts lo d c=j9 ts' lo d c:=fun d c=>ji7 fun y hy=>h y (by simp[Op.operands,hy])
  have hhi:∀ (d:Int) (c:Int->Prop),j9 ts hi d c=j9 ts' hi d c:=fun d c=>ji7 fun y hy=>h y (by simp[Op.operands,hy])
  have hmx:∀ (d:Int) (c:Int->Prop),j9 ts mx d c=j9 ts' mx d c:=fun d c=>ji7 fun y hy=>h y (by simp[Op.operands,hy])
  simp only[pev,qm,hx,hlo,hhi,hmx]
 |_ =>
  simp [Op.operands] at h;simp only[pev,qm,h]
theorem zx7[Dr]{TT:Nat->Option TI}{ts ts':List SV}{ks:List KB}{op:Op}{K:SV->List KB->Prop}(hf:va op=true)(h:∀ x ∈ op.operands,val ts x=val ts' x):mev TT ts ks op K=mev TT ts' ks op K:=by
 cases op with
 |box t x =>
  simp [Op.operands] at h;simp only[mev,qm,h]
 |makeSlice t x y =>
  simp [Op.operands] at h;simp only[mev,qm,h]
 |convert s d x =>
  simp [Op.operands] at h;simp only[mev,qm,h]
 |buildSlice t l parts =>
  have:∀ p ∈ parts.toList,val ts p.2=val ts' p.2:=fun p hp=>h p.2 (by simp[Op.operands];exact⟨p.1,by simpa using hp⟩)
  simp only[mev,zl2 this]
 |alloc t=>rfl
 |_=>simp [va] at hf
theorem xa4[Dr]{P:Program}{TT:Nat->Option TI}{ts ts':List SV}{ks:List KB}{g:Operand}{args:Array Operand}{tys:Array TypeId}{K:Bool->SV->List KB->Prop}(h:∀ x ∈ (Op.call ⟨.value g,args,tys⟩).operands,val ts x=val ts' x):cev P TT ts ks g args.toList tys.toList K=cev P TT ts' ks g args.toList tys.toList K:=by
 have hg:val ts g=val ts' g:=h g (by simp[Op.operands,Call.operands]);have ha:vals ts args.toList=vals ts' args.toList:=yb5 fun x hx=>h x (by simp[Op.operands,Call.operands];exact .inr (by simpa using hx))
 simp only[cev,qm,qa0,hg,ha]
end
section
def mask(l:List Nat)(ts:List SV):List SV:=(List.range ts.length).map fun t=>if memN t l=true then getT ts t else .any
theorem jo1[Dr](l:List Nat)(ts:List SV)(t:Nat):getT (mask l ts) t=if memN t l=true then getT ts t else .any:=by
 rw[wn,mask,o4];by_cases h:t<ts.length
 ·rw[co h];rfl
 ·rw[gp (by simp;omega)];split
  ·rw[wn,gp (by omega)];rfl
  ·rfl
theorem qy5{t:Nat}{l:List Operand}(h : .tmp t ∈ l):t ∈ xk l:=by
 induction l with
 |nil=>cases h
 |cons a l ih =>
  rcases pv.1 h with e|h'
  ·subst e;simp[xk]
  ·cases a <;> simp[xk,ih h']
theorem xg2[Dr]{all:List Oper}{o:Oper}{t:Nat}(h : .tmp t ∈ o.op.operands):memN t (kq all o)=true:=by
 refine jo0 ?_;have:t ∈ xk o.op.operands.toList:=qy5 (by simpa using h);unfold kq;split
 ·exact this
 ·split
  ·exact pv.2 (.inr this)
  ·exact this
theorem jb4[Dr]{all:List Oper}{o:Oper}{ts:List SV}:∀ x ∈ o.op.operands,val ts x=val (mask (kq all o) ts) x:=fun x hx=>by
 cases x with
 |tmp t=>simp only[val,jo1,xg2 (all:=all) hx,if_true]
 |_=>rfl
theorem mask_guard[Dr]{all:List Oper}{o:Oper}{ts:List SV}:yj all (mask (kq all o) ts) o=yj all ts o:=by
 unfold yj;cases hg:o.guard with
 |none=>rfl
 |some p =>
  obtain⟨j,want⟩:=p;simp only;cases hd:qg6 all j with
  |none=>rfl
  |some t =>
   have:memN t (kq all o)=true:=jo0 (by simp[kq,hg,hd]);simp only[jo1,this,if_true]
def RefV(s s':SV):Prop:=s'=s\/∃ b,s = .d (.bool b)/\s' = .d (if b then .tt else .ff)
theorem RefV.trans{a b c:SV}(h:RefV a b)(k:RefV b c):RefV a c:=by
 rcases h with rfl|⟨x,rfl,rfl⟩
 ·exact k
 ·rcases k with rfl|⟨y,e,rfl⟩
  ·exact .inr ⟨x,rfl,rfl⟩
  ·cases x <;> simp at e
theorem RefV.den{s s':SV}(h:RefV s s'){w:World}{M:Nat->Prop}{β:Env}{v:Value}(hd:Den w M β s v):Den w M β s' v:=by
 rcases h with rfl|⟨b,rfl,rfl⟩
 ·exact hd
 ·cases hd with|d hr=>cases hr;cases b <;> first|exact .d .tt|exact .d .ff
def Ref(l l':List SV):Prop:=l.length=l'.length/\∀ (t:Nat) (s':SV),l'[t]? = some s'->∃ s,l[t]? = some s/\RefV s s'
theorem Ref.refl(l:List SV):Ref l l:=⟨rfl,fun _ s h=>⟨s,h,.inl rfl⟩⟩
theorem Ref.trans[Dr]{a b c:List SV}(h:Ref a b)(k:Ref b c):Ref a c:=⟨h.1.trans k.1,fun t s hs=>by
 obtain⟨s1,e1,r1⟩:=k.2 t s hs;obtain⟨s0,e0,r0⟩:=h.2 t s1 e1;exact⟨s0,e0,r0.trans r1⟩⟩
theorem jy8[Dr](d:Option Tmp)(s:SV)(l:List SV):(putT d s l).length=l.length:=by
 cases d <;> simp[putT,zo]
theorem qs1[Dr](d:Option Tmp)(s:SV)(l:List SV)(t:Nat):(putT d s l)[t]? = if d=some t/\t<l.length then some s else l[t]?:=by
 cases d with
 |none=>simp[putT]
 |some u =>
  simp only[putT,zo,oq];by_cases e:u=t
  ·subst e;by_cases h:u<l.length
   ·simp[h]
   ·simp[h]
  ·rw[if_neg e,if_neg (fun h=>e (p7 h.1))]
theorem Ref.put[Dr]{l l':List SV}(h:Ref l l')(d:Option Tmp)(s:SV):Ref (putT d s l) (putT d s l'):=by
 refine⟨by simp[jy8,h.1],fun t s' hs=>?_⟩;rw [qs1] at hs ⊢;rw[h.1];split
 ·rename_i hc;rw [if_pos hc] at hs;exact ⟨s,rfl,.inl (p7 hs).symm⟩
 ·rename_i hc;rw [if_neg hc] at hs;exact h.2 t s' hs
theorem Ref.refine_[Dr]{l:List SV}{t:Nat}{b:Bool}(h:getT l t = .d (.bool b)):Ref l (setT l t (.d (if b then .tt else .ff))):=by
 refine⟨by simp[zo],fun u s' hs=>?_⟩;rw [zo,oq] at hs;split at hs
 ·rename_i e;subst e;split at hs
  ·rename_i hl;refine⟨.d (.bool b),?_,.inr ⟨b,rfl,(p7 hs).symm⟩⟩;rw [wn,pp hl] at h;rw[pp hl];exact congrArg some h
  ·cases hs
 ·exact⟨s',hs,.inl rfl⟩
section
variable{P:Program}{TT:Nat->Option TI}{all:List Oper}
theorem Tr.cons_inv[Dr]{o:Oper}{os' os:List Oper}{ts ts':List SV}{ks ks':List KB}{hs:List Bool}(h:Tr P TT all os' ts ks ts' ks' hs)(e:os'=o :: os) :
 ∃ tr hd hs' s k1,hs=hd :: hs'/\Ref ts tr/\Stp P TT all tr ks o hd s k1/\Tr P TT all os (putT o.dst s tr) k1 ts' ks' hs':=by
 induction h with
 |nil=>cases e
 |step hst htr _=>cases e;exact⟨_,_,_,_,_,rfl,Ref.refl _,hst,htr⟩
 |refine_ t b hb _ ih =>
  obtain⟨tr,hd,hs',s,k1,e1,hr,hst,htr⟩:=ih e;exact⟨tr,hd,hs',s,k1,e1,(Ref.refine_ hb).trans hr,hst,htr⟩
theorem Tr.places[Dr]:∀ {os:List Oper} {ts ts':List SV} {ks ks':List KB} {hs:List Bool},Tr P TT all os ts ks ts' ks' hs ->
 ∃ (S:Nat->SV) (T:Nat->List SV) (κ:Nat->List KB),T 0=ts/\κ 0=ks/\T os.length=ts'/\κ os.length=ks'/\hs.length=os.length /\
  ∀ (p:Nat) (o:Oper) (h:Bool),os[p]? = some o->hs[p]? = some h->∃ tr,Ref (T p) tr/\Stp P TT all tr (κ p) o h (S p) (κ (p+1))/\T (p+1)=putT o.dst (S p) tr:=by
 intro os;induction os with
 |nil =>
  intro ts ts' ks ks' hs h;cases h;exact⟨fun _=>.any,fun _=>ts,fun _=>ks,rfl,rfl,rfl,rfl,rfl,by simp⟩
 |cons o os ih =>
  intro ts ts' ks ks' hs h;obtain⟨tr,hd,hs',s,k1,rfl,hr,hst,htr⟩:=h.cons_inv rfl;obtain⟨S,T,κ,e1,e2,e3,e4,e5,hp⟩:=ih htr;refine⟨fun p=>match p with|0=>s|p+1=>S p,fun p=>match p with|0=>ts|p+1=>T p,fun p=>match p with|0=>ks|p+1=>κ p,rfl,rfl,e3,e4,by simp[e5],?_⟩;intro p o' h' ho hh;cases p with
  |zero =>
   simp only [bu,my] at ho hh;subst ho;subst hh;refine⟨tr,hr,?_,e1⟩;show Stp P TT all tr ks o hd s (κ 0);rw[e2];exact hst
  |succ p=>exact hp p o' h' (by simpa using ho) (by simpa using hh)
end
def sg(D:Nat->Option Tmp)(S:Nat->SV)(E:Nat->Bool)(ts:List SV)(m:Nat):Nat->List SV
 |0=>ts
 |k+1=>if E (m+k)=true then putT (D (m+k)) (S (m+k)) (sg D S E ts m k) else sg D S E ts m k
section
variable{D:Nat->Option Tmp}{S:Nat->SV}{E:Nat->Bool}{ts:List SV}{m:Nat}
theorem ql1[Dr](k:Nat):(sg D S E ts m k).length=ts.length:=by
 induction k with
 |zero=>rfl
 |succ k ih=>unfold sg;split <;> simp[jy8,ih]
theorem qe9[Dr](k t:Nat)(h:∀ i,m<=i->i<m+k->E i=true->D i≠some t):(sg D S E ts m k)[t]? = ts[t]?:=by
 induction k with
 |zero=>rfl
 |succ k ih =>
  have ih:=ih (fun i a b=>h i a (by omega));unfold sg;split
  ·rename_i he;rw[qs1,if_neg (fun hc=>h (m+k) (by omega) (by omega) he hc.1),ih]
  ·exact ih
theorem qw0[Dr](k t i:Nat)(h1:m<=i)(h2:i<m+k)(he:E i=true)(hd:D i=some t)(ht:t<ts.length)(hu:∀ i',m<=i'->i'<m+k->D i'=some t->i'=i):(sg D S E ts m k)[t]? = some (S i):=by
 induction k with
 |zero=>omega
 |succ k ih =>
  unfold sg;by_cases hk:i=m+k
  ·subst hk;rw[if_pos he,qs1,if_pos ⟨hd,by rw[ql1];exact ht⟩]
  ·have ih:=ih (by omega) (fun i' a b=>hu i' a (by omega));split
   ·rw[qs1,if_neg (fun hc=>hk (hu (m+k) (by omega) (by omega) hc.1).symm),ih]
   ·exact ih
theorem xr4[Dr]{E':Nat->Bool}(k j:Nat)(h1:m<=j)(h2:j<m+k)(he:E j=false)(hE:∀ i,E' i=(E i || decide (i=j)))(hu:∀ i i' t,m<=i->i<m+k->m<=i'->i'<m+k->D i=some t->D i'=some t->i=i') :
 sg D S E' ts m k=putT (D j) (S j) (sg D S E ts m k):=by
 refine cx fun t=>?_
 rw[qs1,ql1];split
 ·rename_i hc;exact qw0 k t j h1 h2 (by rw[hE];simp) hc.1 hc.2 (fun i' a b c=>hu _ _ t a b h1 h2 c hc.1)
 ·rename_i hc;by_cases hw:∃ i,m<=i/\i<m+k/\E i=true/\D i=some t
  ·obtain⟨i,a,b,c,d⟩:=hw;by_cases ht:t<ts.length
   ·rw[qw0 k t i a b (by rw[hE,c];rfl) d ht (fun i' a' b' c'=>hu _ _ t a' b' a b c' d),qw0 k t i a b c d ht (fun i' a' b' c'=>hu _ _ t a' b' a b c' d)]
   ·rw[gp (by rw[ql1];omega),gp (by rw[ql1];omega)]
  ·have hw:∀ i,m<=i->i<m+k->E i=true->D i≠some t:=fun i a b c d=>hw ⟨i,a,b,c,d⟩
   rw[qe9 k t hw];by_cases hj:D j=some t
   ·have ht:¬ t<ts.length:=fun h=>hc ⟨hj,h⟩
    rw[gp (by rw[ql1];omega),gp (by omega)]
   ·refine qe9 k t (fun i a b c=>?_);rw [hE] at c;by_cases hij:i=j
    ·rw[hij];exact hj
    ·exact hw i a b (by simpa[hij] using c)
end
inductive Wt (all:List Oper):Nat->Nat->Prop where
 |edge {j i:Nat} {o:Oper} {e:Edge}:all[j]? = some o->e ∈ o.after->Region.binds .any e=true->e.on=i->Wt all j i
 |trans {j k i:Nat}:Wt all j k->Wt all k i->Wt all j i
structure DrawOk(all:List Oper)(hs:List Bool):Prop where
 len:hs.length=all.length
 on:∀ (j:Nat) (o:Oper) (e:Edge),all[j]? = some o->e ∈ o.after->Region.binds .any e=true->e.on<j
 past:∀ (h j:Nat),hs[h]? = some true->h<j->j<all.length->Wt all j h
 first:∀ (h i:Nat),hs[h]? = some true->i<h->Wt all h i
 pair:∀ (i j:Nat) (x y:Oper),i<j->all[i]? = some x->all[j]? = some y->hs[j]? = some false->(∀ h,i<=h->h<j->hs[h]? = some false) ->
  qe1 x.dst y.dst=false/\(Wt all j i\/apart all x y=true)
theorem ye8{m mask i:Nat}(h:jf2 m mask=true)(hi:i<m):mask.testBit i=true:=by
 unfold jf2 at h;have h:=bq h;have h1:(2 ^ m - 1).testBit i=true:=by simp[hi]
 have h2:(mask &&& (2 ^ m - 1)).testBit i=true:=by
  show(Nat.land mask (2 ^ m - 1)).testBit i=true;rw[h];exact h1
 rw [Nat.testBit_and] at h2;simp only [p8] at h2;exact h2.1
theorem jm3{α:Sort 1}(n:Nat)(k:Nat->α):je9 n k=k n:=by cases n <;> rfl
def ju5(all:List Oper)(acc:List Nat)(i:Nat):Prop:=acc.length=i/\∀ (j b:Nat),j<i->(getN acc (i - 1 - j)).testBit b=true->Wt all j b
theorem xj6{all:List Oper}{acc:List Nat}{i:Nat}{o:Oper}(hb:ju5 all acc i)(ho:all[i]? = some o):∀ (es:List Edge),(∀ e ∈ es,e ∈ o.after)->onLt i es=true->∀ b,(qc4 acc i es).testBit b=true->Wt all i b:=by
 intro es;induction es with
 |nil=>intro _ _ b h;simp [qc4] at h
 |cons e es ih =>
  intro hes hon b h;unfold qc4 at h;unfold onLt at hon;cases hbd:Region.binds .any e with
  |false=>rw [hbd] at h hon;exact ih (fun x hx=>hes x (by simp [hx])) hon b h
  |true =>
   rw [hbd] at h hon;simp only at h hon;split at hon
   ·rename_i hlt;have hlt:e.on<i:=tq hlt;have hE:Wt all i e.on:=.edge ho (hes e (by simp)) hbd rfl;change ((Nat.shiftLeft 1 e.on ||| getN acc (i - 1 - e.on)) ||| qc4 acc i es).testBit b=true at h;rw [Nat.testBit_or,Nat.testBit_or] at h;simp only [cq] at h;rcases h with(h|h)|h
    ·have:(1 <<< e.on).testBit b=true:=h;rw [Nat.testBit_shiftLeft] at this;simp only [p8,lx] at this;have h2:b - e.on=0:=by
      have:=this.2;rw [Nat.testBit_one_eq_true_iff_self_eq_zero] at this;exact this
     have:b=e.on:=by omega
     rw[this];exact hE
    ·exact hE.trans (hb.2 e.on b hlt h)
    ·exact ih (fun x hx=>hes x (by simp[hx])) hon b h
   ·cases hon
theorem xm5{i:Nat}:∀ {es:List Edge},onLt i es=true->∀ e ∈ es,Region.binds .any e=true->e.on<i:=by
 intro es;induction es with
 |nil=>intro _ e he;cases he
 |cons x es ih =>
  intro hon e he hb;unfold onLt at hon;rcases pv.1 he with rfl|he
  ·rw [hb] at hon;simp only at hon;split at hon
   ·rename_i hlt;exact tq hlt
   ·cases hon
  ·split at hon
   ·split at hon
    ·exact ih hon e he hb
    ·cases hon
   ·exact ih hon e he hb
theorem zo9{all:List Oper}{mask:Nat}{y:Oper}:∀ {seg:List (Nat × Oper)},jd3 all mask y seg=true->∀ p ∈ seg,qe1 p.2.dst y.dst=false/\(mask.testBit p.1=true\/apart all p.2 y=true):=by
 intro seg;induction seg with
 |nil=>intro _ p hp;cases hp
 |cons q seg ih =>
  intro h p hp;unfold jd3 at h;split at h
  ·rename_i hq;rcases pv.1 hp with rfl|hp
   ·unfold yy4 at hq;split at hq
    ·cases hq
    ·rename_i hd;split at hq
     ·rename_i hb;exact⟨hd,.inl hb⟩
     ·exact⟨hd,.inr hq⟩
   ·exact ih h p hp
  ·cases h
theorem zz9[Dr]{all:List Oper}{hsAll:List Bool}:∀ (os:List Oper) (hs:List Bool) (acc:List Nat) (i m:Nat) (seg:List (Nat × Oper)),qf3 all os hs acc i m seg=true->all.drop i=os->hsAll.drop i=hs->i<=all.length->i<=hsAll.length->ju5 all acc i->m<=i ->
 (∀ h,m<=h->h<i->hsAll[h]? = some false)->(m=0\/hsAll[m - 1]? = some true)->(∀ (j:Nat) (o:Oper),m<=j->j<i->all[j]? = some o->(j,o) ∈ seg) ->
 hsAll.length=all.length/\(∀ (j:Nat),i<=j->∀ (o:Oper) (e:Edge),all[j]? = some o->e ∈ o.after->Region.binds .any e=true->e.on<j) /\
 (∀ (h j:Nat),hsAll[h]? = some true->h<j->i<=j->j<all.length->Wt all j h)/\(∀ (h k:Nat),i<=h->hsAll[h]? = some true->k<h->Wt all h k) /\
 (∀ (k j:Nat) (x y:Oper),k<j->i<=j->all[k]? = some x->all[j]? = some y->hsAll[j]? = some false->(∀ h,k<=h->h<j->hsAll[h]? = some false)->qe1 x.dst y.dst=false/\(Wt all j k\/apart all x y=true)):=by
 intro os;induction os with
 |nil =>
  intro hs acc i m seg h hos hhs hi hi' hb hm hseg0 hm0 hseg;cases hs with
  |cons=>simp [qf3] at h
  |nil =>
   have e1:all.length=i:=by have:=List.drop_eq_nil_iff.1 hos;omega
   have e2:hsAll.length=i:=by have:=List.drop_eq_nil_iff.1 hhs;omega
   refine⟨by omega,fun j hj o e ho=>?_,fun h j _ _ hj hl=>by omega,fun h k hh hk=>?_,fun k j x y _ hj _ hy=>?_⟩
   ·have:=(pq.1 ho).1;omega
   ·have:=(pq.1 hk).1;omega
   ·have:=(pq.1 hy).1;omega
 |cons o os ih =>
  intro hs acc i m seg h hos hhs hi hi' hb hm hseg0 hm0 hseg;cases hs with
  |nil=>simp [qf3] at h
  |cons hd hs =>
   have hil:i<all.length:=by
    rcases oo i all.length with h|h
    ·exact h
    ·rw [aq h] at hos;cases hos
   have hil':i<hsAll.length:=by
    rcases oo i hsAll.length with h|h
    ·exact h
    ·rw [aq h] at hhs;cases hhs
   rw [l6 hil] at hos;rw [l6 hil'] at hhs;obtain⟨ho,hos⟩:=m5 hos;obtain⟨hh,hhs⟩:=m5 hhs;have ho:all[i]? = some o:=by rw[pp hil,ho]
   have hh:hsAll[i]? = some hd:=by rw[pp hil',hh]
   unfold qf3 at h;rw [jm3] at h;split at h
   ·rename_i hon hcov;have hbits:=xj6 hb ho o.after.toList (fun e he=>by simpa using he) hon;have hb':ju5 all (qc4 acc i o.after.toList :: acc) (i+1):=by
     refine⟨by simp[hb.1],fun j b hj ht=>?_⟩;by_cases hji:j=i
     ·subst hji;simp [getN] at ht;exact hbits b ht
     ·have:i+1 - 1 - j=(i - 1 - j)+1:=by omega
      rw [this] at ht;exact hb.2 j b (by omega) ht
    have hold:∀ h,hsAll[h]? = some true->h<i->h<m:=fun h hh hi=>by
     rcases oo h m with h'|h'
     ·exact h'
     ·rw [hseg0 h h' hi] at hh;cases hh
    have base:∀ j,j<m->Wt all i j:=fun j hj=>hbits j (ye8 hcov hj)
    have key:∀ (hd':Bool) (m':Nat) (seg':List (Nat × Oper)),qf3 all os hs (qc4 acc i o.after.toList :: acc) (i+1) m' seg'=true->m'<=i+1->(∀ h,m'<=h->h<i+1->hsAll[h]? = some false)->(m'=0\/hsAll[m' - 1]? = some true) ->
     (∀ (j:Nat) (o:Oper),m'<=j->j<i+1->all[j]? = some o->(j,o) ∈ seg')->(hd=true->∀ k,k<i->Wt all i k) ->
     (hd=false->∀ (k:Nat) (x:Oper),m<=k->k<i->all[k]? = some x->qe1 x.dst o.dst=false/\(Wt all i k\/apart all x o=true)) ->
     hsAll.length=all.length/\(∀ (j:Nat),i<=j->∀ (o:Oper) (e:Edge),all[j]? = some o->e ∈ o.after->Region.binds .any e=true->e.on<j) /\
     (∀ (h j:Nat),hsAll[h]? = some true->h<j->i<=j->j<all.length->Wt all j h)/\(∀ (h k:Nat),i<=h->hsAll[h]? = some true->k<h->Wt all h k) /\
     (∀ (k j:Nat) (x y:Oper),k<j->i<=j->all[k]? = some x->all[j]? = some y->hsAll[j]? = some false->(∀ h,k<=h->h<j->hsAll[h]? = some false)->qe1 x.dst y.dst=false/\(Wt all j k\/apart all x y=true)):=by
     intro _ m' seg' hgo hm' hs0 hm0' hsg hfirst hpair;obtain⟨r1,r2,r3,r4,r5⟩:=ih hs _ (i+1) m' seg' hgo hos hhs hil hil' hb' hm' hs0 hm0' hsg;refine⟨r1,fun j hj o' e ho' he hbd=>?_,fun h0 j hh' hlt hij hjl=>?_,fun h0 k hih hh' hk=>?_,fun k j x y hkj hij hx hy hj hno=>?_⟩
     ·by_cases e1:j=i
      ·subst e1;rw [ho] at ho';obtain rfl:=p7 ho';exact xm5 hon e (by simpa using he) hbd
      ·exact r2 j (by omega) o' e ho' he hbd
     ·by_cases e1:j=i
      ·subst e1;exact base h0 (hold h0 hh' hlt)
      ·exact r3 h0 j hh' hlt (by omega) hjl
     ·by_cases e1:h0=i
      ·subst e1;rw [hh] at hh';exact hfirst (p7 hh') k hk
      ·exact r4 h0 k (by omega) hh' hk
     ·by_cases e1:j=i
      ·subst e1;rw [ho] at hy;obtain rfl:=p7 hy;rw [hh] at hj;refine hpair (p7 hj) k x ?_ hkj hx;rcases oo k m with h'|h'
       ·exfalso;rcases hm0 with e|e
        ·omega
        ·rw [hno (m - 1) (by omega) (by omega)] at e;cases e
       ·exact h'
      ·exact r5 k j x y hkj (by omega) hx hy hj hno
    cases hd with
    |true =>
     simp only at h;split at h
     ·rename_i hci;rw [jm3] at h;exact key true (i+1) [] h (pr _) (fun h a b=>by omega) (.inr hh) (fun j o a b=>by omega) (fun _ k hk=>hbits k (ye8 hci hk)) (fun e=>(by cases e))
     ·cases h
    |false =>
     simp only at h;split at h
     ·rename_i hpo;rw [jm3] at h;refine key false m _ h (by omega) (fun h a b=>?_) hm0 (fun j o' a b ho'=>?_) (fun e=>(by cases e)) (fun _ k x hk hki hx=>?_)
      ·by_cases e1:h=i
       ·subst e1;exact hh
       ·exact hseg0 h a (by omega)
      ·by_cases e1:j=i
       ·subst e1;rw [ho] at ho';obtain rfl:=p7 ho';exact pv.2 (.inl rfl)
       ·exact pv.2 (.inr (hseg j o' a (by omega) ho'))
      ·obtain⟨h1,h2⟩:=zo9 hpo (k,x) (hseg k x hk hki hx);exact⟨h1,h2.imp (hbits k) id⟩
     ·cases h
   ·cases h
theorem jm5[Dr]{all:List Oper}{hs:List Bool}(h:kh all hs=true):DrawOk all hs:=by
 obtain⟨r1,r2,r3,r4,r5⟩:=zz9 (all:=all) (hsAll:=hs) all hs [] 0 0 [] h rfl rfl (pz _) (pz _) ⟨rfl,fun j b hj=>by omega⟩ (pr _) (fun h a b=>by omega) (.inl rfl) (fun j o a b=>by omega);exact⟨r1,fun j o e=>r2 j (pz _) o e,fun h j a b c=>r3 h j a b (pz _) c,fun h i a b=>r4 h i (pz _) a b,fun i j x y a b c d e=>r5 i j x y a (pz _) b c d e⟩
theorem Sat.ref[Dr]{B:Bs}{w:World}{β:Env}{fp:Nat->Nat->Prop}{ts ts':List SV}{ks:List KB}{a:Act}(h:Sat B w β fp ts ks a)(hr:Ref ts ts'):Sat B w β fp ts' ks a :=
 ⟨h.went,h.df,h.len.trans hr.1,fun t s v hs hv=>by
  obtain⟨s0,e,r⟩:=hr.2 t s hs;exact r.den (h.tm t s0 v e hv)⟩
theorem Sat.moreTo[Dr]{B:Bs}{w:World}{β:Env}{fp:Nat->Nat->Prop}{ts:List SV}{ks:List KB}{a:Act}(h:Sat B w β fp ts ks a)(l:List KB)(hl:∀ k ∈ l,qa5 k=false):Sat B w β fp ts (ks++l) a:=by
 have hm:=h.went.mem;refine ⟨⟨⟨⟨hm.xa,hm.xb,hm.dis,hm.kw,hm.kn,fun i L k hk hne hL=>?_⟩,fun i hi=>hm.kl i (by simp at hi;omega),fun i t dom cols hi=>?_,hm.vo⟩,h.went.st,h.went.ext,h.went.own⟩,h.df,h.len,h.tm⟩
 ·by_cases hi:i<ks.length
  ·rw [ot hi] at hk;exact hm.kb i L k hk hne hL
  ·rw [hm.kl i (by omega)] at hL;cases hL
 ·by_cases hi':i<ks.length
  ·rw [ot hi'] at hi;exact hm.ka i t dom cols hi
  ·rw [o5 (by omega)] at hi;have:=hl _ (ov hi);simp [qa5] at this
theorem Mem.fill[Dr]{X:Nat->Prop}{w w1:World}{β:Env}{fp:Nat->Nat->Prop}{ks:List KB}(h:Mem X w β fp ks)(h1:Step (fun _=>False) w w1)(hsz:w1.heap.size=w.heap.size){i:Nat}{k:KB}(hn:β i=none)(hki:ks[i]? = some k)(o:Obj)(L:Loc)(hL:L.b=w.heap.size)
 (hk:∀ (M':Nat->Prop) (β':Env),(∀ b,b<w.heap.size->M' b->Mx X fp b)->Ext β β'->KBat (w1.alloc o) M' β' L (· = w.heap.size) k):Went X w β fp (w1.alloc o) (upd β i (some L)) (updP fp i (· = w.heap.size)) ks:=by
 have hil:i<ks.length:=(pq.1 hki).1;have hfi:∀ b,¬ fp i b:=fun b hb=>by obtain ⟨L',hL'⟩:=h.kn i b hb;rw [hn] at hL';cases hL'
 have hst:Step (fun b=>∃ i,fp i b) w (w1.alloc o):=(h1.mono (fun _ _ e=>e.elim)).trans (Step.alloc _ w1 o);refine h.go hst (vb L hn) (fun j b hb=>?_) (fun p q b hp hq=>?_) (fun j b hb=>?_) (fun j hj=>?_) (fun j t dom cols hj=>?_) (fun j b hb=>?_) (fun j L' k' hk' hne hL'=>?_)
 ·by_cases e:j=i
  ·subst e;rw [yp] at hb;exact .inr (by omega)
  ·rw [ju _ _ e] at hb;exact .inl ⟨j,hb⟩
 ·by_cases e1:p=i <;> by_cases e2:q=i
  ·omega
  ·subst e1;rw [yp] at hp;rw [ju _ _ e2] at hq;have:=h.kw q b hq;omega
  ·subst e2;rw [yp] at hq;rw [ju _ _ e1] at hp;have:=h.kw p b hp;omega
  ·rw [ju _ _ e1] at hp;rw [ju _ _ e2] at hq;exact h.dis p q b hp hq
 ·by_cases e:j=i
  ·subst e;rw [yp] at hb;subst hb;simp [hsz]
  ·rw [ju _ _ e] at hb;have:=h.kw j b hb;simp [hsz];omega
 ·rw[jk _ _ (show j≠i by omega)];exact h.kl j hj
 ·obtain⟨L',hL'⟩:=h.ka j t dom cols hj;exact⟨L',vb L hn j L' hL'⟩
 ·by_cases e:j=i
  ·subst e;exact⟨L,q8 _ _ _⟩
  ·rw [ju _ _ e] at hb;rw [jk _ _ e];exact h.kn j b hb
 ·by_cases e:j=i
  ·subst e;rw [q8] at hL';cases hL';rw [hki] at hk';cases hk';rw[yp];exact .inr (hk _ _ (fun b hb hm=>hm.imp id (fun⟨q,hq⟩=>by
    by_cases e:q=j
    ·subst e;rw [yp] at hq;omega
    ·rw [ju _ _ e] at hq;exact ⟨q,hq⟩)) (vb L hn))
  ·rw [jk _ _ e] at hL';exact .inl ⟨hk',hL',ju _ _ e,fun b hb=>(Below.heap_alloc w1 o b (by rw[hsz];exact h.kw j b hb)).trans (h1.block b (h.kw j b hb) (fun e=>e))⟩
theorem xa3[Dr]{P:Program}{TT:Nat->Option TI}{ts:List SV}{ks k1:List KB}{g:Operand}{args:List Operand}{tys:List TypeId}{s:SV}(h:cev P TT ts ks g args tys (fun h' x k=>(h',x,k)=(false,s,k1))):k1=ks:=by
 unfold cev at h;rw [qm] at h;split at h
 ·rw [qa0,qe7] at h;cases h with
  |data r h1 h2 h3 h4=>exact((lw (lw h4).2).2).symm
  |view r as' fr h1 h2 h3 h4 h5=>exact((lw (lw h5).2).2).symm
  |fresh r as' fr h1 h2 h3 h4 h5=>exact((lw (lw h5).2).2).symm
  |frz r as' fr h1 h2 h3 h4 h5=>cases (lw h5).1
  |mem r ks' h1 h2=>cases (lw h2).1
 ·cases h
theorem yg2[Dr]{P:Program}{TT:Nat->Option TI}{B:Bs}{w:World}{β:Env}{fp:Nat->Nat->Prop}{ts:List SV}{ks:List KB}{a:Act}{rd:Option Nat}{n:Nat}{Q:Exit->Act->World->Prop}(hTT:TTok P TT){all:List Oper}{o:Oper}{i:Nat}{h:Bool}{s:SV}{k1:List KB}(hst:Stp P TT all ts ks o h s k1)(hi:all.toArray[i]? = some o){next:Act->World->Prop}(hS:Sat B w β fp ts ks a)
 (hn:∀ v w' β' fp',Sat B w' β' fp' (putT o.dst s ts) k1 (a.put o.dst v)->next (a.put o.dst v) w'):wpOpIn (ql rd) n P all.toArray Q i next a w:=by
 unfold wpOpIn;cases hst with
 |ev hg hev =>
  have hw:=qh7 (all:=all) hS.slot hg;simp only[hi,hw,if_true];exact zz3 hTT hev hS.went.mem hS.val (fun v w' β' fp' hW hd=>hn v w' β' fp' ((hS.on hW).put _ hd))
 |skip hg =>
  have hw:=qh7 (all:=all) hS.slot hg;simp only[hi,hw,d6,if_false];exact⟨fun _ _=>trivial,hn _ w β fp (hS.put _ (.v _))⟩
section
variable{P:Program}{TT:Nat->Option TI}{B:Bs}{rd:Option Nat}{n:Nat}{Q:Exit->Act->World->Prop}
 {all:List Oper} {hs:List Bool} {S:Nat->SV} {T:Nat->List SV} {κ:Nat->List KB}
def Way[Dr](P:Program)(TT:Nat->Option TI)(all:List Oper)(hs:List Bool)(S:Nat->SV)(T:Nat->List SV)(κ:Nat->List KB):Prop :=
 ∀ (p:Nat) (o:Oper) (h:Bool),all[p]? = some o->hs[p]? = some h->∃ tr,Ref (T p) tr/\Stp P TT all tr (κ p) o h (S p) (κ (p+1))/\T (p+1)=putT o.dst (S p) tr
def dst(all:List Oper)(i:Nat):Option Tmp:=(all[i]?).bind (·.dst)
structure Inv[Dr](B:Bs)(all:List Oper)(hs:List Bool)(S:Nat->SV)(T:Nat->List SV)(κ:Nat->List KB)(m h:Nat)(listed:Array Bool)(a:Act)(w:World):Prop where
 sz:listed.size=all.length
 low:∀ i,i<m->listed.getD i false=true
 mh:m<=h
 hN:h<=all.length
 soft:∀ i,m<=i->i<h->hs[i]? = some false
 stop:h=all.length\/hs[h]? = some true
 high:∀ i,h<=i->listed.getD i false=false
 cl:∀ (j:Nat) (o:Oper) (e:Edge),all[j]? = some o->listed.getD j false=true->e ∈ o.after->Region.binds .any e=true->listed.getD e.on false=true
 st:∃ β fp,Sat B w β fp (sg (dst all) S (fun i=>listed.getD i false) (T m) m (h - m)) (κ h) a/\∀ j,m<=j->j<h->listed.getD j false=false->∀ p,(κ j).length<=p->p<(κ (j+1)).length->β p=none
theorem Stp.adds[Dr]{ts:List SV}{ks k1:List KB}{o:Oper}{s:SV}(h:Stp P TT all ts ks o false s k1):∃ l,k1=ks++l/\l.length<=1/\∀ k ∈ l,qa5 k=false:=by
 generalize hnot:(fun k:KB=>qa5 k=false)=NA;show ∃ l,k1=ks++l/\l.length<=1/\∀ k ∈ l,(fun k:KB=>qa5 k=false) k;rw[hnot];generalize hb:false=b at h;cases h with
 |skip=>exact⟨[],by simp⟩
 |ev hg hev =>
  cases hev with
  |pure=>exact⟨[],by simp⟩
  |app=>exact⟨[],by simp⟩
  |mem _ _ hc hm hev =>
   have hf:va o.op=true:=by
    unfold qa9 at hb;split at hb
    ·assumption
    ·cases hb
   obtain⟨k,rfl,hk⟩:=yd9 hf hev;exact ⟨[k],rfl,by simp,fun k' hk'=>by rw [<-hnot];simp at hk';subst hk';exact hk⟩
  |call g args tys _ _ _ ho hev =>
   subst hb;exact⟨[],by rw[xa3 hev];simp,by simp,by simp⟩
theorem qi0[Dr](hw:Way P TT all hs S T κ)(hl:hs.length=all.length){m h:Nat}(hN:h<=all.length)(soft:∀ i,m<=i->i<h->hs[i]? = some false):∀ k j,m<=j->j+k<=h->∃ l,κ (j+k)=κ j++l/\∀ k ∈ l,qa5 k=false:=by
 intro k;induction k with
 |zero=>intro j _ _;exact⟨[],by simp,by simp⟩
 |succ k ih =>
  intro j hj hk;obtain⟨l,hl',hna⟩:=ih j hj (by omega);have hlt:j+k<all.length:=by omega
  obtain⟨tr,_,hst,_⟩:=hw (j+k) _ false (pp hlt) (soft (j+k) (by omega) (by omega));obtain⟨l2,e2,_,hnb⟩:=hst.adds;exact⟨l++l2,by rw[<-Nat.add_assoc,e2,hl'];simp,fun k hk=>(o3.1 hk).elim (hna k) (hnb k)⟩
theorem yt5[Dr](hw:Way P TT all hs S T κ)(hl:hs.length=all.length)(m:Nat):∀ k,m+k<=all.length->Ref (sg (dst all) S (fun _=>true) (T m) m k) (T (m+k)):=by
 intro k;induction k with
 |zero=>intro _;exact Ref.refl _
 |succ k ih =>
  intro hk;have hlt:m+k<all.length:=by omega
  obtain⟨tr,hr,_,e⟩:=hw (m+k) _ _ (pp hlt) (pp (by omega));rw[<-Nat.add_assoc,e];have:dst all (m+k)=all[m+k].dst:=by simp[dst,hlt]
  simp only[sg,if_true,this];exact((ih (by omega)).trans hr).put _ _
theorem xd7{D:Nat->Option Tmp}{S:Nat->SV}{E E':Nat->Bool}{ts:List SV}{m:Nat}:∀ k,(∀ i,m<=i->i<m+k->E i=E' i)->sg D S E ts m k=sg D S E' ts m k:=by
 intro k;induction k with
 |zero=>intro _;rfl
 |succ k ih =>
  intro h;simp only[sg,h (m+k) (by omega) (by omega),ih (fun i a b=>h i a (by omega))]
theorem xl7{D:Nat->Option Tmp}{S:Nat->SV}{E:Nat->Bool}{ts:List SV}{m:Nat}:∀ k,(∀ i,m<=i->i<m+k->E i=false)->sg D S E ts m k=ts:=by
 intro k;induction k with
 |zero=>intro _;rfl
 |succ k ih =>
  intro h;simp[sg,h (m+k) (by omega) (by omega),ih (fun i a b=>h i a (by omega))]
theorem xr5(hl:hs.length=all.length):∀ (k m:Nat),m+k=all.length->∃ h,m<=h/\h<=all.length/\(∀ i,m<=i->i<h->hs[i]? = some false)/\(h=all.length\/hs[h]? = some true):=by
 intro k;induction k with
 |zero=>intro m hm;exact⟨m,pr _,by omega,fun i a b=>by omega,.inl (by omega)⟩
 |succ k ih =>
  intro m hm;have hlt:m<hs.length:=by omega
  cases hb:hs[m]'hlt with
  |true=>exact⟨m,pr _,by omega,fun i a b=>by omega,.inr (by rw[pp hlt,hb])⟩
  |false =>
   obtain⟨h,a,b,c,d⟩:=ih (m+1) (by omega);refine⟨h,by omega,b,fun i hi hi'=>?_,d⟩;by_cases e:i=m
   ·subst e;rw[pp hlt,hb]
   ·exact c i (by omega) hi'
theorem Inv.start[Dr](hw:Way P TT all hs S T κ)(hdr:DrawOk all hs){m:Nat}(hm:m<=all.length){listed:Array Bool}(hsz:listed.size=all.length)(hE:∀ i,i<all.length->(listed.getD i false=true↔i<m)){a:Act}{w:World}{β:Env}{fp:Nat->Nat->Prop}
 (hS:Sat B w β fp (T m) (κ m) a):∃ h,Inv B all hs S T κ m h listed a w:=by
 obtain⟨h,h1,h2,h3,h4⟩:=xr5 hdr.len (all.length - m) m (by omega);have hF:∀ i,m<=i->listed.getD i false=false:=fun i hi=>by
  by_cases hil:i<all.length
  ·cases hb:listed.getD i false with
   |false=>rfl
   |true=>have:=(hE i hil).1 hb;omega
  ·simp[Array.getD,hsz,hil]
 obtain⟨l,hl,hla⟩:=qi0 hw hdr.len h2 h3 (h - m) m (pr _) (by omega);rw [show m+(h - m)=h from by omega] at hl;have hn:∀ p,(κ m).length<=p->β p=none:=hS.went.mem.kl;have hS':=hS.moreTo l hla;rw [<-hl] at hS';refine⟨h,hsz,fun i hi=>(hE i (by omega)).2 hi,h1,h2,h3,h4,fun i hi=>hF i (by omega),fun j o e hj hEj he hb=>?_,⟨β,fp,?_,fun j hj hjh hEj p hp hp'=>?_⟩⟩
 ·have hjl:j<all.length:=(pq.1 hj).1;have:=(hE j hjl).1 hEj;have:=hdr.on j o e hj he hb;exact(hE e.on (by omega)).2 (by omega)
 ·rw[xl7 _ (fun i a _=>hF i a)];exact hS'
 ·obtain⟨l1,e1,_⟩:=qi0 hw hdr.len h2 h3 (j - m) m (pr _) (by omega);obtain⟨l2,e2,_⟩:=qi0 hw hdr.len h2 h3 (h - (j+1)) (j+1) (by omega) (by omega);rw [show m+(j - m)=j from by omega] at e1;rw [show j+1+(h - (j+1))=h from by omega] at e2;exact hn p (by rw [e1] at hp;simp at hp;omega)
theorem jk8{listed:Array Bool}(cl:∀ (j:Nat) (o:Oper) (e:Edge),all[j]? = some o->listed.getD j false=true->e ∈ o.after->Region.binds .any e=true->listed.getD e.on false=true){j i:Nat}(h:Wt all j i) :
 (∀ o e,all[j]? = some o->e ∈ o.after->Region.binds .any e=true->listed.getD e.on false=true)->listed.getD i false=true:=by
 have hc:∀ {j i},Wt all j i->listed.getD j false=true->listed.getD i false=true:=fun {j i} h=>by
  induction h with
  |edge ho he hb hi=>intro hj;exact hi ▸ cl _ _ _ ho hj he hb
  |trans _ _ ih1 ih2=>intro hj;exact ih2 (ih1 hj)
 induction h with
 |edge ho he hb hi=>intro hr;exact hi ▸ hr _ _ ho he hb
 |trans h1 h2 ih1 _=>intro hr;exact hc h2 (ih1 hr)
theorem zt0[Dr]{listed:Array Bool}(cl:∀ (j:Nat) (o:Oper) (e:Edge),all[j]? = some o->listed.getD j false=true->e ∈ o.after->Region.binds .any e=true->listed.getD e.on false=true){j i:Nat}(h:Wt all j i)(hj:listed.getD j false=true):listed.getD i false=true :=
 jk8 cl h (fun o e ho he hb=>cl j o e ho hj he hb)
theorem jz2{d:Option Tmp}{l:List Nat}{t:Nat}(h:qf1 d l=true)(hd:d=some t)(ht:memN t l=true):False:=by
 subst hd;simp [qf1,ht] at h
theorem Inv.slots[Dr]{m h j:Nat}{listed:Array Bool}{a:Act}{w:World}(hw:Way P TT all hs S T κ)(hdr:DrawOk all hs)(hI:Inv B all hs S T κ m h listed a w){o:Oper}(ho:all[j]? = some o)(hmj:m<=j)(hjh:j<h)(hEj:listed.getD j false=false)
 (hrd:∀ e ∈ o.after,Region.binds .any e=true->listed.getD e.on false=true) {tr:List SV} (hr:Ref (T j) tr) {t:Nat} (ht:memN t (kq all o)=true) {s':SV} (hs':tr[t]? = some s') :
 ∃ s,(sg (dst all) S (fun i=>listed.getD i false) (T m) m (h - m))[t]? = some s/\RefV s s':=by
 have hjN:j<all.length:=(pq.1 ho).1;have hWj:∀ i,Wt all j i->listed.getD i false=true:=fun i hi=>jk8 hI.cl hi (fun o' e ho' he hb=>by
  rw [ho] at ho';obtain rfl:=p7 ho';exact hrd e he hb)
 have h1:=(yt5 hw hdr.len m (j - m) (by omega)).trans (by rw[show m+(j - m)=j from by omega];exact hr);obtain⟨s,hs1,hrv⟩:=h1.2 t s' hs';have htl:t<(T m).length:=by
  have:=(pq.1 hs1).1
  rwa [ql1] at this
 refine⟨s,?_,hrv⟩;have uniq:∀ i i',m<=i->i<h->m<=i'->i'<h->dst all i=some t->dst all i'=some t->i=i':=by
  have one:∀ i i',m<=i->i<i'->i'<h->dst all i=some t->dst all i'=some t->False:=fun i i' a b c d e=>by
   have hi':i'<all.length:=by have:=hI.hN;omega
   have:=(hdr.pair i i' _ _ b (pp (by omega)) (pp hi') (hI.soft i' (by omega) c) (fun q hq hq'=>hI.soft q (by omega) (by omega))).1;simp only [dst,pp hi',pp (show i<all.length by omega),dp] at d e;rw [d,e] at this;simp [qe1,cw] at this
  intro i i' a b c d e f;rcases ct i i' with h|h|h
  ·exact(one i i' a h d e f).elim
  ·exact h
  ·exact(one i' i c h b f e).elim
 by_cases hex:∃ i,m<=i/\i<h/\dst all i=some t
 ·obtain⟨i,a1,a2,a3⟩:=hex;have hiN:i<all.length:=by have:=hI.hN;omega
  have hdi:all[i].dst=some t:=by simpa[dst,hiN] using a3
  rcases ct i j with hij|hij|hij
  ·-- written by one ahead
   have hp:=(hdr.pair i j _ o hij (pp hiN) ho (hI.soft j hmj hjh) (fun q hq hq'=>hI.soft q (by omega) (by omega))).2;have hEi:listed.getD i false=true:=by
    rcases hp with hp|hp
    ·exact hWj i hp
    ·exfalso;unfold apart at hp;split at hp
     ·rename_i hoff;exact jz2 hoff hdi ht
     ·cases hp
   rw [qw0 (j - m) t i a1 (by omega) rfl a3 htl (fun i' b1 b2 b3=>uniq i' i b1 (by omega) a1 a2 b3 a3)] at hs1;rw[qw0 (h - m) t i a1 (by omega) hEi a3 htl (fun i' b1 b2 b3=>uniq i' i b1 (by omega) a1 a2 b3 a3)];exact hs1
  ·subst hij;rw [qe9 (i - m) t (fun i' b1 b2 _ b3=>by have:=uniq i' i b1 (by omega) a1 a2 b3 a3;omega)] at hs1;rw [qe9 (h - m) t (fun i' b1 b2 b4 b3=>by have:=uniq i' i b1 (by omega) a1 a2 b3 a3;subst this;rw [hEj] at b4;cases b4)];exact hs1
  ·have hp:=(hdr.pair j i o _ hij ho (pp hiN) (hI.soft i a1 a2) (fun q hq hq'=>hI.soft q (by omega) (by omega))).2;have hEi:listed.getD i false=false:=by
    rcases hp with hp|hp
    ·cases hb:listed.getD i false with
     |false=>rfl
     |true=>have:=zt0 hI.cl hp hb;rw [hEj] at this;cases this
    ·exfalso;unfold apart at hp;split at hp
     ·exact jz2 hp hdi ht
     ·cases hp
   rw [qe9 (j - m) t (fun i' b1 b2 _ b3=>by have:=uniq i' i b1 (by omega) a1 a2 b3 a3;omega)] at hs1;rw [qe9 (h - m) t (fun i' b1 b2 b4 b3=>by have:=uniq i' i b1 (by omega) a1 a2 b3 a3;subst this;rw [hEi] at b4;cases b4)];exact hs1
 ·rw [qe9 (j - m) t (fun i' b1 b2 _ b3=>hex ⟨i',b1,by omega,b3⟩)] at hs1;rw[qe9 (h - m) t (fun i' b1 b2 _ b3=>hex ⟨i',b1,by omega,b3⟩)];exact hs1
theorem qe0(l:Array Bool)(j i:Nat)(hj:j<l.size):(l.setIfInBounds j true).getD i false=(l.getD i false || decide (i=j)):=by
 simp only[br,f6];by_cases e:j=i
 ·subst e;simp[hj]
 ·rw[if_neg e];simp[Ne.symm e]
theorem Inv.next[Dr]{m h j:Nat}{listed:Array Bool}{a:Act}{w:World}(hTT:TTok P TT)(hw:Way P TT all hs S T κ)(hdr:DrawOk all hs)(hI:Inv B all hs S T κ m h listed a w){o:Oper}(ho:all[j]? = some o)(hmj:m<=j)(hjh:j<h)(hEj:listed.getD j false=false)
 (hrd:∀ e ∈ o.after,Region.binds .any e=true->listed.getD e.on false=true) {K:Act->World->Prop} (hK:∀ a' w',Inv B all hs S T κ m h (listed.setIfInBounds j true) a' w'->K a' w'):wpOpIn (ql rd) n P all.toArray Q j K a w:=by
 have hjN:j<all.length:=(pq.1 ho).1;have hjs:j<listed.size:=by rw[hI.sz];exact hjN
 have hsj:=hI.soft j hmj hjh;obtain⟨tr,hr,hst,hT⟩:=hw j o false ho hsj;obtain⟨β,fp,hS,hnone⟩:=hI.st;have hdj:dst all j=o.dst:=by simp[dst,ho]
 -- the masked state
 have slot:∀ t,Den w (Mx B.X fp) β (getT (mask (kq all o) tr) t) (a.tmps.getD t undef):=fun t=>by
  rw[jo1];split
  ·rename_i ht;rw[wn];cases hs':tr[t]? with
   |none=>exact .any _
   |some s' =>
    obtain⟨s,e,hrv⟩:=hI.slots hw hdr ho hmj hjh hEj hrd hr ht hs';have:=hS.val (.tmp t);simp only [Go.Eng.val,Act.eval,wn,e] at this;exact hrv.den this
  ·exact .any _
 have hval:∀ x,Den w (Mx B.X fp) β (val (mask (kq all o) tr) x) (a.eval x):=fun x=>by
  cases x with
  |tmp t=>exact slot t
  |_ =>
   have:=hS.val;first|exact this (.const _)|exact this (.func _)|exact this (.global _)
 have hk:∀ (i:Nat) (k:KB),(κ j)[i]? = some k->(κ h)[i]? = some k:=fun i k hk=>by
  obtain⟨l,e,_⟩:=qi0 hw hdr.len hI.hN hI.soft (h - j) j hmj (by omega);rw [show j+(h - j)=h from by omega] at e;rw[e,ot (pq.1 hk).1];exact hk
 have hM0:Mem0 B.X w β fp (κ j):={ hS.went.mem.toMem0 with kb:=fun i L k hki hne hL=>hS.went.mem.kb i L k (hk i k hki) hne hL };have hset:sg (dst all) S (fun i=>(listed.setIfInBounds j true).getD i false) (T m) m (h - m)=putT o.dst (S j) (sg (dst all) S (fun i=>listed.getD i false) (T m) m (h - m)):=by
  rw[<-hdj];refine xr4 (h - m) j hmj (by omega) hEj (fun i=>qe0 listed j i hjs) (fun i i' t a b c d e f=>?_);have one:∀ i i',m<=i->i<i'->i'<h->dst all i=some t->dst all i'=some t->False:=fun i i' a b c d e=>by
   have hi':i'<all.length:=by have:=hI.hN;omega
   have:=(hdr.pair i i' _ _ b (pp (by omega)) (pp hi') (hI.soft i' (by omega) c) (fun q hq hq'=>hI.soft q (by omega) (by omega))).1;simp only [dst,pp hi',pp (show i<all.length by omega),dp] at d e;rw [d,e] at this;simp [qe1,cw] at this
  rcases ct i i' with hh|hh|hh
  ·exact(one i i' a hh (by omega) e f).elim
  ·exact hh
  ·exact(one i' i c hh (by omega) f e).elim
 have build:∀ (v:Value) (w':World) (β':Env) (fp':Nat->Nat->Prop),Went B.X w β fp w' β' fp' (κ h)->Den w' (Mx B.X fp') β' (S j) v ->
  (∀ i,m<=i->i<h->i≠j->listed.getD i false=false->∀ p,(κ i).length<=p->p<(κ (i+1)).length->β' p=none)->Inv B all hs S T κ m h (listed.setIfInBounds j true) (a.put o.dst v) w':=by
  intro v w' β' fp' hW hd hn;have hS':=hS.on hW;refine⟨by simp[hI.sz],fun i hi=>by rw[qe0 _ _ _ hjs,hI.low i hi];rfl,hI.mh,hI.hN,hI.soft,hI.stop,fun i hi=>by rw[qe0 _ _ _ hjs,hI.high i hi];simp;omega,fun i o' e ho' hi he hb=>?_,⟨β',fp',?_,fun i a1 a2 a3=>?_⟩⟩
  ·rw [qe0 _ _ _ hjs] at hi ⊢;by_cases hij:i=j
   ·subst hij;rw [ho] at ho';obtain rfl:=p7 ho';rw[hrd e he hb];rfl
   ·rw[hI.cl i o' e ho' (by simpa[hij] using hi) he hb];rfl
  ·rw[hset];exact hS'.put _ hd
  ·rw [qe0 _ _ _ hjs] at a3;simp only [au,decide_eq_false_iff_not] at a3;exact hn i a1 a2 a3.2 a3.1
 have hi:all.toArray[j]? = some o:=by simpa using ho
 unfold wpOpIn;generalize hb:false=b at hst;generalize hk1:κ (j+1)=k1 at hst;generalize hsj':S j=sj at hst build;cases hst with
 |skip hg =>
  have hw':=qh7 (B:=B) (β:=β) (fp:=fp) (w:=w) (a:=a) (all:=all) (ts:=mask (kq all o) tr) (fun t s hs _=>hs ▸ slot t) (mask_guard.trans hg);simp only[hi,hw',d6,if_false];exact⟨fun _ _=>trivial,hK _ _ (build undef w β fp (Went.refl hS.went.mem) (.v _) (fun i a1 a2 _ a3=>hnone i a1 a2 a3))⟩
 |ev hg hev =>
  have hw':=qh7 (B:=B) (β:=β) (fp:=fp) (w:=w) (a:=a) (all:=all) (ts:=mask (kq all o) tr) (fun t s hs _=>hs ▸ slot t) (mask_guard.trans hg);simp only[hi,hw',if_true];cases hev with
  |pure _ hc hm hev =>
   rw [zw5 (jb4 (all:=all))] at hev;obtain⟨s',v,hK',hrun,hd⟩:=qz7 hTT hev hval hM0.kb' hM0.apart;subst hK';exact jz (jj0 hev) hrun (hK _ _ (build v w β fp (Went.refl hS.went.mem) hd (fun i a1 a2 _ a3=>hnone i a1 a2 a3)))
  |app _ hev =>
   have hag:∀ x ∈ o.op.operands,val tr x=val (mask (kq all o) tr) x:=jb4 (all:=all);rw [zm0 hag] at hev;obtain⟨d,v,w',hK',hrun,hst',hd⟩:=yx2 hTT hev hS.went.mem.vo.no hM0.mlt hval;refine jz (fun c hc=>?_) hrun (hK _ _ (build v w' β fp (hS.went.mem.quiet hst') (hK' ▸ hd) (fun i a1 a2 _ a3=>hnone i a1 a2 a3)));unfold wz at hev;rw [hc] at hev;exact hev
  |call g args tys _ _ _ hop hev =>
   subst hb;have hag:∀ x ∈ (Op.call ⟨.value g,args,tys⟩).operands,val tr x=val (mask (kq all o) tr) x:=fun x hx=>jb4 (all:=all) x (by rw[hop];exact hx)
   rw [xa4 hag] at hev;refine zf5 hTT hop hev (fun s k e=>by cases (lw e).1) hM0 hS.went.mem.vo.no hval (fun s k v w' hs' hst hden=>?_);obtain⟨_,he⟩:=lw hs';obtain⟨rfl,rfl⟩:=lw he;exact hK _ _ (build v w' β fp (hS.went.mem.quiet hst) hden (fun i a1 a2 _ a3=>hnone i a1 a2 a3))
  |mem _ _ hc hm hev =>
   have hf:va o.op=true:=by
    unfold qa9 at hb;split at hb
    ·assumption
    ·cases hb
   obtain⟨k,ek,_⟩:=yd9 hf hev;rw [zx7 hf (jb4 (all:=all))] at hev;obtain⟨ob,L,k',s0,v,w1,hKs,hrun,hst1,hsz1,hLb,hkb,hden⟩:=xh8 (M:=Mx B.X fp) (β:=β) hTT hf hev hM0.mlt hval;obtain⟨rfl,rfl⟩:=lw hKs;have hlen:(κ (j+1)).length=(κ j).length+1:=by rw[hk1];simp
   have hnn:β (κ j).length=none:=hnone j hmj hjh hEj _ (pr _) (by omega);have hkh:(κ h)[(κ j).length]? = some k':=by
    obtain⟨l,e,_⟩:=qi0 hw hdr.len hI.hN hI.soft (h - (j+1)) (j+1) (by omega) (by omega);rw [show j+1+(h - (j+1))=h from by omega,hk1] at e;rw[e,ot (by simp)];simp
   have hW:=hS.went.mem.fill hst1 hsz1 hnn hkh ob L hLb hkb;refine jz (fun c hc'=>by rw [hc'] at hf;simp [va] at hf) hrun (hK _ _ (build v _ _ _ hW (hden _ _ _ (q8 _ _ _)) (fun i a1 a2 a4 a3 p hp hp'=>?_)));have hpj:p≠(κ j).length:=fun e=>by
    rcases oo i j with hij|hij
    ·obtain⟨l,e1,_⟩:=qi0 hw hdr.len hI.hN hI.soft (j - (i+1)) (i+1) (by omega) (by omega);rw [show i+1+(j - (i+1))=j from by omega] at e1;rw [e,e1] at hp';simp at hp';omega
    ·obtain⟨l,e1,_⟩:=qi0 hw hdr.len hI.hN hI.soft (i - (j+1)) (j+1) (by omega) (by omega);rw [show j+1+(i - (j+1))=i from by omega] at e1;rw [e1] at hp;simp at hp;omega
   rw[jk _ _ hpj];exact hnone i a1 a2 a3 p hp hp'
theorem Inv.full[Dr]{m h:Nat}{listed:Array Bool}{a:Act}{w:World}(hw:Way P TT all hs S T κ)(hdr:DrawOk all hs)(hI:Inv B all hs S T κ m h listed a w)(hE:∀ i,i<h->listed.getD i false=true):∃ β fp,Sat B w β fp (T h) (κ h) a:=by
 obtain⟨β,fp,hS,_⟩:=hI.st;have h1:=yt5 hw hdr.len m (h - m) (by have:=hI.hN;have:=hI.mh;omega);rw [show m+(h - m)=h from by have:=hI.mh;omega] at h1;rw [xd7 (E':=fun _=>true) (h - m) (fun i a b=>hE i (by omega))] at hS;exact⟨β,fp,hS.ref h1⟩
theorem jm9[Dr](hTT:TTok P TT)(hw:Way P TT all hs S T κ)(hdr:DrawOk all hs)(hQ:∀ a w β fp,Sat B w β fp (T all.length) (κ all.length) a->Q .normal a w) :
 ∀ (fuel:Nat) (listed:Array Bool) (a:Act) (w:World) (m h:Nat) (l:List Nat),Inv B all hs S T κ m h listed a w->(∀ i,i<all.length->listed.getD i false=false->i ∈ l)->l.length<=fuel->wpAnyIn (ql rd) n P .any all.toArray Q fuel listed a w:=by
 have fin:∀ (listed:Array Bool) (a:Act) (w:World) (m h:Nat),Inv B all hs S T κ m h listed a w->(∀ i,i<all.length->listed.getD i false=true)->Q .normal a w:=by
  intro listed a w m h hI hall;have hh:h=all.length:=by
   rcases hI.stop with e|e
   ·exact e
   ·have hlt:h<all.length:=by rw[<-hdr.len];exact(pq.1 e).1
    have:=hI.high h (pr _);rw [hall h hlt] at this;cases this
  obtain⟨β,fp,hS⟩:=hI.full hw hdr (fun i hi=>hall i (by have:=hI.hN;omega));rw [hh] at hS;exact hQ a w β fp hS
 intro fuel;induction fuel with
 |zero =>
  intro listed a w m h l hI hl hlen;have hnil:l=[]:=f8 (by omega);have hall:∀ i,i<all.length->listed.getD i false=true:=fun i hi=>by
   cases hb:listed.getD i false with
   |true=>rfl
   |false=>have:=hl i hi hb;rw [hnil] at this;cases this
  refine⟨?_,fin listed a w m h hI hall⟩;refine az.2 (fun j hj=>?_);obtain⟨h0,o,ho,_⟩:=mem_ready.1 hj;have hjl:j<all.length:=by simpa using(m7.1 ho).1
  have:=hall j hjl;have hjs:j<listed.size:=by rw[hI.sz];exact hjl
  simp [hjs] at h0 this;rw [h0] at this;cases this
 |succ fuel ih =>
  intro listed a w m h l hI hl hlen;refine⟨fun hnil=>fin listed a w m h hI (fun i hi=>?_),fun j hj=>?_⟩
  ·-- none is ready: all are done
   induction i using Nat.strongRecOn with
   |_ i ihi =>
    cases hb:listed.getD i false with
    |true=>rfl
    |false =>
     exfalso;have his:i<listed.size:=by rw[hI.sz];exact hi
     have:i ∈ Region.ready .any all.toArray listed:=mem_ready.2 ⟨by simpa[his] using hb,all[i],by simp[hi],fun e he hbd=>by
      have:=hdr.on i _ e (pp hi) he hbd;exact ihi e.on this (by omega)⟩
     rw [hnil] at this;cases this
  ·obtain⟨h0,o,ho,hrd⟩:=mem_ready.1 hj;have ho:all[j]? = some o:=by simpa using ho
   have hjl:j<all.length:=(pq.1 ho).1;have hjs:j<listed.size:=by rw[hI.sz];exact hjl
   have hEj:listed.getD j false=false:=by simpa[hjs] using h0
   have hmj:m<=j:=by
    rcases oo j m with h'|h'
    ·rw [hI.low j h'] at hEj;cases hEj
    ·exact h'
   have hWj:∀ i,Wt all j i->listed.getD i false=true:=fun i hi=>jk8 hI.cl hi (fun o' e ho' he hb=>by
    rw [ho] at ho';obtain rfl:=p7 ho';exact hrd e he hb)
   have hl':∀ i,i<all.length->(listed.setIfInBounds j true).getD i false=false->i ∈ l.erase j:=fun i hi hE=>by
    rw [qe0 _ _ _ hjs] at hE;simp only [au,decide_eq_false_iff_not] at hE;exact(List.mem_erase_of_ne hE.2).2 (hl i hi hE.1)
   have hlen':(l.erase j).length<=fuel:=by
    rw[List.length_erase_of_mem (hl j hjl hEj)];omega
   rcases ct j h with hjh|hjh|hjh
   ·exact hI.next hTT hw hdr ho hmj hjh hEj hrd (fun a' w' hI'=>ih _ a' w' m h _ hI' hl' hlen')
   ·subst hjh;have hst:hs[j]? = some true:=hI.stop.resolve_left (by omega);have hE:∀ i,i<j->listed.getD i false=true:=fun i hi=>hWj i (hdr.first j i hst hi)
    obtain⟨β,fp,hS⟩:=hI.full hw hdr hE;obtain⟨tr,hr,hstp,hT⟩:=hw j o true ho hst;refine yg2 hTT hstp (by simpa using ho) (hS.ref hr) (fun v w' β' fp' hS'=>?_);rw [<-hT] at hS';obtain⟨h',hI'⟩:=Inv.start hw hdr (m:=j+1) (by omega) (listed:=listed.setIfInBounds j true) (by simp[hI.sz]) (fun i hi=>by
     rw[qe0 _ _ _ hjs];simp only[cq,lx];constructor
     ·rintro (h1|h1)
      ·rcases oo i (j+1) with h2|h2
       ·exact h2
       ·rw [hI.high i (by omega)] at h1;cases h1
      ·omega
     ·intro h1;by_cases e:i=j
      ·exact .inr e
      ·exact .inl (hE i (by omega))) hS'
    exact ih _ _ _ _ _ _ hI' hl' hlen'
   ·exfalso;have hst:hs[h]? = some true:=hI.stop.resolve_left (by omega);have:=hWj h (hdr.past h j hst hjh hjl);rw [hI.high h (pr _)] at this;cases this
end
section
variable{P:Program}{TT:Nat->Option TI}{B:Bs}{w:World}{β:Env}{fp:Nat->Nat->Prop}{ts:List SV}{ks:List KB}{a:Act}{rd:Option Nat}{n:Nat}{Q:Exit->Act->World->Prop}
theorem jy5[Dr](hTT:TTok P TT)(hmix:P.follows .mixedOrders=true){ops:Array Oper}{hs:List Bool}(hdr:kh ops.toList hs=true){id:Nat}{ts':List SV}{ks':List KB}(h:Tr P TT ops.toList ops.toList ts ks ts' ks' hs)(hS:Sat B w β fp ts ks a)
 (hQ:∀ a' w' β' fp',Sat B w' β' fp' ts' ks' a'->Q .normal a' w'):(Code.region id ops true).wpIn (ql rd) n P Q a w:=by
 obtain⟨S,T,κ,e1,e2,e3,e4,e5,hw⟩:=h.places;have hdr:=jm5 hdr;refine wpIn_region_any hmix ?_;have hS0:Sat B { w with drawn:=w.drawn+1 } β fp (T 0) (κ 0) a:=by
  rw[e1,e2];exact hS.on (hS.went.mem.quiet ⟨rfl,rfl,rfl,pr _,fun _ _ _=>rfl,fun _=>by first|exact pr _|exact Nat.le_succ _⟩)
 obtain⟨h',hI⟩:=Inv.start hw hdr (m:=0) (pz _) (listed:=Array.replicate ops.size false) (by simp) (fun i hi=>by
  simp at hi;simp [hi]) hS0
 have:=jm9 (rd:=rd) (n:=n) (Q:=Q) hTT hw hdr (fun a' w' β' fp' hS'=>hQ a' w' β' fp' (by rw[<-e3,<-e4];exact hS')) ops.size _ a _ 0 h' (List.range ops.size) hI (fun i hi _=>by simpa using hi) (by simp);simpa using this
theorem qv7(l:List Bool)(i:Nat):atB l i=(l[i]?).getD false:=by
 induction l generalizing i with
 |nil=>rfl
 |cons a l ih=>cases i with
  |zero=>rfl
  |succ i=>simp[atB,ih]
theorem qi6(l:List Bool)(i:Nat):vk l i=l.set i true:=by
 induction l generalizing i with
 |nil=>rfl
 |cons a l ih=>cases i with
  |zero=>rfl
  |succ i=>simp[vk,ih]
theorem u9(l:List Oper):xw l=List.replicate l.length false:=by
 induction l with
 |nil=>rfl
 |cons a l ih=>simp[xw,ih,List.replicate_succ]
theorem xq4{l:List Bool}(h:allT l=true):∀ i,i<l.length->l[i]? = some true:=by
 induction l with
 |nil=>intro i hi;simp at hi
 |cons a l ih =>
  intro i hi;cases a with
  |false=>simp [allT] at h
  |true =>
   cases i with
   |zero=>rfl
   |succ i=>simpa using ih (by simpa[allT] using h) i (by simpa using hi)
theorem jm4[Dr](done:List Bool)(l:List Edge):xx done l=l.all (fun e=>!Region.binds .any e || (done[e.on]?).getD false):=by
 induction l with
 |nil=>rfl
 |cons e l ih =>
  simp only[xx,List.all_cons,<-ih,qv7];cases Region.binds .any e <;> cases (done[e.on]?).getD false <;> simp
theorem mem_ready[Dr]{ops:Array Oper}{done:List Bool}(hl:done.length=ops.size){i:Nat}:i ∈ Region.ready .any ops done.toArray↔∃ o,ops.toList[i]? = some o/\atB done i=false/\xx done o.after.toList=true:=by
 unfold Region.ready;rw[cn,lr];have he:∀ o:Oper,xx done o.after.toList=o.after.all (fun e=>!Region.binds .any e || done.toArray.getD e.on false):=fun o=>by
  rw[jm4,<-Array.all_toList];simp[br]
 constructor
 ·rintro ⟨hi,h⟩
  have ho:ops[i]? = some ops[i]:=oz hi;refine⟨ops[i],by rw[f7];exact ho,?_,?_⟩
  ·rw [ho] at h;rw[qv7];have hd:done[i]? = some (done[i]'(by omega)):=pp _;rw[hd];simp [br,hd] at h;simpa using h.1
  ·rw [ho] at h;rw[he];simp only [o8,dz,p8] at h;exact h.2
 ·rintro ⟨o,ho,h1,h2⟩
  rw [f7] at ho;have hi:i<ops.size:=(m7.1 ho).1;refine⟨hi,?_⟩;rw[ho];rw [qv7] at h1;have hd:done[i]? = some (done[i]'(by omega)):=pp _;rw [hd] at h1;simp only[o8,dz,p8];refine⟨?_,by rw[<-he];exact h2⟩;simp only [dz] at h1;simp[br,hd,h1]
theorem zr1{done:List Bool}{F:Nat->Oper->Prop}:∀ (os:List Oper) (p:Nat),qg5 done F p os->∀ j o,os[j]? = some o->atB done (p+j)=false->xx done o.after.toList=true->F (p+j) o:=by
 intro os;induction os with
 |nil=>intro p h j o ho;simp at ho
 |cons a os ih =>
  intro p h j o ho h1 h2;cases j with
  |zero =>
   simp only [bu,my] at ho;subst ho;simp only [qg5,du] at h h1;rw [h1,h2] at h;exact h.1
  |succ j =>
   have hr:qg5 done F (p+1) os:=by
    simp only [qg5] at h;split at h
    ·exact h
    ·split at h
     ·exact h.2
     ·exact h
   have:=ih (p+1) hr j o (by simpa using ho) (by rw[show p+1+j=p+(j+1) from by omega];exact h1) h2;rw[show p+(j+1)=p+1+j from by omega];exact this
theorem zf3{done:List Bool}:∀ (os:List Oper) (p:Nat),qi7 done p os=true->∃ j o,os[j]? = some o/\atB done (p+j)=false/\xx done o.after.toList=true:=by
 intro os;induction os with
 |nil=>intro p h;simp [qi7] at h
 |cons a os ih =>
  intro p h;have tail:qi7 done (p+1) os=true->∃ j o,(a :: os)[j]? = some o/\atB done (p+j)=false/\xx done o.after.toList=true:=fun h=>by
   obtain⟨j,o,h1,h2,h3⟩:=ih (p+1) h;exact⟨j+1,o,by simpa using h1,by rw[show p+(j+1)=p+1+j from by omega];exact h2,h3⟩
  simp only [qi7] at h;split at h
  ·exact tail h
  ·rename_i h1;split at h
   ·rename_i h2;exact⟨0,a,rfl,h1,h2⟩
   ·exact tail h
end
end
section
section
variable{F:Fence}{n:Nat}{P:Program}{Q Q':Exit->Act->World->Prop}{w:World}
theorem qk5{o o':Oper}{a a':Act}{K K':Act->World->Prop}(hsem:o.semAt F.round a.eval=o'.semAt F.round a'.eval)(hab:o.about P w a.eval=o'.about P w a'.eval)
 (hq:∀ e a w,Q' e a w->e = .normal) (hput:∀ v w',K (a.put o.dst v) w'->K' (a'.put o'.dst v) w') (hdef:∀ d w',K ({ a with defers:=d :: a.defers }.put o.dst undef) w'->K' ({ a' with defers:=d :: a'.defers }.put o'.dst undef) w')
 (h:o.wpIn F n P a w K Q'):o'.wpIn F n P a' w K' Q:=by
 unfold Oper.wpIn at *;rw[<-hsem,<-hab];refine⟨h.1,?_⟩;have hh:=h.2;generalize (o.semAt F.round a.eval).run P w=r at *;cases r with
 |ok x w' =>
  cases x <;> simp only [Oper.uponIn] at hh ⊢ <;>
   first
    |exact hput _ _ hh
    |exact hdef _ _ hh
    |exact⟨hh.1,CallsIn.mono hh.2 (fun e w'' he=>by
     cases e with
     |returned v=>exact hput _ _ he
     |panicked c=>exact absurd (hq _ _ _ he) (by intro h;cases h)
     |outgrown=>obtain⟨a0,w0,h0⟩:=he;exact absurd (hq _ _ _ h0) (by intro h;cases h))⟩
    |exact⟨hh.1,RowsIn.mono hh.2 (fun _ _ he=>hput _ _ he)⟩
    |exact⟨hh.1,RoundIn.mono hh.2 (fun e w'' he=>by
     cases e with
     |returned v=>exact hput _ _ he
     |panicked c=>exact absurd (hq _ _ _ he) (by intro h;cases h)
     |outgrown=>obtain⟨a0,w0,h0⟩:=he;exact absurd (hq _ _ _ h0) (by intro h;cases h))⟩
 |halt x w' =>
  cases x <;> simp only [Oper.uponIn] at hh ⊢ <;> first|exact absurd (hq _ _ _ hh) (by intro h;cases h)|exact hh.elim|exact hh
theorem jv9{ρ ρ':Operand->Value}{b:Builtin}{args:Array Operand}{tys:Array TypeId}{ty:TypeId}(h:∀ y ∈ args,ρ y=ρ' y):resolve ρ ⟨.builtin b,args,tys⟩ ty=resolve ρ' ⟨.builtin b,args,tys⟩ ty:=by
 have e:args.map ρ=args.map ρ':=sv h;simp only[resolve,e]
theorem ye2[Dr]{ρ ρ':Operand->Value}{o:Oper}(hi:wt o.op=true)(h:∀ y ∈ o.op.operands,ρ y=ρ' y):execOp ρ o=execOp ρ' o:=by
 obtain⟨dst,op,ty,after,guard⟩:=o;replace hi:wt op=true:=hi;replace h:∀ y ∈ op.operands,ρ y=ρ' y:=h;cases op <;> first|cases hi|skip
 case move x=>simp only[execOp,h x (by simp[Op.operands])]
 case assign x=>simp only[execOp,h x (by simp[Op.operands])]
 case buildSlice t l ps =>
  have e:(ps.map fun p=>(p.1,ρ p.2))=ps.map fun p=>(p.1,ρ' p.2):=sv fun p hp=>by
   rw[h p.2 (by simp only[Op.operands];simp;exact⟨p.1,by simpa using hp⟩)]
  simp only[execOp];exact congrArg (fun z=>(do pure (Next.value (<- Instr.buildSlice t l z)):Sem Next)) e
 case build t fs =>
  have ha:fs.map (fun p=>(p.1,ρ p.2))=fs.map (fun p=>(p.1,ρ' p.2)):=sv fun y hy=>by rw[h y.2 (by simp[Op.operands];exact⟨_,hy⟩)]
  simp only[execOp,ha]
 case load t x=>simp only[execOp,h x (by simp[Op.operands])]
 case store t x y=>simp only[execOp,h x (by simp[Op.operands]),h y (by simp[Op.operands])]
 case nilCheck x=>simp only[execOp,h x (by simp[Op.operands])]
 case fieldAddr s x f=>simp only[execOp,h x (by simp[Op.operands])]
 case call c =>
  obtain⟨cl,args,tys⟩:=c;cases cl <;> first|cases hi|skip
  rename_i b;have:resolve ρ ⟨.builtin b,args,tys⟩ ty=resolve ρ' ⟨.builtin b,args,tys⟩ ty:=jv9 fun y hy=>h y (by simp[Op.operands,Call.operands];exact hy)
  simp only[execOp,this]
theorem zu6[Dr]{ro:Option Nat}{ρ ρ':Operand->Value}{o:Oper}(hi:wt o.op=true)(h:∀ y ∈ o.op.operands,ρ y=ρ' y):o.semAt ro ρ=o.semAt ro ρ':=by
 have hnd:∀ c,o.op≠.defer c:=fun c e=>by rw [e] at hi;cases hi
 rw[Oper.semAt_eq _ _ _ hnd,Oper.semAt_eq _ _ _ hnd];exact ye2 hi h
theorem yb0[Dr]{ρ ρ':Operand->Value}{o:Oper}(hi:wt o.op=true)(h:∀ y ∈ o.op.operands,ρ y=ρ' y):o.about P w ρ=o.about P w ρ':=by
 obtain⟨dst,op,ty,after,guard⟩:=o;replace hi:wt op=true:=hi;replace h:∀ y ∈ op.operands,ρ y=ρ' y:=h;cases op <;> first|rfl|skip
 case call c =>
  obtain⟨cl,args,tys⟩:=c;cases cl <;> first|cases hi|skip
  rename_i b;have:resolve ρ ⟨.builtin b,args,tys⟩ ty=resolve ρ' ⟨.builtin b,args,tys⟩ ty:=jv9 fun y hy=>h y (by simp[Op.operands,Call.operands];exact hy)
  simp only[Oper.about,this]
theorem jb9{a:Act}{d:Tmp}{v:Value}{y:Operand}(h:y≠.tmp d):(a.put (some d) v).eval y=a.eval y:=by
 cases y with
 |tmp t =>
  have:d≠t:=fun e=>h (by rw[e])
  simp[Act.put,Act.eval,br,f6,this]
 |const v=>rfl
 |global g=>rfl
 |func f=>rfl
theorem qs0(a:Act){d:Tmp}{e:Option Tmp}(h:e≠some d)(v u:Value):(a.put (some d) v).put e u=(a.put e u).put (some d) v:=by
 cases e with
 |none=>rfl
 |some t =>
  have:t≠d:=fun e=>h (by rw[e])
  simp only[Act.put];congr 1;exact Array.setIfInBounds_comm _ _ (fun e=>this e.symm)
structure Idle(ops:Array Oper)(o0:Oper)(d:Tmp)(x:Operand):Prop where
 at0:ops[0]? = some o0
 op:o0.op = .move x
 dst:o0.dst=some d
 guard:o0.guard=none
 after:o0.after.toList=[]
 rest:∀ (j:Nat) (o:Oper),j≠0->ops[j]? = some o->o.guard=none/\wt o.op=true/\o.dst≠some d/\(∀ t,o.dst=some t->x≠.tmp t)/\(.tmp d ∈ o.op.operands->∃ e ∈ o.after,Region.binds .any e=true/\e.on=0)
theorem zi0{o:Oper}{y:Nat->Option Bool}(h:o.guard=none):Region.wanted o y=true:=by
 unfold Region.wanted;rw[h]
variable{ops ops':Array Oper}{o0:Oper}{d:Tmp}{x:Operand}
theorem vq[Dr]{i:Nat}{o:Oper}(ho:ops[i]? = some o)(hg:o.guard=none){K:Act->World->Prop}{a:Act}:wpOpIn F n P ops Q i K a w=o.wpIn F n P a w K Q:=by
 unfold wpOpIn;simp only[ho,zi0 hg,if_true]
theorem xi[Dr](l:Array Bool)(j i:Nat)(hj:j<l.size):(l.setIfInBounds j true).getD i false=(l.getD i false || decide (i=j)):=qe0 l j i hj
theorem yg{ops:Array Oper}{listed:Array Bool}(hl:listed.size=ops.size){i:Nat}:i ∈ Region.ready .any ops listed↔∃ o,ops[i]? = some o/\listed.getD i false=false/\(∀ e ∈ o.after,Region.binds .any e=true->listed.getD e.on false=true):=by
 rw[Go.mem_ready];constructor
 ·rintro ⟨h1,o,ho,h2⟩
  have hi:i<ops.size:=(m7.1 ho).1;refine⟨o,ho,?_,h2⟩;have:i<listed.size:=by omega
  simp [br,this] at h1 ⊢;exact h1
 ·rintro ⟨o,ho,h1,h2⟩
  have hi:i<ops.size:=(m7.1 ho).1;refine⟨?_,o,ho,h2⟩;have:i<listed.size:=by omega
  simp [br,this] at h1 ⊢;exact h1
theorem xj9[Dr](hI:Idle ops o0 d x)(hq:∀ e a w,Q' e a w->e = .normal)(hqq:∀ a w,Q' .normal a w->Q .normal a w):∀ (fuel:Nat) (listed:Array Bool) (a:Act) (w:World),listed.size=ops.size->listed.getD 0 false=false ->
 wpAnyIn F n P .any ops Q' fuel (listed.setIfInBounds 0 true) (a.put (some d) (a.eval x)) w->wpAnyIn F n P .any ops Q (fuel+1) listed a w:=by
 have h0s:0<ops.size:=(m7.1 hI.at0).1;have first:∀ (listed:Array Bool) (a:Act) (w:World) (K:Act->World->Prop),K (a.put (some d) (a.eval x)) w->wpOpIn F n P ops Q 0 K a w:=by
  intro listed a w K hK;rw[vq hI.at0 hI.guard];unfold Oper.wpIn;have hnd:∀ c,o0.op≠.defer c:=fun c e=>by rw [hI.op] at e;cases e
  rw[Oper.semAt_eq _ _ _ hnd];refine⟨fun f hf=>?_,?_⟩
  ·simp [Oper.about,hI.op] at hf
  ·simp only[execOp,hI.op];show K (a.put o0.dst (a.eval x)) w;rw[hI.dst];exact hK
 have zero:∀ listed:Array Bool,listed.size=ops.size->listed.getD 0 false=false->0 ∈ Region.ready .any ops listed:=fun listed hl h0=>(yg hl).2 ⟨o0,hI.at0,h0,fun e he=>by
  have:e ∈ o0.after.toList:=gx.1 he;rw [hI.after] at this;cases this⟩
 have more:∀ listed:Array Bool,listed.size=ops.size->∀ i,i≠0->i ∈ Region.ready .any ops listed->i ∈ Region.ready .any ops (listed.setIfInBounds 0 true):=fun listed hl i hi h=>by
  obtain⟨o,ho,h1,h2⟩:=(yg hl).1 h;refine(yg (by simp[hl])).2 ⟨o,ho,?_,fun e he hb=>?_⟩
  ·rw[xi _ _ _ (by omega),h1];simp[hi]
  ·rw[xi _ _ _ (by omega),h2 e he hb]
   rfl
 intro fuel;induction fuel with
 |zero =>
  intro listed a w hl h0 h;refine⟨fun he=>?_,fun i hi=>?_⟩
  ·have:=zero listed hl h0;rw [he] at this;cases this
  ·by_cases hi0:i=0
   ·subst hi0;exact first listed a w _ ⟨h.1,hqq _ _ h.2⟩
   ·have:=more listed hl i hi0 hi;rw [h.1] at this;cases this
 |succ fuel ih =>
  intro listed a w hl h0 h;refine⟨fun he=>?_,fun i hi=>?_⟩
  ·have:=zero listed hl h0;rw [he] at this;cases this
  ·by_cases hi0:i=0
   ·subst hi0;refine first listed a w _ ?_;have:∀ (fuel:Nat) (listed:Array Bool) (a:Act) (w:World),wpAnyIn F n P .any ops Q' fuel listed a w->wpAnyIn F n P .any ops Q fuel listed a w:=by
     intro fuel;induction fuel with
     |zero=>exact fun l a w h=>⟨h.1,hqq _ _ h.2⟩
     |succ fuel ih =>
      intro l a w h;refine⟨fun he=>hqq _ _ (h.1 he),fun i hi=>?_⟩;have hh:=h.2 i hi;cases ho:ops[i]? with
      |none=>unfold wpOpIn at hh ⊢;rw [ho] at hh ⊢;exact ih _ _ _ hh
      |some o =>
       have hg:o.guard=none:=by
        by_cases e:i=0
        ·subst e;rw [hI.at0] at ho;obtain rfl:=p7 ho;exact hI.guard
        ·exact(hI.rest i o e ho).1
       rw [vq ho hg] at hh ⊢;exact qk5 rfl rfl hq (fun v w' h=>ih _ _ _ h) (fun d w' h=>ih _ _ _ h) hh
    exact this _ _ _ _ h
   ·have hm:=more listed hl i hi0 hi;obtain⟨o,ho,h1,h2⟩:=(yg hl).1 hi;obtain⟨r1,r2,r3,r4,r5⟩:=hI.rest i o hi0 ho;have hil:i<listed.size:=by have:=(m7.1 ho).1;omega
    have hny:∀ y ∈ o.op.operands,y≠.tmp d:=fun y hy e=>by
     subst e;obtain⟨e,he,hb,hon⟩:=r5 hy;have:=h2 e he hb;rw [hon,h0] at this;cases this
    have hev:∀ y ∈ o.op.operands,(a.put (some d) (a.eval x)).eval y=a.eval y:=fun y hy=>jb9 (hny y hy)
    have hh:=h.2 i hm;rw [vq ho r1] at hh ⊢;have hcomm:(listed.setIfInBounds 0 true).setIfInBounds i true=(listed.setIfInBounds i true).setIfInBounds 0 true:=Array.setIfInBounds_comm _ _ (fun e=>hi0 e.symm);have hset0:(listed.setIfInBounds i true).getD 0 false=false:=by
     rw[xi _ _ _ hil,h0];simp[Ne.symm hi0]
    have hex:∀ (b:Act) (v:Value),(b.put o.dst v).eval x=b.eval x:=fun b v=>by
     cases hd:o.dst with
     |none=>rfl
     |some t=>exact jb9 (r4 t hd)
    refine qk5 (zu6 r2 hev) (yb0 r2 hev) hq (fun v w' hk=>?_) (fun dd w' hk=>?_) hh
    ·refine ih _ _ _ (by simp[hl]) hset0 ?_;rw [hcomm] at hk;rw[hex,<-qs0 a r3];exact hk
    ·refine ih _ _ _ (by simp[hl]) hset0 ?_;rw [hcomm] at hk;rw[hex,<-qs0 _ r3];exact hk
theorem xk0[Dr](hI:Idle ops o0 d x)(hsz:ops'.size=ops.size)(hrest:∀ (j:Nat) (o:Oper),j≠0->ops[j]? = some o->ops'[j]? = some (addE o))(hq:∀ e a w,Q' e a w->e = .normal)(hqq:∀ a w,Q' .normal a w->Q .normal a w) :
 ∀ (fuel:Nat) (listed:Array Bool) (a:Act) (w:World),listed.size=ops.size->listed.getD 0 false=true->wpAnyIn F n P .any ops' Q' fuel listed a w->wpAnyIn F n P .any ops Q fuel listed a w:=by
 have same:∀ listed:Array Bool,listed.size=ops.size->listed.getD 0 false=true->∀ i,i ∈ Region.ready .any ops listed↔i ∈ Region.ready .any ops' listed:=by
  intro listed hl h0 i;by_cases hi:i=0
  ·subst hi;constructor
   ·intro h;obtain⟨o,ho,h1,_⟩:=(yg hl).1 h;rw [h0] at h1;cases h1
   ·intro h;obtain⟨o,ho,h1,_⟩:=(yg (by omega)).1 h;rw [h0] at h1;cases h1
  ·constructor
   ·intro h;obtain⟨o,ho,h1,h2⟩:=(yg hl).1 h;refine(yg (by omega)).2 ⟨addE o,hrest i o hi ho,h1,fun e he hb=>?_⟩;have he:e ∈ (⟨0,.data⟩ :: o.after.toList:List Edge):=gx.1 he;rcases pv.1 he with rfl|he
    ·exact h0
    ·exact h2 e (gx.2 he) hb
   ·intro h;obtain⟨o',ho',h1,h2⟩:=(yg (by omega)).1 h;have hil:i<ops.size:=by have:=(m7.1 ho').1;omega
    have ho:ops[i]? = some ops[i]:=oz hil;rw [hrest i _ hi ho] at ho';obtain rfl:=p7 ho';exact(yg hl).2 ⟨_,ho,h1,fun e he hb=>h2 e (gx.2 (m8 _ (gx.1 he))) hb⟩
 intro fuel;induction fuel with
 |zero =>
  intro listed a w hl h0 h;refine⟨az.2 fun i hi=>?_,hqq _ _ h.2⟩;have:=(same listed hl h0 i).1 hi;rw [h.1] at this;cases this
 |succ fuel ih =>
  intro listed a w hl h0 h;refine⟨fun he=>hqq _ _ (h.1 (az.2 fun i hi=>?_)),fun i hi=>?_⟩
  ·have:=(same listed hl h0 i).2 hi;rw [he] at this;cases this
  ·obtain⟨o,ho,h1,h2⟩:=(yg hl).1 hi;have hi0:i≠0:=fun e=>by subst e;rw [h0] at h1;cases h1
   have hil:i<listed.size:=by have:=(m7.1 ho).1;omega
   have hg:=(hI.rest i o hi0 ho).1;have hh:=h.2 i ((same listed hl h0 i).1 hi);rw [vq (hrest i o hi0 ho) (show (addE o).guard=none from hg)] at hh;rw[vq ho hg];have hset0:(listed.setIfInBounds i true).getD 0 false=true:=by
    rw[xi _ _ _ hil,h0];rfl
   exact qk5 (o:=addE o) rfl rfl hq (fun v w' hk=>ih _ _ _ (by simp[hl]) hset0 hk) (fun dd w' hk=>ih _ _ _ (by simp[hl]) hset0 hk) hh
end
theorem jl9[Dr]:∀ {l:List Edge},qv2 l=true->∃ e ∈ l,Region.binds .any e=true/\e.on=0
 |[],h=>by cases h
 |e :: l,h=>by
  simp only [qv2] at h;split at h
  ·rename_i hb;split at h
   ·rename_i h0;exact⟨e,mz ..,hb,h0⟩
   ·obtain⟨e',h1,h2⟩:=jl9 h;exact⟨e',m8 _ h1,h2⟩
  ·obtain⟨e',h1,h2⟩:=jl9 h;exact⟨e',m8 _ h1,h2⟩
theorem jj4[Dr]{d:Nat}{x:Operand}:∀ {l:List Oper},qs7 d (xk [x]) l=true->∀ o ∈ l,o.guard=none/\wt o.op=true/\o.dst≠some d/\(∀ t,o.dst=some t->x≠.tmp t)/\(.tmp d ∈ o.op.operands->∃ e ∈ o.after,Region.binds .any e=true/\e.on=0)
 |[],_,o,ho=>by cases ho
 |a :: l,h,o,ho=>by
  simp only [qs7] at h;split at h
  ·cases h
  ·rename_i hg;split at h
   ·rename_i h1 h2;have hoff:∀ t,a.dst=some t->t ∉ (d :: xk [x]):=fun t ht hm=>by
     rw [ht] at h2;simp only [qf1] at h2;split at h2
     ·cases h2
     ·rename_i hn;exact qs4 hn hm
    have base:a.guard=none/\wt a.op=true/\a.dst≠some d/\(∀ t,a.dst=some t->x≠.tmp t):=by
     refine⟨hg,h1,fun e=>hoff d e (mz ..),fun t ht e=>hoff t ht ?_⟩;rw[e];exact m8 _ (mz ..)
    split at h
    ·rename_i hm;rcases pv.1 ho with rfl|ho
     ·exact⟨base.1,base.2.1,base.2.2.1,base.2.2.2,fun hd=>absurd (qy5 (gx.1 hd)) (qs4 hm)⟩
     ·exact jj4 h o ho
    ·split at h
     ·rename_i hz;rcases pv.1 ho with rfl|ho
      ·exact⟨base.1,base.2.1,base.2.2.1,base.2.2.2,fun _=>by
        obtain⟨e,he,h3⟩:=jl9 hz;exact⟨e,gx.2 he,h3⟩⟩
      ·exact jj4 h o ho
     ·cases h
   ·cases h
theorem yp6[Dr]:∀ (l:List Oper) (j:Nat) (o:Oper),l[j]? = some o->(mapE l)[j]? = some (addE o)
 |a :: l,0,o,h=>by simp at h;subst h;rfl
 |a :: l,j+1,o,h=>by simpa[mapE] using yp6 l j o (by simpa using h)
 |[],j,o,h=>by simp at h
theorem yp5[Dr]:∀ l:List Oper,(mapE l).length=l.length
 |[]=>rfl
 |_ :: l=>congrArg (· + 1) (yp5 l)
theorem xh1[Dr]{ops:Array Oper}{l:List Oper}(h:qw4 ops.toList=some l):∃ o0 d x,Idle ops o0 d x/\l.length=ops.size/\l[0]? = some o0/\∀ (j:Nat) (o:Oper),j≠0->ops[j]? = some o->l[j]? = some (addE o):=by
 obtain⟨os⟩:=ops;have h:qw4 os=some l:=h;cases os with
 |nil=>cases h
 |cons o r =>
  simp only [qw4] at h;split at h
  ·rename_i x d h1 h2 h3 h4;split at h
   ·rename_i h5;split at h
    ·cases h;refine⟨o,d,x,⟨by simp,h1,h2,h3,h4,fun j o' hj ho'=>?_⟩,by simp[yp5],rfl,fun j o' hj ho'=>?_⟩
     ·cases j with
      |zero=>exact absurd rfl hj
      |succ j =>
       have:r[j]? = some o':=by simpa using ho'
       exact jj4 h5 o' (ov this)
     ·cases j with
      |zero=>exact absurd rfl hj
      |succ j =>
       have:r[j]? = some o':=by simpa using ho'
       simpa using yp6 r j o' this
    ·cases h
   ·cases h
  ·cases h
section
variable{P:Program}{TT:Nat->Option TI}{B:Bs}{w:World}{β:Env}{fp:Nat->Nat->Prop}{ts:List SV}{ks:List KB}{a:Act}{rd:Option Nat}{n:Nat}{Q:Exit->Act->World->Prop}
theorem zi9[Dr](hTT:TTok P TT)(hmix:P.follows .mixedOrders=true){ops:Array Oper}{l:List Oper}(hil:qw4 ops.toList=some l){hs:List Bool}(hdr:kh l hs=true){id:Nat}{ts':List SV}{ks':List KB}(h:Tr P TT l l ts ks ts' ks' hs)(hS:Sat B w β fp ts ks a)
 (hQ:∀ a' w' β' fp',Sat B w' β' fp' ts' ks' a'->Q .normal a' w'):(Code.region id ops true).wpIn (ql rd) n P Q a w:=by
 obtain⟨o0,d,x,hI,hlen,hl0,hlr⟩:=xh1 hil;obtain⟨S,T,κ,e1,e2,e3,e4,e5,hw⟩:=h.places;have hdr:=jm5 hdr;have h0s:0<ops.size:=(m7.1 hI.at0).1;refine wpIn_region_any hmix ?_;have hS0:Sat B { w with drawn:=w.drawn+1 } β fp (T 0) (κ 0) a:=by
  rw[e1,e2];exact hS.on (hS.went.mem.quiet ⟨rfl,rfl,rfl,pr _,fun _ _ _=>rfl,fun _=>by first|exact pr _|exact Nat.le_succ _⟩)
 obtain⟨h',hInv⟩:=Inv.start hw hdr (m:=0) (pz _) (listed:=Array.replicate ops.size false) (by simp[hlen]) (fun i hi=>by
  simp [<-hlen] at hi ⊢;simp [hi]) hS0
 have hany:=jm9 (rd:=rd) (n:=n) (Q:=fun e a w=>e = .normal/\Q .normal a w) hTT hw hdr (fun a' w' β' fp' hS'=>⟨rfl,hQ a' w' β' fp' (by rw[<-e3,<-e4];exact hS')⟩) ops.size _ a _ 0 h' (List.range ops.size) hInv (fun i hi _=>by simpa[<-hlen] using hi) (by simp);obtain⟨k,hk⟩:∃ k,ops.size=k+1:=⟨ops.size - 1,by omega⟩;have hq:∀ (e:Exit) (a:Act) (w:World),(e = .normal/\Q .normal a w)->e = .normal:=fun e a w h=>h.1
 have hz:0 ∈ Region.ready .any l.toArray (Array.replicate ops.size false):=(yg (by simp[hlen])).2 ⟨o0,by simpa using hl0,by simp[br,h0s],fun e he=>by
  have:e ∈ o0.after.toList:=gx.1 he;rw [hI.after] at this;cases this⟩
 rw [show ops.size=k+1 from hk] at hany ⊢;rw [hk] at hz;have h1:=hany.2 0 hz;rw [vq (by simpa using hl0) hI.guard] at h1;have h2:wpAnyIn (ql rd) n P .any l.toArray (fun e a w=>e = .normal/\Q .normal a w) k ((Array.replicate (k+1) false).setIfInBounds 0 true) (a.put (some d) (a.eval x)) { w with drawn:=w.drawn+1 }:=by
  have hnd:∀ c,o0.op≠.defer c:=fun c e=>by rw [hI.op] at e;cases e
  unfold Oper.wpIn at h1;rw [Oper.semAt_eq _ _ _ hnd] at h1;have h1:=h1.2;simp only [execOp,hI.op] at h1;have h1:wpAnyIn (ql rd) n P .any l.toArray (fun e a w=>e = .normal/\Q .normal a w) k ((Array.replicate (k+1) false).setIfInBounds 0 true) (a.put o0.dst (a.eval x)) { w with drawn:=w.drawn+1 }:=h1;rw [hI.dst] at h1;exact h1
 refine xj9 (Q':=fun e a w=>e = .normal/\Q .normal a w) hI hq (fun a w h=>h.2) k _ a _ (by simp[hk]) (by simp[br]) ?_;refine xk0 (ops':=l.toArray) hI (by simp[hlen]) (fun j o hj ho=>by simpa using hlr j o hj ho) hq (fun a w h=>⟨rfl,h.2⟩) k _ _ _ (by simp[hk]) (by
  rw[xi _ _ _ (by simp)];simp) h2
end
section
variable{X:Nat->Prop}{w:World}{β:Env}{fp:Nat->Nat->Prop}{ks:List KB}
theorem Mem.moveCell[Dr](h:Mem X w β fp ks){i j q:Nat}{t e:TypeId}{l:List SV}{sz n:Nat}{z:Z}{f:Nat->List DV}(hj:ks[j]? = some (.cells t l))(hq:l[q]? = some (.all i))(hi:ks[i]? = some (.row e sz n z f)) :
 ∃ β' fp',Went X w β fp w β' fp' ((ks.set j (.cells t (l.set q (.all ks.length)))).set i .gone++[.row e sz n z f]):=by
 have hil:i<ks.length:=(pq.1 hi).1;have hjl:j<ks.length:=(pq.1 hj).1;have hij:i≠j:=fun e=>by subst e;rw [hj] at hi;cases hi
 have hn:=h.kl ks.length (pr _);have hfn:∀ b,¬ fp ks.length b:=fun b hb=>by obtain ⟨L,hL⟩:=h.kn _ b hb;rw [hn] at hL;cases hL
 obtain⟨β',hβ'⟩:∃ β':Env,β'=upd β ks.length (β i):=⟨_,rfl⟩;obtain⟨fp',hfp'⟩:∃ fp':Nat->Nat->Prop,fp'=fun p b=>(p=ks.length/\fp i b)\/(p≠i/\p≠ks.length/\fp p b):=⟨_,rfl⟩
 have bs:β' ks.length=β i:=by rw[hβ'];exact q8 _ _ _
 have bo:∀ p,p≠ks.length->β' p=β p:=fun p hp=>by rw[hβ'];exact jk _ _ hp
 have hext:Ext β β':=fun p L hL=>by
  have:p≠ks.length:=fun e=>by rw [e,hn] at hL;cases hL
  rw[bo p this];exact hL
 have fs:fp' ks.length=fp i:=by
  rw[hfp'];funext b;apply propext;constructor
  ·rintro (⟨_,h1⟩|⟨_,h1,_⟩)
   ·exact h1
   ·exact absurd rfl h1
  ·exact fun h1=>.inl ⟨rfl,h1⟩
 have fo:∀ p,p≠i->p≠ks.length->fp' p=fp p:=fun p h1 h2=>by
  rw[hfp'];funext b;apply propext;constructor
  ·rintro (⟨h3,_⟩|⟨_,_,h3⟩)
   ·exact absurd h3 h2
   ·exact h3
  ·exact fun h3=>.inr ⟨h1,h2,h3⟩
 have fi:∀ p b,fp' p b->∃ p0,fp p0 b:=fun p b hb=>by
  rw [hfp'] at hb;rcases hb with⟨_,h1⟩|⟨_,_,h1⟩
  ·exact⟨i,h1⟩
  ·exact⟨p,h1⟩
 have hMx:∀ b,Mx X fp' b->Mx X fp b:=fun b hb=>hb.imp id (fun⟨p,hp⟩=>fi p b hp)
 refine⟨β',fp',⟨⟨⟨h.xa,fun p b hb=>?_,fun p p' b hb hb'=>?_,fun p b hb=>?_,fun p b hb=>?_,fun p L k hk hne hL=>?_⟩,fun p hp=>?_,fun p t' dom cols hp=>?_,h.vo.sub fi⟩,Step.refl _ _,hext,fun p b hb=>.inl (fi p b hb)⟩⟩
 ·obtain⟨p0,h0⟩:=fi p b hb;exact h.xb p0 b h0
 ·rw [hfp'] at hb hb';rcases hb with⟨rfl,h1⟩|⟨h1,h2,h3⟩
  ·rcases hb' with⟨h4,_⟩|⟨h4,_,h5⟩
   ·exact h4.symm
   ·exact absurd (h.dis _ _ _ h1 h5).symm h4
  ·rcases hb' with⟨_,h4⟩|⟨_,_,h5⟩
   ·exact absurd (h.dis _ _ _ h3 h4) h1
   ·exact h.dis _ _ _ h3 h5
 ·obtain⟨p0,h0⟩:=fi p b hb;exact h.kw p0 b h0
 ·rw [hfp'] at hb;rcases hb with⟨rfl,h1⟩|⟨_,h2,h3⟩
  ·rw[bs];exact h.kn i b h1
  ·rw[bo p h2];exact h.kn p b h3
 ·by_cases hp:p=ks.length
  ·subst hp;rw [o5 (by simp)] at hk;simp at hk;subst hk;rw [bs] at hL;rw[fs];exact(h.kb i L _ hi (by simp) hL).mono (Step.refl _ _) (fun b _=>hMx b) hext (fun b _=>rfl)
  ·have hpl:p<ks.length:=by
    have:=(pq.1 hk).1;simp at this;omega
   rw [ot (by simpa using hpl),oq] at hk;split at hk
   ·split at hk
    ·cases hk;exact absurd rfl hne
    ·cases hk
   ·rename_i hpi;rw [bo p hp] at hL;rw[fo p (fun e=>hpi e.symm) hp];rw [oq] at hk;split at hk
    ·rename_i hjp;subst hjp
     ·cases hk;have hkb:=(h.kb j L _ hj (by simp) hL).mono (Step.refl (Mx X fp) w) (fun b _=>hMx b) hext (fun b _=>rfl);cases hkb with
      |cells _ _ vs h0 h1 h3 h4 h5 =>
       refine .cells t _ vs h0 h1 (by simpa using h3) (fun o s u hs hu=>?_) h5;rw [oq] at hs;split at hs
       ·rename_i eo;subst eo;split at hs
        ·cases hs;have hd:=h4 q _ u hq hu;cases hd with
         |allNil _ L1 hL1 hL2=>exact .allNil _ L1 (by rw[bs,<-bo i (by omega)];exact hL1) hL2
         |all _ L1 hL1 hL2=>exact .all _ L1 (by rw[bs,<-bo i (by omega)];exact hL1) hL2
        ·cases hs
       ·exact h4 o s u hs hu
    ·exact(h.kb p L k hk hne hL).mono (Step.refl _ _) (fun b _=>hMx b) hext (fun b _=>rfl)
 ·have:ks.length+1<=p:=by simpa using hp
  rw[bo p (by omega)];exact h.kl p (by omega)
 ·by_cases hpl:p<ks.length
  ·rw [ot (by simpa using hpl),oq] at hp;split at hp
   ·split at hp <;> cases hp
   ·rw [oq] at hp;split at hp
    ·cases hp
    ·obtain⟨L,hL⟩:=h.ka p t' dom cols hp;exact⟨L,hext p L hL⟩
  ·rw [o5 (by simpa using hpl)] at hp;have:p=ks.length:=by
    have:=(pq.1 hp).1;simp at this;omega
   subst this;simp at hp
theorem Mem.csRow[Dr](h:Mem X w β fp ks){i:Nat}{e:TypeId}{L:Loc}(hi:ks[i]? = some (.cells e []))(hL0:β i=some L)(sz:Nat)(f:Nat->List DV) :
 ∃ fp',Went X w β fp w (upd β ks.length (some ⟨L.b,0,0,sz,false⟩)) fp' (ks.set i .gone++[.row e sz 0 .no f]):=by
 have hil:i<ks.length:=(pq.1 hi).1;have hn:=h.kl ks.length (pr _);obtain⟨β',hβ'⟩:∃ β':Env,β'=upd β ks.length (some ⟨L.b,0,0,sz,false⟩):=⟨_,rfl⟩;rw[<-hβ'];obtain⟨fp',hfp'⟩:∃ fp':Nat->Nat->Prop,fp'=fun p b=>(p=ks.length/\fp i b)\/(p≠i/\p≠ks.length/\fp p b):=⟨_,rfl⟩
 have bs:β' ks.length=some ⟨L.b,0,0,sz,false⟩:=by rw[hβ'];exact q8 _ _ _
 have bo:∀ p,p≠ks.length->β' p=β p:=fun p hp=>by rw[hβ'];exact jk _ _ hp
 have hext:Ext β β':=fun p L hL=>by
  have:p≠ks.length:=fun e=>by rw [e,hn] at hL;cases hL
  rw[bo p this];exact hL
 have fs:fp' ks.length=fp i:=by
  rw[hfp'];funext b;apply propext;constructor
  ·rintro (⟨_,h1⟩|⟨_,h1,_⟩)
   ·exact h1
   ·exact absurd rfl h1
  ·exact fun h1=>.inl ⟨rfl,h1⟩
 have fo:∀ p,p≠i->p≠ks.length->fp' p=fp p:=fun p h1 h2=>by
  rw[hfp'];funext b;apply propext;constructor
  ·rintro (⟨h3,_⟩|⟨_,_,h3⟩)
   ·exact absurd h3 h2
   ·exact h3
  ·exact fun h3=>.inr ⟨h1,h2,h3⟩
 have fi:∀ p b,fp' p b->∃ p0,fp p0 b:=fun p b hb=>by
  rw [hfp'] at hb;rcases hb with⟨_,h1⟩|⟨_,_,h1⟩
  ·exact⟨i,h1⟩
  ·exact⟨p,h1⟩
 have hMx:∀ b,Mx X fp' b->Mx X fp b:=fun b hb=>hb.imp id (fun⟨p,hp⟩=>fi p b hp)
 refine⟨fp',⟨⟨⟨h.xa,fun p b hb=>?_,fun p p' b hb hb'=>?_,fun p b hb=>?_,fun p b hb=>?_,fun p L1 k hk hne hL=>?_⟩,fun p hp=>?_,fun p t' dom cols hp=>?_,h.vo.sub fi⟩,Step.refl _ _,hext,fun p b hb=>.inl (fi p b hb)⟩⟩
 ·obtain⟨p0,h0⟩:=fi p b hb;exact h.xb p0 b h0
 ·rw [hfp'] at hb hb';rcases hb with⟨rfl,h1⟩|⟨h1,h2,h3⟩
  ·rcases hb' with⟨h4,_⟩|⟨h4,_,h5⟩
   ·exact h4.symm
   ·exact absurd (h.dis _ _ _ h1 h5).symm h4
  ·rcases hb' with⟨_,h4⟩|⟨_,_,h5⟩
   ·exact absurd (h.dis _ _ _ h3 h4) h1
   ·exact h.dis _ _ _ h3 h5
 ·obtain⟨p0,h0⟩:=fi p b hb;exact h.kw p0 b h0
 ·rw [hfp'] at hb;rcases hb with⟨rfl,h1⟩|⟨_,h2,h3⟩
  ·exact⟨_,bs⟩
  ·rw[bo p h2];exact h.kn p b h3
 ·by_cases hp:p=ks.length
  ·subst hp;rw [o5 (by simp)] at hk;simp at hk;subst hk;rw [bs] at hL;cases hL;rw[fs];have hkb:=h.kb i L _ hi (by simp) hL0;cases hkb with
   |cells _ _ vs h0 h1 h3 h4 h5 =>
    have hz:vs.size=0:=h3.symm;exact .row e sz 0 .no f vs (0,0) h0 rfl rfl rfl (fun e=>by cases e) h1 (fun o ho=>by omega) (by simpa using hz) (pr _) (fun k hk=>absurd hk (gy _)) (fun k j d u hk=>absurd hk (gy _)) h5
  ·have hpl:p<ks.length:=by
    have:=(pq.1 hk).1;simp at this;omega
   rw [ot (by simpa using hpl),oq] at hk;split at hk
   ·cases hk;exact absurd rfl hne
   ·rename_i hpi;rw [bo p hp] at hL;rw[fo p (fun e=>hpi e.symm) hp];exact(h.kb p L1 k hk hne hL).mono (Step.refl _ _) (fun b _=>hMx b) hext (fun b _=>rfl)
 ·have:ks.length+1<=p:=by simpa using hp
  rw[bo p (by omega)];exact h.kl p (by omega)
 ·by_cases hpl:p<ks.length
  ·rw [ot (by simpa using hpl),oq] at hp;split at hp
   ·cases hp
   ·obtain⟨L1,hL⟩:=h.ka p t' dom cols hp;exact⟨L1,hext p L1 hL⟩
  ·rw [o5 (by simpa using hpl)] at hp;have:p=ks.length:=by
    have:=(pq.1 hp).1;simp at this;omega
   subst this;simp at hp
end
end
section
def QS{α:Type}(s:Sem α):Prop:=∀ (P:Program) (w:World) (x:α) (w':World),s.run P w = .ok x w'->w'=w
theorem QS.pure{α:Type}(a:α):QS (pure a:Sem α):=fun P w x w' h=>by simp at h;exact h.2.symm
theorem QS.halt{α:Type}(a:Halt):QS (.halt a:Sem α):=fun P w x w' h=>by simp at h
theorem QS.bind{α β:Type}{s:Sem α}{f:α->Sem β}(h1:QS s)(h2:∀ a,QS (f a)):QS (s >>= f):=fun P w x w' h=>by
 rw [p6] at h;cases hr:s.run P w with
 |ok a w1 =>
  rw [hr] at h;have:=h1 _ _ _ _ hr;subst this;exact h2 a _ _ _ _ h
 |halt a w1=>rw [hr] at h;cases h
theorem QS.stuck{α:Type}(s:String):QS (stuck s:Sem α):=QS.halt _
theorem QS.unsup{α:Type}(s:Unsupported):QS (unsupported s:Sem α):=QS.halt _
theorem QS.load(a:Addr)(m:Mode):QS (load a m):=fun P w x w' h=>by
 simp only [Go.load,Sem.run] at h;split at h
 ·cases h;rfl
 ·split at h
  ·cases h;rfl
  ·cases h
theorem QS.shape(r:Nat):QS (shape r):=fun P w x w' h=>by simp only [Go.shape,Sem.run] at h;cases h;rfl
theorem QS.getObj(r:Nat):QS (getObj r):=fun P w x w' h=>by
 simp only [Go.getObj,Sem.run] at h;split at h
 ·cases h
 ·cases h;rfl
 ·cases h
theorem QS.program:QS program:=fun P w x w' h=>by simp only [Go.program,Sem.run] at h;cases h;rfl
theorem QS.typeInfo(t:TypeId):QS (typeInfo t):=QS.bind QS.program fun p=>by
 split
 ·exact QS.pure _
 ·exact QS.stuck _
theorem QS.underlying(t:TypeId):QS (underlying t):=QS.bind QS.program fun p=>by
 split
 ·exact QS.pure _
 ·exact QS.stuck _
theorem QS.sizeOf(t:TypeId):QS (sizeOf t):=QS.bind (QS.typeInfo t) fun _=>QS.pure _
theorem QS.isAgg(t:TypeId):QS (isAgg t):=QS.bind (QS.underlying t) fun p=>by
 split <;> exact QS.pure _
theorem QS.loadCells(a:Addr):∀ (n i:Nat) (acc:Array Value),QS (loadCellsFrom a i n acc)
 |0,_,_=>QS.pure _
 |n+1,i,_=>QS.bind (QS.load _ _) fun _=>QS.loadCells a n (i+1) _
theorem QS.loadVar(t:TypeId)(a:Addr):QS (loadVar t a):=QS.bind (QS.isAgg t) fun b=>by
 split
 ·refine QS.bind (s:=Go.sizeOf t) (QS.sizeOf t) fun n=>?_
  exact QS.bind (s:=Go.loadCells a n) (QS.loadCells a n 0 _) fun _=>QS.pure _
 ·exact QS.load _ _
theorem QS.sureAddr(v:Value):QS (Instr.sureAddr v):=by
 unfold Instr.sureAddr;split
 ·exact QS.pure _
 ·exact QS.stuck _
theorem QS.noView(a:Addr):QS (noView a):=by
 unfold Go.noView;refine QS.bind ?_ fun v=>?_
 ·unfold Go.viewAt;refine QS.bind (QS.shape _) fun v=>?_
  split
  ·exact QS.pure _
  ·refine QS.bind (QS.getObj _) fun v=>?_
   split <;> exact QS.pure _
 ·split
  ·exact QS.unsup _
  ·exact QS.pure _
theorem QS.byteOf(a:Addr):QS (byteOf a):=by
 unfold Go.byteOf;split
 ·exact QS.pure _
 ·refine QS.bind QS.program fun p=>QS.bind (QS.noView _) fun _=>QS.bind (QS.shape _) fun x=>?_
  split
  ·dsimp only
   split
   ·exact QS.pure _
   ·split
    ·exact QS.pure _
    ·exact QS.stuck _
  ·exact QS.stuck _
theorem QS.fieldPlace(a:Addr)(f:Field):QS (fieldPlace a f):=by
 unfold Go.fieldPlace;refine QS.bind (QS.sizeOf _) fun n=>?_
 split
 ·unfold Go.partAt;exact QS.bind (QS.byteOf _) fun _=>QS.bind (QS.byteOf _) fun _=>QS.pure _
 ·exact QS.pure _
theorem QS.bounds{α:Type}(k:IntKind)(x y:Int)(c:BoundsCode):QS (boundsPanic k x y c:Sem α):=fun P w v w' h=>by
 have np:∀ (x y:Int) (s:Bool) (w1:World),(runtimePanic (.bounds x y s c):Sem α).run P w1≠.ok v w':=fun x y s w1 hc=>by
  simp [runtimePanic,goPanic] at hc
 unfold boundsPanic at h
 dsimp only at h
 split at h
 ·rw [p6] at h;generalize (Sem.run P _ w)=r at h;cases r with
  |ok s w1=>exact(np _ _ _ _ h).elim
  |halt x w1=>cases h
 ·rw [p6] at h;simp only [oy,p9] at h;exact(np _ _ _ _ h).elim
theorem QS.fieldAt(s:TypeId)(v:Value)(f:Nat):QS (Instr.fieldAt s v f):=by
 unfold Instr.fieldAt;refine QS.bind (QS.underlying _) fun d=>?_
 split
 ·split
  ·exact QS.bind (QS.sureAddr _) fun a=>QS.bind (QS.fieldPlace _ _) fun _=>QS.pure _
  ·exact QS.stuck _
 ·exact QS.stuck _
theorem QS.asIntOf(v:Value):QS (asIntOf v):=by
 unfold Go.asIntOf;split
 ·exact QS.pure _
 ·exact QS.unsup _
 ·exact QS.stuck _
theorem QS.indexAt(t:TypeId)(x i:Value):QS (Instr.indexAt t x i):=by
 unfold Instr.indexAt;refine QS.bind (s:=Go.asIntOf i) (QS.asIntOf _) fun ki=>?_
 dsimp only
 refine QS.bind (s:=Go.underlying t) (QS.underlying _) fun d=>?_
 have key:∀ q:Option Addr × Nat × TypeId,QS (match q with
  |(base,len,elem)=>do
   let d <- Go.underlying t
   match base with
    |some a =>
     if 0<=ki.2/\ki.2<(len:Int) then do
      let n <- Go.sizeOf elem
      Pure.pure (Value.pointer (some (a.add (ki.2.toNat * n))))
     else if (decide (len<=1) && match d with
      |TypeDesc.array ..=>true
      | _ => false) = true then unsupported (.noEntry "op/indexAddr.an index out of range at an array of length 0 or 1 (ledger 616)")
     else boundsPanic ki.1 ki.2 len BoundsCode.index
    |none=>boundsPanic ki.1 ki.2 0 BoundsCode.index:Sem Value):=fun q=>by
  obtain⟨b,l,e⟩:=q;refine QS.bind (s:=Go.underlying t) (QS.underlying _) fun d=>?_
  cases b with
  |none=>exact QS.bounds _ _ _ _
  |some a =>
   dsimp only
   split
   ·exact QS.bind (s:=Go.sizeOf e) (QS.sizeOf _) fun _=>QS.pure _
   ·repeat' split
    all_goals first|exact QS.unsup _|exact QS.bounds _ _ _ _
 split
 ·exact QS.bind (QS.sureAddr _) fun _=>QS.bind (QS.pure _) key
 ·exact QS.bind (QS.pure _) key
 ·exact QS.bind (QS.stuck _) key
theorem QS.value{s:Sem Value}(h:QS s){P:Program}{w:World}{x:Next}{w':World}(hr:(do Pure.pure (Next.value (<- s)):Sem Next).run P w = .ok x w'):(∃ v,x = .value v)/\w'=w:=by
 rw [p6] at hr;cases hs:s.run P w with
 |ok a w1 =>
  rw [hs] at hr;have:=h _ _ _ _ hs;subst this;simp at hr;exact⟨⟨a,hr.1.symm⟩,hr.2.symm⟩
 |halt a w1=>rw [hs] at hr;cases hr
theorem QS.part(t:TypeId)(cs:Array Value)(off:Nat):QS (Go.part t cs off):=by
 unfold Go.part;refine QS.bind (s:=Go.isAgg t) (QS.isAgg _) fun b=>?_
 split
 ·exact QS.bind (s:=Go.sizeOf t) (QS.sizeOf _) fun _=>QS.pure _
 ·split
  ·exact QS.pure _
  ·exact QS.stuck _
theorem QS.followBlind:∀ (l:List FieldStep) (t:TypeId) (x:Option Value),QS (Go.followBlind l t x)
 |[],_,_=>QS.pure _
 |s :: l,_,x=>by
  unfold Go.followBlind;refine QS.bind (s:=Go.underlying s.struct) (QS.underlying _) fun d=>?_
  split
  ·split
   ·split
    ·exact QS.pure _
    ·exact QS.followBlind l _ _
    ·exact QS.stuck _
    ·exact QS.pure _
    ·exact QS.bind (QS.part _ _ _) fun _=>QS.followBlind l _ _
    ·exact QS.stuck _
    ·exact QS.followBlind l _ _
   ·exact QS.stuck _
  ·exact QS.stuck _
theorem QS.nilAhead:∀ (n:Nat) (t:TypeId) (v:Value) (name:String),QS (Go.nilAhead n t v name)
 |0,_,_,_=>QS.pure _
 |n+1,t,v,name=>by
  unfold Go.nilAhead;refine QS.bind (s:=Go.typeInfo t) (QS.typeInfo _) fun d=>?_
  split
  ·refine QS.bind (QS.followBlind _ _ _) fun r=>?_
   split
   ·exact QS.pure _
   ·split
    ·exact QS.nilAhead n _ _ _
    ·exact QS.pure _
    ·exact QS.stuck _
    ·exact QS.pure _
    ·exact QS.pure _
    ·refine QS.bind (QS.underlying _) fun d=>?_
     split <;> exact QS.pure _
  ·exact QS.stuck _
theorem zv6[Dr]{o:Oper}{ρ:Operand->Value}(hq:qt9 o.op=true){P:Program}{w:World}{x:Next}{w':World}(h:(execOp ρ o).run P w = .ok x w'):(∃ v,x = .value v)/\w'=w:=by
 cases ho:o.op with
 |move y=>simp only [execOp,ho] at h;simp at h;exact ⟨⟨_,h.1.symm⟩,h.2.symm⟩
 |assign y=>simp only [execOp,ho] at h;simp at h;exact ⟨⟨_,h.1.symm⟩,h.2.symm⟩
 |load t y=>simp only [execOp,ho] at h;exact QS.value (QS.bind (QS.sureAddr _) fun _=>QS.loadVar _ _) h
 |fieldAddr s y f=>simp only [execOp,ho] at h;exact QS.value (QS.fieldAt _ _ _) h
 |indexAddr t y i=>simp only [execOp,ho] at h;exact QS.value (QS.indexAt _ _ _) h
 |nilCheck y =>
  simp only [execOp,ho] at h;have np:∀ (w1:World),(runtimePanic .nilDeref:Sem Next).run P w1≠.ok x w':=fun w1 hc=>by
   simp [runtimePanic,goPanic] at hc
  split at h
  ·exact(np _ h).elim
  ·exact(np _ h).elim
  ·exact(np _ h).elim
  ·split at h
   ·exact(np _ h).elim
   ·rw [p6] at h;simp only [Go.program,Sem.run,p9] at h;rw [p6] at h;cases hn:(Go.nilAhead (P.types.size+Made.depth) _ _ _).run P w with
    |halt a w1=>rw [hn] at h;cases h
    |ok a w1 =>
     rw [hn] at h;have:=QS.nilAhead _ _ _ _ _ _ _ _ hn;subst this;simp only [p9] at h;split at h
     ·rw [p6] at h;simp [unsupported] at h
     ·simp at h;exact ⟨⟨_,h.1.symm⟩,h.2.symm⟩
   ·simp at h;exact ⟨⟨_,h.1.symm⟩,h.2.symm⟩
  ·simp at h;exact ⟨⟨_,h.1.symm⟩,h.2.symm⟩
 |extract y k =>
  simp only [execOp,ho] at h;refine QS.value (s:=Instr.extract (ρ y) k) ?_ h;unfold Instr.extract;split
  ·split
   ·exact QS.pure _
   ·exact QS.stuck _
  ·exact QS.stuck _
 |_=>rw [ho] at hq;exact (bp hq).elim
section
variable{F:Fence}{n:Nat}{P:Program}{Q Q':Exit->Act->World->Prop}{w:World}
theorem zm8[Dr]{o o':Oper}{a a':Act}{K K':Act->World->Prop}(hqo:qt9 o.op=true)(hsem:o.semAt F.round a.eval=o'.semAt F.round a'.eval)(hab:o.about P w a.eval=o'.about P w a'.eval)
 (hq:∀ e a w,Q' e a w->e = .normal) (hput:∀ v,K (a.put o.dst v) w->K' (a'.put o'.dst v) w)
 (h:o.wpIn F n P a w K Q'):o'.wpIn F n P a' w K' Q:=by
 have hnd:∀ c,o.op≠.defer c:=fun c e=>by rw [e] at hqo;cases hqo
 unfold Oper.wpIn at *;rw[<-hsem,<-hab];refine⟨h.1,?_⟩;have hh:=h.2;have hr:∀ x w',(o.semAt F.round a.eval).run P w = .ok x w'->(∃ v,x = .value v)/\w'=w:=fun x w' e=>by
  rw [Oper.semAt_eq _ _ _ hnd] at e;exact zv6 hqo e
 generalize (o.semAt F.round a.eval).run P w=r at *;cases r with
 |ok x w' =>
  obtain⟨⟨v,rfl⟩,rfl⟩:=hr _ _ rfl;exact hput _ hh
 |halt x w' =>
  cases x <;> simp only [Oper.uponIn] at hh ⊢ <;> first|exact absurd (hq _ _ _ hh) (by intro h;cases h)|exact hh.elim|exact hh
end
end
section
theorem js8[Dr]:∀ (l:List Oper) (j:Nat),atO l j=l[j]?
 |[],_=>by simp[atO]
 |_ :: _,0=>rfl
 |_ :: l,j+1=>by rw[List.getElem?_cons_succ,<-js8 l j];rfl
theorem jq5[Dr]{i:Nat}:∀ {l:List Nat},memB i l=true->i ∈ l
 |[],h=>by cases h
 |a :: l,h=>by
  simp only [memB] at h;split at h
  ·rename_i e;rw[bq e];exact mz ..
  ·exact m8 _ (jq5 h)
section
variable{all:List Oper}
def uz(all:List Oper)(listed:Array Bool):Prop:=∀ (i:Nat) (o:Oper),all[i]? = some o->listed.getD i false=true->∀ e ∈ o.after,Region.binds .any e=true->listed.getD e.on false=true
theorem ya7[Dr]{listed:Array Bool}{f:Nat->List Nat}:∀ (l:List Edge),(∀ e ∈ l,Region.binds .any e=true->listed.getD e.on false=true/\∀ i ∈ f e.on,listed.getD i false=true)->∀ i ∈ ancE f l,listed.getD i false=true
 |[],_,i,hi=>by cases hi
 |e :: l,h,i,hi=>by
  have ih:=ya7 l (fun e he=>h e (m8 _ he));simp only [ancE] at hi;split at hi
  ·rename_i hb;obtain⟨h1,h2⟩:=h e (mz ..) hb;rcases pv.1 hi with rfl|hi
   ·exact h1
   ·rcases o3.1 hi with hi|hi
    ·exact h2 i hi
    ·exact ih i hi
  ·exact ih i hi
theorem qz3[Dr]{listed:Array Bool}(hc:uz all listed):∀ (k j:Nat) (o:Oper),all[j]? = some o->(∀ e ∈ o.after,Region.binds .any e=true->listed.getD e.on false=true)->∀ i ∈ ancs all k j,listed.getD i false=true
 |0,_,_,_,_,i,hi=>by cases hi
 |k+1,j,o,ho,he,i,hi=>by
  simp only [ancs,js8,ho] at hi;refine ya7 o.after.toList (fun e hm hb=>?_) i hi;have h1:=he e (gx.2 hm) hb;refine⟨h1,?_⟩;cases hq:all[e.on]? with
  |some q=>exact qz3 hc k e.on q hq (hc e.on q hq h1)
  |none =>
   intro i hi;cases k with
   |zero=>cases hi
   |succ k=>simp only [ancs,js8,hq] at hi;cases hi
end
section
variable{F:Fence}{n:Nat}{P:Program}{Q Q':Exit->Act->World->Prop}{w:World}
theorem ye9[Dr]{all:List Oper}{listed:Array Bool}{j:Nat}{p:Oper}(hc:uz all listed)(hp:all[j]? = some p)(hj:j<listed.size)(h2:∀ e ∈ p.after,Region.binds .any e=true->listed.getD e.on false=true):uz all (listed.setIfInBounds j true):=by
 intro i q hq hi e he hb;rw [xi _ _ _ hj] at hi ⊢;by_cases e1:i=j
 ·subst e1;rw [hp] at hq;cases hq;rw[h2 e he hb];rfl
 ·rw [po e1,Bool.or_false] at hi;rw[hc i q hq hi e he hb];rfl
theorem ya1[Dr]{ρ ρ':Operand->Value}{o:Oper}(hi:qb8 o.op=true)(h:∀ y ∈ o.op.operands,ρ y=ρ' y):execOp ρ o=execOp ρ' o:=by
 by_cases h1:wt o.op=true
 ·exact ye2 h1 h
 obtain⟨dst,op,ty,after,guard⟩:=o;replace hi:qb8 op=true:=hi;replace h:∀ y ∈ op.operands,ρ y=ρ' y:=h;replace h1:¬ wt op=true:=h1;cases op <;> first|exact(bp hi).elim|exact(h1 rfl).elim|skip
 case indexAddr t x y=>simp only[execOp,h x (by simp[Op.operands]),h y (by simp[Op.operands])]
 case binOp op t x y q=>simp only[execOp,h x (by simp[Op.operands]),h y (by simp[Op.operands])]
 case convert t t' x=>simp only[execOp,h x (by simp[Op.operands])]
 case alloc t=>rfl
 case extract x k=>simp only[execOp,h x (by simp[Op.operands])]
 case lookup t x y c=>simp only[execOp,h x (by simp[Op.operands]),h y (by simp[Op.operands])]
 case mapEntry t x y=>simp only[execOp,h x (by simp[Op.operands]),h y (by simp[Op.operands])]
 case call c =>
  obtain⟨cl,args,tys⟩:=c;cases cl <;> first|exact(bp hi).elim|exact(h1 rfl).elim|skip
  rename_i f;have hf:ρ f=ρ' f:=h f (by simp[Op.operands,Call.operands]);have ha:args.map ρ=args.map ρ':=sv fun y hy=>h y (by simp[Op.operands,Call.operands];exact .inr (by simpa using hy))
  simp only[execOp,resolve,hf,ha]
theorem yc0[Dr]{ro:Option Nat}{ρ ρ':Operand->Value}{o:Oper}(hi:qb8 o.op=true)(h:∀ y ∈ o.op.operands,ρ y=ρ' y):o.semAt ro ρ=o.semAt ro ρ':=by
 have hnd:∀ c,o.op≠.defer c:=fun c e=>by rw [e] at hi;cases hi
 rw[Oper.semAt_eq _ _ _ hnd,Oper.semAt_eq _ _ _ hnd];exact ya1 hi h
theorem jx4[Dr]{ρ ρ':Operand->Value}{o:Oper}(hi:qb8 o.op=true)(h:∀ y ∈ o.op.operands,ρ y=ρ' y):o.about P w ρ=o.about P w ρ':=by
 by_cases h1:wt o.op=true
 ·exact yb0 h1 h
 obtain⟨dst,op,ty,after,guard⟩:=o;replace hi:qb8 op=true:=hi;replace h1:¬ wt op=true:=h1;replace h:∀ y ∈ op.operands,ρ y=ρ' y:=h;cases op <;> first|rfl|skip
 case call c =>
  obtain⟨cl,args,tys⟩:=c;cases cl <;> first|exact(bp hi).elim|exact(h1 rfl).elim|skip
  rename_i f;have hf:ρ f=ρ' f:=h f (by simp[Op.operands,Call.operands]);have ha:args.map ρ=args.map ρ':=sv fun y hy=>h y (by simp[Op.operands,Call.operands];exact .inr (by simpa using hy))
  simp only[Oper.about,resolve,hf,ha]
structure Free(ops:Array Oper)(i:Nat)(o:Oper)(d:Nat):Prop where
 at':ops[i]? = some o
 dst:o.dst=some d
 guards:∀ (j:Nat) (p:Oper),ops[j]? = some p->p.guard=none
 rest:∀ (j:Nat) (p:Oper),j≠i->ops[j]? = some p->(∃ e ∈ o.after,Region.binds .any e=true/\e.on=j) \/
  (∃ e ∈ p.after,Region.binds .any e=true/\e.on=i) \/
  (qb8 p.op=true/\p.dst≠some d/\(∀ t,p.dst=some t->.tmp t ∉ o.op.operands)/\.tmp d ∉ p.op.operands/\(ldOp o.op=true->qt9 p.op=true))\/i ∈ ancs ops.toList 8 j
variable{ops:Array Oper}{o:Oper}{i d:Nat}
theorem jp5[Dr](hg:∀ (j:Nat) (p:Oper),ops[j]? = some p->p.guard=none)(hq:∀ e a w,Q' e a w->e = .normal)(hqq:∀ a w,Q' .normal a w->Q .normal a w):∀ (fuel:Nat) (listed:Array Bool) (a:Act) (w:World),wpAnyIn F n P .any ops Q' fuel listed a w->wpAnyIn F n P .any ops Q fuel listed a w:=by
 intro fuel;induction fuel with
 |zero=>exact fun l a w h=>⟨h.1,hqq _ _ h.2⟩
 |succ fuel ih =>
  intro l a w h;refine⟨fun he=>hqq _ _ (h.1 he),fun j hj=>?_⟩;have hh:=h.2 j hj;cases hp:ops[j]? with
  |none=>unfold wpOpIn at hh ⊢;rw [hp] at hh ⊢;exact ih _ _ _ hh
  |some p =>
   rw [vq hp (hg j p hp)] at hh ⊢;exact qk5 rfl rfl hq (fun v w' h=>ih _ _ _ h) (fun d w' h=>ih _ _ _ h) hh
theorem xb3[Dr](hI:Free ops i o d)(hq:∀ e a w,Q' e a w->e = .normal)(hqq:∀ a w,Q' .normal a w->Q .normal a w){V:Operand->Value}{v:Value}{w0:World}(hpv:∀ (a:Act) (w:World) (K:Act->World->Prop),(ldOp o.op=true->w=w0)->(∀ y ∈ o.op.operands,a.eval y=V y)->K (a.put (some d) v) w->o.wpIn F n P a w K Q) :
 ∀ (fuel:Nat) (listed:Array Bool) (a:Act) (w:World),uz ops.toList listed->(ldOp o.op=true->w=w0)->listed.size=ops.size->listed.getD i false=false->(∀ e ∈ o.after,Region.binds .any e=true->listed.getD e.on false=true)->(∀ y ∈ o.op.operands,a.eval y=V y) ->
 wpAnyIn F n P .any ops Q' fuel (listed.setIfInBounds i true) (a.put (some d) v) w->wpAnyIn F n P .any ops Q (fuel+1) listed a w:=by
 have hii:i<ops.size:=(m7.1 hI.at').1;have first:∀ (a:Act) (w:World) (K:Act->World->Prop),(ldOp o.op=true->w=w0)->(∀ y ∈ o.op.operands,a.eval y=V y)->K (a.put (some d) v) w->wpOpIn F n P ops Q i K a w:=by
  intro a w K hw hV hK;rw[vq hI.at' (hI.guards i o hI.at')];exact hpv a w K hw hV hK
 have zero:∀ listed:Array Bool,listed.size=ops.size->listed.getD i false=false->(∀ e ∈ o.after,Region.binds .any e=true->listed.getD e.on false=true)->i ∈ Region.ready .any ops listed:=fun listed hl h0 hd=>(yg hl).2 ⟨o,hI.at',h0,hd⟩
 have more:∀ listed:Array Bool,listed.size=ops.size->∀ j,j≠i->j ∈ Region.ready .any ops listed->j ∈ Region.ready .any ops (listed.setIfInBounds i true):=fun listed hl j hj h=>by
  obtain⟨p,hp,h1,h2⟩:=(yg hl).1 h;refine(yg (by simp[hl])).2 ⟨p,hp,?_,fun e he hb=>?_⟩
  ·rw[xi _ _ _ (by omega),h1];simp[hj]
  ·rw[xi _ _ _ (by omega),h2 e he hb]
   rfl
 have allQ:=jp5 (F:=F) (n:=n) (P:=P) (ops:=ops) hI.guards hq hqq;intro fuel;induction fuel with
 |zero =>
  intro listed a w hc hw hl h0 hd hV h;refine⟨fun he=>?_,fun j hj=>?_⟩
  ·have:=zero listed hl h0 hd;rw [he] at this;cases this
  ·by_cases hj0:j=i
   ·subst hj0;exact first a w _ hw hV ⟨h.1,hqq _ _ h.2⟩
   ·have:=more listed hl j hj0 hj;rw [h.1] at this;cases this
 |succ fuel ih =>
  intro listed a w hc hw hl h0 hd hV h;refine⟨fun he=>?_,fun j hj=>?_⟩
  ·have:=zero listed hl h0 hd;rw [he] at this;cases this
  ·by_cases hj0:j=i
   ·subst hj0;exact first a w _ hw hV (allQ _ _ _ _ h)
   ·have hm:=more listed hl j hj0 hj;obtain⟨p,hp,h1,h2⟩:=(yg hl).1 hj;rcases hI.rest j p hj0 hp with⟨e,he,hb,hon⟩|⟨e,he,hb,hon⟩|⟨r2,r3,r4,r5,r6⟩|hanc
    ·have:=hd e he hb;rw [hon,h1] at this;cases this
    ·have:=h2 e he hb;rw [hon,h0] at this;cases this
    rotate_left
    ·have:=qz3 hc 8 j p (by simpa using hp) h2 i hanc;rw [h0] at this;cases this
    have hjl:j<listed.size:=by have:=(m7.1 hp).1;omega
    have hny:∀ y ∈ p.op.operands,y≠.tmp d:=fun y hy e=>r5 (e ▸ hy)
    have hev:∀ y ∈ p.op.operands,(a.put (some d) v).eval y=a.eval y:=fun y hy=>jb9 (hny y hy)
    have hh:=h.2 j hm;rw [vq hp (hI.guards j p hp)] at hh ⊢;have hcomm:(listed.setIfInBounds i true).setIfInBounds j true=(listed.setIfInBounds j true).setIfInBounds i true:=Array.setIfInBounds_comm _ _ (fun e=>hj0 e.symm);have hset0:(listed.setIfInBounds j true).getD i false=false:=by
     rw[xi _ _ _ hjl,h0];simp[Ne.symm hj0]
    have hc':uz ops.toList (listed.setIfInBounds j true):=ye9 hc (by simpa using hp) hjl h2;have hd':∀ e ∈ o.after,Region.binds .any e=true->(listed.setIfInBounds j true).getD e.on false=true:=fun e he hb=>by
     rw[xi _ _ _ hjl,hd e he hb];rfl
    have hex:∀ (b:Act) (u:Value) (y:Operand),y ∈ o.op.operands->(b.put p.dst u).eval y=b.eval y:=fun b u y hy=>by
     cases hdp:p.dst with
     |none=>rfl
     |some t=>exact jb9 (fun e=>r4 t hdp (e ▸ hy))
    cases hld:ldOp o.op with
    |true =>
     refine zm8 (r6 hld) (yc0 r2 hev) (jx4 r2 hev) hq (fun u hk=>?_) hh;refine ih _ _ _ hc' hw (by simp[hl]) hset0 hd' (fun y hy=>(hex a u y hy).trans (hV y hy)) ?_;rw [hcomm] at hk;rw[<-qs0 a r3];exact hk
    |false =>
     have hno:∀ w':World,ldOp o.op=true->w'=w0:=fun w' e=>by rw [hld] at e;cases e
     refine qk5 (yc0 r2 hev) (jx4 r2 hev) hq (fun u w' hk=>?_) (fun dd w' hk=>?_) hh
     ·refine ih _ _ _ hc' (hno _) (by simp[hl]) hset0 hd' (fun y hy=>(hex a u y hy).trans (hV y hy)) ?_;rw [hcomm] at hk;rw[<-qs0 a r3];exact hk
     ·refine ih _ _ _ hc' (hno _) (by simp[hl]) hset0 hd' (fun y hy=>(hex _ _ y hy).trans (hV y hy)) ?_;rw [hcomm] at hk;rw[<-qs0 _ r3];exact hk
end
theorem qz8[Dr]{i:Nat}:∀ {l:List Edge},qo1 i l=true->∃ e ∈ l,Region.binds .any e=true/\e.on=i
 |[],h=>by cases h
 |e :: l,h=>by
  simp only [qo1] at h;split at h
  ·rename_i hb;split at h
   ·rename_i h0;exact⟨e,mz ..,hb,bq h0⟩
   ·obtain⟨e',h1,h2⟩:=qz8 h;exact⟨e',m8 _ h1,h2⟩
  ·obtain⟨e',h1,h2⟩:=qz8 h;exact⟨e',m8 _ h1,h2⟩
theorem yk4[Dr]{all:List Oper}{i d:Nat}{o:Oper}:∀ (l:List Oper) (k:Nat),wa all i o d k l=true->∀ (j:Nat) (p:Oper),k+j≠i->l[j]? = some p->(∃ e ∈ o.after,Region.binds .any e=true/\e.on=k+j) \/
 (∃ e ∈ p.after,Region.binds .any e=true/\e.on=i) \/
 (qb8 p.op=true/\p.dst≠some d/\(∀ t,p.dst=some t->.tmp t ∉ o.op.operands)/\.tmp d ∉ p.op.operands/\(ldOp o.op=true->qt9 p.op=true))\/i ∈ ancs all 8 (k+j)
 |[],_,_,j,p,_,hp=>by simp at hp
 |a :: l,k,h,0,p,hne,hp=>by
  simp at hp;subst hp;simp only [wa] at h;split at h
  ·rename_i hb;exact absurd (bq hb).symm hne
  ·split at h
   ·rename_i he;obtain⟨e,h1,h2,h3⟩:=qz8 he;exact .inl ⟨e,gx.2 h1,h2,h3⟩
   ·split at h
    ·rename_i hz;obtain⟨e,h1,h2,h3⟩:=qz8 hz;exact .inr (.inl ⟨e,gx.2 h1,h2,h3⟩)
    ·split at h
     ·rename_i h1 h2 h3 h4;have hoff:∀ t,a.dst=some t->t ∉ (d :: xk o.op.operands.toList):=fun t ht hm=>by
       rw [ht] at h2;simp only [qf1] at h2;split at h2
       ·cases h2
       ·rename_i hn;exact qs4 hn hm
      refine .inr (.inr (.inl ⟨h1,fun e=>hoff d e (mz ..),fun t ht hm=>hoff t ht (m8 _ (qy5 (gx.1 hm))),fun hd=>absurd (qy5 (gx.1 hd)) (qs4 h4),fun hl=>?_⟩));simp only [yx0,hl] at h3;exact h3
     ·split at h
      ·rename_i hm;exact .inr (.inr (.inr (jq5 hm)))
      ·cases h
 |a :: l,k,h,j+1,p,hne,hp=>by
  have hrest:wa all i o d (k+1) l=true:=by
   simp only [wa] at h
   repeat' split at h
   all_goals first|exact h|cases h
  have:=yk4 l (k+1) hrest j p (by omega) (by simpa using hp);rw [show k+1+j=k+(j+1) from by omega] at this;exact this
theorem ja5[Dr]{all:List Oper}:∀ (l:List Oper) (i:Nat) (K:List Bool->Prop),xu all i l K->∃ fr,K fr/\∀ (j:Nat),atB fr j=true->∃ o d,l[j]? = some o/\o.dst=some d/\qn8 o.op=true/\wa all (i+j) o d 0 all=true
 |[],_,K,h=>⟨[],h,fun j hj=>by simp [atB] at hj⟩
 |o :: r,i,K,h=>by
  have tail:∀ (b:Bool) (_:b=true->∃ d,o.dst=some d/\qn8 o.op=true/\wa all i o d 0 all=true),xu all (i+1) r (fun l=>K (b :: l))->∃ fr,K fr/\∀ (j:Nat),atB fr j=true->∃ o' d,(o :: r)[j]? = some o'/\o'.dst=some d/\qn8 o'.op=true/\wa all (i+j) o' d 0 all=true:=fun b hb h=>by
   obtain⟨fr,h1,h2⟩:=ja5 r (i+1) _ h;refine⟨b :: fr,h1,fun j hj=>?_⟩;cases j with
   |zero =>
    obtain⟨d,a1,a2,a3⟩:=hb (by simpa[atB] using hj);exact⟨o,d,rfl,a1,a2,a3⟩
   |succ j =>
    obtain⟨o',d,a1,a2,a3,a4⟩:=h2 j (by simpa[atB] using hj);exact⟨o',d,by simpa using a1,a2,a3,by rw[show i+(j+1)=i+1+j from by omega];exact a4⟩
  simp only [xu] at h;split at h
  ·rename_i d h1 h2;split at h
   ·rename_i h3;exact tail true (fun _=>⟨d,h1,h2,h3⟩) h
   ·exact tail false (fun e=>by cases e) h
  ·exact tail false (fun e=>by cases e) h
theorem qd1[Dr]:∀ {l:List Oper},wh l=true->∀ o ∈ l,o.guard=none
 |[],_,o,ho=>by cases ho
 |a :: l,h,o,ho=>by
  simp only [wh] at h;split at h
  ·rename_i hg;rcases pv.1 ho with rfl|ho
   ·exact hg
   ·exact qd1 h o ho
  ·cases h
theorem yo4[Dr]{ts:List SV}{fr done:List Bool}:∀ (l:List Oper) (k:Nat) {i:Nat} {o:Oper},qb4 ts fr done k l=some (i,o)->∃ j,i=k+j/\l[j]? = some o/\atB done i=false/\atB fr i=true/\xx done o.after.toList=true/\qm9 ts o.op=true
 |[],_,_,_,h=>by simp [qb4] at h
 |a :: l,k,i,o,h=>by
  have tail:qb4 ts fr done (k+1) l=some (i,o)->∃ j,i=k+j/\(a :: l)[j]? = some o/\atB done i=false/\atB fr i=true/\xx done o.after.toList=true/\qm9 ts o.op=true:=fun h=>by
   obtain⟨j,a1,a2⟩:=yo4 l (k+1) h;exact⟨j+1,by omega,by simpa using a2⟩
  simp only [qb4] at h;split at h
  ·exact tail h
  ·rename_i h1;split at h
   ·rename_i h2;split at h
    ·rename_i h3;split at h
     ·rename_i h4;cases h;exact⟨0,rfl,rfl,h1,h2,h3,h4⟩
     ·exact tail h
    ·exact tail h
   ·exact tail h
section
variable{P:Program}{TT:Nat->Option TI}{B:Bs}{w:World}{β:Env}{fp:Nat->Nat->Prop}{ts:List SV}{ks:List KB}{a:Act}{rd:Option Nat}{n:Nat}{Q:Exit->Act->World->Prop}
theorem yi8{k:IntKind}{i m:Int}{c:BoundsCode}{v:Value}{w w':World}(h:(boundsPanic k i m c:Sem Value).run P w = .ok v w'):False:=by
 have np:∀ (x y:Int) (s:Bool) (w1:World),(runtimePanic (.bounds x y s c):Sem Value).run P w1≠.ok v w':=fun x y s w1 hc=>by
  simp [runtimePanic,goPanic] at hc
 unfold boundsPanic at h
 dsimp only at h
 split at h
 ·rw [p6] at h;generalize (Sem.run P _ w)=r at h;cases r with
  |ok s w1=>exact np _ _ _ _ h
  |halt x w1=>cases h
 ·rw [p6] at h;simp only [oy,p9] at h;exact np _ _ _ _ h
theorem zy6[Dr]{t:TypeId}{ad:Option Addr}{m c:Nat}{k:IntKind}{ix:Int}{v:Value}{w w':World}(h:(Instr.indexAt t (.slice ad m c) (.int k ix)).run P w = .ok v w):(Instr.indexAt t (.slice ad m c) (.int k ix)).run P w' = .ok v w':=by
 cases hu:P.underlying t with
 |none=>simp [Instr.indexAt,asIntOf,underlying,hu] at h
 |some d =>
  cases d <;> simp [Instr.indexAt,asIntOf,run_underlying hu,Instr.sureAddr] at h ⊢
  rename_i e;cases ad with
  |none=>exact(yi8 (by simpa using h)).elim
  |some a =>
   simp only at h ⊢;split at h
   ·rename_i hix;rw[if_pos hix];cases hi:P.info? e with
    |none=>simp [sizeOf,typeInfo,hi] at h
    |some info=>simp [sizeOf,typeInfo,hi] at h ⊢;exact h
   ·exact(yi8 (by simpa using h)).elim
theorem xe7[Dr]{o:Oper}{ρ ρ':Operand->Value}{M:Nat->Prop}(hTT:TTok P TT){K:SV->Prop}(hpev:pev P TT ts ks o.op K)(hp:qn8 o.op=true)(hn:qm9 ts o.op=true)(hT:∀ x,Den w M β (val ts x) (ρ x)){v:Value}(h:(execOp ρ o).run P w = .ok (.value v) w)(he:∀ y ∈ o.op.operands,ρ' y=ρ y)(w':World)(hw:ldOp o.op=true->w'=w):(execOp ρ' o).run P w' = .ok (.value v) w':=by
 have hid:qb8 o.op=true:=by
  cases ho:o.op <;> rw [ho] at hp <;> first|rfl|exact (bp hp).elim
 rw[ya1 hid he];cases hld:ldOp o.op with
 |true =>
  have:=hw hld;subst this;exact h
 |false =>
 cases ho:o.op with
 |load t x=>rw [ho] at hld;cases hld
 |nilCheck x =>
  rw [ho] at hpev;simp only [pev,qm] at hpev;simp only [execOp,ho] at h ⊢;have hv:=hT x;generalize ρ x=av at hv h ⊢;split at hpev
  ·rename_i hx;rw [hx] at hv;cases hv;simpa using h
  ·rename_i hx;rw [hx] at hv;cases hv;simpa using h
  ·rename_i hx;rw [hx] at hv;cases hv;simpa using h
  ·rename_i hx;rw [hx] at hv;cases hv;simpa using h
  ·rename_i hx;rw [hx] at hv;cases hv with
   |npNil _=>exact absurd rfl hpev.1
   |np _ n L hL=>simpa using h
  ·rename_i hx;rw [hx] at hv;cases hv;simpa using h
  ·exact hpev.elim
 |fieldAddr s x f =>
  rw [ho] at hpev;simp only [pev,qm] at hpev;simp only [execOp,ho] at h ⊢;have hv:=hT x;generalize ρ x=av at hv h ⊢;split at hpev
  ·rename_i size bytes agg zero fs eqk ht;split at hpev
   ·rename_i off ft hf;rw [jd8] at hf;obtain⟨info,d,z,hi,hu,_,_,_,_,_,_,_,_,fields,rfl,hsz,hfs⟩:=qi hTT ht;obtain⟨fd,fi,hfd,hoff,hty,hfi,hz⟩:=hfs f off ft hf;have hrun:=fun w1 ad=>jy2 (w:=w1) hu hfd (by rw[hty];exact hfi) hz ad
    split at hpev
    ·rename_i hx;rw [hx] at hv;cases hv;simp only [p6,hrun] at h ⊢;simpa using h
    ·rename_i hx;rw [hx] at hv;cases hv;simp only [p6,hrun] at h ⊢;simpa using h
    ·rename_i hx;rw [hx] at hv;cases hv;simp only [p6,hrun] at h ⊢;simpa using h
    ·rename_i hx;rw [hx] at hv;cases hv;simp only [p6,hrun] at h ⊢;simpa using h
    ·exact hpev.elim
   ·exact hpev.elim
  ·exact hpev.elim
 |move x=>simp only [execOp,ho] at h ⊢;simpa using h
 |assign x=>simp only [execOp,ho] at h ⊢;simpa using h
 |extract x k =>
  simp only [execOp,ho,p6] at h ⊢;unfold Instr.extract at h ⊢;generalize ρ x=av at h ⊢;cases av <;> simp at h ⊢
  split at h <;> simp_all
 |binOp op t x y q =>
  rw [ho] at hn hp;simp only [qm9] at hn;split at hn
  ·rename_i k p hx;split at hn
   ·rename_i k' p' hy;have hv:=hT x;have hw:=hT y;rw [hx] at hv;rw [hy] at hw;have e1:=ja hv;have e2:=ja hw;have hk:=wr hn;subst hk;cases op <;> first|exact(bp hp).elim|skip
    ·simp [execOp,ho,e1,e2,eqGuard,binOp,Op.intArith] at h ⊢;exact h
    ·simp [execOp,ho,e1,e2,eqGuard,binOp,Op.intArith] at h ⊢;exact h
   ·cases hn
  ·cases hn
 |indexAddr t x y =>
  rw [ho] at hn;simp only [qm9] at hn;split at hn
  ·rename_i k p hy;have hw:=hT y;rw [hy] at hw;have e2:=ja hw;have hv:=hT x;have hs:∃ ad m c,ρ x = .slice ad m c:=by
    generalize ρ x=av at hv;split at hn
    ·rename_i hx;rw [hx] at hv;cases jb hv
     ·exact⟨_,_,_,rfl⟩
     ·exact⟨_,_,_,rfl⟩
    ·rename_i hx;rw [hx] at hv;cases hv <;> exact⟨_,_,_,rfl⟩
    ·rename_i hx;rw [hx] at hv;cases hv <;> exact⟨_,_,_,rfl⟩
    ·cases hn
   obtain⟨ad,m,c,e1⟩:=hs;simp only [execOp,ho,e1,e2,p6] at h ⊢;cases hr:(Instr.indexAt t (.slice ad m c) (.int k p)).run P w with
   |ok u w1 =>
    rw [hr] at h;simp at h;obtain⟨rfl,rfl⟩:=h;rw[zy6 hr];simp
   |halt x w1=>rw [hr] at h;simp at h
  ·cases hn
 |_=>rw [ho] at hp;exact (bp hp).elim
theorem ji1[Dr]{ops:Array Oper}(hTT:TTok P TT){fr:List Bool}(hfr:∀ (j:Nat),atB fr j=true->∃ o d,ops.toList[j]? = some o/\o.dst=some d/\qn8 o.op=true/\wa ops.toList j o d 0 ops.toList=true)(hng:∀ o ∈ ops.toList,o.guard=none){K:List SV->List KB->Prop}
 (hQ:∀ ts ks a w β fp,K ts ks->Sat B w β fp ts ks a->Q .normal a w):∀ (k:Nat) (done:List Bool) (ts:List SV) (ks:List KB) (a:Act) (w:World) (β:Env) (fp:Nat->Nat->Prop),done.length=ops.size->uz ops.toList done.toArray->xd P TT ops.toList fr K k done ts ks->Sat B w β fp ts ks a->wpAnyIn (ql rd) n P .any ops (fun e a w=>e = .normal/\Q .normal a w) k done.toArray a w:=by
 intro k;induction k with
 |zero =>
  intro done ts ks a w β fp hl hcl h hS;simp only [xd] at h;split at h
  ·rename_i hd;refine⟨?_,rfl,hQ _ _ _ _ _ _ h hS⟩;rw[az];intro i hi;obtain⟨o,ho,h1,_⟩:=(mem_ready hl).1 hi;have:i<ops.toList.length:=(pq.1 ho).1;rw [qv7,xq4 hd i (by simpa [hl] using this)] at h1;cases h1
  ·cases h
 |succ k ih =>
  intro done ts ks a w β fp hl hcl h hS;have hed:∀ o:Oper,xx done o.after.toList=true->∀ e ∈ o.after,Region.binds .any e=true->done.toArray.getD e.on false=true:=fun o h3 e he hb=>by
   rw [jm4,l8] at h3;have:=h3 e (gx.1 he);rw [hb] at this;simpa using this
  have hcm:∀ (i:Nat) (o:Oper),ops.toList[i]? = some o->xx done o.after.toList=true->uz ops.toList (vk done i).toArray:=fun i o ho he=>by
   have hi:i<done.toArray.size:=by
    have:=(pq.1 ho).1;simp at this ⊢;omega
   have:=ye9 hcl ho hi (hed o he);rw[qi6];simpa using this
  simp only [xd] at h;split at h
  ·rename_i i o hpk;obtain⟨j,hj,ho,h1,h2,h3,h4⟩:=yo4 _ _ hpk;rw [ox] at hj;subst hj;obtain⟨o',d,ho',hd,hpu,hfo⟩:=hfr i h2;rw [ho] at ho';obtain rfl:=p7 ho';have hoi:ops[i]? = some o:=by simpa using ho
   have hI:Free ops i o d:=⟨hoi,hd,fun j p hp=>hng p (ov (by simpa using hp)),fun j p hne hp=>by
    have:=yk4 ops.toList 0 hfo j p (by omega) (by simpa using hp);rw [ox] at this;exact this⟩
   have hex:exec P TT o ts ks (fun _ ts' ks'=>xd P TT ops.toList fr K k (vk done i) ts' ks')=pev P TT ts ks o.op (fun v=>j7 o.dst v ts (fun ts'=>xd P TT ops.toList fr K k (vk done i) ts' ks)):=by
    cases hop:o.op with
    |move=>simp only[exec,hop,x5,wm,b9]
    |assign=>simp only[exec,hop,x5,wm,b9]
    |binOp=>simp only[exec,hop,x5,wm,b9]
    |indexAddr=>simp only[exec,hop,x5,wm,b9]
    |extract=>simp only[exec,hop,x5,wm,b9]
    |load=>simp only[exec,hop,x5,wm,b9]
    |nilCheck=>simp only[exec,hop,x5,wm,b9]
    |fieldAddr=>simp only[exec,hop,x5,wm,b9]
    |_=>rw [hop] at hpu;exact (bp hpu).elim
   rw [hex] at h;have hpv:=h;have hval:∀ x,Den w (Mx B.X fp) β (val ts x) (a.eval x):=hS.val;obtain⟨s,v,hK,hrun,hden⟩:=qz7 hTT h hval (fun i L kk a1 a2 a3=>⟨_,hS.went.mem.kb i L kk a1 a2 a3⟩) hS.went.mem.apart;rw [hd] at hK;simp only [j7,vt] at hK;have hS':Sat B w β fp (setT ts d s) ks (a.put (some d) v):=hS.put d hden;have hrec:=ih (vk done i) _ ks _ w β fp (by rw[qi6];simpa using hl) (hcm i o ho h3) hK hS';rw [qi6] at hrec;have hnd:∀ c,o.op≠.defer c:=fun c e=>by rw [e] at hpu;cases hpu
   refine xb3 (Q':=fun e a w=>e = .normal/\Q .normal a w) (V:=a.eval) (v:=v) (w0:=w) hI (fun e a w h=>h.1) (fun a w h=>h) (fun a' w' K' hw he hk=>?_) k done.toArray a w hcl (fun _=>rfl) (by simpa using hl) (by rw [qv7] at h1;simpa using h1) (fun e he hb=>?_) (fun _ _=>rfl) (by simpa using hrec)
   ·unfold Oper.wpIn;rw[Oper.semAt_eq _ _ _ hnd];have hpa:=xe7 (w:=w) (M:=Mx B.X fp) (β:=β) hTT hpv hpu h4 hval hrun he w' hw;refine⟨fun f hf=>?_,?_⟩
    ·cases hop:o.op with
     |move=>simp [Oper.about,hop] at hf
     |assign=>simp [Oper.about,hop] at hf
     |binOp=>simp [Oper.about,hop] at hf
     |indexAddr=>simp [Oper.about,hop] at hf
     |extract=>simp [Oper.about,hop] at hf
     |load=>simp [Oper.about,hop] at hf
     |nilCheck=>simp [Oper.about,hop] at hf
     |fieldAddr=>simp [Oper.about,hop] at hf
     |_=>rw [hop] at hpu;exact (bp hpu).elim
    ·rw[hpa];show K' (a'.put o.dst v) w';rw[hd];exact hk
   ·rw [jm4,l8] at h3;have:=h3 e (gx.1 he);rw [hb] at this;simpa using this
  ·split at h
   ·rename_i hr;refine⟨fun he=>?_,fun i hi=>?_⟩
    ·obtain⟨j,o,h1,h2,h3⟩:=zf3 _ _ hr;rw [ox] at h2;have:j ∈ Region.ready .any ops done.toArray:=(mem_ready hl).2 ⟨o,h1,h2,h3⟩;rw [he] at this;cases this
    ·obtain⟨o,ho,h1,h2⟩:=(mem_ready hl).1 hi;have hF:=zr1 _ _ h i o ho (by rw[ox];exact h1) h2;rw [ox] at hF;split at hF
     ·rename_i hg;have hi':ops.toList.toArray[i]? = some o:=by
       rw [f7] at ho;simpa using ho
      split at hF
      ·have:wpOpIn (ql rd) n P ops.toList.toArray (fun e a w=>e = .normal/\Q .normal a w) i (wpAnyIn (ql rd) n P .any ops (fun e a w=>e = .normal/\Q .normal a w) k (done.toArray.setIfInBounds i true)) a w:=by
        unfold wpOpIn;have hw:=qh7 (all:=ops.toList) (o:=o) (b:=true) hS.slot (by simp[yj,hg]);simp only[hi',hw,if_true];refine yg9 hTT hF hS.went.mem hS.val (fun s k1 v w' β' fp' hk hW hden=>?_);rw [ke] at hk;have:=ih (vk done i) _ _ _ w' β' fp' (by rw[qi6];simpa using hl) (hcm i o ho h2) hk ((hS.on hW).put _ hden);rw [qi6] at this;simpa using this
       simpa using this
      obtain⟨hd,s,k1,hev,hk⟩:=yw2 hF;have hst:Stp P TT ops.toList ts ks o hd s k1:=.ev (by simp[yj,hg]) hev;have:=yg2 (rd:=rd) (n:=n) (Q:=fun e a w=>e = .normal/\Q .normal a w) (next:=wpAnyIn (ql rd) n P .any ops (fun e a w=>e = .normal/\Q .normal a w) k (done.toArray.setIfInBounds i true)) hTT hst hi' hS (fun v w' β' fp' hS'=>by
       have:=ih (vk done i) _ _ _ w' β' fp' (by rw[qi6];simpa using hl) (hcm i o ho h2) hk hS';rw [qi6] at this;simpa using this)
      simpa using this
     ·exact hF.elim
   ·cases h
theorem jw0[Dr](hTT:TTok P TT)(hmix:P.follows .mixedOrders=true){ops:Array Oper}{id:Nat}{w:World}{β:Env}{fp:Nat->Nat->Prop}{ts ts':List SV}{ks ks':List KB}{a:Act}(hng:wh ops.toList=true)(h:xu ops.toList 0 ops.toList (fun fr=>xd P TT ops.toList fr (fun t k=>t=ts'/\k=ks') ops.toList.length (xw ops.toList) ts ks))(hS:Sat B w β fp ts ks a)
 (hQ:∀ a' w' β' fp',Sat B w' β' fp' ts' ks' a'->Q .normal a' w'):(Code.region id ops true).wpIn (ql rd) n P Q a w:=by
 refine wpIn_region_any hmix ?_;have hS0:Sat B { w with drawn:=w.drawn+1 } β fp ts ks a:=hS.on (hS.went.mem.quiet ⟨rfl,rfl,rfl,pr _,fun _ _ _=>rfl,fun _=>by first|exact pr _|exact Nat.le_succ _⟩);obtain⟨fr,h,hfr⟩:=ja5 _ _ _ h;have:=ji1 (rd:=rd) (n:=n) (B:=B) (Q:=Q) hTT (fr:=fr) (fun j hj=>by
  obtain⟨o,d,a1,a2,a3,a4⟩:=hfr j hj;rw [ox] at a4;exact⟨o,d,a1,a2,a3,a4⟩) (qd1 hng) (K:=fun t k=>t=ts'/\k=ks') (fun t k a w β fp hk hS=>by
  obtain⟨rfl,rfl⟩:=hk;exact hQ _ _ _ _ hS) ops.toList.length (xw ops.toList) ts ks a _ β fp (by rw [u9];simp) (fun i o _ hi=>by rw [u9] at hi;simp [Array.getD] at hi) h hS0
 rw [u9] at this;have:=jp5 (Q':=fun e a w=>e = .normal/\Q .normal a w) (Q:=Q) (fun j p hp=>qd1 hng p (ov (by simpa using hp))) (fun e a w h=>h.1) (fun a w h=>h.2) _ _ _ _ this;simpa using this
theorem Sat.forget[Dr]{w:World}{β:Env}{fp:Nat->Nat->Prop}{ks:List KB}{a:Act}:∀ (l:List Nat) {ts:List SV},Sat B w β fp ts ks a->Sat B w β fp (ww l ts) ks a
 |[],_,h=>h
 |d :: l,ts,h=>Sat.forget l (ts:=setT ts d .any) ⟨h.went,h.df,by rw[zo,gn];exact h.len,fun t s v hs hv=>by
  rw [zo,oq] at hs;split at hs
  ·split at hs
   ·obtain rfl:=p7 hs;exact .any _
   ·cases hs
  ·exact h.tm t s v hs hv⟩
theorem yk2(k:List SV->Prop):∀ (l:List Nat) (ts:List SV),qf2 l ts k=k (ww l ts)
 |[],_=>rfl
 |d :: l,ts=>by
  show setK ts d .any (fun l'=>qf2 l l' k)=k (ww l (setT ts d .any));rw[vt,yk2 k l]
theorem ze6[Dr](hTT:TTok P TT)(hmix:P.follows .mixedOrders=true){ops:Array Oper}{id:Nat}{w:World}{β:Env}{fp:Nat->Nat->Prop}{ts:List SV}{ks ks':List KB}{a:Act}{W:List Nat}(hng:wh ops.toList=true)(h:xu ops.toList 0 ops.toList (fun fr=>xd P TT ops.toList fr (fun t k=>ww W t=ww W ts/\k=ks') ops.toList.length (xw ops.toList) ts ks))(hS:Sat B w β fp ts ks a)
 (hQ:∀ a' w' β' fp',Sat B w' β' fp' (ww W ts) ks' a'->Q .normal a' w'):(Code.region id ops true).wpIn (ql rd) n P Q a w:=by
 refine wpIn_region_any hmix ?_;have hS0:Sat B { w with drawn:=w.drawn+1 } β fp ts ks a:=hS.on (hS.went.mem.quiet ⟨rfl,rfl,rfl,pr _,fun _ _ _=>rfl,fun _=>by first|exact pr _|exact Nat.le_succ _⟩);obtain⟨fr,h,hfr⟩:=ja5 _ _ _ h;have:=ji1 (rd:=rd) (n:=n) (B:=B) (Q:=Q) hTT (fr:=fr) (fun j hj=>by
  obtain⟨o,d,a1,a2,a3,a4⟩:=hfr j hj;rw [ox] at a4;exact⟨o,d,a1,a2,a3,a4⟩) (qd1 hng) (K:=fun t k=>ww W t=ww W ts/\k=ks') (fun t k a w β fp hk hS=>by
  obtain⟨h1,rfl⟩:=hk;have:=Sat.forget W hS;rw [h1] at this;exact hQ _ _ _ _ this) ops.toList.length (xw ops.toList) ts ks a _ β fp (by rw [u9];simp) (fun i o _ hi=>by rw [u9] at hi;simp [Array.getD] at hi) h hS0
 rw [u9] at this;have:=jp5 (Q':=fun e a w=>e = .normal/\Q .normal a w) (Q:=Q) (fun j p hp=>qd1 hng p (ov (by simpa using hp))) (fun e a w h=>h.1) (fun a w h=>h.2) _ _ _ _ this;simpa using this
end
end
section
theorem jn1[Dr]:∀ (p:Nat) (l:List Oper),xm p l=l.take p
 |0,_=>by simp[xm]
 |_+1,[]=>rfl
 |p+1,o :: l=>by rw[List.take_succ_cons,<-jn1 p l];rfl
theorem qt2[Dr]:∀ (p:Nat) (l:List Oper),u4 p l=l.drop p
 |0,l=>by cases l <;> rfl
 |_+1,[]=>rfl
 |p+1,o :: l=>by rw[List.drop_succ_cons,<-qt2 p l];rfl
theorem ya8[Dr]{l:List Nat}:∀ {j:Nat},jc6 l j=true->∀ i,i<j->i ∈ l
 |0,_,i,hi=>absurd hi (gy _)
 |j+1,h,i,hi=>by
  simp only [jc6] at h;split at h
  ·rename_i e;rcases oo i j with hl|hl
   ·exact ya8 h i hl
   ·have:i=j:=by omega
    rw[this];exact jq5 e
  ·cases h
theorem qx1[Dr]{j:Nat}:∀ {l:List Edge},qr2 j l=true->∀ e ∈ l,Region.binds .any e=true->e.on<j
 |[],_,e,he=>by cases he
 |a :: l,h,e,he=>by
  simp only [qr2] at h;intro hb;split at h
  ·rename_i ha;split at h
   ·rename_i hlt;rcases pv.1 he with rfl|he
    ·rw [Nat.blt_eq] at hlt;exact hlt
    ·exact qx1 h e he hb
   ·cases h
  ·rename_i ha;rcases pv.1 he with rfl|he
   ·rw [hb] at ha;cases ha
   ·exact qx1 h e he hb
structure Ser(all:List Oper)(p:Nat):Prop where
 back:∀ (j:Nat) (o:Oper),all[j]? = some o->∀ e ∈ o.after,Region.binds .any e=true->e.on<j
 chain:∀ (j:Nat) (o:Oper),all[j]? = some o->p<=j->∀ i,i<j->i ∈ ancs all 8 j
theorem jn2[Dr]{all:List Oper}{p:Nat}:∀ (l:List Oper) (k:Nat),qo7 all p l k=true->∀ (j:Nat) (o:Oper),l[j]? = some o->(∀ e ∈ o.after,Region.binds .any e=true->e.on<k+j)/\(p<=k+j->∀ i,i<k+j->i ∈ ancs all 8 (k+j))
 |[],_,_,j,o,ho=>by simp at ho
 |a :: l,k,h,j,o,ho=>by
  simp only [qo7] at h;split at h
  case h_2=>cases h
  rename_i he;have tail:qo7 all p l (k+1)=true->∀ (j:Nat) (o:Oper),(a :: l)[j+1]? = some o->(∀ e ∈ o.after,Region.binds .any e=true->e.on<k+(j+1))/\(p<=k+(j+1)->∀ i,i<k+(j+1)->i ∈ ancs all 8 (k+(j+1))):=fun h j o ho=>by
   have:=jn2 l (k+1) h j o (by simpa using ho);rw [show k+1+j=k+(j+1) from by omega] at this;exact this
  split at h
  ·rename_i hlt;cases j with
   |succ j=>exact tail h j o ho
   |zero =>
    simp at ho;subst ho;rw [Nat.blt_eq] at hlt;exact⟨fun e h1 h2=>qx1 he e (gx.1 h1) h2,fun h1=>by omega⟩
  ·split at h
   case h_2=>cases h
   rename_i hab;cases j with
   |succ j=>exact tail h j o ho
   |zero =>
    simp at ho;subst ho;exact⟨fun e h1 h2=>qx1 he e (gx.1 h1) h2,fun _ i hi=>ya8 hab i hi⟩
theorem jz5[Dr]{all:List Oper}:∀ (l:List Oper) (k:Nat) {p:Nat},ql9 all l k=some p->p<k+l.length
 |[],_,_,h=>by cases h
 |o :: l,k,p,h=>by
  have tail:ql9 all l (k+1)=some p->p<k+(l.length+1):=fun h=>by have:=jz5 l (k+1) h;omega
  simp only [ql9] at h;split at h
  ·split at h
   ·cases h;simp
   ·exact tail h
  ·exact tail h
theorem jb1[Dr]{all:List Oper}{p:Nat}(h:qo8 all=some p):p<all.length/\wh all=true/\Ser all p:=by
 simp only [qo8] at h;split at h
 case h_1=>cases h
 rename_i p' hp';split at h
 case h_2=>cases h
 rename_i hng;split at h
 case h_2=>cases h
 rename_i hs;cases h;have:=jz5 all 0 hp';refine⟨by omega,hng,fun j o ho=>?_,fun j o ho hj i hi=>?_⟩
 ·have:=(jn2 all 0 hs j o ho).1
  rwa [ox] at this
 ·have:=(jn2 all 0 hs j o ho).2;rw [ox] at this;exact this hj i hi
section
variable{F:Fence}{n:Nat}{P:Program}{Q:Exit->Act->World->Prop}{all:List Oper}{p:Nat}
theorem xd1[Dr](hs:Ser all p)(hng:∀ o ∈ all,o.guard=none):∀ (d m fuel:Nat) (listed:Array Bool) (a:Act) (w:World),m+d=all.length->p<=m->d<=fuel->listed.size=all.length->(∀ i,i<m->listed.getD i false=true)->(∀ i,m<=i->i<all.length->listed.getD i false=false)->uz all listed ->
 wpOpsIn F n P all.toArray Q (List.range' m d) a w->wpAnyIn F n P .any all.toArray Q fuel listed a w:=by
 intro d;induction d with
 |zero =>
  intro m fuel listed a w hm _ _ hsz hlo _ _ h;refine wpAnyIn_done ?_ (by simpa[wpOpsIn] using h) fuel;apply az.2;intro j hj;obtain⟨o,ho,h1,_⟩:=(yg (by simpa using hsz)).1 hj;have hj:j<all.length:=by simpa using(m7.1 ho).1
  rw [hlo j (by omega)] at h1;cases h1
 |succ d ih =>
  intro m fuel listed a w hm hpm hf hsz hlo hhi hc h;obtain⟨f,rfl⟩:∃ f,fuel=f+1:=⟨fuel - 1,by omega⟩;have hml:m<all.length:=by omega
  have hmo:all.toArray[m]? = some all[m]:=by simp[hml]
  have hmo':all[m]? = some all[m]:=pp hml;have hrm:m ∈ Region.ready .any all.toArray listed:=(yg (by simpa using hsz)).2 ⟨all[m],hmo,hhi m (pr _) hml,fun e he hb=>hlo e.on (hs.back m _ hmo' e he hb)⟩;rw [ao,wpOpsIn_cons] at h;refine ⟨fun e=>(by rw [e] at hrm;cases hrm),fun j hj=>?_⟩;obtain⟨o,ho,h1,h2⟩:=(yg (by simpa using hsz)).1 hj;have hjl:j<all.length:=by simpa using(m7.1 ho).1
  have ho':all[j]? = some o:=by simpa using ho
  have hjm:j=m:=by
   rcases ct j m with hl|hl|hl
   ·rw [hlo j hl] at h1;cases h1
   ·exact hl
   ·have:=qz3 hc 8 j o ho' h2 m (hs.chain j o ho' (by omega) m hl);rw [hhi m (pr _) hml] at this;cases this
  subst hjm;refine wpOpIn_mono (fun a' w' h'=>ih (j+1) f _ a' w' (by omega) (by omega) (by omega) (by simpa using hsz) (fun i hi=>?_) (fun i h3 h4=>?_) ?_ h') h
  ·rw[xi _ _ _ (by omega)];by_cases e:i=j
   ·subst e;simp
   ·rw[hlo i (by omega)];rfl
  ·rw[xi _ _ _ (by omega),hhi i (by omega) h4];simp;omega
  ·intro i q hq hi e he hb;rw [xi _ _ _ (by omega)] at hi ⊢;by_cases e1:i=j
   ·subst e1;rw [ho'] at hq;cases hq;rw[h2 e he hb];rfl
   ·rw [po e1,Bool.or_false] at hi;rw[hc i q hq hi e he hb];rfl
theorem yj5[Dr]{f:Nat->Bool}:∀ p:Nat,(∀ i,i<p->f i=true)\/∃ j,j<p/\f j=false/\∀ i,i<j->f i=true
 |0=>.inl fun i hi=>absurd hi (gy _)
 |p+1=>by
  rcases yj5 (f:=f) p with h|⟨j,h1,h2,h3⟩
  ·cases e:f p
   ·exact .inr ⟨p,l5 _,e,h⟩
   ·refine .inl fun i hi=>?_
    rcases oo i p with hl|hl
    ·exact h i hl
    ·have:i=p:=by omega
     rw[this];exact e
  ·exact .inr ⟨j,by omega,h2,h3⟩
theorem yu3[Dr](hs:Ser all p)(hp:p<all.length)(hng:∀ o ∈ all,o.guard=none):∀ (fuel:Nat) (lp listed:Array Bool) (a:Act) (w:World),lp.size=p->listed.size=all.length->(∀ i,i<p->listed.getD i false=lp.getD i false)->(∀ i,p<=i->i<all.length->listed.getD i false=false)->uz all listed ->
 wpAnyIn F n P .any (all.take p).toArray (fun e a w=>e = .normal/\wpOpsIn F n P all.toArray Q (List.range' p (all.length - p)) a w) fuel lp a w->wpAnyIn F n P .any all.toArray Q (fuel+(all.length - p)) listed a w:=by
 have hpl:(all.take p).toArray.size=p:=by simp;omega
 have hpo:∀ (j:Nat),j<p->(all.take p).toArray[j]? = all.toArray[j]?:=fun j hj=>by
  simp[List.getElem?_take_of_lt hj]
 have least:∀ (lp:Array Bool),lp.size=p->(∀ i,i<p->lp.getD i false=true)\/∃ j,j ∈ Region.ready .any (all.take p).toArray lp/\j<p/\lp.getD j false=false:=fun lp hl=>by
  rcases yj5 (f:=fun i=>lp.getD i false) p with h|⟨j,h1,h2,h3⟩
  ·exact .inl h
  ·have hjl:j<all.length:=by omega
   refine .inr ⟨j,(yg (by rw[hpl,hl])).2 ⟨all[j],by rw[hpo j h1];simp[hjl],h2,fun e he hb=>h3 e.on (hs.back j _ (pp hjl) e he hb)⟩,h1,h2⟩
 have done:∀ (lp listed:Array Bool) (a:Act) (w:World) (fuel:Nat),lp.size=p->listed.size=all.length->(∀ i,i<p->listed.getD i false=lp.getD i false)->(∀ i,p<=i->i<all.length->listed.getD i false=false)->uz all listed->(∀ i,i<p->lp.getD i false=true)->wpOpsIn F n P all.toArray Q (List.range' p (all.length - p)) a w->wpAnyIn F n P .any all.toArray Q (fuel+(all.length - p)) listed a w:=fun lp listed a w fuel h1 h2 h3 h4 h5 h6 h =>
  xd1 hs hng (all.length - p) p _ listed a w (by omega) (pr _) (by omega) h2 (fun i hi=>(h3 i hi).trans (h6 i hi)) h4 h5 h
 intro fuel;induction fuel with
 |zero =>
  intro lp listed a w h1 h2 h3 h4 h5 H;rcases least lp h1 with h6|⟨j,hj,_⟩
  ·exact done lp listed a w 0 h1 h2 h3 h4 h5 h6 H.2.2
  ·rw [H.1] at hj;cases hj
 |succ fuel ih =>
  intro lp listed a w h1 h2 h3 h4 h5 H;rcases least lp h1 with h6|⟨j0,hj0,hj1,hj2⟩
  ·refine done lp listed a w (fuel+1) h1 h2 h3 h4 h5 h6 (H.1 ?_).2;apply az.2;intro j hj;obtain⟨o,ho,k1,_⟩:=(yg (by rw[hpl,h1])).1 hj;have hj:j<p:=by have:=(m7.1 ho).1;rwa [hpl] at this
   rw [h6 j hj] at k1;cases k1
  ·rw[show fuel+1+(all.length - p)=fuel+(all.length - p)+1 from by omega];have hsz:listed.size=all.toArray.size:=by simpa using h2
   refine⟨fun e=>?_,fun j hj=>?_⟩
   ·obtain⟨o,ho,k1,k2⟩:=(yg (by rw[hpl,h1])).1 hj0;have:j0 ∈ Region.ready .any all.toArray listed:=(yg hsz).2 ⟨o,by rw[<-hpo j0 hj1];exact ho,(h3 j0 hj1).trans hj2,fun e he hb=>by
     have hlt:e.on<j0:=hs.back j0 o (by rw [hpo j0 hj1] at ho;simpa using ho) e he hb;rw[h3 e.on (by omega)];exact k2 e he hb⟩
    rw [e] at this;cases this
   ·obtain⟨o,ho,k1,k2⟩:=(yg hsz).1 hj;have ho':all[j]? = some o:=by simpa using ho
    have hjl:j<all.length:=(pq.1 ho').1;have hjp:j<p:=by
     rcases oo j p with hl|hl
     ·exact hl
     ·have:=qz3 h5 8 j o ho' k2 j0 (hs.chain j o ho' hl j0 (by omega));rw [h3 j0 hj1,hj2] at this;cases this
    have hg:o.guard=none:=hng o (ov ho');have hjr:j ∈ Region.ready .any (all.take p).toArray lp:=(yg (by rw[hpl,h1])).2 ⟨o,by rw[hpo j hjp];exact ho,by rw[<-h3 j hjp];exact k1,fun e he hb=>by
     have hlt:e.on<j:=hs.back j o ho' e he hb;rw[<-h3 e.on (by omega)];exact k2 e he hb⟩
    have hh:=H.2 j hjr;rw [vq (by rw [hpo j hjp];exact ho) hg] at hh;rw[vq ho hg];have next:∀ (a':Act) (w':World),wpAnyIn F n P .any (all.take p).toArray (fun e a w=>e = .normal/\wpOpsIn F n P all.toArray Q (List.range' p (all.length - p)) a w) fuel (lp.setIfInBounds j true) a' w'->wpAnyIn F n P .any all.toArray Q (fuel+(all.length - p)) (listed.setIfInBounds j true) a' w':=fun a' w' h'=>by
     refine ih (lp.setIfInBounds j true) (listed.setIfInBounds j true) a' w' (by simpa using h1) (by simpa using h2) (fun i hi=>?_) (fun i h7 h8=>?_) (fun i q hq hi e he hb=>?_) h'
     ·rw[xi _ _ _ (by omega),xi _ _ _ (by omega),h3 i hi]
     ·rw[xi _ _ _ (by omega),h4 i h7 h8];simp;omega
     ·rw [xi _ _ _ (by omega)] at hi ⊢;by_cases e1:i=j
      ·subst e1;rw [ho'] at hq;cases hq;rw[k2 e he hb];rfl
      ·rw [po e1,Bool.or_false] at hi;rw[h5 i q hq hi e he hb];rfl
    exact qk5 rfl rfl (fun e a w h=>h.1) (fun v w' h=>next _ _ h) (fun d w' h=>next _ _ h) hh
end
section
variable{P:Program}{TT:Nat->Option TI}{B:Bs}{w:World}{β:Env}{fp:Nat->Nat->Prop}{ts:List SV}{ks:List KB}{a:Act}{rd:Option Nat}{n:Nat}{Q:Exit->Act->World->Prop}
theorem zo1[Dr](hTT:TTok P TT)(hmix:P.follows .mixedOrders=true){ops:Array Oper}{p:Nat}(hp:qo8 ops.toList=some p){hs:List Bool}(hdr:kh (ops.toList.take p) hs=true){id:Nat}{ts':List SV}{ks':List KB}(h:Tr P TT (ops.toList.take p) (ops.toList.take p) ts ks ts' ks' hs)(hS:Sat B w β fp ts ks a)
 (hQ:∀ a' w' β' fp',Sat B w' β' fp' ts' ks' a'->wpOpsIn (ql rd) n P ops.toList.toArray Q (List.range' p (ops.toList.length - p)) a' w'):(Code.region id ops true).wpIn (ql rd) n P Q a w:=by
 obtain⟨hpl,hng,hser⟩:=jb1 hp;obtain⟨S,T,κ,e1,e2,e3,e4,e5,hw⟩:=h.places;have hdr:=jm5 hdr;refine wpIn_region_any hmix ?_;have hS0:Sat B { w with drawn:=w.drawn+1 } β fp (T 0) (κ 0) a:=by
  rw[e1,e2];exact hS.on (hS.went.mem.quiet ⟨rfl,rfl,rfl,pr _,fun _ _ _=>rfl,fun _=>by first|exact pr _|exact Nat.le_succ _⟩)
 have hlen:(ops.toList.take p).length=p:=by rw[lu];omega
 have hrep:∀ (k i:Nat),(Array.replicate k false).getD i false=false:=fun k i=>by
  simp[Array.getD]
 obtain⟨h',hI⟩:=Inv.start hw hdr (m:=0) (pz _) (listed:=Array.replicate p false) (by rw[Array.size_replicate,hlen]) (fun i hi=>by
  rw[hrep];simp) hS0
 have hpre:=jm9 (rd:=rd) (n:=n) (Q:=fun e a w=>e = .normal/\wpOpsIn (ql rd) n P ops.toList.toArray Q (List.range' p (ops.toList.length - p)) a w) hTT hw hdr (fun a' w' β' fp' hS'=>⟨rfl,hQ a' w' β' fp' (by rw[<-e3,<-e4];exact hS')⟩) p _ a _ 0 h' (List.range p) hI (fun i hi _=>by simpa[hlen] using hi) (by simp);have:=yu3 hser hpl (qd1 hng) p (Array.replicate p false) (Array.replicate ops.size false) a _ (by simp) (by simp) (fun i _=>by rw [hrep,hrep]) (fun i _ _=>hrep _ _) (fun i o _ hi=>by rw [hrep] at hi;cases hi) hpre;rw[show p+(ops.toList.length - p)=ops.size from by
  have:ops.toList.length=ops.size:=by simp
  omega] at this
 simpa using this
theorem zi8[Dr](hTT:TTok P TT)(hmix:P.follows .mixedOrders=true){ops:Array Oper}{p:Nat}(hp:qo8 ops.toList=some p){id:Nat}{ts':List SV}{ks':List KB}(h:xu (ops.toList.take p) 0 (ops.toList.take p) (fun fr=>xd P TT (ops.toList.take p) fr (fun t k=>t=ts'/\k=ks') p (xw (ops.toList.take p)) ts ks))(hS:Sat B w β fp ts ks a)
 (hQ:∀ a' w' β' fp',Sat B w' β' fp' ts' ks' a'->wpOpsIn (ql rd) n P ops.toList.toArray Q (List.range' p (ops.toList.length - p)) a' w'):(Code.region id ops true).wpIn (ql rd) n P Q a w:=by
 obtain⟨hpl,hng,hser⟩:=jb1 hp;refine wpIn_region_any hmix ?_;have hS0:Sat B { w with drawn:=w.drawn+1 } β fp ts ks a:=hS.on (hS.went.mem.quiet ⟨rfl,rfl,rfl,pr _,fun _ _ _=>rfl,fun _=>by first|exact pr _|exact Nat.le_succ _⟩);have hlen:(ops.toList.take p).length=p:=by rw[lu];omega
 have hrep:∀ (k i:Nat),(Array.replicate k false).getD i false=false:=fun k i=>by
  simp[Array.getD]
 obtain⟨fr,h,hfr⟩:=ja5 _ _ _ h;have hpre:=ji1 (rd:=rd) (n:=n) (B:=B) (Q:=fun _ a w=>wpOpsIn (ql rd) n P ops.toList.toArray Q (List.range' p (ops.toList.length - p)) a w) (ops:=(ops.toList.take p).toArray) hTT (fr:=fr) (fun j hj=>by
  obtain⟨o,d,a1,a2,a3,a4⟩:=hfr j hj;rw [ox] at a4;exact⟨o,d,a1,a2,a3,a4⟩) (fun o ho=>qd1 hng o (gt ho)) (K:=fun t k=>t=ts'/\k=ks') (fun t k a w β fp hk hS=>by
  obtain⟨rfl,rfl⟩:=hk;exact hQ _ _ _ _ hS) p (xw (ops.toList.take p)) ts ks a _ β fp (by rw [u9];simp) (fun i o _ hi=>by rw [u9] at hi;simp [Array.getD] at hi) h hS0
 rw [u9,hlen] at hpre;have:=yu3 hser hpl (qd1 hng) p (Array.replicate p false) (Array.replicate ops.size false) a _ (by simp) (by simp) (fun i _=>by rw [hrep,hrep]) (fun i _ _=>hrep _ _) (fun i o _ hi=>by rw [hrep] at hi;cases hi) (by simpa using hpre);rw[show p+(ops.toList.length - p)=ops.size from by
  have:ops.toList.length=ops.size:=by simp
  omega] at this
 simpa using this
end
end
section
section
variable{P:Program}{TT:Nat->Option TI}{IN:Nat->Option Inl}{B:Bs}{w:World}{β:Env}{fp:Nat->Nat->Prop}{ts:List SV}{ks:List KB}{a:Act}
theorem zv2[Dr](hTT:TTok P TT)(hS:Sat B w β fp ts ks a):∀ (rs:List ResultVar) (c:List SV->Prop),resK TT ts ks rs c->∃ (ss:List SV) (vs:List Value),c ss/\ss.length=vs.length/\vs.length=rs.length /\
 (∀ (j:Nat) (s:SV) (u:Value),ss[j]? = some s->vs[j]? = some u->Den w (Mx B.X fp) β s u) /\
 (rs.mapM fun(r:ResultVar)=>(match r with
  | .tmp t=>pure (a.tmps.getD t undef)
  | .cell b t=>do loadVar t (<- asAddr (a.tmps.getD b undef)):Sem Value)).run P w = .ok vs w:=by
 have slot:∀ t:Nat,Den w (Mx B.X fp) β (getT ts t) (a.tmps.getD t undef):=fun t=>by
  have:=hS.val (.tmp t);simpa only[Go.Eng.val,Act.eval] using this
 intro rs;induction rs with
 |nil=>intro c h;exact⟨[],[],h,rfl,rfl,by simp,by simp⟩
 |cons r rs ih =>
  intro c h;cases r with
  |tmp t =>
   simp only [resK,qd9] at h;obtain⟨ss,vs,hc,h1,h2,h3,h4⟩:=ih _ h;refine⟨getT ts t :: ss,a.tmps.getD t undef :: vs,hc,by simp[h1],by simp[h2],fun j s u hs hu=>?_,by
    simp only[List.mapM_cons,p6,oy,p9,h4]⟩
   cases j with
   |zero=>simp only [bu,my] at hs hu;rw [<-hs,<-hu];exact slot t
   |succ j=>exact h3 j s u (by simpa using hs) (by simpa using hu)
  |cell t ty =>
   simp only [resK] at h;split at h
   ·cases h
   ·rename_i size bytes agg zero desc eqk hty;rw [qd9] at h;have hv:=slot t;split at h
    ·rename_i i off hx;rw [hx] at hv;have ev:∃ L,β i=some L/\a.tmps.getD t undef = .pointer (some ⟨L.b,off,none⟩):=by
      generalize a.tmps.getD t undef=av at hv;cases hv with
      |ptr _ _ L hL=>exact⟨L,hL,rfl⟩
     obtain⟨L,hL,ev⟩:=ev;rw [qs] at h;split at h
     ·rename_i t' l hg;have hk:=hS.went.mem.at (qk hg (by simp)) (by simp) hL;cases hk with
      |cells _ _ vs hfp hb hl hd h1 =>
       obtain⟨r0,v0,hK,hr,hd'⟩:=qk8 (w:=w) (M:=Mx B.X fp) (β:=β) hTT hty ⟨L.b,0,none⟩ l off vs.toList (by simpa using hl) (fun j s u hs hu=>hd j s u hs (by simpa using hu)) (fun u hu=>by
        obtain⟨j,hj,rfl⟩:=o9.1 hu;exact h1 j _ (by simp)) (fun j u hu=>by
        rw[yc];simpa[World.cell?,hb] using hu) h
       rw [yc,ox] at hr;obtain⟨ss,us,hc,e1,e2,e3,e4⟩:=ih _ hK;refine⟨r0 :: ss,v0 :: us,hc,by simp[e1],by simp[e2],fun j s u hs hu=>?_,?_⟩
       ·cases j with
        |zero=>simp only [bu,my] at hs hu;rw [<-hs,<-hu];exact hd'
        |succ j=>exact e3 j s u (by simpa using hs) (by simpa using hu)
       ·have ha:(asAddr (a.tmps.getD t undef)).run P w = .ok ⟨L.b,off,none⟩ w:=by rw[ev];rfl
        simp only[List.mapM_cons,p6,ha,oy,p9,hr,e4]
     ·cases h
    ·cases h
theorem qq2[Dr](hTT:TTok P TT){fn:Func}(hS:Sat B w β fp ts ks a){c:List SV->Prop}(h:resK TT ts ks fn.results.toList c):∃ (ss:List SV) (us:List Value) (v:Value),c ss/\ss.length=us.length/\(∀ (j:Nat) (s:SV) (u:Value),ss[j]? = some s->us[j]? = some u->Den w (Mx B.X fp) β s u) /\
 (results fn a.tmps).run P w = .ok v w/\v=(if hh:us.toArray.size=1 then us.toArray[0] else .tuple us.toArray)/\Den w (Mx B.X fp) β (retV ss) v:=by
 obtain⟨ss,us,hc,e1,e2,e3,e4⟩:=zv2 (P:=P) hTT hS _ _ h;refine⟨ss,us,_,hc,e1,e3,?_,rfl,?_⟩
 ·have e4':(fn.results.mapM fun(r:ResultVar)=>(match r with
   | .tmp t=>pure (a.tmps.getD t undef)
   | .cell b t=>do loadVar t (<- asAddr (a.tmps.getD b undef)):Sem Value)).run P w = .ok us.toArray w:=by
   rw[Array.mapM_eq_mapM_toList];simp only[Sem.run_map,e4,p9]
  unfold results;simp only[p6];exact(congrArg (fun r=>Result.andThen r _) e4').trans rfl
 ·unfold retV;split
  ·rename_i s;have hu1:us.length=1:=by rw[<-e1];rfl
   match us,hu1,e3 with
   |[u],_,e3=>exact e3 0 s u rfl rfl
  ·rename_i l hne;have hu1:¬ us.toArray.size=1:=fun e=>by
    have:ss.length=1:=by rw[e1];simpa using e
    match ss,this with
    |[s],_=>exact hne s rfl
   rw[dif_neg hu1];exact .tup ss us e1 e3
theorem Went.other[Dr]{X:Nat->Prop}{w0:World}{β0:Env}{fp0:Nat->Nat->Prop}(h:Went X w0 β0 fp0 w β fp ks){r:Nat}{ob o:Obj}(hr:w.heap[r]? = some ob)(hob:∀ c e f,ob≠.cells c e f)(h0:w0.heap.size<=r)(hM:¬ Mx X fp r) :
 Went X w0 β0 fp0 (World.setBlock w r o) β fp ks/\Keep (Mx X fp) w (World.setBlock w r o):=by
 have hk:Keep (Mx X fp) w (World.setBlock w r o):=⟨by simp[World.setBlock],fun p u _ hp=>by
  have hne:p.block≠r:=fun e=>by
   unfold World.cell? at hp;rw [e,hr] at hp;split at hp
   ·rename_i c e f heq;cases heq;exact hob _ _ _ rfl
   ·cases hp
  have:=x6 w r p.block o hne;unfold World.cell? at hp ⊢;rw[this];exact hp⟩
 have hm:=h.mem;refine⟨⟨⟨⟨fun b hb=>by simpa[World.setBlock] using hm.xa b hb,hm.xb,hm.dis,fun i b hb=>by simpa[World.setBlock] using hm.kw i b hb,hm.kn,fun i L k hki hne hL=>?_⟩,hm.kl,hm.ka,fun p hp=>?_⟩,⟨h.st.os,h.st.tape,h.st.output,by simpa[World.setBlock] using h.st.size,fun b hb hn=>?_,h.st.dr⟩,h.ext,h.own⟩,hk⟩
 ·exact(hm.kb i L k hki hne hL).keep hk (fun _ _ e=>e) (Ext.refl _) (fun b hb=>x6 w r b o (fun e=>hM (.inr ⟨i,e ▸ hb⟩)))
 ·obtain⟨⟨vs,t,fz,e,h1⟩,h2⟩:=hm.vo p hp;have hne:p.1≠r:=fun e1=>by
   rw [e1,hr] at e;cases e;exact hob _ _ _ rfl
  exact⟨⟨vs,t,fz,(x6 w r p.1 o hne).trans e,h1⟩,h2⟩
 ·rw[x6 w r b o (by omega)];exact h.st.block b hb hn
theorem qq4[Dr]{F:Fence}{n:Nat}{fn:Func}{R:Ending->World->Prop}(hfin:∀ w',Sat B w' β fp ts ks { a with defers:=[] }->∃ v,(results fn a.tmps).run P w' = .ok v w'/\R (.returned v) w') :
 ∀ (ds:List Deferred) (w:World),Sat B w β fp ts ks { a with defers:=ds }->LeavesInM F n P fn a.tmps R ds .returning w:=by
 intro ds;induction ds with
 |nil=>intro w hS;exact hfin w hS
 |cons d ds ih =>
  intro w hS;obtain⟨r,hd,h0,hr,hM⟩:=hS.df.marks d (by simp);obtain⟨hW,hk⟩:=hS.went.other (o:=.deferred none) hr (fun _ _ _ e=>by cases e) h0 hM;refine⟨by simp,.inl ⟨r,World.setBlock w r (.deferred none),hd,?_,ih _ ⟨hW,⟨fun d' hd'=>?_,(fy.1 hS.df.un).2⟩,hS.len,fun t s v hs hv=>(hS.tm t s v hs hv).keep hk (fun _ _ e=>e) (Ext.refl _)⟩⟩⟩
  ·have hg:(getObj r).run P w = .ok (.deferred (some [])) w:=by simp[getObj,Sem.run,hr]
   have hs:(setObj r (.deferred none)).run P w = .ok () (World.setBlock w r (.deferred none)):=by simp[setObj,Sem.run,hr,World.setBlock]
   simp[Instr.takeDeferred,hg,hs]
  ·obtain⟨r',e1,e2,e3,e4⟩:=hS.df.marks d' (by simp[hd']);have hne:=(fy.1 hS.df.un).1 d' hd' r r' hd e1;exact⟨r',e1,e2,by rw[x6 w r r' _ (Ne.symm hne)];exact e3,e4⟩
def E(P:Program)(rd:Option Nat)(n:Nat)(SJ:(List SV->List KB->Prop)->Act->World->Prop)(Q:Exit->Act->World->Prop):List It->Exit->Act->World->Prop
 |[],e,a,w=>Q e a w
 | .code c :: r,.normal,a,w=>c.wpIn (ql rd) n P (E P rd n SJ Q r) a w
 | .code _ :: r,e,a,w=>E P rd n SJ Q r e a w
 | .ops _ _ all os :: r,.normal,a,w=>wpOpsIn (ql rd) n P all.toArray (E P rd n SJ Q r) (List.range' (all.length - os.length) os.length) a w
 | .ops _ _ _ _ :: r,e,a,w=>E P rd n SJ Q r e a w
 | .blk id :: r,.exit id',a,w=>if id'=id then E P rd n SJ Q r .normal a w else E P rd n SJ Q r (.exit id') a w
 | .blk _ :: r,e,a,w=>E P rd n SJ Q r e a w
 | .scp :: _,.goto _,_,_=>False
 | .scp :: r,e,a,w=>E P rd n SJ Q r e a w
 | .lp J :: _,.normal,a,w=>SJ J a w
 | .lp _ :: r,e,a,w=>E P rd n SJ Q r e a w
 | .again c :: r,.normal,a,w=>qk3 (ql rd) n P c (E P rd n SJ Q r) a w
 | .again _ :: r,e,a,w=>E P rd n SJ Q r e a w
theorem qk4{P:Program}{b:Frame}{a:Act}{k:List Item}{cs:List Frame}{w:World}{c:Code}:step P (lone (b.atR a (.code (.scope c) :: k)) cs w) = .next (lone (b.atR a (.code c :: .inScope c :: k)) cs w) :=
 step_lone_go (by simp[stepG,stepG.exec,Frame.atR])
theorem ze3{P:Program}{b:Frame}{a:Act}{k:List Item}{cs:List Frame}{w:World}{c:Code}:step P (lone (b.atR a (.inScope c :: k)) cs w) = .next (lone (b.atR a k) cs w) :=
 step_lone_go (by simp[stepG,stepG.exec,Frame.atR])
theorem zm7[Dr]{P:Program}{F:Fence}{n:Nat}{a:Act}{w:World}{Q:Exit->Act->World->Prop}{c:Code}(h:c.wpIn F n P (Exit.noGoto Q) a w):(Code.scope c).wpIn F n P Q a w:=by
 intro b k cs hro hb hr;have h0:(lone (b.atR a (.code (.scope c) :: k)) cs w).fenced P F:=fenced_calm hb hr rfl;obtain⟨e,a₁,w₁,hq,harr⟩:=h b (.inScope c :: k) cs hro hb hr;cases e with
 |normal=>exact⟨.normal,a₁,w₁,hq,.head h0 qk4 (StepsIn.trans harr (.one (fenced_calm hb hr rfl) ze3))⟩
 |exit id' =>
  have hx:exitTo id' (.inScope c :: k)=exitTo id' k:=by simp[exitTo]
  exact⟨.exit id',a₁,w₁,hq,fun k' hk=>.head h0 qk4 (harr.1 k' (by rw[hx];exact hk)),
   fun hr' hk=>let ⟨k₁,h1,h2⟩:=harr.2 hr' (by rw[hx];exact hk);⟨k₁,h1,.head h0 qk4 h2⟩⟩
 |goto l=>exact hq.elim
 |ret=>exact⟨_,a₁,w₁,hq,.of_steps (.one h0 qk4) harr⟩
 |panic ch=>exact⟨_,a₁,w₁,hq,.of_steps (.one h0 qk4) harr⟩
 |outgrown=>exact⟨_,a₁,w₁,hq,.of_steps (.one h0 qk4) harr⟩
def qb6:List It->Prop
 |[]=>True
 | .ops d _ all os :: r=>d=false/\(∃ i,all.drop i=os)/\qb6 r
 |_ :: r=>qb6 r
variable{rd:Option Nat}{n:Nat}{Q:Exit->Act->World->Prop}{SJ:(List SV->List KB->Prop)->Act->World->Prop}
theorem xv7(r:List It)(a:Act)(w:World)(h:Q .ret a w):E P rd n SJ Q r .ret a w:=by
 induction r with
 |nil=>exact h
 |cons x r ih=>cases x <;> exact ih
theorem xt8[Dr](id:Nat)(r:List It)(a:Act)(w:World):(∀ r',qg0 id r=some r'->E P rd n SJ Q r' .normal a w)->(qg0 id r=none->Q (.exit id) a w)->E P rd n SJ Q r (.exit id) a w:=by
 induction r with
 |nil=>intro _ h;exact h rfl
 |cons x r ih =>
  intro h1 h2;cases x with
  |blk i =>
   simp only[E];simp only [qg0] at h1 h2;by_cases he:id=i
   ·subst he;rw[if_pos rfl];rw [show Nat.beq id id=true from cw id] at h1;exact h1 r rfl
   ·rw[if_neg he];have hb:Nat.beq i id=false:=by
     cases hq:Nat.beq i id with
     |false=>rfl
     |true=>exact absurd (qv hq).symm he
    rw [hb] at h1 h2;exact ih h1 h2
  |scp=>exact ih h1 h2
  |code c=>exact ih h1 h2
  |ops x y=>exact ih h1 h2
  |lp J=>exact ih h1 h2
  |again c=>exact ih h1 h2
theorem xe8{id:Nat}{r r':List It}(h:qg0 id r=some r')(hr:qb6 r):qb6 r':=by
 induction r with
 |nil=>cases h
 |cons x r ih =>
  cases x with
  |blk i =>
   simp only [qg0] at h;split at h
   ·cases h;exact hr
   ·exact ih h hr
  |scp=>exact ih h hr
  |code c=>exact ih h hr
  |ops x y=>exact ih h hr.2.2
  |lp J=>exact ih h hr
  |again c=>exact ih h hr
theorem yq2[Dr](body:Code)(ts:List SV)(ks:List KB)(u:List (Nat × SV))(k:List (Nat × KB)):∃ ts' ks',∀ c',qb9 body ts ks u k c'=c' ts' ks':=by
 have h1:∀ (l:List Nat) (ts:List SV),∃ ts',∀ c,qf2 l ts c=c ts':=by
  intro l;induction l with
  |nil=>intro ts;exact⟨ts,fun _=>rfl⟩
  |cons t l ih=>intro ts;obtain⟨ts',h⟩:=ih (setT ts t .any);exact⟨ts',fun c=>by simp only[qf2,vt];exact h c⟩
 have h2:∀ (l:List (Nat × SV)) (ts:List SV),∃ ts',∀ c,jf8 l ts c=c ts':=by
  intro l;induction l with
  |nil=>intro ts;exact⟨ts,fun _=>rfl⟩
  |cons p l ih=>obtain⟨t,v⟩:=p;intro ts;obtain⟨ts',h⟩:=ih (setT ts t v);exact⟨ts',fun c=>by simp only[jf8,vt];exact h c⟩
 have h3:∀ (l:List (Nat × KB)) (ks:List KB),∃ ks',∀ c,je4 l ks c=c ks':=by
  intro l;induction l with
  |nil=>intro ks;exact⟨ks,fun _=>rfl⟩
  |cons p l ih=>obtain⟨t,v⟩:=p;intro ks;obtain⟨ks',h⟩:=ih (ks.set t v);exact⟨ks',fun c=>by simp only[je4,jp];exact h c⟩
 obtain⟨t1,e1⟩:=h1 (qa7 body) ts;obtain⟨t2,e2⟩:=h2 u t1;obtain⟨k2,e3⟩:=h3 k ks;exact⟨t2,k2,fun c'=>by unfold qb9;rw[e1,e2,e3]⟩
theorem jg2[Dr]{M:Nat->Prop}{x:DV}{v:Value}(h:Den w M β (.d x) v):v=(match x with| .tt=>.bool true| .ff=>.bool false| .bool b=>.bool b|_=>v):=by
 cases jb h <;> rfl
def INok(P:Program)(IN:Nat->Option Inl):Prop:=∀ f i,IN f=some i->∃ fn:Func,P.funcs[f]? = some fn/\fn.body=some i.body/\fn.results.toList=i.results/\fn.ntmps=i.nargs+i.extra/\∀ (args:Array Value) (w:World),(callFunc f args).run P w = .ok (.enter f args) w
theorem xj8(n j:Nat)(s:SV)(h:(anys n)[j]? = some s):s = .any:=by
 induction n generalizing j with
 |zero=>simp [anys] at h
 |succ n ih=>cases j with
  |zero=>simp [anys] at h;exact h.symm
  |succ j=>exact ih j (by simpa[anys] using h)
theorem zm1(n:Nat):(anys n).length=n:=by
 induction n with
 |zero=>rfl
 |succ n ih=>simp[anys,ih]
theorem qr6[Dr]{X:Nat->Prop}(hM:Mem X w β fp ks){as:List SV}{vs:List Value}(hl:as.length=vs.length)(hd:∀ (j:Nat) (s:SV) (u:Value),as[j]? = some s->vs[j]? = some u->Den w (Mx X fp) β s u){k m:Nat}(hm:m=as.length+k) :
 Sat ⟨X,w,β,fp⟩ w β fp (as++anys k) ks { tmps:=vs.toArray++Array.replicate (m - vs.toArray.size) undef,defers:=[] }:=by
 refine⟨Went.refl hM,Dfs.nil _ _ _,by simp[zm1];omega,fun t s v hs hv=>?_⟩;by_cases ht:t<as.length
 ·rw [ot ht] at hs;have hv':vs[t]? = some v:=by
   rw [sq (by simp;omega)] at hv;simpa using hv
  exact hd t s v hs hv'
 ·rw [o5 (by omega)] at hs;rw[xj8 _ _ _ hs];exact .any _
end
end
end Go.Eng
