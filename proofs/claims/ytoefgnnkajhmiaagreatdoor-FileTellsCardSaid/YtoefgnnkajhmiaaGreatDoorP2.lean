/-
  Part of the proof: lemmas about the functions that the row calls, and about the steps of a run. Conditions: those ahead of each lemma.
-/
import Derived.Deep.Upon
import Derived.Laws.MakeOwn
import Derived.Great.BuildSlice
import Derived.Lib.ConvBytes
import Derived.Laws.IdiomCopy
import Derived.Lib.UnsafeStr
import Derived.Maps.RangeRun
import Derived.Test.YtoefgnnkajhmiaaGreatDoorP1
set_option linter.unusedVariables false
set_option linter.unusedSimpArgs false
set_option maxRecDepth 100000
set_option maxHeartbeats 64000000
namespace Go.Eng
open Go Go.RowKit
section
section
variable{P:Program}{TT:Nat->Option TI}{ts:List SV}{ks:List KB}{w:World}{M:Nat->Prop}{β:Env}{a:Act}{K:SV->Prop}{o:Oper}
theorem xl5(k:IntKind):kEq k k=true:=by cases k <;> rfl
theorem js4[Dr]{a b:List EK}(h:ekEq a b=true):a=b:=by
 induction a generalizing b with
 |nil=>cases b with
  |nil=>rfl
  |cons=>cases h
 |cons x a ih=>cases b with
  |nil=>cases x <;> cases h
  |cons y b =>
   cases x <;> cases y <;> simp only [ekEq] at h <;> first|cases h|skip
   ·split at h
    ·rename_i hk;rw[vz hk,ih h]
    ·cases h
   ·rw[ih h]
   ·rw[ih h]
theorem qj9{a b:Bool}(h:bEq a b=true):a=b:=by cases a <;> cases b <;> first|rfl|cases h
theorem yk5{d:DV}{k:IntKind}{n:Int}(h:Rd w M d (.int k n)):d = .int k n:=by cases h;rfl
theorem ye2{d:DV}{b:Bool}(h:Rd w M d (.bool b)):qp9 d=some b:=by cases h <;> rfl
theorem yk4[Dr]{d:DV}{s:ByteArray}(h:Rd w M d (.string s)):d = .str s.toList:=by
 generalize hv:Value.string s=v at h;cases h <;> simp [strV] at hv
 subst hv;rw[uv]
theorem zv9[Dr]{k:EK}{x y:Value}{d e:DV}(hx:fits k x)(hy:fits k y)(hd:Rd w M d x)(he:Rd w M e y):zu k x y=dEq d e:=by
 cases k with
 |int k =>
  cases x <;> simp [fits] at hx
  cases y <;> simp [fits] at hy
  subst hx hy;rw[yk5 hd,yk5 he];simp[zu,dEq,xl5]
 |bool =>
  cases x <;> simp [fits] at hx
  cases y <;> simp [fits] at hy
  have h1:=ye2 hd;have h2:=ye2 he;cases d <;> simp [qp9] at h1 <;> cases e <;> simp [qp9] at h2 <;> simp [zu,dEq,qp9,h1,h2]
 |str =>
  cases x <;> simp [fits] at hx
  cases y <;> simp [fits] at hy
  rw[yk4 hd,yk4 he];simp[zu,dEq]
def RdL(w:World)(M:Nat->Prop)(ds:List DV)(cs:List Value):Prop:=∀ (q:Nat) (d:DV) (u:Value),ds[q]? = some d->cs[q]? = some u->Rd w M d u
theorem qx6[Dr]{eks:List EK}:∀ {xs ys:List Value} {ds es:List DV},xs.length=eks.length->ys.length=eks.length->ds.length=xs.length->es.length=ys.length->Fits eks xs->Fits eks ys->RdL w M ds xs->RdL w M es ys->jm eks xs ys=jo ds es:=by
 induction eks with
 |nil =>
  intro xs ys ds es h1 h2 h3 h4 _ _ _ _;match xs,ys,ds,es,h1,h2,h3,h4 with
  |[],[],[],[],_,_,_,_=>rfl
 |cons k eks ih =>
  intro xs ys ds es h1 h2 h3 h4 f1 f2 r1 r2;match xs,ys,ds,es,h1,h2,h3,h4 with
  |x :: xs,y :: ys,d :: ds,e :: es,h1,h2,h3,h4 =>
   simp only[jm,jo];rw[zv9 (f1 0 k x rfl rfl) (f2 0 k y rfl rfl) (r1 0 d x rfl rfl) (r2 0 e y rfl rfl),ih (by simpa using h1) (by simpa using h2) (by simpa using h3) (by simpa using h4)
    (λj k x a b=>f1 (j+1) k x (by simpa using a) (by simpa using b)) (λj k x a b=>f2 (j+1) k x (by simpa using a) (by simpa using b))
    (λq d u a b=>r1 (q+1) d u (by simpa using a) (by simpa using b)) (λq d u a b=>r2 (q+1) d u (by simpa using a) (by simpa using b))]
structure KeyTy(P:Program)(kt:TypeId)(eks:List EK)(ka:Bool):Prop where
 chk:∀ (w:World) (b:Bool) (kc:List Value),kc.length=eks.length->Fits eks kc->(Instr.checkKey b 10000 kt (q9 ka kc)).run P w = .ok () w
 eq:∀ (w:World) (xs ys:List Value),xs.length=eks.length->ys.length=eks.length->Fits eks xs->Fits eks ys->(Op.equal kt (q9 ka xs) (q9 ka ys)).run P w = .ok (jm eks xs ys) w
 now:∃ d,P.underlying kt=some d/\((∀ (xs ys:List Value),xs.length=eks.length->ys.length=eks.length->Fits eks xs->Fits eks ys->Instr.sameNow d (q9 ka xs) (q9 ka ys)=none) \/
  (∀ (xs ys:List Value),xs.length=eks.length->ys.length=eks.length->Fits eks xs->Fits eks ys->Instr.sameNow d (q9 ka xs) (q9 ka ys)=some (jm eks xs ys)))
def idxM:List (List DV × List SV)->List DV->Nat->Option Nat
 |[],_,_=>none
 |(k,_) :: l,key,i=>if jo key k then some i else idxM l key (i+1)
theorem qs2(l:List (List DV × List SV))(key:List DV)(i:Nat):(idxM l key i=none/\zg l key=none/\(∀ vs,putM l key vs=l++[(key,vs)])/\delM l key=l) \/
 ∃ j p,idxM l key i=some (i+j)/\l[j]? = some p/\jo key p.1=true/\zg l key=some p.2/\(∀ vs,putM l key vs=l.set j (key,vs))/\delM l key=l.eraseIdx j:=by
 induction l generalizing i with
 |nil=>exact .inl ⟨rfl,rfl,λ_=>rfl,rfl⟩
 |cons p l ih =>
  obtain⟨k,v⟩:=p;by_cases h:jo key k=true
  ·exact .inr ⟨0,(k,v),by simp[idxM,h],rfl,h,by simp[zg,h],λvs=>by simp[putM,h],by simp[delM,h]⟩
  ·rcases ih (i+1) with⟨a,b,c,d⟩|⟨j,p,a,b,c,d,e,f⟩
   ·exact .inl ⟨by simp[idxM,h,a],by simp[zg,h,b],λvs=>by simp[putM,h,c],by simp[delM,h,d]⟩
   ·exact .inr ⟨j+1,p,by simp[idxM,h,a];omega,by simpa using b,c,by simp[zg,h,d],λvs=>by simp[putM,h,e],by simp[delM,h,f]⟩
theorem zq2[Dr]{d:TypeDesc}{eks:List EK}{ka ea:Bool}{ds:List DV}{kc:List Value}(hl:kc.length=eks.length)(hdl:ds.length=kc.length)(hf:Fits eks kc)(hr:RdL w M ds kc)
 (hn:∀ (xs ys:List Value),xs.length=eks.length->ys.length=eks.length->Fits eks xs->Fits eks ys->Instr.sameNow d (q9 ka xs) (q9 ka ys)=some (jm eks xs ys)) :
 ∀ (l:List (List DV × List SV)) (es:List MapEntry) (i:Nat),l.length=es.length->(∀ (j:Nat) (p:List DV × List SV) (e:MapEntry),l[j]? = some p->es[j]? = some e->EntAt w M β eks ka ea p e) ->
  Instr.findNow d (q9 ka kc) es i=some ((idxM l ds i).bind λj=>(es[j - i]?).map λe=>(j,e.val)):=by
 intro l;induction l with
 |nil=>intro es i h _;cases es with
  |nil=>rfl
  |cons=>simp at h
 |cons p l ih =>
  intro es i h he;cases es with
  |nil=>simp at h
  |cons e es =>
   obtain⟨k,v⟩:=p;obtain⟨kc',vc,a1,a2,a3,a4,a5,a6,a7,a8,a9,a10,a11⟩:=(he 0 (k,v) e rfl rfl).ex;have heq:=hn kc kc' hl a5 hf a8;rw [<-a1] at heq;have hke:=qx6 (w:=w) (M:=M) hl a5 hdl a3 hf a8 hr a9;simp only[Instr.findNow,heq,hke,idxM];cases hk:jo ds k with
   |true=>simp
   |false =>
    simp only[fx,if_false];rw[ih es (i+1) (by simpa using h) (λj p e a b=>he (j+1) p e (by simpa using a) (by simpa using b))];rcases qs2 l ds (i+1) with⟨b1,_⟩|⟨j,p,b1,b2,_⟩
    ·simp[b1]
    ·simp only[b1,dt];rw[show i+1+j - (i+1)=j from by omega,show i+1+j - i=j+1 from by omega];simp
theorem zi3[Dr]{kt:TypeId}{eks:List EK}{ka ea:Bool}{ds:List DV}{kc:List Value}(hl:kc.length=eks.length)(hdl:ds.length=kc.length)(hf:Fits eks kc)(hr:RdL w M ds kc)
 (hn:∀ (w:World) (xs ys:List Value),xs.length=eks.length->ys.length=eks.length->Fits eks xs->Fits eks ys->(Op.equal kt (q9 ka xs) (q9 ka ys)).run P w = .ok (jm eks xs ys) w) :
 ∀ (l:List (List DV × List SV)) (es:List MapEntry) (i:Nat),l.length=es.length->(∀ (j:Nat) (p:List DV × List SV) (e:MapEntry),l[j]? = some p->es[j]? = some e->EntAt w M β eks ka ea p e) ->
  (Instr.findAsking kt (q9 ka kc) es i).run P w = .ok ((idxM l ds i).bind λj=>(es[j - i]?).map λe=>(j,e.val)) w:=by
 intro l;induction l with
 |nil=>intro es i h _;cases es with
  |nil=>rfl
  |cons=>simp at h
 |cons p l ih =>
  intro es i h he;cases es with
  |nil=>simp at h
  |cons e es =>
   obtain⟨k,v⟩:=p;obtain⟨kc',vc,a1,a2,a3,a4,a5,a6,a7,a8,a9,a10,a11⟩:=(he 0 (k,v) e rfl rfl).ex;have heq:=hn w kc kc' hl a5 hf a8;rw [<-a1] at heq;have hke:=qx6 (w:=w) (M:=M) hl a5 hdl a3 hf a8 hr a9;simp only[Instr.findAsking,p8,heq,hke,idxM,ot];cases hk:jo ds k with
   |true=>simp
   |false =>
    simp only[fx,if_false];rw[ih es (i+1) (by simpa using h) (λj p e a b=>he (j+1) p e (by simpa using a) (by simpa using b))];rcases qs2 l ds (i+1) with⟨b1,_⟩|⟨j,p,b1,b2,_⟩
    ·simp[b1]
    ·simp only[b1,dt];rw[show i+1+j - (i+1)=j from by omega,show i+1+j - i=j+1 from by omega];simp
theorem qy9[Dr]{kt:TypeId}{eks:List EK}{ka ea:Bool}(hK:KeyTy P kt eks ka){ds:List DV}{kc:List Value}(hl:kc.length=eks.length)(hdl:ds.length=kc.length)(hf:Fits eks kc)(hr:RdL w M ds kc)
 (l:List (List DV × List SV)) (es:List MapEntry) (h:l.length=es.length) (he:∀ (j:Nat) (p:List DV × List SV) (e:MapEntry),l[j]? = some p->es[j]? = some e->EntAt w M β eks ka ea p e) :
  (Instr.findKey kt (q9 ka kc) es).run P w = .ok ((idxM l ds 0).bind λj=>(es[j]?).map λe=>(j,e.val)) w:=by
 obtain⟨d,hd,hno|hno⟩:=hK.now
 ·have hask:=zi3 (P:=P) (w:=w) (M:=M) (β:=β) hl hdl hf hr hK.eq l es 0 h he;simp only [rv] at hask;cases es with
  |nil=>cases l with
   |nil=>simp[Instr.findKey,run_underlying hd,Instr.findNow,idxM]
   |cons=>simp at h
  |cons e es =>
   have:Instr.findNow d (q9 ka kc) (e :: es) 0=none:=by
    cases l with
    |nil=>simp at h
    |cons p l =>
     obtain⟨kc',vc,a1,a2,a3,a4,a5,a6,a7,a8,a9,a10,a11⟩:=(he 0 p e rfl rfl).ex;have:=hno kc kc' hl a5 hf a8;rw [<-a1] at this;simp[Instr.findNow,this]
   simp only[Instr.findKey,p8,run_underlying hd,ot,this];exact hask
 ·have hnow:=zq2 (w:=w) (M:=M) (β:=β) hl hdl hf hr hno l es 0 h he;simp only [rv] at hnow;simp[Instr.findKey,run_underlying hd,hnow]
theorem ql8{t:TypeId}{d:TypeDesc}(hu:P.underlying t=some d)(hd:(∃ k,d = .int k)\/d = .string\/d = .bool)(b:Bool)(n:Nat)(v:Value):(Instr.checkKey b (n+1) t v).run P w = .ok () w:=by
 simp only[Instr.checkKey,p8,run_underlying hu,ot];rcases hd with⟨k,rfl⟩|rfl|rfl <;> cases v <;> rfl
theorem xv0{t:TypeId}{k:IntKind}(hu:P.underlying t=some (.int k))(p q:Int):(Op.equal t (.int k p) (.int k q)).run P w = .ok (p == q) w:=run_equalIn_int (P:=P) w 9999 t k k p q hu
theorem xu9{t:TypeId}(hu:P.underlying t=some .string)(p q:ByteArray):(Op.equal t (.string p) (.string q)).run P w = .ok (p.toList == q.toList) w:=run_equalIn_string (P:=P) w 9999 t p q hu
theorem jn2[Dr](p q:ByteArray):(p == q)=(p.toList == q.toList):=by
 have hd:(p == q)=(p.data == q.data):=rfl;rw[hd];by_cases h:p=q
 ·subst h;simp
 ·have h1:(p.data == q.data)=false:=by
   simp only[oo,ne_eq];intro e;exact h (ByteArray.ext e)
  have h2:¬ p.toList=q.toList:=λe=>h (by
   have e1:p=⟨p.toList.toArray⟩:=by rw[show p.toList=p.data.toList from uv p.data.toList]
   have e2:q=⟨q.toList.toArray⟩:=by rw[show q.toList=q.data.toList from uv q.data.toList]
   rw[e1,e2,e])
  rw[h1];symm;simpa using h2
theorem jp1[Dr](hTT:TTok P TT){kt:TypeId}{size bytes:Nat}{ka:Bool}{zero:List SV}{kd:TD}{eqk:List EK}(ht:TT kt=some ⟨size,bytes,ka,zero,kd,eqk⟩)(hne:keks ka kd eqk≠[]):KeyTy P kt (keks ka kd eqk) ka:=by
 obtain⟨info,d,z,hi,hu,_,_,_,hag,_,_,_,_,hd⟩:=qk hTT ht;cases ka with
 |true =>
  simp only [keks] at hne ⊢;have h1:=(hTT _ _ ht).eqk hne;have h2:=((hTT _ _ ht).key hne).2;simp only at h1 h2 hag;refine⟨λw b kc hl hf=>h2 w b kc hl hf,λw xs ys a b c e=>(h1 w xs ys a b c e).1,d,hu,.inl (λxs ys _ _ _ _=>?_)⟩;cases d <;> simp [y6] at hag <;> rfl
 |false =>
  simp only at hd;have one:∀ {k:EK} {xs:List Value},xs.length=[k].length->Fits [k] xs->∃ x,xs=[x]/\fits k x:=λ{k xs} hl hf=>by
   match xs,hl with
   |[x],_=>exact⟨x,rfl,hf 0 k x rfl rfl⟩
  cases kd with
  |int k =>
   cases hd;show KeyTy P kt [.int k] false;refine⟨λw b kc hl hf=>ql8 hu (.inl ⟨_,rfl⟩) _ 9999 _,λw xs ys a b c e=>?_,_,hu,.inr (λxs ys a b c e=>?_)⟩
   ·obtain⟨x,rfl,hx⟩:=one a c;obtain⟨y,rfl,hy⟩:=one b e;cases x <;> simp [fits] at hx
    cases y <;> simp [fits] at hy
    subst hx hy;simp[q9,jm,zu,xv0 hu]
   ·obtain⟨x,rfl,hx⟩:=one a c;obtain⟨y,rfl,hy⟩:=one b e;cases x <;> simp [fits] at hx
    cases y <;> simp [fits] at hy
    subst hx hy;simp[q9,jm,zu,Instr.sameNow]
  |str =>
   cases hd;show KeyTy P kt [.str] false;refine⟨λw b kc hl hf=>ql8 hu (.inr (.inl rfl)) _ 9999 _,λw xs ys a b c e=>?_,_,hu,.inr (λxs ys a b c e=>?_)⟩
   ·obtain⟨x,rfl,hx⟩:=one a c;obtain⟨y,rfl,hy⟩:=one b e;cases x <;> simp [fits] at hx
    cases y <;> simp [fits] at hy
    simp[q9,jm,zu,xu9 hu]
   ·obtain⟨x,rfl,hx⟩:=one a c;obtain⟨y,rfl,hy⟩:=one b e;cases x <;> simp [fits] at hx
    cases y <;> simp [fits] at hy
    simp[q9,jm,zu,Instr.sameNow,jn2]
  |bool =>
   cases hd;show KeyTy P kt [.bool] false;refine⟨λw b kc hl hf=>ql8 hu (.inr (.inr rfl)) _ 9999 _,λw xs ys a b c e=>?_,_,hu,.inr (λxs ys a b c e=>?_)⟩
   ·obtain⟨x,rfl,hx⟩:=one a c;obtain⟨y,rfl,hy⟩:=one b e;cases x <;> simp [fits] at hx
    cases y <;> simp [fits] at hy
    simp[q9,jm,zu,js3 _ _ _ hu]
   ·obtain⟨x,rfl,hx⟩:=one a c;obtain⟨y,rfl,hy⟩:=one b e;cases x <;> simp [fits] at hx
    cases y <;> simp [fits] at hy
    simp[q9,jm,zu,Instr.sameNow]
  |_=>exact absurd rfl hne
theorem xg0{l:List SV}{c:List DV->Prop}(h:qh6 l c):∃ ds:List DV,l=ds.map .d/\c ds:=by
 induction l generalizing c with
 |nil=>exact⟨[],rfl,h⟩
 |cons a l ih =>
  cases a with
  |d x =>
   obtain⟨ds,rfl,hc⟩:=ih h;exact⟨x :: ds,rfl,hc⟩
  |_=>exact h.elim
theorem xd7[Dr]{e:EK}{d:DV}{u:Value}(h:fitD e d=true)(hr:Rd w M d u):fits e u:=by
 cases e with
 |int k=>cases d with
  |int k' n=>cases hr;exact vz h
  |_=>cases h
 |bool=>cases d with
  |bool=>cases hr;exact True.intro
  |tt=>cases hr;exact True.intro
  |ff=>cases hr;exact True.intro
  |_=>cases h
 |str=>cases d with
  |str=>cases hr;exact True.intro
  |_=>cases h
theorem yg7[Dr]{es:List EK}:∀ {ds:List DV} {us:List Value},qx1 es ds=true->ds.length=us.length->RdL w M ds us->us.length=es.length/\Fits es us:=by
 induction es with
 |nil=>intro ds us h hl _;cases ds with
  |nil=>exact ⟨by simpa using hl.symm,λj k x hk=>by simp at hk⟩
  |cons=>cases h
 |cons e es ih =>
  intro ds us h hl hr;cases ds with
  |nil=>cases h
  |cons d ds=>cases us with
   |nil=>simp at hl
   |cons u us =>
    simp only [qx1] at h;split at h
    ·rename_i hd;obtain⟨a,b⟩:=ih h (by simpa using hl) (λq d u x y=>hr (q+1) d u (by simpa using x) (by simpa using y));refine⟨by simp[a],λj k x hk hx=>?_⟩;cases j with
     |zero=>simp at hk hx;subst hk hx;exact xd7 hd (hr 0 d u rfl rfl)
     |succ j=>exact b j k x (by simpa using hk) (by simpa using hx)
    ·cases h
theorem jm7[Dr]{eks:List EK}{ka:Bool}{key:SV}{c:List DV->Prop}(h:keyK eks ka key c):eks≠[]/\∃ ds,c ds/\∀ v,Den w M β key v->∃ kc,v=q9 ka kc/\kc.length=eks.length/\ds.length=kc.length/\Fits eks kc/\RdL w M ds kc:=by
 unfold keyK at h;split at h
 ·cases h
 ·rename_i e es;refine⟨sm,?_⟩;split at h
  ·split at h
   ·rename_i l;obtain⟨ds,hds,h1⟩:=xg0 h;subst hds;split at h1
    ·rename_i hfit;refine⟨ds,h1,λv hv=>?_⟩;cases hv with
     |agg _ vs h1 h2 h3 =>
      have hr:RdL w M ds vs:=λq d u hd hu=>jj (h2 q (.d d) u (by simp[hd]) hu)
      obtain⟨f1,f2⟩:=yg7 hfit (by simpa using h1) hr;exact⟨vs,rfl,f1,by simpa using h1,f2,hr⟩
    ·exact h1.elim
   ·cases h
  ·split at h
   ·rename_i x;split at h
    ·rename_i hfit;refine⟨[x],h,λv hv=>?_⟩;have hr:RdL w M [x] [v]:=λq d u hd hu=>by
      cases q with
      |zero=>simp at hd hu;subst hd hu;exact jj hv
      |succ q=>simp at hd
     obtain⟨f1,f2⟩:=yg7 hfit rfl hr;exact⟨[v],rfl,f1,rfl,f2,hr⟩
    ·cases h
   ·cases h
theorem qi0{agg:Bool}{vs:List SV}{c:SV->Prop}(h:wn agg vs c):∃ s,c s/\∀ (vc:List Value),vs.length=vc.length->(∀ (q:Nat) (s:SV) (u:Value),vs[q]? = some s->vc[q]? = some u->Den w M β s u)->(∀ u ∈ vc,u.oneCell'=true)->Den w M β s (q9 agg vc):=by
 unfold wn at h;split at h
 ·exact⟨_,h,λvc h1 h2 h3=>.agg vs vc h1 h2 h3⟩
 ·split at h
  ·rename_i v;refine⟨_,h,λvc h1 h2 h3=>?_⟩
   match vc,h1 with
   |[u],_=>exact h2 0 v u rfl rfl
  ·cases h
theorem jl0[Dr]{c agg:Bool}{zero:List SV}{r:Option (List SV)}(h:lookK c agg zero r K){vc:List Value}(hl:(r.getD zero).length=vc.length)(hd:∀ (q:Nat) (s:SV) (u:Value),(r.getD zero)[q]? = some s->vc[q]? = some u->Den w M β s u)(h1:∀ u ∈ vc,u.oneCell'=true) :
 ∃ s,K s/\Den w M β s (if c then .tuple #[q9 agg vc,.bool r.isSome] else q9 agg vc):=by
 unfold lookK at h;have pair:∀ (s:SV) (b:Bool) (x:DV),Den w M β s (q9 agg vc)->Rd w M x (.bool b)->Den w M β (.tup [s,.d x]) (.tuple #[q9 agg vc,.bool b]):=λs b x hs hx=>by
  refine .tup _ [q9 agg vc,.bool b] rfl (λj s' u hs' hu=>?_)
  match j with
  |0=>simp at hs' hu;subst hs' hu;exact hs
  |1=>simp at hs' hu;subst hs' hu;exact .d hx
  |j+2=>simp at hs'
 cases r with
 |some vs =>
  obtain⟨s,h,hs⟩:=qi0 (w:=w) (M:=M) (β:=β) h;have:=hs vc hl hd h1;cases c with
  |true=>exact⟨_,h,pair s true .tt this .tt⟩
  |false=>exact⟨_,h,this⟩
 |none =>
  obtain⟨s,h,hs⟩:=qi0 (w:=w) (M:=M) (β:=β) h;have:=hs vc hl hd h1;cases c with
  |true=>exact⟨_,h,pair s false .ff this .ff⟩
  |false=>exact⟨_,h,this⟩
theorem zt6[Dr](hTT:TTok P TT)(hT:∀ x,Den w M β (val ts x) (a.eval x))(hB:∀ (i:Nat) (L:Loc) (k:KB),ks[i]? = some k->k≠.gone->β i=some L->∃ fp,KBat w M β L fp k){t:TypeId}{x y:Operand}{c:Bool}(ho:o.op = .lookup t x y c)(h:pev P TT ts ks (.lookup t x y c) K):Ran P o a w M β K:=by
 unfold Ran;simp only[execOp,ho];simp only [pev,qq] at h;split at h
 ·rename_i _ _ _ _ kt et _ ht;obtain⟨info0,d0,z0,hi0,hu0,_,_,_,_,_,_,_,_,hd0⟩:=qk hTT ht;cases hd0;split at h
  ·rename_i _ _ ka _ kd eqk hkt;split at h
   ·rename_i esize _ ea zero _ _ het;obtain⟨hne,ds,h,hkey⟩:=jm7 (w:=w) (M:=M) (β:=β) h;obtain⟨kc,ekc,hkl,hdl,hkf,hkr⟩:=hkey _ (hT y);have hK:=jp1 hTT hkt hne;obtain⟨info,de,z,hi,hue,hsz,_,hz,hag,hzl,hzs,hzd,hz1,_⟩:=qk hTT het;simp only at hsz hzl hzs hzd hag;have hv:=hT x;generalize a.eval x=av at hv ⊢;generalize a.eval y=kv at ekc ⊢;subst ekc;have hzz:=qx5 (P:=P) (w:=w) hi hz;have hzm:z=q9 ea z.cells.toList:=(hTT _ _ het).zag info z hi hz;split at h
    ·rename_i b hx;rw [hx] at hv;cases hv with
     |map _ L hL =>
     rw [jc] at h;split at h
     ·rename_i eks ka' ea' l _ hg;split at h
      ·rename_i q1 q2 q3;have q1:=js4 q1;have q2:=qj9 q2;have q3:=qj9 q3;subst q1 q2 q3;obtain⟨r,hr,h⟩:=h;obtain⟨fp',hk⟩:=j6 hB hL (qt hg sm) sm;cases hk with
       |mapx _ _ _ _ _ es clock hfp hb hl hent =>
        have hfind:=qy9 (P:=P) (w:=w) (M:=M) (β:=β) hK hkl hdl hkf hkr l es.toList (by simpa using hl) (λj p e hp he=>hent j p e hp (by simpa using he));have hchk:=hK.chk w es.isEmpty kc hkl hkf;rcases qs2 l ds 0 with⟨b1,b2,_⟩|⟨j,p,b1,b2,b3,b4,_⟩
        ·rw [b2] at hr;subst hr;obtain⟨s,hs,hden⟩:=jl0 (w:=w) (M:=M) (β:=β) h (vc:=z.cells.toList) (by simpa using hzl.symm) (λq s u hs hu=>hzd w M β q s u hs (by simpa using hu)) (λu hu=>by
          obtain⟨q,hq,rfl⟩:=mr.1 hu;exact hz1 q _ sm)
         refine⟨s,_,hs,?_,hden⟩;rw [b1] at hfind;rw[<-hzm];simp only[Instr.lookup,p8,run_underlying hu0,ot,ut hb,o6,hchk,hfind,su,hzz,s4]
        ·rw [b4] at hr;subst hr;have hlt:j<es.size:=by rw[<-hl];exact(p6.1 b2).1
         obtain⟨kc',vc,a1,a2,a3,a4,a5,a6,a7,a8,a9,a10,a11⟩:=(hent j p es[j] b2 (mv hlt)).ex;obtain⟨s,hs,hden⟩:=jl0 (w:=w) (M:=M) (β:=β) h (vc:=vc) a4 a10 a11;refine⟨s,_,hs,?_,hden⟩;rw [b1] at hfind;have hej:es.toList[0+j]? = some es[j]:=by simp
         rw[<-a2];simp only [dt,hej,l7] at hfind;simp only[Instr.lookup,p8,run_underlying hu0,ot,ut hb,o6,hchk,hfind,Option.isSome_some]
      ·cases h
     ·cases h
    ·rename_i hx;rw [hx] at hv;cases hv;obtain⟨s,hs,hden⟩:=jl0 (w:=w) (M:=M) (β:=β) h (vc:=z.cells.toList) (by simpa using hzl.symm) (λq s u hs hu=>hzd w M β q s u hs (by simpa using hu)) (λu hu=>by
      obtain⟨q,hq,rfl⟩:=mr.1 hu;exact hz1 q _ sm)
     refine⟨s,_,hs,?_,hden⟩;have hchk:=hK.chk w true kc hkl hkf;have hfind:=qy9 (P:=P) (w:=w) (M:=M) (β:=β) (ea:=ea) hK hkl hdl hkf hkr [] [] rfl (λj p e hp=>by simp at hp);rw[<-hzm];simp only [idxM,su] at hfind;simp only[Instr.lookup,p8,run_underlying hu0,ot,o6,Array.isEmpty_empty,hchk,hfind,hzz,s4,r7]
    ·cases h
   ·cases h
  ·cases h
 ·cases h
end
end
section
def qm(r:Option Nat):Fence:={ Fence.wide with round:=r }
theorem jy2{r:Option Nat}{n:Nat}{P:Program}{f:FuncId}{args:Array Value}{w:World}{R:Ending->World->Prop}(h:Calls P f args w R):CallsIn (qm r) n P f args w R :=
 (callsIn_wide (n:=n)).2 h
theorem qz2{l:List SV}(h:xn l=true)(j:Nat)(s:SV)(hs:l[j]? = some s):closed s=true:=by
 induction l generalizing j with
 |nil=>simp at hs
 |cons a l ih =>
  simp only [xn,p7] at h;cases j with
  |zero=>simp at hs;subst hs;exact h.1
  |succ j=>exact ih h.2 j (by simpa using hs)
theorem Den.closed[Dr]{w:World}{M:Nat->Prop}{β:Env}{s:SV}{v:Value}(h:Den w M β s v)(hc:closed s=true)(β':Env):Den w M β' s v:=by
 induction h with
 |d h=>exact .d h
 |ptr=>simp [Go.Eng.closed] at hc
 |aptr=>simp [Go.Eng.closed] at hc
 |dptr cells off ad u h1 h2 h3 h4=>exact .dptr cells off ad u h1 h2 h3 h4
 |allNil=>simp [Go.Eng.closed] at hc
 |all=>simp [Go.Eng.closed] at hc
 |rowNil=>simp [Go.Eng.closed] at hc
 |row=>simp [Go.Eng.closed] at hc
 |cs=>simp [Go.Eng.closed] at hc
 |rptr=>simp [Go.Eng.closed] at hc
 |agg l vs h1 _ h3 ih=>exact .agg l vs h1 (λj s u a b=>ih j s u a b (qz2 (by simpa[Go.Eng.closed] using hc) j s a)) h3
 |tup l vs h1 _ ih=>exact .tup l vs h1 (λj s u a b=>ih j s u a b (qz2 (by simpa[Go.Eng.closed] using hc) j s a))
 |fn f caps vs h1 _ ih=>exact .fn f caps vs h1 (λj s u a b=>ih j s u a b (qz2 (by simpa[Go.Eng.closed] using hc) j s a))
 |map=>simp [Go.Eng.closed] at hc
 |yl=>simp [Go.Eng.closed] at hc
 |ln n c ad=>exact .ln n c ad
 |err b v h1 h2=>exact .err b v h1 h2
 |v x=>exact .v x
 |any x=>exact .any x
theorem jz9{l:List SV}(h:qu3 l=true)(j:Nat)(s:SV)(hs:l[j]? = some s):scalar s=true:=by
 induction l generalizing j with
 |nil=>simp at hs
 |cons a l ih =>
  simp only [qu3,p7] at h;cases j with
  |zero=>simp at hs;subst hs;exact h.1
  |succ j=>exact ih h.2 j (by simpa using hs)
theorem Den.scalar[Dr]{w:World}{M:Nat->Prop}{β:Env}{s:SV}{v:Value}(h:Den w M β s v)(hc:scalar s=true)(w':World)(M':Nat->Prop)(β':Env):Den w' M' β' s v:=by
 induction h with
 |d h =>
  cases h with
  |int=>exact .d (.int _ _)
  |bool=>exact .d (.bool _)
  |tt=>exact .d .tt
  |ff=>exact .d .ff
  |str=>exact .d (.str _)
  |nil=>simp [Go.Eng.scalar] at hc
  |sl=>simp [Go.Eng.scalar] at hc
 |agg l vs h1 _ h3 ih=>exact .agg l vs h1 (λj s u a b=>ih j s u a b (jz9 (by simpa[Go.Eng.scalar] using hc) j s a)) h3
 |tup l vs h1 _ ih=>exact .tup l vs h1 (λj s u a b=>ih j s u a b (jz9 (by simpa[Go.Eng.scalar] using hc) j s a))
 |ln n c ad=>exact .ln n c ad
 |err b v h1 h2=>exact .err b v h1 h2
 |_=>simp [Go.Eng.scalar] at hc
section
variable{P:Program}{TT:Nat->Option TI}{ts:List SV}{ks:List KB}{w:World}{M:Nat->Prop}{β:Env}{a:Act}{K:SV->Prop}{o:Oper}{r:Option Nat}{n:Nat}{next:Act->World->Prop}{Q:Exit->Act->World->Prop}
theorem y3{v:Value}{w':World}(hnd:∀ c,o.op≠.defer c)(hr:(execOp a.eval o).run P w = .ok (.value v) w')(h:next (a.put o.dst v) w'):o.wpIn (qm r) n P a w next Q:=by
 refine⟨λ_ _=>trivial,?_⟩;rw[Oper.semAt_eq _ _ _ hnd,hr];exact h
theorem qh9{w':World}(hnd:∀ c,o.op≠.defer c)(hr:(execOp a.eval o).run P w = .ok .skip w')(h:next (a.put o.dst undef) w'):o.wpIn (qm r) n P a w next Q:=by
 refine⟨λ_ _=>trivial,?_⟩;rw[Oper.semAt_eq _ _ _ hnd,hr];exact h
theorem jb0[Dr](hTT:TTok P TT)(h:pev P TT ts ks o.op K)(hT:∀ x,Den w M β (val ts x) (a.eval x))(hB:∀ (i:Nat) (L:Loc) (k:KB),ks[i]? = some k->k≠.gone->β i=some L->∃ fp,KBat w M β L fp k)(hA:ji6 β ks):Ran P o a w M β K:=by
 cases ho:o.op with
 |move x=>rw [ho] at h;exact ys1 hT (.inl ho) (by simpa [pev,qq] using h)
 |assign x=>rw [ho] at h;exact ys1 hT (.inr ho) (by simpa [pev,qq] using h)
 |pick c x y=>rw [ho] at h;exact xk1 hT ho h
 |load t x=>rw [ho] at h;exact xk2 hTT hT hB ho h
 |fieldAddr t x f=>rw [ho] at h;exact zj6 hTT hT ho h
 |field t x f=>rw [ho] at h;exact xb0 hTT hT ho h
 |indexAddr t x i=>rw [ho] at h;exact zj5 hTT hT hB ho h
 |index t x i=>rw [ho] at h;exact xa9 hTT hT ho h
 |binOp op t x y t'=>rw [ho] at h;exact xb2 hTT hT hB hA ho h
 |unOp op t x=>rw [ho] at h;exact xk0 hT ho h
 |convert s d x=>rw [ho] at h;exact zo3 hTT hT hB ho h
 |extract x i=>rw [ho] at h;exact zo2 hT ho h
 |makeFunc fn x y=>rw [ho] at h;exact zl1 hT ho h
 |makeInterface t x =>
  rw [ho] at h;unfold Ran;simp only[execOp,ho];simp only [pev] at h;split at h
  ·rename_i ht;obtain⟨info,d,z,hi,hu,_,_,_,_,_,_,_,_,hd⟩:=qk hTT ht;cases hd;split at h
   ·rename_i k n;have ea:a.eval (.const (.int k n)) = .int k n:=rfl;exact⟨_,.iface t (.int k n),h,by simp[Instr.makeInterface,run_underlying hu,ea],.v _⟩
   ·cases h
  ·cases h
 |build t ps=>rw [ho] at h;exact xb1 hTT hT ho h
 |slice t x l h' m=>rw [ho] at h;exact xa8 hTT hT hB ho h
 |nilCheck x=>rw [ho] at h;exact zl0 hT ho h
 |lookup t x i c=>rw [ho] at h;exact zt6 hTT hT hB ho h
 |call c =>
  obtain⟨callee,args,argTypes⟩:=c;rw [ho] at h;cases callee with
  |value g=>exact h.elim
  |builtin b=>exact zo4 hTT hT hB ho h
  |invoke r m=>exact h.elim
 |_=>rw [ho] at h;exact h.elim
end
end
section
def updP(f:Nat->Nat->Prop)(i:Nat)(p:Nat->Prop):Nat->Nat->Prop:=λj=>if j=i then p else f j
theorem y4(f:Nat->Nat->Prop)(i:Nat)(p:Nat->Prop):updP f i p i=p:=by simp[updP]
theorem ju(f:Nat->Nat->Prop){i j:Nat}(p:Nat->Prop)(h:j≠i):updP f i p j=f j:=by simp[updP,h]
section
variable{X:Nat->Prop}{w w':World}{β β':Env}{fp fp':Nat->Nat->Prop}{ks ks':List KB}
theorem Mem0.mlt(h:Mem0 X w β fp ks):∀ b,Mx X fp b->b<w.heap.size:=by
 rintro b (hx|⟨i,hi⟩)
 ·exact h.xa b hx
 ·exact h.kw i b hi
theorem Mem0.kb'(h:Mem0 X w β fp ks):∀ (i:Nat) (L:Loc) (k:KB),ks[i]? = some k->k≠.gone->β i=some L->∃ fp',KBat w (Mx X fp) β L fp' k:=λi L k hk hne hL =>
 ⟨_,h.kb i L k hk hne hL⟩
theorem Mem0.at(h:Mem0 X w β fp ks){i:Nat}{k:KB}(hk:ks[i]? = some k)(hne:k≠.gone){L:Loc}(hL:β i=some L):KBat w (Mx X fp) β L (fp i) k:=h.kb i L k hk hne hL
theorem Mem.out(h:Mem X w β fp ks){i:Nat}(hi:ks.length<=i):∀ b,¬ fp i b:=λb hb=>by
 obtain⟨L,hL⟩:=h.kn i b hb;rw [h.kl i hi] at hL;cases hL
theorem Mem0.apart[Dr](h:Mem0 X w β fp ks):ji6 β ks:=λi j L L' t t' l l' hne hi hj hL hL' e=>by
 have h1:=h.at hi sm hL;have h2:=h.at hj sm hL';cases h1 with
 |cells _ _ _ f1 =>
 cases h2 with
 |cells _ _ _ f2=>exact hne (h.dis i j L.b ((f1 _).2 rfl) ((f2 _).2 e))
theorem Mem.go[Dr](h:Mem X w β fp ks)(hst:Step (λb=>∃ i,fp i b) w w')(hext:Ext β β')(hown:∀ i b,fp' i b->(∃ j,fp j b)\/w.heap.size<=b)
 (hdis:∀ i j b,fp' i b->fp' j b->i=j) (hkw:∀ i b,fp' i b->b<w'.heap.size) (hkl:∀ i,ks'.length<=i->β' i=none) (hkn:∀ i b,fp' i b->∃ L,β' i=some L)
 (hkb:∀ (i:Nat) (L:Loc) (k:KB),ks'[i]? = some k->k≠.gone->β' i=some L->(ks[i]? = some k/\β i=some L/\fp' i=fp i/\∀ b,fp i b->w'.heap[b]? = w.heap[b]?)\/KBat w' (Mx X fp') β' L (fp' i) k):Went X w β fp w' β' fp' ks':=by
 have hM:∀ b,b<w.heap.size->Mx X fp' b->Mx X fp b:=λb hb hm=>hm.imp id (λ⟨i,hi⟩=>(hown i b hi).elim id (λe=>by omega))
 refine⟨⟨⟨λb hb=>bq (h.xa b hb) hst.size,λi b hi hx=>(hown i b hi).elim (λ⟨j,hj⟩=>h.xb j b hj hx) (λe=>by have:=h.xa b hx;omega),hdis,hkw,hkn,λi L k hk hne hL=>?_⟩,hkl,h.vo.step hst hown⟩,hst,hext,hown⟩;rcases hkb i L k hk hne hL with⟨h1,hL0,h2,h3⟩|h1
 ·have hb:=h.kb i L k h1 hne hL0;rw[h2];exact hb.mono (hst.mono (λ_ _ e=>.inr e)) hM hext h3
 ·exact h1
theorem qf7{β:Env}{n:Nat}(L:Loc)(h:β n=none):Ext β (upd β n (some L)):=λi L' e=>by
 by_cases hi:i=n
 ·subst hi;rw [h] at e;cases e
 ·rw[x4 _ _ hi];exact e
theorem Mem.alloc[Dr](h:Mem X w β fp ks)(o:Obj)(L:Loc)(k:KB)(hL:L.b=w.heap.size)
 (hk:KBat (w.alloc o) (Mx X (updP fp ks.length (· = w.heap.size))) (upd β ks.length (some L)) L (· = w.heap.size) k) :
 Went X w β fp (w.alloc o) (upd β ks.length (some L)) (updP fp ks.length (· = w.heap.size)) (ks++[k]):=by
 have hn:=h.kl ks.length (pu _);refine h.go (Step.alloc _ w o) (qf7 L hn) (λi b hb=>?_) (λi j b hi hj=>?_) (λi b hb=>?_) (λi hi=>?_) (λi b hb=>?_) (λi L' k' hk' hne hL'=>?_)
 ·by_cases hi:i=ks.length
  ·subst hi;rw [y4] at hb;exact .inr om
  ·rw [ju _ _ hi] at hb;exact .inl ⟨i,hb⟩
 ·by_cases h1:i=ks.length <;> by_cases h2:j=ks.length
  ·omega
  ·subst h1;rw [y4] at hi;rw [ju _ _ h2] at hj;have:=h.kw j b hj;omega
  ·subst h2;rw [y4] at hj;rw [ju _ _ h1] at hi;have:=h.kw i b hi;omega
  ·rw [ju _ _ h1] at hi;rw [ju _ _ h2] at hj;exact h.dis i j b hi hj
 ·by_cases hi:i=ks.length
  ·subst hi;rw [y4] at hb;subst hb;simp
  ·rw [ju _ _ hi] at hb;have:=h.kw i b hb;simp;omega
 ·have hi':i≠ks.length:=by simp at hi;omega
  rw[x4 _ _ hi'];exact h.kl i (by simp at hi;omega)
 ·by_cases hi:i=ks.length
  ·subst hi;exact⟨L,yr _ _ _⟩
  ·rw [ju _ _ hi] at hb;rw [x4 _ _ hi];exact h.kn i b hb
 ·by_cases hi:i=ks.length
  ·subst hi;rw [m7 (pu _)] at hk';simp at hk';subst hk';rw [yr] at hL';cases hL';exact .inr (by rw[y4];exact hk)
  ·have hlt:i<ks.length:=by
    have:=(p6.1 hk').1;simp at this;omega
   rw [mn hlt] at hk';rw [x4 _ _ hi] at hL';exact .inl ⟨hk',hL',ju _ _ hi,λb hb=>Below.heap_alloc w o b (h.kw i b hb)⟩
theorem Mem.set[Dr](h:Mem X w β fp ks){i:Nat}{L:Loc}(k:KB)(o:Obj)(hi:i<ks.length)(hL:β i=some L)(hfp:∀ x,fp i x↔x=L.b)
 (hk:KBat (World.setBlock w L.b o) (Mx X fp) β L (fp i) k):Went X w β fp (World.setBlock w L.b o) β fp (ks.set i k):=by
 refine h.go (Step.setBlock w ⟨i,(hfp _).2 rfl⟩ o) (Ext.refl _) (λj b hb=>.inl ⟨j,hb⟩) h.dis (λj b hb=>by simpa[World.setBlock] using h.kw j b hb) (λj hj=>h.kl j (by simpa using hj)) h.kn (λj L' k' hk' hne hL'=>?_);rw [m5] at hk';by_cases e:i=j
 ·subst e;rw [if_pos rfl,if_pos hi] at hk';cases hk';obtain rfl:L=L':=oq (hL.symm.trans hL');exact .inr hk
 ·rw [if_neg e] at hk';exact .inl ⟨hk',hL',rfl,λb hb=>qa6 w L.b b o (λeb=>e (h.dis i j b ((hfp b).2 eb) hb))⟩
theorem Mem.drew[Dr](h:Mem X w β fp ks):Went X w β fp w.drew β fp ks :=
 h.go (Step.drew _ w) (Ext.refl _) (λi b hb=>.inl ⟨i,hb⟩) h.dis h.kw h.kl h.kn (λi L k hk _ hL=>.inl ⟨hk,hL,rfl,λ_ _=>rfl⟩)
def jw(fr:List Nat)(fp:Nat->Nat->Prop):Nat->Nat->Prop:=λi b=>i ∉ fr/\fp i b
theorem yn3[Dr](fr:List Nat)(ks:List KB)(i:Nat)(k:KB)(h:(jk fr ks)[i]? = some k)(hne:k≠.gone):i ∉ fr/\ks[i]? = some k:=by
 induction fr generalizing ks with
 |nil=>exact⟨sm,h⟩
 |cons j fr ih =>
  simp only [jk] at h;obtain⟨h1,h2⟩:=ih _ h;rw [zr,m5] at h2;split at h2
  ·split at h2
   ·cases h2;exact absurd rfl hne
   ·cases h2
  ·rename_i e;exact⟨by simp[h1,Ne.symm e],h2⟩
theorem jj1[Dr](fr:List Nat)(ks:List KB):(jk fr ks).length=ks.length:=by
 induction fr generalizing ks with
 |nil=>rfl
 |cons j fr ih=>simp only[jk];rw[ih,zr,lw]
theorem Mem.gone[Dr](h:Mem X w β fp ks)(fr:List Nat):Went X w β fp w β (jw fr fp) (jk fr ks):=by
 refine h.go (Step.refl _ _) (Ext.refl _) (λi b hb=>.inl ⟨i,hb.2⟩) (λi j b hi hj=>h.dis i j b hi.2 hj.2) (λi b hb=>h.kw i b hb.2) (λi hi=>?_) (λi b hb=>h.kn i b hb.2) (λi L k hk hne hL=>?_)
 ·rw [jj1] at hi;exact h.kl i hi
 ·obtain⟨h1,h2⟩:=yn3 fr ks i k hk hne;exact .inl ⟨h2,hL,by funext b;simp[jw,h1],λ_ _=>rfl⟩
theorem Mem0.goneM(h:Mem0 X w β fp ks)(fr:List Nat):∀ b,Mx X (jw fr fp) b->Mx X fp b:=λ_ hm=>hm.imp id (λ⟨i,hi⟩=>⟨i,hi.2⟩)
theorem Mem0.goneOut(h:Mem0 X w β fp ks){fr:List Nat}{i b:Nat}(hi:i ∈ fr)(hb:fp i b):¬ Mx X (jw fr fp) b:=by
 rintro (hx|⟨j,hj,hjb⟩)
 ·exact h.xb i b hb hx
 ·exact hj (h.dis i j b hb hjb ▸ hi)
theorem Mem.again[Dr](h:Mem X w β fp ks){i:Nat}{L L':Loc}(k:KB)(o:Obj)(hi:i<ks.length)(hL:β i=some L)(hfp:∀ x,fp i x↔x=L.b)(hL':L'.b=L.b)
 (hk:KBat (World.setBlock w L.b o) (Mx X (updP (updP fp i (λ_=>False)) ks.length (· = L.b))) (upd β ks.length (some L')) L' (· = L.b) k) :
 Went X w β fp (World.setBlock w L.b o) (upd β ks.length (some L')) (updP (updP fp i (λ_=>False)) ks.length (· = L.b)) (ks.set i .gone++[k]):=by
 have hn:=h.kl ks.length (pu _);have hin:i≠ks.length:=om
 refine h.go (Step.setBlock w ⟨i,(hfp _).2 rfl⟩ o) (qf7 L' hn) (λj b hb=>?_) (λp q b hp hq=>?_) (λj b hb=>?_) (λj hj=>?_) (λj b hb=>?_) (λj L2 k' hk' hne hL2=>?_)
 ·by_cases hj:j=ks.length
  ·subst hj;rw [y4] at hb;exact .inl ⟨i,(hfp b).2 hb⟩
  ·rw [ju _ _ hj] at hb;by_cases e:j=i
   ·subst e;rw [y4] at hb;exact hb.elim
   ·rw [ju _ _ e] at hb;exact .inl ⟨j,hb⟩
 ·have key:∀ j,updP (updP fp i (λ_=>False)) ks.length (· = L.b) j b->(j=ks.length/\b=L.b)\/(j≠ks.length/\j≠i/\fp j b):=λj hj=>by
   by_cases h1:j=ks.length
   ·subst h1;rw [y4] at hj;exact .inl ⟨rfl,hj⟩
   ·rw [ju _ _ h1] at hj;by_cases e:j=i
    ·subst e;rw [y4] at hj;exact hj.elim
    ·rw [ju _ _ e] at hj;exact .inr ⟨h1,e,hj⟩
  rcases key p hp with⟨a1,a2⟩|⟨a1,a2,a3⟩ <;> rcases key q hq with⟨b1,b2⟩|⟨b1,b2,b3⟩
  ·omega
  ·exact absurd (h.dis q i b b3 ((hfp b).2 a2)) b2
  ·exact absurd (h.dis p i b a3 ((hfp b).2 b2)) a2
  ·exact h.dis p q b a3 b3
 ·by_cases hj:j=ks.length
  ·subst hj;rw [y4] at hb;subst hb;simpa [World.setBlock] using h.kw i L.b ((hfp _).2 rfl)
  ·rw [ju _ _ hj] at hb;by_cases e:j=i
   ·subst e;rw [y4] at hb;exact hb.elim
   ·rw [ju _ _ e] at hb;simpa [World.setBlock] using h.kw j b hb
 ·simp at hj;have hj':j≠ks.length:=om
  rw[x4 _ _ hj'];exact h.kl j om
 ·by_cases hj:j=ks.length
  ·subst hj;exact⟨L',yr _ _ _⟩
  ·rw [ju _ _ hj] at hb;rw[x4 _ _ hj];by_cases e:j=i
   ·subst e;exact⟨L,hL⟩
   ·rw [ju _ _ e] at hb;exact h.kn j b hb
 ·by_cases hj:j=ks.length
  ·subst hj;rw [m7 sm] at hk';simp at hk';subst hk';rw [yr] at hL2;cases hL2;exact .inr (by rw[y4];exact hk)
  ·have hlt:j<ks.length:=by
    have:=(p6.1 hk').1;simp at this;omega
   rw [mn (by simpa using hlt),m5] at hk';by_cases e:i=j
   ·subst e;rw [if_pos rfl,if_pos hi] at hk';cases hk';exact absurd rfl hne
   ·rw [if_neg e] at hk';rw [x4 _ _ hj] at hL2;refine .inl ⟨hk',hL2,by rw[ju _ _ hj,ju _ _ (Ne.symm e)],λb hb=>qa6 w L.b b o (λeb=>e (h.dis i j b ((hfp b).2 eb) hb))⟩
theorem Mem.nilRow[Dr](h:Mem X w β fp ks)(e:TypeId)(sz:Nat)(z:Z)(hz:z≠.no)(f:Nat->List DV) :
 Went X w β fp w (upd β ks.length (some ⟨0,0,0,sz,true⟩)) fp (ks++[.row e sz 0 z f]):=by
 have hn:=h.kl ks.length (pu _);refine h.go (Step.refl _ _) (qf7 _ hn) (λi b hb=>.inl ⟨i,hb⟩) h.dis h.kw (λi hi=>?_) (λi b hb=>?_) (λi L' k' hk' hne hL'=>?_)
 ·simp at hi;rw[x4 _ _ (show i≠ks.length by omega)];exact h.kl i om
 ·obtain⟨L,hL⟩:=h.kn i b hb;exact⟨L,qf7 _ hn i L hL⟩
 ·by_cases hi:i=ks.length
  ·subst hi;rw [m7 (pu _)] at hk';simp at hk';subst hk';rw [yr] at hL';cases hL';exact .inr (.rowNil e sz z f (h.out (pu _)) rfl rfl rfl hz)
  ·have hlt:i<ks.length:=by
    have:=(p6.1 hk').1;simp at this;omega
   rw [mn hlt] at hk';rw [x4 _ _ hi] at hL';exact .inl ⟨hk',hL',rfl,λ_ _=>rfl⟩
end
end
section
section
variable{P:Program}{X:Nat->Prop}{w:World}{β:Env}{fp:Nat->Nat->Prop}{ks:List KB}
theorem x7[Dr]{M M':Nat->Prop}{d:DV}{v:Value}(h:Rd w M d v)(hM:∀ b,M' b->M b):Rd w M' d v:=h.mono (Step.refl _ _) (λb _ e=>hM b e)
theorem qv6[Dr]{M M':Nat->Prop}{L:Loc}{e sz m:Nat}{vs:Array Value}{fz:Nat × Nat}{f:Nat->List DV}(hb:w.heap[L.b]? = some (.cells vs e fz))(hvs:vs.size=L.c * sz)(hm:m<=L.c)
 (hfl:∀ k,k<m->(f k).length=sz) (hr:∀ (k j:Nat) (d:DV) (u:Value),k<m->(f k)[j]? = some d->vs[k * sz+j]? = some u->Rd w M d u) (lo n off cap:Nat) (h1:lo+n<=m) (h2:n<=cap) (h3:0<n->off=lo * sz)
 (hn:¬ M' L.b) (hM:∀ b,M' b->M b):Rd w M' (.sl false n sz (λj=>f (lo+j))) (.slice (some ⟨L.b,off,none⟩) n cap):=by
 have hin:∀ i j,i<n->j<sz->(lo+i) * sz+j<vs.size:=λi j hi hj=>by
  rw[hvs];calc (lo+i) * sz+j<(lo+i) * sz+sz:=om
   _=(lo+i+1) * sz:=by rw[o9 (lo+i) 1,l9]
   _<=L.c * sz:=l5 _ om
 refine .sl n sz _ ⟨L.b,off,none⟩ cap (λi j=>vs[(lo+i) * sz+j]?.getD undef) h2 (λ_=>⟨yp hb,hn⟩) (λi hi=>hfl _ om) (λi j d hi hd=>?_) (λi j d hi hd=>?_)
 ·have hj:j<sz:=by have:=(p6.1 hd).1;rw [hfl _ om] at this;exact this
  rw[show(⟨L.b,off,none⟩:Addr).add (i * sz+j)=⟨L.b,off+(i * sz+j),none⟩ from by unfold Addr.add;split <;> simp_all,h3 om,show lo * sz+(i * sz+j)=(lo+i) * sz+j from by rw[o9];omega];simp[World.cell?,hb,hin i j hi hj]
 ·have hj:j<sz:=by have:=(p6.1 hd).1;rw [hfl _ om] at this;exact this
  refine x7 ?_ hM;have:=hr (lo+i) j d (vs[(lo+i) * sz+j]'(hin i j hi hj)) om hd (mv _);simpa[hin i j hi hj] using this
theorem jl3[Dr]:∀ (l:List SV) (K:List DV->Prop),qh6 l K->∃ ds:List DV,K ds/\l=ds.map SV.d
 |[],_,h=>⟨[],h,rfl⟩
 | .d x :: l,K,h=>by
  obtain⟨ds,hk,rfl⟩:=jl3 l _ h;exact⟨x :: ds,hk,rfl⟩
theorem qs5{ds:List DV}{n sz:Nat}(h:ds.length=n * sz)(j:Nat)(hj:j<n):(qs ds sz j).length=sz:=by
 unfold qs;have:(j+1) * sz<=n * sz:=l5 _ hj;rw [o9,l9] at this;simp[h];omega
theorem qt5[Dr](h:Mem0 X w β fp ks){s:SV}{K:DV->List Nat->Prop}(hk:dvK ks s K){v:Value}(hv:Den w (Mx X fp) β s v) :
 ∃ d fr,K d fr/\(∀ i ∈ fr,i<ks.length)/\∀ fr',(∀ i ∈ fr,i ∈ fr')->Rd w (Mx X (jw fr' fp)) d v:=by
 have hout:∀ (i:Nat) (L:Loc) (fr':List Nat),i ∈ fr'->(∀ x,fp i x↔x=L.b)->¬ Mx X (jw fr' fp) L.b:=λi L fr' hi hf=>h.goneOut hi ((hf _).2 rfl)
 unfold dvK at hk;split at hk
 ·rename_i x;exact⟨x,[],hk,sm,λfr' _=>x7 (jj hv) (h.goneM fr')⟩
 ·rename_i i;rw [jc] at hk;split at hk
  ·rename_i e sz n z f hg;have hki:=qt hg sm;have hi:i<ks.length:=(p6.1 hki).1;cases hv with
   |allNil _ L hL hnil =>
    have hb:=h.at hki sm hL;cases hb with
    |rowNil _ _ _ _ _ _ _ _ hz =>
     split at hk
     ·exact absurd rfl hz
     ·exact⟨_,_,hk,by simp[hi],λfr' _=>.nil _ _⟩
     ·omega
    |row _ _ _ _ _ vs fz hfp hnil'=>rw [hnil] at hnil';cases hnil'
   |all _ L hL hnil =>
    have hb:=h.at hki sm hL;cases hb with
    |rowNil _ _ _ _ _ hnil'=>rw [hnil] at hnil';cases hnil'
    |row _ _ _ _ _ vs fz hfp _ hLs hLn hzz hb hfz hvs hng hfl hr _ =>
     have key:∀ fr',i ∈ fr'->Rd w (Mx X (jw fr' fp)) (.sl false n sz f) (.slice (some ⟨L.b,0,none⟩) L.n L.c):=λfr' hi'=>by
      have:=qv6 (M':=Mx X (jw fr' fp)) hb hvs hng hfl hr 0 n 0 L.c om hng sm (hout i L fr' hi' hfp) (h.goneM fr');simp only [o5] at this;rw[hLn];exact this
     split at hk
     ·exact⟨_,_,hk,by simp[hi],λfr' hf=>key fr' (hf i sm)⟩
     ·have:Nat.beq n 0=false:=by
       have:=hzz rfl;cases n with
       |zero=>omega
       |succ n=>rfl
      rw [this] at hk;exact⟨_,_,hk,by simp[hi],λfr' hf=>key fr' (hf i sm)⟩
     ·exact⟨_,_,hk.2,by simp[hi],λfr' hf=>key fr' (hf i sm)⟩
  ·exact hk.elim
 ·rename_i i lo n;rw [jc] at hk;split at hk
  ·rename_i e sz m z f hg;have hki:=qt hg sm;have hi:i<ks.length:=(p6.1 hki).1;cases hv with
   |rowNil _ L hL hnil =>
    have hb:=h.at hki sm hL;cases hb with
    |rowNil _ _ _ _ _ _ _ _ hz =>
     split at hk
     ·exact absurd rfl hz
     ·omega
    |row _ _ _ _ _ vs fz hfp hnil'=>rw [hnil] at hnil';cases hnil'
   |row _ _ _ off L hL hnil hc ho =>
    have hb:=h.at hki sm hL;cases hb with
    |rowNil _ _ _ _ _ hnil'=>rw [hnil] at hnil';cases hnil'
    |row _ _ _ _ _ vs fz hfp _ hLs hLn hzz hb hfz hvs hng hfl hr _ =>
     have key:lo+n<=m->∀ fr',i ∈ fr'->Rd w (Mx X (jw fr' fp)) (.sl false n sz (λj=>f (lo+j))) (.slice (some ⟨L.b,off,none⟩) n (L.c - lo)):=λhle fr' hi' =>
      qv6 (M':=Mx X (jw fr' fp)) hb hvs hng hfl hr lo n off (L.c - lo) hle om (λhn=>by rw[ho (.inl om),hLs]) (hout i L fr' hi' hfp) (h.goneM fr')
     split at hk
     ·exact⟨_,_,hk.2,by simp[hi],λfr' hf=>key hk.1 fr' (hf i sm)⟩
     ·exact⟨_,_,hk.2,by simp[hi],λfr' hf=>key hk.1.1 fr' (hf i sm)⟩
  ·exact hk.elim
 ·rename_i i off n c;rw [jc] at hk;split at hk
  ·rename_i t l hg;split at hk
   ·rename_i hble;generalize Nat.div (lenL l - off) c=sz at *;rw [zx] at hble;have hble:=yh hble;rw [qf0,qe3] at hk;have hki:=qt hg sm;have hi:i<ks.length:=(p6.1 hki).1;obtain⟨ds,hk,hds⟩:=jl3 _ _ hk;have hdl:ds.length=n * sz:=by
     have:=congrArg List.length hds;simp at this;omega
    cases hv with
    |cs _ _ _ _ L hL hnc =>
     have hb:=h.at hki sm hL;cases hb with
     |cells _ _ vs hfp hb hl hd h1 =>
      refine⟨_,_,hk,by simp[hi],λfr' hf=>?_⟩;have hat:∀ j q d,j<n->(qs ds sz j)[q]? = some d->q<sz/\l[off+(j * sz+q)]? = some (.d d)/\off+(j * sz+q)<vs.size:=λj q d hj hdd=>by
       have hq:q<sz:=by have:=(p6.1 hdd).1;rw [qs5 hdl _ hj] at this;exact this
       unfold qs at hdd;rw [lq,if_pos hq,m8] at hdd;have hlt:=(p6.1 hdd).1;have:((l.drop off).take (n * sz))[j * sz+q]? = some (.d d):=by rw[hds,mw,hdd];rfl
       rw [lq,if_pos om,m8] at this;exact⟨hq,this,by have:=(p6.1 this).1;omega⟩
      refine .sl n sz _ ⟨L.b,off,none⟩ c (λj q=>vs[off+(j * sz+q)]?.getD undef) hnc (λ_=>⟨yp hb,hout i L fr' (hf i sm) hfp⟩) (λj hj=>qs5 hdl j hj) (λj q d hj hdd=>?_) (λj q d hj hdd=>?_)
      ·obtain⟨_,_,hlt⟩:=hat j q d hj hdd;rw[ym];simp[World.cell?,hb,hlt]
      ·obtain⟨_,hls,hlt⟩:=hat j q d hj hdd;have:=jj (hd _ _ (vs[off+(j * sz+q)]'hlt) hls (mv _));simpa[hlt] using x7 this (h.goneM fr')
   ·exact hk.elim
  ·exact hk.elim
 ·exact hk.elim
theorem jf2(l m:List Nat)(k:List Nat->Prop):appN l m k=k (l++m):=by
 induction l generalizing k with
 |nil=>rfl
 |cons a l ih=>simp[appN,ih]
theorem qe6[Dr](fr:List Nat)(ks:List KB)(K:List KB->Prop):uj fr ks K=K (jk fr ks):=by
 induction fr generalizing ks with
 |nil=>rfl
 |cons i fr ih=>simp only[uj,jk,y8,ih,zr]
theorem ql7[Dr](h:Mem0 X w β fp ks):∀ (l:List SV) (K:List DV->List Nat->Prop) (vs:List Value),dvsK ks l K->l.length=vs.length->(∀ (j:Nat) (s:SV) (u:Value),l[j]? = some s->vs[j]? = some u->Den w (Mx X fp) β s u) ->
 ∃ ds fr,K ds fr/\ds.length=l.length/\(∀ i ∈ fr,i<ks.length)/\∀ fr',(∀ i ∈ fr,i ∈ fr')->∀ (j:Nat) (d:DV) (u:Value),ds[j]? = some d->vs[j]? = some u->Rd w (Mx X (jw fr' fp)) d u:=by
 intro l;induction l with
 |nil=>intro K vs hk hl _;exact ⟨[],[],hk,rfl,sm,λ_ _ j d u hd=>by simp at hd⟩
 |cons a l ih =>
  intro K vs hk hl hd;match vs,hl with
  |v :: vs,hl =>
   simp only [dvsK] at hk;obtain⟨d,fr,hk,h1,h2⟩:=qt5 h hk (hd 0 a v rfl rfl);obtain⟨ds,fr2,hk,h3,h4,h5⟩:=ih _ vs hk (by simpa using hl) (λj s u hs hu=>hd (j+1) s u (by simpa using hs) (by simpa using hu));rw [jf2] at hk;refine⟨d :: ds,fr++fr2,hk,by simp[h3],λi hi=>(ow.1 hi).elim (h1 i) (h4 i),λfr' hf j x u hx hu=>?_⟩;cases j with
   |zero=>simp at hx hu;subst hx hu;exact h2 fr' (λi hi=>hf i (by simp [hi]))
   |succ j=>exact h5 fr' (λi hi=>hf i (by simp[hi])) j x u (by simpa using hx) (by simpa using hu)
structure SrcOk(P:Program)(w:World)(M:Nat->Prop)(sz:Nat)(tx:TypeId)(v:Value)(k:Nat)(g:Nat->List DV)(us:List Value):Prop where
 src:Src P sz tx v k us w
 wid:∀ j,j<k->(g j).length=sz
 rd:∀ (j q:Nat) (d:DV) (u:Value),j<k->(g j)[q]? = some d->us[j * sz+q]? = some u->Rd w M d u
theorem SrcOk.less[Dr]{M M':Nat->Prop}{sz:Nat}{tx:TypeId}{v:Value}{k:Nat}{g:Nat->List DV}{us:List Value}(h:SrcOk P w M sz tx v k g us)(hM:∀ b,M' b->M b):SrcOk P w M' sz tx v k g us :=
 ⟨h.src,h.wid,λj q d u a b c=>x7 (h.rd j q d u a b c) hM⟩
theorem zy0[Dr](h:Mem0 X w β fp ks){sz:Nat}(hsz:0<sz){x:SV}{K:Nat->(Nat->List DV)->List Nat->Prop}(hk:srcK ks sz x K){v:Value}(hv:Den w (Mx X fp) β x v){tx:TypeId}
 (htx:(∃ e',P.underlying tx=some (.slice e'))\/P.underlying tx=some .string) :
 ∃ k g fr us,K k g fr/\(∀ i ∈ fr,i<ks.length)/\∀ fr',(∀ i ∈ fr,i ∈ fr')->SrcOk P w (Mx X (jw fr' fp)) sz tx v k g us:=by
 have nilSrc:∀ c,Src P sz tx (.slice none 0 c) 0 [] w:=λc=>by
  rcases htx with⟨e',he⟩|he
  ·exact Src.ofNil w he c
  ·exact⟨.inr he,λ_=>rfl,run_firstCells_none w sz 0 0 c,run_firstCells_none w.drew sz 0 0 c,sm,λ_ h=>by cases h⟩
 have slSrc:∀ (ad:Addr) (n c:Nat) (news:List Value),news.length=n * sz->(∀ (j:Nat) (u:Value),news[j]? = some u->w.cell? (ad.add j)=some u)->(∀ u ∈ news,u.oneCell'=true)->Src P sz tx (.slice (some ad) n c) n news w:=λad n c news hl hn h1=>by
  rcases htx with⟨e',he⟩|he
  ·exact Src.ofSlice w he ad n c news hl hn h1
  ·exact⟨.inr he,λ_=>rfl,run_firstCells_some w sz n ad n c news hl hn,run_firstCells_some w.drew sz n ad n c news hl (by simpa using hn),hl,h1⟩
 have divmod:∀ j q,q<sz->(j * sz+q) / sz=j/\(j * sz+q) % sz=q:=λj q hq=>by
  constructor
  ·rw[bn,Nat.mul_add_div hsz,Nat.div_eq_of_lt hq,d6]
  ·rw[bn,Nat.mul_add_mod,rq hq]
 have lt_mul:∀ m n,m<n * sz->m / sz<n:=λm n hm=>Nat.div_lt_of_lt_mul (by rw[bn];exact hm)
 unfold srcK at hk;split at hk
 ·rename_i nl n sz' f;split at hk
  ·rename_i hb;cases jg hb;cases jj hv with
   |nil=>exact⟨0,f,[],[],hk,sm,λ_ _=>⟨nilSrc 0,λj hj=>absurd hj om,λj q d u hj=>absurd hj om⟩⟩
   |sl _ _ _ ad cap u hcap hblk hlen hcell hrd =>
    refine⟨n,f,[],(List.range (n * sz)).map (λm=>u (m / sz) (m % sz)),hk,sm,λfr' _=>⟨slSrc ad n cap _ sm (λj x hx=>?_) (λx hx=>?_),hlen,λj q d x hj hd hx=>?_⟩⟩
    ·obtain⟨hj,rfl⟩:=wz (u:=λm=>u (m / sz) (m % sz)) hx;have h1:=lt_mul j n hj;have h2:j % sz<(f (j / sz)).length:=by rw[hlen _ h1];exact Nat.mod_lt _ hsz
     have:=hcell (j / sz) (j % sz) _ h1 (pp h2)
     rwa [bn,Nat.div_add_mod] at this
    ·simp at hx;obtain⟨m,hm,rfl⟩:=hx;have h1:=lt_mul m n hm;have h2:m % sz<(f (m / sz)).length:=by rw[hlen _ h1];exact Nat.mod_lt _ hsz
     exact qr4 (hrd (m / sz) (m % sz) _ h1 (pp h2))
    ·have hq:q<sz:=by have:=(p6.1 hd).1;rw [hlen _ hj] at this;exact this
     obtain⟨e1,e2⟩:=divmod j q hq;obtain⟨_,rfl⟩:=wz (u:=λm=>u (m / sz) (m % sz)) hx;simp only[e1,e2];exact x7 (hrd j q d hj hd) (h.goneM fr')
  ·split at hk
   ·refine⟨0,_,[],[],hk,sm,λ_ _=>⟨?_,λj hj=>absurd hj om,λj q d u hj=>absurd hj om⟩⟩;cases jj hv with
    |nil=>exact nilSrc 0
    |sl _ _ _ ad cap u=>exact slSrc ad 0 cap [] sm (λj x hx=>by simp at hx) (λx hx=>by simp at hx)
   ·exact hk.elim
 ·rename_i s;split at hk
  ·cases y9 hv;have hsrc:Src P 1 tx (strV s) s.length (byteCells ⟨s.toArray⟩) w:=by
    have hss:(⟨s.toArray⟩:ByteArray).size=s.length:=qb4 s;have f1:=λw':World=>firstCells_string (P:=P) ⟨s.toArray⟩ w'
    rw [hss] at f1;exact⟨htx,λw'=>by simp[Builtin.lenOf,strV,hss],f1 w,f1 w.drew,by rw[byteCells_length,hss,Nat.mul_one],λu hu=>by
     obtain⟨_,_,rfl⟩:=gv.1 hu;rfl⟩
   refine⟨s.length,_,[],byteCells ⟨s.toArray⟩,hk,sm,λfr' _=>⟨hsrc,λj _=>rfl,λj q d u hj hd hu=>?_⟩⟩;cases q with
   |zero =>
    simp at hd;subst hd;simp [byteCells] at hu;obtain⟨x,hx,rfl⟩:=hu;have:qw s (j:Int)=x.toNat:=by
     unfold qw;simp[hx]
    rw[this];exact .int _ _
   |succ q=>simp at hd
  ·exact hk.elim
 ·rename_i i;rw [jc] at hk;split at hk
  ·rename_i e sz' n z f hg;split at hk
   ·rename_i hb;cases jg hb;have hki:=qt hg sm;cases hv with
    |allNil _ L hL hnil =>
     have hb:=h.at hki sm hL;cases hb with
     |rowNil=>exact⟨0,f,[],[],hk,sm,λ_ _=>⟨nilSrc 0,λj hj=>absurd hj om,λj q d u hj=>absurd hj om⟩⟩
     |row _ _ _ _ _ vs fz hfp hnil'=>rw [hnil] at hnil';cases hnil'
    |all _ L hL hnil =>
     have hb:=h.at hki sm hL;cases hb with
     |rowNil _ _ _ _ _ hnil'=>rw [hnil] at hnil';cases hnil'
     |row _ _ _ _ _ vs fz hfp _ hLs hLn hzz hb hfz hvs hng hfl hr h1 =>
      have hle:n * sz<=vs.size:=by rw[hvs];exact l5 _ hng
      refine⟨n,f,[],vs.toList.take (n * sz),hk,sm,λfr' _=>⟨?_,hfl,λj q d u hj hd hu=>?_⟩⟩
      ·rw[hLn];refine slSrc _ n _ _ (by simp;omega) (λj x hx=>?_) (λx hx=>?_)
       ·rw [lq] at hx;split at hx
        ·rw[ym];simpa[World.cell?,hb] using hx
        ·cases hx
       ·obtain⟨j,hj,rfl⟩:=mr.1 (lv hx);exact h1 j _ sm
      ·rw [lq] at hu;split at hu
       ·exact x7 (hr j q d u hj hd (by simpa using hu)) (h.goneM fr')
       ·cases hu
   ·exact hk.elim
  ·exact hk.elim
 ·rename_i i lo n;rw [jc] at hk;split at hk
  ·rename_i e sz' m z f hg;split at hk
   ·rename_i hb;cases jg hb;obtain⟨hle,hk⟩:=hk;have hki:=qt hg sm;cases hv with
    |rowNil _ L hL hnil=>exact⟨0,_,[],[],hk,sm,λ_ _=>⟨nilSrc 0,λj hj=>absurd hj om,λj q d u hj=>absurd hj om⟩⟩
    |row _ _ _ off L hL hnil hc ho =>
     have hb:=h.at hki sm hL;cases hb with
     |rowNil _ _ _ _ _ hnil'=>rw [hnil] at hnil';cases hnil'
     |row _ _ _ _ _ vs fz hfp _ hLs hLn hzz hb hfz hvs hng hfl hr h1 =>
      have hle':lo * sz+n * sz<=vs.size:=by rw[hvs,<-o9];exact l5 _ hc
      refine⟨n,_,[],(vs.toList.drop (lo * sz)).take (n * sz),hk,sm,λfr' _=>⟨?_,λj hj=>hfl _ om,λj q d u hj hd hu=>?_⟩⟩
      ·refine slSrc _ n _ _ (by simp;omega) (λj x hx=>?_) (λx hx=>?_)
       ·rw [lq] at hx;split at hx
        ·rename_i hj;have hn:0<n:=by
          rcases dz n with e|e
          ·subst e;simp at hj
          ·exact e
         rw [m8] at hx;rw[ym,ho (.inl om),hLs];simpa[World.cell?,hb] using hx
        ·cases hx
       ·obtain⟨j,hj,rfl⟩:=mr.1 (d8 (lv hx));exact h1 j _ sm
      ·rw [lq] at hu;split at hu
       ·rw [m8] at hu;refine x7 (hr (lo+j) q d u om hd ?_) (h.goneM fr');rw[o9,Nat.add_assoc];simpa using hu
       ·cases hu
   ·exact hk.elim
  ·exact hk.elim
 ·rename_i i off n c;rw [jc] at hk;split at hk
  ·rename_i t l hg;split at hk
   ·rename_i hble;rw [zx] at hble;have hble:=yh hble;rw [qf0,qe3] at hk;have hki:=qt hg sm;cases hv with
    |cs _ _ _ _ L hL hnc =>
     have hb:=h.at hki sm hL;cases hb with
     |cells _ _ vs hfp hb hl hd h1 =>
      obtain⟨ds,fr,hk,h2,h3,h4⟩:=ql7 h _ _ ((vs.toList.drop off).take (n * sz)) hk (by simp[hl]) (λj s u hs hu=>by
       rw [lq] at hs hu;split at hs
       ·rename_i hj;rw [if_pos hj] at hu;rw [m8] at hs hu;exact hd _ _ _ hs (by simpa using hu)
       ·cases hs)
      have hdl:ds.length=n * sz:=by rw[h2];simp;omega
      have hch:∀ j,j<n->(qs ds sz j).length=sz:=λj hj=>by
       unfold qs;have:(j+1) * sz<=n * sz:=l5 _ hj;rw [o9,l9] at this;simp[hdl];omega
      refine⟨n,_,fr,(vs.toList.drop off).take (n * sz),hk,h3,λfr' hf=>⟨slSrc _ n _ _ (by simp;omega) (λj x hx=>?_) (λx hx=>?_),hch,λj q d u hj hdd hu=>?_⟩⟩
      ·rw [lq] at hx;split at hx
       ·rw [m8] at hx;rw[ym];simpa[World.cell?,hb] using hx
       ·cases hx
      ·obtain⟨j,hj,rfl⟩:=mr.1 (d8 (lv hx));exact h1 j _ sm
      ·have hq:q<sz:=by have:=(p6.1 hdd).1;rw [hch _ hj] at this;exact this
       unfold qs at hdd;rw [lq,if_pos hq,m8] at hdd;exact h4 fr' hf _ d u hdd hu
   ·exact hk.elim
  ·exact hk.elim
 ·exact hk.elim
end
end
section
section
variable{P:Program}{X:Nat->Prop}{w:World}{β:Env}{fp:Nat->Nat->Prop}{ks:List KB}
theorem jx5[Dr]{w:World}{b:Nat}{o:Obj}(h:w.heap[b]? = some o):World.setBlock w b o=w:=by
 have hlt:=yp h;unfold World.setBlock;have:w.heap.setIfInBounds b o=w.heap:=by
  apply aw;intro i;rw[f5];split
  ·rename_i e;subst e;rw[h]
  ·rfl
 rw[this]
theorem zm6[Dr]{w:World}{b:Nat}{cs:Array Value}{t:TypeId}{fz:Nat × Nat}(h:w.heap[b]? = some (.cells cs t fz))(off:Nat)(us:List Value):w.setCells b off us=World.setBlock w b (.cells (jx cs off us) t fz):=by
 induction us generalizing w cs off with
 |nil=>simp only[World.setCells,jx];exact(jx5 h).symm
 |cons u us ih =>
  simp only[World.setCells,jx];rw[jw4 h,ih (xw _ _ _ (yp h)),jw5]
theorem jt1[Dr](h:Mem X w β fp ks)(n:Nat):∀ b,b<w.heap.size->Mx X (updP fp n (· = w.heap.size)) b->Mx X fp b:=λb hb hm=>hm.imp id (λ⟨i,hi⟩=>by
 by_cases e:i=n
 ·subst e;rw [y4] at hi;omega
 ·rw [ju _ _ e] at hi;exact ⟨i,hi⟩)
def locB(b:Nat):Loc:=⟨b,0,0,0,false⟩
theorem Mem.newCells[Dr](h:Mem X w β fp ks)(t:TypeId)(l:List SV)(vs:Array Value)(hl:l.length=vs.size)(hd:∀ (j:Nat) (s:SV) (u:Value),l[j]? = some s->vs[j]? = some u->Den w (Mx X fp) β s u)(h1:∀ (j:Nat) (u:Value),vs[j]? = some u->u.oneCell'=true) :
 Went X w β fp (w.alloc (.cells vs t)) (upd β ks.length (some (locB w.heap.size))) (updP fp ks.length (· = w.heap.size)) (ks++[.cells t l]):=by
 have hn:=h.kl ks.length (pu _);refine h.alloc _ (locB w.heap.size) _ rfl (.cells t l vs (λx=>Iff.rfl) (by show(w.heap.push _)[w.heap.size]? = _;simp) hl (λj s u a b=>(hd j s u a b).mono (Step.alloc _ w _) (jt1 h _) (qf7 _ hn)) h1)
theorem Mem.newRow[Dr](h:Mem X w β fp ks)(e:TypeId)(sz n c:Nat)(z:Z)(f:Nat->List DV)(vs:Array Value)(fz:Nat × Nat)(hfz:∀ o,o<vs.size->¬ (fz.1<=o/\o<fz.2))(hz:z = .iff->0<n)(hsz:vs.size=c * sz)(hn:n<=c)(hfl:∀ k,k<n->(f k).length=sz)
 (hr:∀ (k j:Nat) (d:DV) (u:Value),k<n->(f k)[j]? = some d->vs[k * sz+j]? = some u->Rd w (Mx X fp) d u) (h1:∀ (j:Nat) (u:Value),vs[j]? = some u->u.oneCell'=true) :
 Went X w β fp (w.alloc (.cells vs e fz)) (upd β ks.length (some ⟨w.heap.size,n,c,sz,false⟩)) (updP fp ks.length (· = w.heap.size)) (ks++[.row e sz n z f]) /\
  Den (w.alloc (.cells vs e fz)) (Mx X (updP fp ks.length (· = w.heap.size))) (upd β ks.length (some ⟨w.heap.size,n,c,sz,false⟩)) (.all ks.length) (.slice (some ⟨w.heap.size,0,none⟩) n c):=by
 refine⟨h.alloc _ ⟨w.heap.size,n,c,sz,false⟩ _ rfl (.row e sz n z f vs fz (λx=>Iff.rfl) rfl rfl rfl hz (by show(w.heap.push _)[w.heap.size]? = _;simp) hfz hsz hn hfl (λk j d u a b c=>(hr k j d u a b c).mono (Step.alloc _ w _) (jt1 h _)) h1),?_⟩;exact .all ks.length ⟨w.heap.size,n,c,sz,false⟩ (yr _ _ _) rfl
theorem yv3{n k sz:Nat}{f g:Nat->List DV}(hf:∀ j,j<n->(f j).length=sz)(hg:∀ j,j<k->(g j).length=sz):∀ j,j<n+k->(catF n f g j).length=sz:=λj hj=>by
 unfold catF;split
 ·exact hf j (by assumption)
 ·exact hg _ om
theorem jp5(w:World)(need old:Nat)(e:TypeId):need<=grownCap w need old e:=by
 unfold grownCap;simp only[Question.cut];omega
theorem zi7{z:Array Value}(hz:∀ (j:Nat) (u:Value),z[j]? = some u->u.oneCell'=true)(n:Nat):∀ (j:Nat) (u:Value),(Builtin.zeroCells z n)[j]? = some u->u.oneCell'=true:=λj u hu=>by
 unfold Builtin.zeroCells at hu;rw [Array.getElem?_map] at hu;cases hr:(Array.range (n * z.size))[j]? with
 |none=>rw [hr] at hu;cases hu
 |some m =>
  rw [hr] at hu;simp only [l7] at hu;cases hu;have hj:j<n * z.size:=by
   have:=(gq.1 hr).1;simpa using this
  have hp:0<z.size:=by
   rcases dz z.size with e|e
   ·rw [e] at hj;omega
   ·exact e
  have hm:=Nat.mod_lt m hp;rw[getElem!_pos z (m % z.size) hm];exact hz _ _ (mv hm)
section
variable{st xt ty e:TypeId}{info:TypeInfo}{z0:Value}{sz:Nat}
theorem jk2[Dr](h:Mem X w β fp ks)(hst:P.underlying st=some (.slice e))(hi:P.info? e=some info)(hz0:info.zero=some z0)(hsz:info.size=sz)(hzs:z0.cells.size=sz)(hz1:∀ (j:Nat) (u:Value),z0.cells[j]? = some u->u.oneCell'=true)
 (base:Option Addr) (n cap:Nat) (f:Nat->List DV) (olds:List Value) (hold:(Builtin.firstCells sz n (.slice base n cap)).run P w.drew = .ok olds.toArray w.drew) (hol:olds.length=n * sz) (ho1:∀ u ∈ olds,u.oneCell'=true)
 (hfl:∀ k,k<n->(f k).length=sz) (hr:∀ (k j:Nat) (d:DV) (u:Value),k<n->(f k)[j]? = some d->olds[k * sz+j]? = some u->Rd w (Mx X fp) d u)
 {x:Value} {k:Nat} {g:Nat->List DV} {us:List Value} (hs:SrcOk P w (Mx X fp) sz xt x k g us) (hgr:cap<n+k) (hby:(n+k) * info.bytes<=70368744177664) (h63:n+k<=9223372036854775807) (z:Z) :
 ∃ v w' β' fp',(Builtin.append_ #[st,xt] ty #[.slice base n cap,x]).run P w = .ok v w'/\Went X w β fp w' β' fp' (ks++[.row e sz (n+k) z (catF n f g)])/\Den w' (Mx X fp') β' (.all ks.length) v:=by
 subst hsz;have hfit:Builtin.nextslicecap (n+k) cap * info.bytes<=281474976710656:=by
  have h1:=nextslicecap_le hgr;have h2:=l5 info.bytes h1;rw [Nat.mul_assoc] at h2;omega
 have hrun:=run_append_grow_src w st xt ty e info z0 hst hi hz0 base n cap olds hold x k us hs.src hgr om hfit;have hge:=jp5 w (n+k) cap e;generalize grownCap w (n+k) cap e=c at hrun hge;have hW:=h.drew;have hus:=hs.src.newsLen;have hget:∀ m u,((olds++us).toArray++Builtin.zeroCells z0.cells (c - (n+k)))[m]? = some u->m<(n+k) * info.size->(if m<n * info.size then olds[m]? else us[m - n * info.size]?)=some u:=λm u hu hm=>by
  rw [o9] at hm;rw [rx (by simp;omega)] at hu;simp only [List.getElem?_toArray] at hu;split
  ·rename_i hlt;rw [mn om] at hu;exact hu
  ·rename_i hlt;rw [m7 om,hol] at hu;exact hu
 have hlt:∀ t q,t<n+k->q<info.size->t * info.size+q<(n+k) * info.size:=λt q ht hq=>by
  calc t * info.size+q<t * info.size+info.size:=om
   _=(t+1) * info.size:=by rw[o9,l9]
   _<=(n+k) * info.size:=l5 _ ht
 have hcl:=yv3 hfl hs.wid;obtain⟨hW2,hden⟩:=hW.mem.newRow e info.size (n+k) c z (catF n f g) ((olds++us).toArray++Builtin.zeroCells z0.cells (c - (n+k))) (0,0) sm (λ_=>by omega) (by
  rw[Array.size_append,size_zeroCells,hzs];simp[hol,hus];rw[<-o9,<-o9];congr 1;omega) hge hcl (λt q d u ht hd hu=>by
  have hq:q<info.size:=by have:=(p6.1 hd).1;rw [hcl _ ht] at this;exact this
  have h2:=hget _ u hu (hlt t q ht hq);have hst:Step (Mx X fp) w w.drew:=Step.drew _ w;unfold catF at hd;split at hd
  ·rename_i htn;rw[if_pos (by
    calc t * info.size+q<t * info.size+info.size:=om
     _=(t+1) * info.size:=by rw[o9,l9]
     _<=n * info.size:=l5 _ htn)] at h2
   exact(hr t q d u htn hd h2).mono hst (λ_ _ e=>e)
  ·rename_i htn;have hle:n * info.size<=t * info.size:=l5 _ om;rw [if_neg om,show t * info.size+q - n * info.size=(t - n) * info.size+q from by rw [Nat.sub_mul];omega] at h2;exact(hs.rd (t - n) q d u om hd h2).mono hst (λ_ _ e=>e)) (λj u hu=>by
  rcases ox j ((olds++us).toArray.size) with hj|hj
  ·rw [rx hj] at hu;simp only [List.getElem?_toArray] at hu;rcases ow.1 (ov hu) with hm|hm
   ·exact ho1 u hm
   ·exact hs.src.one u hm
  ·rw [Array.getElem?_append_right hj] at hu;exact zi7 hz1 _ _ u hu)
 exact⟨_,_,_,_,hrun,hW.trans hW2,hden⟩
theorem append_nil[Dr](h:Mem X w β fp ks)(hst:P.underlying st=some (.slice e))(hi:P.info? e=some info)(hz0:info.zero=some z0)(hsz:info.size=sz)(hzs:z0.cells.size=sz)(hz1:∀ (j:Nat) (u:Value),z0.cells[j]? = some u->u.oneCell'=true)(hpos:0<sz)
 {x:Value} {k:Nat} {g:Nat->List DV} {us:List Value} (hs:SrcOk P w (Mx X fp) sz xt x k g us) (hby:k * info.bytes<=70368744177664) (h63:k<=9223372036854775807) (z:Z) (hz:z≠.no) (f:Nat->List DV) :
 ∃ v w' β' fp',(Builtin.append_ #[st,xt] ty #[.slice none 0 0,x]).run P w = .ok v w'/\Went X w β fp w' β' fp' (ks++[.row e sz (0+k) z (catF 0 f g)])/\Den w' (Mx X fp') β' (.all ks.length) v:=by
 by_cases hk:k=0
 ·subst hk;have hus:us=[]:=dq (by rw[hs.src.newsLen];simp);subst hus;have hrun:=run_append_nothing w st xt ty e info hst hi none 0 0 (pu _) x (hsz ▸ hs.src);have hW:=h.nilRow e sz z hz (catF 0 f g);exact⟨_,_,_,_,hrun,hW,.allNil ks.length _ (yr _ _ _) rfl⟩
 ·exact jk2 h hst hi hz0 hsz hzs hz1 none 0 0 f [] (run_firstCells_none w.drew sz 0 0 0) sm sm (λk hk=>absurd hk om) (λk j d u hk=>absurd hk om) hs om (by simpa using hby) om z
theorem yi0[Dr](h:Mem X w β fp ks)(hst:P.underlying st=some (.slice e))(hi:P.info? e=some info)(hz0:info.zero=some z0)(hsz:info.size=sz)(hzs:z0.cells.size=sz)(hz1:∀ (j:Nat) (u:Value),z0.cells[j]? = some u->u.oneCell'=true)
 {i m n:Nat} {z:Z} {f:Nat->List DV} (hki:ks[i]? = some (.row e sz m z f)) {L:Loc} (hL:β i=some L) (hnil:L.nil=false) (hn:n<=m)
 {x:Value} {k:Nat} {g:Nat->List DV} {us:List Value} (hs:SrcOk P w (Mx X fp) sz xt x k g us) (hby:(n+k) * info.bytes<=70368744177664) (h63:n+k<=9223372036854775807) (z':Z) (hz':z' = .iff->0<n+k) :
 ∃ v w' β' fp',(Builtin.append_ #[st,xt] ty #[.slice (some ⟨L.b,0,none⟩) n L.c,x]).run P w = .ok v w'/\Went X w β fp w' β' fp' (ks.set i .gone++[.row e sz (n+k) z' (catF n f g)])/\Den w' (Mx X fp') β' (.all ks.length) v:=by
 have hil:i<ks.length:=(p6.1 hki).1;have hb:=h.at hki sm hL;cases hb with
 |rowNil _ _ _ _ _ hnil'=>rw [hnil] at hnil';cases hnil'
 |row _ _ _ _ _ vs fz hfp _ hLs hLn hzz hb hfz hvs hng hfl hr h1 =>
  have hus:=hs.src.newsLen;by_cases hroom:n+k<=L.c
  ·have hin:n * sz+us.length<=vs.size:=by rw[hus,hvs,<-o9];exact l5 _ hroom
   have hrun:=run_append_room_src (P:=P) w st xt ty e info hst hi L.b 0 n L.c x k us (hsz ▸ hs.src) hroom (λj hj=>by
    rw[hsz,o5];have:n * sz+j<vs.size:=om
    simp[World.cell?,hb,this]) (λj hj=>by
    rw[hsz,o5];have:=hfz (n * sz+j) om;obtain⟨lo,hi⟩:=fz;simp[World.frozen?,hb];intro hlo;simp at this;exact this hlo)
   rw [hsz,o5,zm6 hb] at hrun;have hM:∀ b,b<w.heap.size->Mx X (updP (updP fp i (λ_=>False)) ks.length (· = L.b)) b->Mx X fp b:=λb _ hm=>hm.imp id (λ⟨j,hj⟩=>by
    by_cases h1:j=ks.length
    ·subst h1;rw [y4] at hj;exact ⟨i,(hfp b).2 hj⟩
    ·rw [ju _ _ h1] at hj;by_cases e:j=i
     ·subst e;rw [y4] at hj;exact hj.elim
     ·rw [ju _ _ e] at hj;exact ⟨j,hj⟩)
   have hst':Step (Mx X fp) w (World.setBlock w L.b (.cells (jx vs (n * sz) us) e fz)):=Step.setBlock w (.inr ⟨i,(hfp _).2 rfl⟩) _;have hfl':∀ t,t<n->(f t).length=sz:=λt ht=>hfl t om
   have hcl:=yv3 hfl' hs.wid;have hW:=h.again (L':=⟨L.b,n+k,L.c,sz,false⟩) (.row e sz (n+k) z' (catF n f g)) (.cells (jx vs (n * sz) us) e fz) hil hL hfp rfl
    (.row e sz (n+k) z' (catF n f g) (jx vs (n * sz) us) fz (λx=>Iff.rfl) rfl rfl rfl hz' (xw _ _ _ (yp hb)) (by rw[qd1];exact hfz) (by rw[qd1];exact hvs) hroom hcl (λt q d u ht hd hu=>by
     have hq:q<sz:=by have:=(p6.1 hd).1;rw [hcl _ ht] at this;exact this
     rw [ur _ _ _ _ hin] at hu;unfold catF at hd;split at hd
     ·rename_i htn;have hlt:t * sz+q<n * sz:=by
       calc t * sz+q<t * sz+sz:=om
        _=(t+1) * sz:=by rw[o9,l9]
        _<=n * sz:=l5 _ htn
      rw [if_neg om] at hu;exact(hr t q d u om hd hu).mono hst' hM
     ·rename_i htn;have hle:n * sz<=t * sz:=l5 _ om;have hlt:t * sz+q<(n+k) * sz:=by
       calc t * sz+q<t * sz+sz:=om
        _=(t+1) * sz:=by rw[o9,l9]
        _<=(n+k) * sz:=l5 _ ht
      rw [if_pos (by rw [hus,<-o9];omega),show t * sz+q - n * sz=(t - n) * sz+q from by rw [Nat.sub_mul];omega] at hu;exact(hs.rd (t - n) q d u om hd hu).mono hst' hM) (λj u hu=>by
     rw [ur _ _ _ _ hin] at hu;split at hu
     ·exact hs.src.one u (ov hu)
     ·exact h1 j u hu))
   exact⟨_,_,_,_,hrun,hW,.all ks.length ⟨L.b,n+k,L.c,sz,false⟩ (yr _ _ _) rfl⟩
  ·have hW:=h.gone [i];have hks:jk [i] ks=ks.set i .gone:=by simp[jk,zr]
   rw [hks] at hW;have hle:n * sz<=vs.size:=by rw[hvs];exact l5 _ om
   have hlen:(ks.set i KB.gone).length=ks.length:=by simp
   obtain⟨v,w',β',fp',r1,r2,r3⟩:=jk2 (P:=P) (st:=st) (xt:=xt) (ty:=ty) hW.mem hst hi hz0 hsz hzs hz1 (some ⟨L.b,0,none⟩) n L.c f (vs.toList.take (n * sz)) (run_firstCells_some w.drew sz n ⟨L.b,0,none⟩ n L.c _ (by simp;omega) (λj u hu=>by
    rw [lq] at hu;split at hu
    ·rw[ym];show w.cell? _=_;simpa[World.cell?,hb] using hu
    ·cases hu)) (by simp;omega) (λu hu=>by
    obtain⟨j,hj,rfl⟩:=mr.1 (lv hu);exact h1 j _ sm) (λt ht=>hfl t om) (λt q d u ht hd hu=>by
    rw [lq] at hu;split at hu
    ·exact x7 (hr t q d u om hd (by simpa using hu)) (h.goneM [i])
    ·cases hu) (hs.less (h.goneM [i])) om hby h63 z'
   rw [hlen] at r3;exact⟨v,w',β',fp',r1,hW.trans r2,r3⟩
end
end
end
section
section
variable{P:Program}{TT:Nat->Option TI}{X:Nat->Prop}{w:World}{β:Env}{fp:Nat->Nat->Prop}{ts:List SV}{ks:List KB}{a:Act}{K:SV->List KB->Prop}{o:Oper}{r:Option Nat}{n:Nat}{next:Act->World->Prop}{Q:Exit->Act->World->Prop}
theorem xf7[Dr](h:Mem X w β fp ks){st xt ty e:TypeId}{info:TypeInfo}{z0:Value}{sz:Nat}(hst:P.underlying st=some (.slice e))(hi:P.info? e=some info)(hz0:info.zero=some z0)(hsz:info.size=sz)(hzs:z0.cells.size=sz)(hz1:∀ (j:Nat) (u:Value),z0.cells[j]? = some u->u.oneCell'=true)
 {i n:Nat} {l:List SV} (hki:ks[i]? = some (.cells e l)) {L:Loc} (hL:β i=some L) (hpos:0<sz) (hll:l.length=n * sz) {ds:List DV} (hdl:ds.length=l.length)
 (hds:∀ vs:Array Value,w.heap[L.b]? = some (.cells vs e (0,0))->∀ (j:Nat) (d:DV) (u:Value),ds[j]? = some d->vs[j]? = some u->Rd w (Mx X fp) d u)
 {x:Value} {k:Nat} {g:Nat->List DV} {us:List Value} (hs:SrcOk P w (Mx X fp) sz xt x k g us) (hby:(n+k) * info.bytes<=70368744177664) (h63:n+k<=9223372036854775807) :
 ∃ v w' β' fp',(Builtin.append_ #[st,xt] ty #[.slice (some ⟨L.b,0,none⟩) n n,x]).run P w = .ok v w'/\Went X w β fp w' β' fp' (ks.set i .gone++[.row e sz (n+k) .no (catF n (qs ds sz) g)])/\Den w' (Mx X fp') β' (.all ks.length) v:=by
 have hil:i<ks.length:=(p6.1 hki).1;have hb:=h.at hki sm hL;cases hb with
 |cells _ _ vs hfp hb hl hd h1 =>
  have hvs:vs.size=n * sz:=by rw[<-hl,hll]
  have hch:∀ j,j<n->(qs ds sz j).length=sz:=λj hj=>by
   unfold qs;have:(j+1) * sz<=n * sz:=l5 _ hj;rw [o9,l9] at this;simp[hdl,hll];omega
  have hcr:∀ (t q:Nat) (d:DV) (u:Value),t<n->(qs ds sz t)[q]? = some d->vs[t * sz+q]? = some u->Rd w (Mx X fp) d u:=λt q d u ht hdd hu=>by
   have hq:q<sz:=by have:=(p6.1 hdd).1;rw [hch _ ht] at this;exact this
   unfold qs at hdd;rw [lq,if_pos hq,m8] at hdd;exact hds vs hb _ d u hdd hu
  by_cases hk:k=0
  ·subst hk;have hus:us=[]:=dq (by rw[hs.src.newsLen];simp);subst hus;have hrun:=run_append_nothing w st xt ty e info hst hi (some ⟨L.b,0,none⟩) n n (pu _) x (hsz ▸ hs.src);have hself:=jx5 hb;have hM:∀ b,b<w.heap.size->Mx X (updP (updP fp i (λ_=>False)) ks.length (· = L.b)) b->Mx X fp b:=λb _ hm=>hm.imp id (λ⟨j,hj⟩=>by
    by_cases h1:j=ks.length
    ·subst h1;rw [y4] at hj;exact ⟨i,(hfp b).2 hj⟩
    ·rw [ju _ _ h1] at hj;by_cases e:j=i
     ·subst e;rw [y4] at hj;exact hj.elim
     ·rw [ju _ _ e] at hj;exact ⟨j,hj⟩)
   have hW:=h.again (L':=⟨L.b,n,n,sz,false⟩) (.row e sz (n+0) .no (catF n (qs ds sz) g)) (.cells vs e (0,0)) hil hL hfp rfl
    (.row e sz (n+0) .no _ vs (0,0) (λx=>Iff.rfl) rfl rfl rfl (λe=>by cases e) (xw _ _ _ (yp hb)) sm hvs (pu _) (λt ht=>by rw[show catF n (qs ds sz) g t=qs ds sz t from if_pos ht];exact hch t ht) (λt q d u ht hdd hu=>by
     rw [show catF n (qs ds sz) g t=qs ds sz t from if_pos ht] at hdd;rw[hself];exact(hcr t q d u ht hdd hu).mono (Step.refl _ _) hM) h1)
   rw [hself] at hW;exact⟨_,_,_,_,hrun,hW,.all ks.length ⟨L.b,n,n,sz,false⟩ (yr _ _ _) rfl⟩
  ·have hW:=h.gone [i];have hks:jk [i] ks=ks.set i .gone:=by simp[jk,zr]
   rw [hks] at hW;have hlen:(ks.set i KB.gone).length=ks.length:=by simp
   obtain⟨v,w',β',fp',r1,r2,r3⟩:=jk2 (P:=P) (st:=st) (xt:=xt) (ty:=ty) hW.mem hst hi hz0 hsz hzs hz1 (some ⟨L.b,0,none⟩) n n (qs ds sz) vs.toList (run_firstCells_some w.drew sz n ⟨L.b,0,none⟩ n n _ (by simp[hvs]) (λj u hu=>by
    rw[ym];show w.cell? _=_;simpa[World.cell?,hb] using hu)) (by simp[hvs]) (λu hu=>by
    obtain⟨j,hj,rfl⟩:=mr.1 hu;exact h1 j _ sm) hch (λt q d u ht hdd hu=>x7 (hcr t q d u ht hdd (by simpa using hu)) (h.goneM [i])) (hs.less (h.goneM [i])) om hby h63 .no
   rw [hlen] at r3;exact⟨v,w',β',fp',r1,hW.trans r2,r3⟩
theorem jo7{t:Nat}{l:List Nat}(h:t ∈ l):memN t l=true:=by
 induction l with
 |nil=>cases h
 |cons a l ih =>
  simp only[memN];split
  ·rfl
  ·rename_i hb;rcases pz.1 h with e|h
   ·subst e;rw [show Nat.beq t t=true from cz t] at hb;cases hb
   ·exact ih h
theorem qo7[Dr]{t:Nat}{l:List Nat}(h:memN t l=false):t ∉ l:=λe=>by rw [jo7 e] at h;cases h
theorem qq7[Dr](fr:List Nat)(ks:List KB)(i:Nat)(h:i ∉ fr):(jk fr ks)[i]? = ks[i]?:=by
 induction fr generalizing ks with
 |nil=>rfl
 |cons j fr ih =>
  simp only[jk];rw[ih _ (λe=>h (by simp[e])),zr,m5,if_neg (λe=>h (by simp[e]))]
theorem zl4(fr:List Nat)(fp:Nat->Nat->Prop)(i:Nat)(h:i ∉ fr):jw fr fp i=fp i:=by funext b;simp[jw,h]
theorem zv0[Dr](hTT:TTok P TT){t:TypeId}(h:jv0 TT t=true):(∃ e',P.underlying t=some (.slice e'))\/P.underlying t=some .string:=by
 unfold jv0 at h;split at h
 ·rename_i ht;obtain⟨info,d,z,hi,hu,_,_,_,_,_,_,_,_,hd⟩:=qk hTT ht;cases hd;exact .inl ⟨_,hu⟩
 ·rename_i ht;obtain⟨info,d,z,hi,hu,_,_,_,_,_,_,_,_,hd⟩:=qk hTT ht;cases hd;exact .inr hu
 ·cases h
theorem qu4[Dr](z:List SV)(n:Nat)(c:List SV->Prop):repK z n c=c ((List.replicate n z).flatten):=by
 induction n generalizing c with
 |zero=>rfl
 |succ n ih=>simp only[repK,ih,qf9,List.replicate_succ,List.flatten_cons]
theorem jr5{α:Type}(z:List α)(n m:Nat)(s:α)(h:((List.replicate n z).flatten)[m]? = some s):z[m % z.length]? = some s/\m<n * z.length:=by
 induction n generalizing m with
 |zero=>simp at h
 |succ n ih =>
  rw [List.replicate_succ,List.flatten_cons] at h;rcases ox m z.length with hm|hm
  ·rw [mn hm] at h;rw[rq hm];exact⟨h,by rw[o9];omega⟩
  ·rw [m7 hm] at h;obtain⟨a,b⟩:=ih (m - z.length) h;rw [<-Nat.mod_eq_sub_mod hm] at a;exact⟨a,by rw[o9];omega⟩
theorem jl2[Dr]{M:Nat->Prop}(hT:∀ x,Den w M β (val ts x) (a.eval x)){size:Nat} :
 ∀ (parts:List (Nat × Operand)) (cs:List SV) (c:List SV->Prop) (vs:List Value),fillS ts size cs parts c->cs.length=vs.length ->
  (∀ (j:Nat) (s:SV) (u:Value),cs[j]? = some s->vs[j]? = some u->Den w M β s u)->(∀ u ∈ vs,u.oneCell'=true) ->
  ∃ (cs':List SV) (vs':List Value),c cs'/\Instr.fill (λi=>some (i * size,size)) vs.toArray (parts.map λp=>(p.1,a.eval p.2))=some vs'.toArray/\cs'.length=vs'.length /\
   (∀ (j:Nat) (s:SV) (u:Value),cs'[j]? = some s->vs'[j]? = some u->Den w M β s u)/\(∀ u ∈ vs',u.oneCell'=true):=by
 intro parts;induction parts with
 |nil=>intro cs c vs h hl hd h1;exact⟨cs,vs,by simpa[fillS] using h,rfl,hl,hd,h1⟩
 |cons p parts ih =>
  obtain⟨i,x⟩:=p;intro cs c vs h hl hd h1;simp only [fillS] at h;rw [qq] at h;obtain⟨h,hcells⟩:=qa7 (w:=w) (M:=M) (β:=β) h;obtain⟨c1,c2,c3⟩:=hcells _ (hT x);split at h
  ·rename_i hb1 hb2;rw [zx] at hb1 hb2;have hb1:=jg hb1;have hb2:=yh hb2;rw [qn7] at h;have c3':∀ u ∈ (a.eval x).cells.toList,u.oneCell'=true:=λu hu=>c3 u (by simpa using hu)
   obtain⟨d1,d2⟩:=js6 (w:=w) (M:=M) (β:=β) (off:=i * size) (us:=(a.eval x).cells.toList) hl (by simpa using c1) om hd (λj s u hs hu=>c2 j s u hs (by simpa using hu));obtain⟨cs',vs',hc,hfill,r1,r2,r3⟩:=ih _ c (jx vs.toArray (i * size) (a.eval x).cells.toList).toList h (by simpa using d1) (λj s u hs hu=>d2 j s u hs (by simpa using hu)) (λu hu=>by
    obtain⟨j,hj,rfl⟩:=mr.1 hu;exact jj4 (off:=i * size) (us:=(a.eval x).cells.toList) (by simp;omega) h1 c3' j _ sm)
   refine⟨cs',vs',hc,?_,r1,r2,r3⟩;simp only[bp,Instr.fill];have hs:(a.eval x).cells.size=size:=om
   rw[if_neg (by simp[hs];omega)];have hfold:=jy1 (a.eval x).cells.toList vs.toArray (i * size) 0;rw [d6] at hfold;have hz:(a.eval x).cells.zipIdx.foldl (λcs (x:Value × Nat)=>cs.setIfInBounds (i * size+x.2) x.1) vs.toArray=jx vs.toArray (i * size) (a.eval x).cells.toList:=by
    rw[<-hfold,<-sr];simp
   rw[hz];simpa using hfill
  ·cases h
def xo[Dr](X:Nat->Prop)(w:World)(β:Env)(fp:Nat->Nat->Prop)(a:Act)(o:Oper)(K:SV->List KB->Prop)(next:Act->World->Prop):Prop :=
 ∀ r ks' v w' β' fp',K r ks'->Went X w β fp w' β' fp' ks'->Den w' (Mx X fp') β' r v->next (a.put o.dst v) w'
theorem qx9[Dr]{t:TypeId}{i:TypeInfo}(hi:P.info? t=some i)(b off:Nat)(v:Value)(t':TypeId)(fz:Nat × Nat)(cs:Array Value)(hb:w.heap[b]? = some (.cells cs t' fz))(hfz:∀ o,o<cs.size->¬ (fz.1<=o/\o<fz.2))
 (hsz:v.cells.size=i.size) (hin:off+i.size<=cs.size) (h1:∀ u ∈ v.cells,u.oneCell'=true) (hpos:0<i.size) :
 (storeVar t ⟨b,off,none⟩ v).run P w = .ok () (World.setBlock w b (.cells (jx cs off v.cells.toList) t' fz)):=by
 have hne:v.cells.toList≠[]:=λe=>by
  have:=congrArg List.length e;simp at this;rw [this] at hsz;simp at hsz;omega
 have:=zi0 (P:=P) b t' fz v.cells.toList w cs off 0 hb (by simp;omega) hfz (λu hu=>h1 u (by simpa using hu));rw [if_neg hne,d6] at this;simp[storeVar,run_sizeOf hi,hsz,this]
theorem zt5[Dr]{k:IntKind}{i m:Int}{l:List SV}:∀ {j:Int} {c:List SV->Prop},qp3 k i m l j c->∃ (xs:List Int) (l':List SV),l=xs.map (λn=>.d (.int k n))/\c l'/\l'.length=l.length /\
 ∀ (q:Nat) (x:Int),xs[q]? = some x->l'[q]? = some (.d (.int k (if i=j+q then m else x))):=by
 induction l with
 |nil=>intro j c h;exact⟨[],[],rfl,h,rfl,sm⟩
 |cons s l ih =>
  intro j c h;cases s with
  |d x =>
   cases x with
   |int k' x =>
    simp only [qp3] at h;split at h
    ·rename_i hk;cases vz hk;obtain⟨xs,l',rfl,hc,hlen,hg⟩:=ih h;refine⟨x :: xs,_,rfl,hc,by simp[hlen],λq y hq=>?_⟩;cases q with
     |zero=>simp at hq;subst hq;simp
     |succ q =>
      simp at hq;have:=hg q y hq;simp only[List.getElem?_cons_succ];rw[this];congr 3;rw[show j+1+(q:Int)=j+((q+1:Nat):Int) from by omega]
    ·cases h
   |_=>exact h.elim
  |_=>exact h.elim
theorem Mem.store[Dr](h:Mem X w β fp ks){i:Nat}{L:Loc}{t:TypeId}{l l':List SV}{vs vs':Array Value}(hk:ks[i]? = some (.cells t l))(hL:β i=some L)(hfp:∀ x,fp i x↔x=L.b)(hblk:w.heap[L.b]? = some (.cells vs t (0,0)))
 (hl:l'.length=vs'.size) (hd:∀ (j:Nat) (s:SV) (u:Value),l'[j]? = some s->vs'[j]? = some u->Den w (Mx X fp) β s u) (h1:∀ (j:Nat) (u:Value),vs'[j]? = some u->u.oneCell'=true) :
 Went X w β fp (World.setBlock w L.b (.cells vs' t (0,0))) β fp (ks.set i (.cells t l')) :=
 h.set (.cells t l') _ (p6.1 hk).1 hL hfp (.cells t l' vs' hfp (xw _ _ _ (yp hblk)) hl
  (λj s u a b=>(hd j s u a b).mono (Step.setBlock w (.inr ⟨i,(hfp _).2 rfl⟩) _) (λ_ _ e=>e) (Ext.refl _)) h1)
theorem ya7(l:List DV)(off:Nat)(vs:List DV):(putD l off vs).length=l.length:=by
 induction vs generalizing l off with
 |nil=>cases l <;> rfl
 |cons v vs ih=>simp[putD,ih]
theorem xj6(l:List DV)(off:Nat)(vs:List DV)(j:Nat)(hin:off+vs.length<=l.length):(putD l off vs)[j]? = if off<=j/\j<off+vs.length then vs[j - off]? else l[j]?:=by
 induction vs generalizing l off with
 |nil=>simp[putD];intro _ _;omega
 |cons v vs ih =>
  simp only [pw] at hin;simp only[putD,pw];rw[ih (l.set off v) (off+1) (by simp;omega)];by_cases h1:off+1<=j/\j<off+1+vs.length
  ·rw[if_pos h1,if_pos om,show j - off=(j - (off+1))+1 from by omega];simp
  ·rw[if_neg h1,m5];by_cases h2:off=j
   ·subst h2;rw[if_pos rfl,if_pos om,if_pos om];simp
   ·rw[if_neg h2,if_neg om]
end
end
section
section
variable{P:Program}{TT:Nat->Option TI}{X:Nat->Prop}{w:World}{β:Env}{fp:Nat->Nat->Prop}{ts:List SV}{ks:List KB}{a:Act}{K:SV->List KB->Prop}{o:Oper}{r:Option Nat}{n:Nat}{next:Act->World->Prop}{Q:Exit->Act->World->Prop}
theorem uw[Dr](ks:List KB)(k:KB)(K:SV->List KB->Prop):w9 ks k K=K (.all ks.length) (ks++[k]):=by
 simp[w9,x6,xe]
theorem xc0[Dr](hTT:TTok P TT){t:TypeId}{x y:Operand}(ho:o.op = .store t x y)(h:mev TT ts ks (.store t x y) K)(hM:Mem X w β fp ks)(hT:∀ x,Den w (Mx X fp) β (val ts x) (a.eval x))(hn:xo X w β fp a o K next):o.wpIn (qm r) n P a w next Q:=by
 have hnd:∀ c,o.op≠.defer c:=λc hc=>by rw [ho] at hc;cases hc
 simp only [mev] at h;split at h
 ·cases h
 ·rename_i size bytes agg zero desc eqk ht;rw [qq,qq] at h;have hv:=hT y;have hp:=hT x;obtain⟨info,d,z,hi,hu,hsz,hrest⟩:=qk hTT ht;simp only at hsz;clear hrest;split at h
  ·rename_i i off hx;rw [hx] at hp;have ep:∃ L,β i=some L/\a.eval x = .pointer (some ⟨L.b,off,none⟩):=by
    generalize a.eval x=av at hp;cases hp with
    |ptr _ _ L hL=>exact⟨L,hL,rfl⟩
   obtain⟨L,hL,ep⟩:=ep;rw [jc] at h;split at h
   ·rename_i t' l hg;have hk:=qt hg sm;obtain⟨h,hcells⟩:=qa7 (w:=w) (M:=Mx X fp) (β:=β) h;obtain⟨c1,c2,c3⟩:=hcells _ hv;split at h
    ·rename_i hb1 hb2 hb3;rw [zx] at hb1 hb2;have hb1:=jg hb1;have hb2:=yh hb2;have hpos:=yh hb3;rw [qn7,y8] at h;have hkb:=hM.at hk sm hL;cases hkb with
     |cells _ _ vs hfp hblk hl hd h1 =>
      have c3':∀ u ∈ (a.eval y).cells.toList,u.oneCell'=true:=λu hu=>c3 u (by simpa using hu)
      obtain⟨d1,d2⟩:=js6 (w:=w) (M:=Mx X fp) (β:=β) (off:=off) (l:=l) (cs:=vs.toList) (us:=(a.eval y).cells.toList) (by simpa using hl) (by simpa using c1) om (λj s u hs hu=>hd j s u hs (by simpa using hu)) (λj s u hs hu=>c2 j s u hs (by simpa using hu));have hW:=hM.store (vs':=jx vs off (a.eval y).cells.toList) hk hL hfp hblk (by simpa using d1) (λj s u hs hu=>d2 j s u hs (by simpa using hu)) (λj u hu =>
       jj4 (cs:=vs.toList) (us:=(a.eval y).cells.toList) (off:=off) (by simp;omega) (λu hu=>by
        obtain⟨q,hq,rfl⟩:=mr.1 hu;exact h1 q _ sm) c3' j u (by simpa using hu))
      refine qh9 hnd ?_ (hn _ _ _ _ _ _ h hW (.any _));have hrun:=qx9 (P:=P) (w:=w) hi L.b off (a.eval y) t' (0,0) vs hblk sm om om c3 om;simp[execOp,ho,Instr.storeAt,Instr.sureAddr,ep,hrun]
    ·cases h
   ·cases h
  ·rename_i i off len ix hx;rw [hx] at hp;have ep:∃ L,0<=ix/\ix<len/\β i=some L/\a.eval x = .pointer (some ⟨L.b,off+ix.toNat,none⟩):=by
    generalize a.eval x=av at hp;cases hp with
    |aptr _ _ _ _ L h0 h1 hL=>exact⟨L,h0,h1,hL,rfl⟩
   obtain⟨L,h0,h1,hL,ep⟩:=ep;split at h
   ·rename_i k k' m hy;rw [hy] at hv;have ev:=jh hv;split at h
    ·rename_i hkk;cases vz hkk;rw [jc] at h;split at h
     ·rename_i t' l hg;have hk:=qt hg sm;split at h
      ·rename_i hble;rw [zx] at hble;have hble:=yh hble;rw [qf0,qe3] at h;obtain⟨xs,l',hxs,h,hlen,hget⟩:=zt5 h;rw [qn7,y8] at h;have hkb:=hM.at hk sm hL;cases hkb with
       |cells _ _ vs hfp hblk hl hd hone =>
        have hl':l'.length=len:=by rw[hlen];simp;omega
        have hxl:xs.length=len:=by
         have:=congrArg List.length hxs;simp at this;omega
        have hW:=hM.store (l':=putCells l off l') (vs':=jx vs (off+ix.toNat) [.int k m]) hk hL hfp hblk (by rw[qx3,qd1];exact hl) (λj s u hs hu=>by
         rw [ji9 _ _ _ _ om] at hs;rw [ur _ _ _ _ (by simp;omega)] at hu;split at hs
         ·rename_i hj;have hq:j - off<xs.length:=om
          have hs2:=hget (j - off) _ (pp hq);rw [hs2] at hs;cases hs;split at hu
          ·rename_i hj2;simp at hj2 hu;have hje:j=off+ix.toNat:=om
           subst hje;simp at hu;subst hu;rw[if_pos om];exact .d (.int _ _)
          ·rename_i hj2;simp at hj2;rw[if_neg om];have hsl:l[j]? = some (.d (.int k (xs[j - off]'hq))):=by
            have h2:((l.drop off).take len)[j - off]? = some (.d (.int k (xs[j - off]'hq))):=by rw[hxs];simp[hq]
            rw [lq,if_pos om,m8] at h2;rw [show off+(j - off)=j from by omega] at h2;exact h2
           exact hd j _ u hsl hu
         ·rename_i hj;rw [if_neg (by simp;omega)] at hu;exact hd j s u hs hu) (λj u hu=>by
         rw [ur _ _ _ _ (by simp;omega)] at hu;split at hu
         ·have:=ov hu;simp at this;subst this;rfl
         ·exact hone j u hu)
        refine qh9 hnd ?_ (hn _ _ _ _ _ _ h hW (.any _));have hrun:=qx9 (P:=P) (w:=w) hi L.b (off+ix.toNat) (.int k m) t' (0,0) vs hblk sm (by simp[Value.cells];omega) om (by simp[Value.cells,Value.oneCell']) om;simp[execOp,ho,Instr.storeAt,Instr.sureAddr,ep,ev,hrun,Value.cells]
      ·cases h
     ·cases h
    ·cases h
   ·cases h
  ·rename_i i j off sz hx;rw [hx] at hp;have ep:∃ L,β i=some L/\j<L.n/\a.eval x = .pointer (some ⟨L.b,j * sz+off,none⟩):=by
    generalize a.eval x=av at hp;cases hp with
    |rptr _ _ _ _ L hL hj=>exact⟨L,hL,hj,rfl⟩
   obtain⟨L,hL,hj,ep⟩:=ep;rw [jc] at h;split at h
   ·rename_i e sz' m z' f hg;have hk:=qt hg sm;split at h
    ·rename_i hb;cases jg hb;obtain⟨h,hcells⟩:=qa7 (w:=w) (M:=Mx X fp) (β:=β) h;obtain⟨c1,c2,c3⟩:=hcells _ hv;split at h
     ·rename_i hb1 hb2 hb3;rw [zx] at hb1;have hb1:=jg hb1;have hb2:=yh hb2;have hpos:=yh hb3;obtain⟨ds,fr,h,e1,e2,e3⟩:=ql7 hM.toMem0 _ _ (a.eval y).cells.toList h (by simpa using c1) (λj s u hs hu=>c2 j s u hs (by simpa using hu));split at h
      ·rename_i hmem;have hnot:=qo7 hmem;rw [qe6,y8] at h;have hW:=hM.gone fr;have hk1:(jk fr ks)[i]? = some (.row e sz m z' f):=by rw[qq7 _ _ _ hnot];exact hk
       have hkb:=hW.mem.at hk1 sm hL;cases hkb with
       |rowNil _ _ _ _ _ _ _ hLn=>rw [hLn] at hj;omega
       |row _ _ _ _ _ vs fz hfp hnil hLs hLn hzz hblk hfz hvs hng hfl hr hone =>
        have hjm:j<m:=hLn ▸ hj;have hjc:(j+1) * sz<=vs.size:=by rw[hvs];exact l5 _ om
        rw [o9,l9] at hjc;have c3':∀ u ∈ (a.eval y).cells.toList,u.oneCell'=true:=λu hu=>c3 u (by simpa using hu)
        have hsl:(a.eval y).cells.toList.length=size:=by simp;omega
        have hdl:ds.length=size:=om
        have hin:j * sz+off+(a.eval y).cells.toList.length<=vs.size:=om
        have hst:Step (Mx X (jw fr fp)) w (World.setBlock w L.b (.cells (jx vs (j * sz+off) (a.eval y).cells.toList) e fz)):=Step.setBlock w (.inr ⟨i,(hfp _).2 rfl⟩) _;have hW2:=hW.mem.set (.row e sz m z' (oneF j off ds f)) (.cells (jx vs (j * sz+off) (a.eval y).cells.toList) e fz) (by rw[jj1];exact(p6.1 hk).1) hL hfp
         (.row e sz m z' _ _ fz hfp hnil hLs hLn hzz (xw _ _ _ (yp hblk)) (by rw[qd1];exact hfz) (by rw[qd1];exact hvs) hng (λt ht=>by
          unfold oneF;split
          ·rw[ya7];exact hfl t ht
          ·exact hfl t ht) (λt q d u ht hd hu=>by
          rw [ur _ _ _ _ hin] at hu;unfold oneF at hd;split at hd
          ·rename_i htj;subst htj;have hq:q<sz:=by have:=(p6.1 hd).1;rw [ya7,hfl _ ht] at this;exact this
           rw [xj6 _ _ _ _ (by rw [hfl _ ht];omega)] at hd;split at hd
           ·rename_i hqr;rw [if_pos om,show t * sz+q - (t * sz+off)=q - off from by omega] at hu;exact(e3 fr (λ_ hi=>hi) _ d u hd hu).mono hst (λ_ _ e=>e)
           ·rename_i hqr;rw [if_neg om] at hu;exact(hr t q d u ht hd hu).mono hst (λ_ _ e=>e)
          ·rename_i htj;have hq:q<sz:=by have:=(p6.1 hd).1;rw [hfl _ ht] at this;exact this
           rw[if_neg (by
            rintro ⟨a1,a2⟩
            apply htj;rcases co t j with hlt|heq|hgt
            ·have:(t+1) * sz<=j * sz:=l5 _ hlt;rw [o9,l9] at this;omega
            ·exact heq
            ·have:(j+1) * sz<=t * sz:=l5 _ hgt;rw [o9,l9] at this;omega)] at hu
           exact(hr t q d u ht hd hu).mono hst (λ_ _ e=>e)) (λq u hu=>by
          rw [ur _ _ _ _ hin] at hu;split at hu
          ·exact c3' u (ov hu)
          ·exact hone q u hu))
        refine qh9 hnd ?_ (hn _ _ _ _ _ _ h (hW.trans hW2) (.any _));have hrun:=qx9 (P:=P) (w:=w) hi L.b (j * sz+off) (a.eval y) e fz vs hblk hfz (by simp at hsl;omega) (by simp at hsl;omega) c3 om;simp[execOp,ho,Instr.storeAt,Instr.sureAddr,ep,hrun]
      ·cases h
     ·cases h
    ·cases h
   ·rename_i e sz' m f hg;have hk:=qt hg sm;split at h
    ·rename_i hb;cases jg hb;obtain⟨h,hcells⟩:=qa7 (w:=w) (M:=Mx X fp) (β:=β) h;obtain⟨c1,c2,c3⟩:=hcells _ hv;split at h
     ·rename_i hb1 hb2 hb3;rw [zx] at hb1;have hb1:=jg hb1;have hb2:=yh hb2;have hpos:=yh hb3;rw [y8] at h;have hkb:=hM.at hk sm hL;cases hkb with
      |rows _ _ _ _ vs fz hfp hnil hLs hLn hblk hfz hvs hng hfl hr hone =>
       have hjm:j<m:=hLn ▸ hj;have hjc:(j+1) * sz<=vs.size:=by rw[hvs];exact l5 _ om
       rw [o9,l9] at hjc;have c3':∀ u ∈ (a.eval y).cells.toList,u.oneCell'=true:=λu hu=>c3 u (by simpa using hu)
       have hsl:(a.eval y).cells.toList.length=size:=by simp;omega
       have hin:j * sz+off+(a.eval y).cells.toList.length<=vs.size:=om
       have hst:Step (Mx X fp) w (World.setBlock w L.b (.cells (jx vs (j * sz+off) (a.eval y).cells.toList) e fz)):=Step.setBlock w (.inr ⟨i,(hfp _).2 rfl⟩) _;have hW2:=hM.set (.rows e sz m (oneS j off (cellsOf (val ts y)) f)) (.cells (jx vs (j * sz+off) (a.eval y).cells.toList) e fz) (p6.1 hk).1 hL hfp
        (.rows e sz m _ _ fz hfp hnil hLs hLn (xw _ _ _ (yp hblk)) (by rw[qd1];exact hfz) (by rw[qd1];exact hvs) hng (λt ht=>by
         unfold oneS;split
         ·rw[qx3];exact hfl t ht
         ·exact hfl t ht) (λt q s u ht hs hu=>by
         rw [ur _ _ _ _ hin] at hu;unfold oneS at hs;split at hs
         ·rename_i htj;subst htj;have hq:q<sz:=by have:=(p6.1 hs).1;rw [qx3,hfl _ ht] at this;exact this
          rw [ji9 _ _ _ _ (by rw [hfl _ ht];omega)] at hs;split at hs
          ·rename_i hqr;rw [if_pos om,show t * sz+q - (t * sz+off)=q - off from by omega] at hu;exact(c2 (q - off) s u hs (by simpa using hu)).mono hst (λ_ _ e=>e) (Ext.refl _)
          ·rename_i hqr;rw [if_neg om] at hu;exact(hr t q s u ht hs hu).mono hst (λ_ _ e=>e) (Ext.refl _)
         ·rename_i htj;have hq:q<sz:=by have:=(p6.1 hs).1;rw [hfl _ ht] at this;exact this
          rw[if_neg (by
           rintro ⟨a1,a2⟩
           apply htj;rcases co t j with hlt|heq|hgt
           ·have:(t+1) * sz<=j * sz:=l5 _ hlt;rw [o9,l9] at this;omega
           ·exact heq
           ·have:(j+1) * sz<=t * sz:=l5 _ hgt;rw [o9,l9] at this;omega)] at hu
          exact(hr t q s u ht hs hu).mono hst (λ_ _ e=>e) (Ext.refl _)) (λq u hu=>by
         rw [ur _ _ _ _ hin] at hu;split at hu
         ·exact c3' u (ov hu)
         ·exact hone q u hu))
       refine qh9 hnd ?_ (hn _ _ _ _ _ _ h hW2 (.any _));have hrun:=qx9 (P:=P) (w:=w) hi L.b (j * sz+off) (a.eval y) e fz vs hblk hfz (by simp at hsl;omega) (by simp at hsl;omega) c3 om;simp[execOp,ho,Instr.storeAt,Instr.sureAddr,ep,hrun]
     ·cases h
    ·cases h
   ·cases h
  ·cases h
theorem uq{z:Array Value}{n m:Nat}{u:Value}(h:((Array.range n).map (z[· % z.size]!))[m]? = some u)(hz:0<z.size):m<n/\z[m % z.size]? = some u:=by
 rw [Array.getElem?_map] at h;cases hr:(Array.range n)[m]? with
 |none=>rw [hr] at h;cases h
 |some q =>
  rw [hr] at h;simp only [l7] at h;have hm:m<n:=by have:=(gq.1 hr).1;simpa using this
  have hq:q=m:=by
   have:=(gq.1 hr).2;simpa using this.symm
  subst hq;have hl:=Nat.mod_lt q hz;rw [getElem!_pos z (q % z.size) hl] at h;exact⟨hm,by rw[mv hl];exact h⟩
theorem zh5{P:Program}{w:World}(t tx ty e:TypeId)(i:TypeInfo)(ht:P.underlying t=some (.slice e))(hi:P.info? e=some i)(ad:Addr)(sLen sCap:Nat)(x:Value)(news:List Value)(hs:Src P i.size tx x 0 news w)(hroom:sLen<=sCap) :
 (Builtin.append_ #[t,tx] ty #[.slice (some ad) sLen sCap,x]).run P w = .ok (.slice (some ad) sLen sCap) w:=by
 have hn:news=[]:=sx.1 (by have:=hs.newsLen;simpa using this);subst hn;rcases hs.kind with⟨e',hk⟩|hk <;> simp[Builtin.append_,run_underlying ht,run_underlying hk,sizeOf,typeInfo,hi,hs.len,hroom,hs.cells,storeCells]
theorem zu6[Dr](hTT:TTok P TT){args:Array Operand}{argTypes:Array TypeId}(ho:o.op = .call ⟨.builtin .append,args,argTypes⟩)(h:mev TT ts ks (.call ⟨.builtin .append,args,argTypes⟩) K)(hM:Mem X w β fp ks)(hT:∀ x,Den w (Mx X fp) β (val ts x) (a.eval x))(hn:xo X w β fp a o K next):o.wpIn (qm r) n P a w next Q:=by
 have hnd:∀ c,o.op≠.defer c:=λc hc=>by rw [ho] at hc;cases hc
 obtain⟨args⟩:=args;obtain⟨argTypes⟩:=argTypes;simp only [mev] at h;split at h
 ·rename_i s x st xt;split at h
  ·rename_i _ _ _ _ e _ ht;split at h
   ·rename_i size bytes _ _ _ _ hte;split at h
    ·rename_i hbs;rw [p7,p7] at hbs;have hpos:0<size:=yh hbs.1;have hbp:0<bytes:=yh hbs.2.1;have htx:=zv0 hTT hbs.2.2;obtain⟨info0,d0,z0',hi0,hu0,_,_,_,_,_,_,_,_,hd0⟩:=qk hTT ht;cases hd0;obtain⟨info,de,z0,hi,hue,hsz,hby,hz0,_,hzl,hzs,_,hz1,_⟩:=qk hTT hte;simp only at hsz hby hzl hzs;have hzs':z0.cells.size=size:=om
     rw [qq] at h;obtain⟨k,g,fr,us,h,hfr,hsrc⟩:=zy0 hM.toMem0 hpos h (hT x) htx;have hS:=hsrc fr (λ_ hi=>hi);have hk63:∀ n,(n+k) * bytes<=70368744177664->n+k<=9223372036854775807:=λn hb=>by
      have:(n+k) * 1<=(n+k) * bytes:=Nat.mul_le_mul_left _ om;omega
     rw [qq] at h;have hv:=hT s;have fin:∀ (ks':List KB) (i:Nat) (v:Value) (w':World) (β':Env) (fp':Nat->Nat->Prop),(Builtin.append_ #[st,xt] o.type #[a.eval s,a.eval x]).run P w = .ok v w'->Went X w β fp w' β' fp' ks'->Den w' (Mx X fp') β' (.all i) v->K (.all i) ks'->o.wpIn (qm r) n P a w next Q:=λks' i v w' β' fp' hrun hW hd hK=>by
      refine y3 hnd ?_ (hn _ _ _ _ _ _ hK hW hd);simp[execOp,ho,resolve,invoke,builtin,hrun]
     have hW0:=hM.gone fr;split at h
     ·rename_i sz' f' hx;rw [hx] at hv;have ev:a.eval s = .slice none 0 0:=by
       generalize a.eval s=av at hv;cases jj hv;rfl
      obtain⟨hb,h⟩:=h;rw [qe6,uw] at h;obtain⟨v,w',β',fp',r1,r2,r3⟩:=append_nil (P:=P) (st:=st) (xt:=xt) (ty:=o.type) hW0.mem hu0 hi hz0 hsz hzs' hz1 hpos hS (by rw[hby];exact hb) (by have:=hk63 0 (by simpa using hb);omega) .iff sm (λ_=>[]);refine fin _ _ v w' β' fp' (by rw[ev];exact r1) (hW0.trans r2) r3 ?_;have:catF 0 (λ_=>[]) g=g:=by funext t;simp[catF]
      rw[this,o5];exact h
     ·rename_i n' sz' f' hx;rw [hx] at hv;split at h
      ·rw [qe6] at h;obtain⟨ad,cap,ev,hle⟩:∃ ad cap,a.eval s = .slice (some ad) n' cap/\n'<=cap:=by
        generalize a.eval s=av at hv;have hv:=jj hv;cases hv with
        |sl _ _ _ ad cap u h1=>exact⟨ad,cap,rfl,h1⟩
       have hrun:=zh5 (P:=P) (w:=w) st xt o.type e info hu0 hi ad n' cap (a.eval x) us (by rw[hsz];exact hS.src) hle;refine y3 hnd ?_ (hn _ _ (a.eval s) _ _ _ h hW0 (hv.mono (Step.refl _ _) (λb _ hb=>hM.toMem0.goneM fr b hb) (Ext.refl _)));rw[ev];simp[execOp,ho,resolve,invoke,builtin,ev,hrun]
      ·cases h
     ·rename_i i hx;rw [hx] at hv;rw [jc] at h;split at h
      ·rename_i e' sz m z f hg;have hki:=qt hg sm;split at h
       ·rename_i he hs' hmem;cases jg he;cases jg hs';have hnot:=qo7 hmem;obtain⟨hb,h⟩:=h;rw [qe6,y8,uw] at h;simp only [lw] at h;have hk1:(jk fr ks)[i]? = some (.row e size m z f):=by rw[qq7 _ _ _ hnot];exact hki
        have hcase:(∃ L,β i=some L/\L.nil=true/\a.eval s = .slice none 0 0)\/(∃ L,β i=some L/\L.nil=false/\a.eval s = .slice (some ⟨L.b,0,none⟩) L.n L.c):=by
         generalize a.eval s=av at hv;cases hv with
         |allNil _ L hL hnil=>exact .inl ⟨L,hL,hnil,rfl⟩
         |all _ L hL hnil=>exact .inr ⟨L,hL,hnil,rfl⟩
        rcases hcase with⟨L,hL,hnil,ev⟩|⟨L,hL,hnil,ev⟩
        ·have hkb:=hW0.mem.at hk1 sm hL;cases hkb with
         |row _ _ _ _ _ vs fz hfp hnil'=>rw [hnil] at hnil';cases hnil'
         |rowNil _ _ _ _ _ _ _ _ hz =>
          have hW1:=hW0.mem.gone [i];have hks:jk [i] (jk fr ks)=(jk fr ks).set i .gone:=by simp[jk,zr]
          rw [hks] at hW1;obtain⟨v,w',β',fp',r1,r2,r3⟩:=append_nil (P:=P) (st:=st) (xt:=xt) (ty:=o.type) hW1.mem hu0 hi hz0 hsz hzs' hz1 hpos (hS.less (hW0.mem.goneM [i])) (by rw[hby];simpa using hb) (by have:=hk63 0 (by simpa using hb);omega) z hz f;simp only [lw] at r3;exact fin _ _ v w' β' fp' (by rw[ev];exact r1) ((hW0.trans hW1).trans r2) r3 h
        ·have hkb:=hW0.mem.at hk1 sm hL;cases hkb with
         |rowNil _ _ _ _ _ hnil'=>rw [hnil] at hnil';cases hnil'
         |row _ _ _ _ _ vs fz hfp _ hLs hLn hzz hblk hfz hvs hng hfl hr hone =>
          obtain⟨v,w',β',fp',r1,r2,r3⟩:=yi0 (P:=P) (st:=st) (xt:=xt) (ty:=o.type) hW0.mem hu0 hi hz0 hsz hzs' hz1 hk1 hL hnil (pu m) hS (by rw[hby];exact hb) (hk63 m hb) z (λe=>by have:=hzz e;omega);exact fin _ _ v w' β' fp' (by rw[ev,hLn];exact r1) (hW0.trans r2) r3 h
       ·cases h
      ·cases h
     ·rename_i i m' hx;rw [hx] at hv;rw [jc] at h;split at h
      ·rename_i e' sz m z f hg;have hki:=qt hg sm;split at h
       ·rename_i he hs' hmem;cases jg he;cases jg hs';have hnot:=qo7 hmem;obtain⟨⟨hle,hb⟩,h⟩:=h;rw [qe6,y8,uw] at h;simp only [lw] at h;have hk1:(jk fr ks)[i]? = some (.row e size m z f):=by rw[qq7 _ _ _ hnot];exact hki
        have hcase:(∃ L,β i=some L/\L.nil=true/\m'=0/\a.eval s = .slice none 0 0)\/(∃ L,β i=some L/\L.nil=false/\m'<=L.c/\a.eval s = .slice (some ⟨L.b,0,none⟩) m' L.c):=by
         generalize a.eval s=av at hv;cases hv with
         |rowNil _ L hL hnil=>exact .inl ⟨L,hL,hnil,rfl,rfl⟩
         |row _ _ _ off L hL hnil hc ho'=>exact .inr ⟨L,hL,hnil,om,by rw[ho' (.inr rfl),Nat.zero_mul];simp⟩
        rcases hcase with⟨L,hL,hnil,hm0,ev⟩|⟨L,hL,hnil,hmc,ev⟩
        ·subst hm0;have hkb:=hW0.mem.at hk1 sm hL;cases hkb with
         |row _ _ _ _ _ vs fz hfp hnil'=>rw [hnil] at hnil';cases hnil'
         |rowNil _ _ _ _ _ _ _ _ hz =>
          have hW1:=hW0.mem.gone [i];have hks:jk [i] (jk fr ks)=(jk fr ks).set i .gone:=by simp[jk,zr]
          rw [hks] at hW1;obtain ⟨v,w',β',fp',r1,r2,r3⟩:=append_nil (P:=P) (st:=st) (xt:=xt) (ty:=o.type) hW1.mem hu0 hi hz0 hsz hzs' hz1 hpos (hS.less (hW0.mem.goneM [i])) (by rw [hby];simpa using hb) (by have:=hk63 0 (by simpa using hb);omega) z.cut (by cases z <;> simp [Z.cut] at hz ⊢) f;simp only [lw] at r3;exact fin _ _ v w' β' fp' (by rw[ev];exact r1) ((hW0.trans hW1).trans r2) r3 h
        ·have hkb:=hW0.mem.at hk1 sm hL;cases hkb with
         |rowNil _ _ _ _ _ hnil'=>rw [hnil] at hnil';cases hnil'
         |row _ _ _ _ _ vs fz hfp _ hLs hLn hzz hblk hfz hvs hng hfl hr hone =>
          obtain⟨v,w',β',fp',r1,r2,r3⟩:=yi0 (P:=P) (st:=st) (xt:=xt) (ty:=o.type) hW0.mem hu0 hi hz0 hsz hzs' hz1 hk1 hL hnil hle hS (by rw[hby];exact hb) (hk63 m' hb) z.cut (by cases z <;> simp[Z.cut]);exact fin _ _ v w' β' fp' (by rw[ev];exact r1) (hW0.trans r2) r3 h
       ·cases h
      ·cases h
     ·rename_i i m' c' hx;rw [hx] at hv;rw [jc] at h;split at h
      ·rename_i e' l hg;have hki:=qt hg sm;split at h
       ·rename_i he hnc hll hmem;cases jg he;cases jg hnc;rw [zx] at hll;have hll:=jg hll;have hnot:=qo7 hmem;obtain⟨hb,h⟩:=h;have hcase:∃ L,β i=some L/\a.eval s = .slice (some ⟨L.b,0,none⟩) m' m':=by
         generalize a.eval s=av at hv;cases hv with
         |cs _ _ _ _ L hL hnc=>exact⟨L,hL,rfl⟩
        obtain⟨L,hL,ev⟩:=hcase;have hkb:=hM.at hki sm hL;cases hkb with
        |cells _ _ vs hfp hblk hl hd hone =>
         obtain⟨ds,fr2,h,e1,e2,e3⟩:=ql7 hM.toMem0 _ _ vs.toList h (by simpa using hl) (λj s u hs hu=>hd j s u hs (by simpa using hu));split at h
         ·rename_i hmem2;have hnot2:=qo7 hmem2;rw [qe6,qe6,y8,uw] at h;simp only [lw] at h;have hW1:=hW0.mem.gone fr2;have hk1:(jk fr2 (jk fr ks))[i]? = some (.cells e l):=by rw[qq7 _ _ _ hnot2,qq7 _ _ _ hnot];exact hki
          have hsub:∀ b,Mx X (jw fr2 (jw fr fp)) b->Mx X (jw (fr++fr2) fp) b:=λb hm=>hm.imp id (λ⟨j,hj,hj',hb⟩=>⟨j,by simp[hj,hj'],hb⟩)
          obtain⟨v,w',β',fp',r1,r2,r3⟩:=xf7 (P:=P) (st:=st) (xt:=xt) (ty:=o.type) hW1.mem hu0 hi hz0 hsz hzs' hz1 hk1 hL hpos hll e1 (λvs' hb' j d u hdd hu=>by
           rw [hblk] at hb';cases hb';exact x7 (e3 (fr++fr2) (λi hi=>by simp[hi]) j d u hdd (by simpa using hu)) hsub) (hS.less (hW0.mem.goneM fr2)) (by rw[hby];exact hb) (hk63 m' hb)
          exact fin _ _ v w' β' fp' (by rw[ev];exact r1) ((hW0.trans hW1).trans r2) r3 h
         ·cases h
       ·cases h
      ·cases h
     ·cases h
    ·cases h
   ·cases h
  ·cases h
 ·cases h
end
end
section
section
variable{P:Program}{TT:Nat->Option TI}{X:Nat->Prop}{w:World}{β:Env}{fp:Nat->Nat->Prop}{ts:List SV}{ks:List KB}{a:Act}{K:SV->List KB->Prop}{o:Oper}{r:Option Nat}{n:Nat}{next:Act->World->Prop}{Q:Exit->Act->World->Prop}
theorem zi2[Dr](hTT:TTok P TT){t:TypeId}{len:Nat}{parts:Array (Nat × Operand)}(ho:o.op = .buildSlice t len parts)(h:mev TT ts ks (.buildSlice t len parts) K)(hM:Mem X w β fp ks)(hT:∀ x,Den w (Mx X fp) β (val ts x) (a.eval x))(hn:xo X w β fp a o K next):o.wpIn (qm r) n P a w next Q:=by
 have hnd:∀ c,o.op≠.defer c:=λc hc=>by rw [ho] at hc;cases hc
 simp only [mev] at h;split at h
 ·rename_i _ _ _ _ e _ ht;split at h
  ·rename_i size bytes agg zero desc eqk hte;split at h
   ·rename_i hble;have hble:=yh hble;obtain⟨info0,d0,z0',hi0,hu0,_,_,_,_,_,_,_,_,hd0⟩:=qk hTT ht;cases hd0;obtain⟨info,de,z0,hi,hue,hsz,hby,hz0,_,hzl,hzs,hzd,hz1,_⟩:=qk hTT hte;simp only at hsz hzl hzs hzd;rw [qu4] at h;have hlen0:((List.replicate len zero).flatten).length=len * size:=by simp[hzs]
    have hbase:((Array.range (len * info.size)).map (z0.cells[· % z0.cells.size]!)).toList.length=len * size:=by simp[hsz]
    have hzpos:∀ m,m<len * size->0<z0.cells.size:=λm hm=>by
     rcases dz z0.cells.size with e0|e0
     ·rw [hzl,hzs] at e0;rw [e0] at hm;omega
     ·exact e0
    obtain⟨cs',vs',h,hfill,r1,r2,r3⟩:=jl2 (a:=a) hT parts.toList _ _ ((Array.range (len * info.size)).map (z0.cells[· % z0.cells.size]!)).toList h (by rw[hlen0,hbase]) (λj s u hs hu=>by
     obtain⟨a1,a2⟩:=jr5 zero len j s hs;have hu':((Array.range (len * info.size)).map (z0.cells[· % z0.cells.size]!))[j]? = some u:=by rw[<-dy];exact hu
     obtain ⟨b1,b2⟩:=uq hu' (hzpos j (by rw [hzs] at a2;exact a2));rw [hzl] at b2;exact hzd w _ β _ s u a1 b2) (λu hu=>by
     obtain⟨j,hj,rfl⟩:=mr.1 hu;have hu':=pp hj;rw [dy] at hu';rw [hbase] at hj;obtain⟨b1,b2⟩:=uq hu' (hzpos j hj);exact hz1 _ _ b2)
    rw [x6,xe,o5] at h;have hW:=hM.newCells e cs' vs'.toArray (by simpa using r1) (λj s u hs hu=>r2 j s u hs (by simpa using hu)) (λj u hu=>r3 u (ov (by simpa using hu)));refine y3 hnd ?_ (hn _ _ (.slice (some ⟨w.heap.size,0,none⟩) len len) _ _ _ h hW (.cs _ 0 len len (locB w.heap.size) (yr _ _ _) (pu _)));have hrun:(Instr.buildSlice t len (parts.map λ(i,x)=>(i,a.eval x))).run P w = .ok (.slice (some ⟨w.heap.size,0,none⟩) len len) (w.alloc (.cells vs'.toArray e)):=by
     have hp:(parts.map λ(i,x)=>(i,a.eval x)).toList=parts.toList.map λp=>(p.1,a.eval p.2):=by simp
     have hfill':Instr.fill (λi=>some (i * info.size,info.size)) ((Array.range (len * info.size)).map (z0.cells[· % z0.cells.size]!)) (parts.map λ(i,x)=>(i,a.eval x)).toList=some vs'.toArray:=by
      rw[hp,hsz];rw [hsz,sv] at hfill;exact hfill
     have h24:¬ (len * info.size > 2 ^ 24):=by rw[hsz];omega
     by_cases hz:len * info.size=0
     ·rw [hz,rp,Array.map_empty] at hfill';simp only[Instr.buildSlice,p8,run_underlying hu0,ot,run_sizeOf hi,hz];have hfill2:Instr.fill (λi=>some (i * info.size,info.size)) #[] (List.map (λx=>(x.1,a.eval x.2)) parts.toList)=some vs'.toArray:=by rw[<-hp];exact hfill'
      simp[newRow,rp,hfill2]
     ·exact run_buildSlice w t e len _ _ info z0 hu0 hi hz0 h24 hz hfill'
    simp[execOp,ho,hrun]
   ·cases h
  ·cases h
 ·cases h
theorem zj8[Dr](hTT:TTok P TT){t:TypeId}{x y:Operand}(ho:o.op = .makeSlice t x y)(h:mev TT ts ks (.makeSlice t x y) K)(hM:Mem X w β fp ks)(hT:∀ x,Den w (Mx X fp) β (val ts x) (a.eval x))(hn:xo X w β fp a o K next):o.wpIn (qm r) n P a w next Q:=by
 have hnd:∀ c,o.op≠.defer c:=λc hc=>by rw [ho] at hc;cases hc
 simp only [mev] at h;split at h
 ·rename_i _ _ _ _ e _ ht;split at h
  ·rename_i size bytes agg zero desc eqk hte;obtain⟨info0,d0,z0',hi0,hu0,_,_,_,_,_,_,_,_,hd0⟩:=qk hTT ht;cases hd0;obtain⟨info,de,z0,hi,hue,hsz,hby,hz0,_,hzl,hzs,hzd,hz1,_⟩:=qk hTT hte;simp only at hsz hzl hzs hzd hby;rw [qq,qq] at h;have hx:=hT x;have hy:=hT y;split at h
   ·rename_i k l k' c ex ey;rw [ex] at hx;rw [ey] at hy;have e1:=jh hx;have e2:=jh hy;have hE:Mem0 (Mx X fp) w noE (λ_ _=>False) []:=⟨hM.mlt,λ_ _ h=>h.elim,λ_ _ _ h=>h.elim,λ_ _ h=>h.elim,λ_ _ h=>h.elim,λi L k hk=>by simp at hk⟩;obtain⟨ds,fr,h,f1,f2,f3⟩:=ql7 hE _ _ z0.cells.toList h (by simpa using hzl.symm) (λj s u hs hu=>hzd w _ noE j s u hs (by simpa using hu));obtain⟨⟨h0,h1,h2,h3⟩,h⟩:=h;rw [uw] at h;have hsize:ds.length=size:=by rw[f1,hzs]
    have hgetm:∀ (kk q:Nat) (u:Value),q<size->(madeCells z0.cells (c.toNat * info.size))[kk * size+q]? = some u->z0.cells[q]? = some u:=λkk q u hq hu=>by
     obtain⟨_,b2⟩:=uq hu om;rw [hzl,hzs,bn,Nat.mul_add_mod,rq hq] at b2;exact b2
    obtain⟨hW,hden⟩:=hM.newRow e size l.toNat c.toNat .no (λ_=>ds) (madeCells z0.cells (c.toNat * info.size)) (0,0) sm (λe=>by cases e) (by rw[size_madeCells,hsz]) om (λ_ _=>hsize) (λkk q d u _ hd hu=>by
     have hq:q<size:=by have:=(p6.1 hd).1;omega
     have hu':=hgetm kk q u hq hu;have:=f3 fr (λ_ h=>h) q d u hd (by simpa using hu');exact x7 this (λb hb=>.inl hb)) (λj u hu=>by
     have hj:j<c.toNat * info.size:=by have:=(gq.1 hu).1;rw [size_madeCells] at this;exact this
     have hp:0<z0.cells.size:=by
      rcases dz z0.cells.size with e0|e0
      ·rw [hzl,hzs,<-hsz] at e0;rw [e0] at hj;omega
      ·exact e0
     obtain⟨_,b2⟩:=uq hu hp;exact hz1 _ _ b2)
    refine y3 hnd ?_ (hn _ _ _ _ _ _ h hW hden);have hrun:=run_make (P:=P) w t e info z0 hu0 hi hz0 k k' l c h0 h1 (by rw[hby,Int.mul_comm];exact h2) h3;simp[execOp,ho,e1,e2,hrun]
   ·cases h
  ·cases h
 ·cases h
theorem jy3(w:World)(e:TypeId)(s:ByteArray):Lib.bytesWorld w e s=w.drew.alloc (.cells (Lib.bytesCells w e s) e ((Lib.bytesCells w e s).size,(Lib.bytesCells w e s).size+1)):=by
 have hh:(Lib.bytesWorld w e s).heap=(w.drew.alloc (.cells (Lib.bytesCells w e s) e ((Lib.bytesCells w e s).size,(Lib.bytesCells w e s).size+1))).heap:=by
  apply aw;intro i;rcases co i w.heap.size with h|h|h
  ·rw[Lib.bytesWorld_at_old w e s i h];exact(Below.heap_alloc w.drew _ i h).symm
  ·subst h;rw[Lib.bytesWorld_at_new];show _=(w.heap.push _)[w.heap.size]?;simp
  ·rw[rn (by rw[Lib.bytesWorld_size];omega)];show _=(w.heap.push _)[i]?;rw[rn (by simp;omega)]
 have h2:∀ w':World,(Lib.bytesWorld w e s).heap=w'.heap->w'.tape=w.tape->w'.drawn=w.drew.drawn->w'.os=w.os->w'.output=w.output->Lib.bytesWorld w e s=w':=by
  intro w' a b c d f;have g1:(Lib.bytesWorld w e s).tape=w.tape:=by simp[Lib.bytesWorld,World.freeze,World.alloc,World.drew,-World.alloc_eq,-World.drew_eq]
  have g2:(Lib.bytesWorld w e s).drawn=w.drew.drawn:=by simp[Lib.bytesWorld,World.freeze,World.alloc,World.drew,-World.alloc_eq,-World.drew_eq]
  have g3:(Lib.bytesWorld w e s).os=w.os:=by simp[Lib.bytesWorld,World.freeze,World.alloc,World.drew,-World.alloc_eq,-World.drew_eq]
  have g4:(Lib.bytesWorld w e s).output=w.output:=by simp[Lib.bytesWorld,World.freeze,World.alloc,World.drew,-World.alloc_eq,-World.drew_eq]
  generalize Lib.bytesWorld w e s=w1 at *;obtain⟨h1,t1,d1,o1,u1⟩:=w1;obtain⟨h2,t2,d2,o2,u2⟩:=w';simp only at a b c d f g1 g2 g3 g4;subst a;simp[b,c,d,f,g1,g2,g3,g4]
 exact h2 _ hh rfl rfl rfl rfl
theorem zh0{w:World}{t e:TypeId}{b n c:Nat}{vs:Array Value}(ht:P.underlying t=some (.slice e))(he:P.underlying e=some (.int .u8))(hb:w.heap[b]? = some (.cells vs e (0,0))) :
 (convert t t (.slice (some ⟨b,0,none⟩) n c)).run P w = .ok (.slice (some ⟨b,0,none⟩) n c) (World.setBlock w b (.cells vs e (vs.size,vs.size+1))):=by
 have hlt:b<w.heap.size:=yp hb;have hsh:w.shape? b=some (e,vs.size):=by
  unfold World.shape?;rw[hb]
 have hfr:w.freeze ⟨b,vs.size,none⟩ 1=World.setBlock w b (.cells vs e (vs.size,vs.size+1)):=by
  unfold World.freeze;rw[if_neg (by decide)];unfold World.setBlock;show({ w with heap:=w.heap.modify b _ }:World)=_;congr 1;apply aw;intro j;rw[cw,f5];by_cases e1:b=j
  ·subst e1;rw[if_pos rfl,if_pos rfl,if_pos hlt,hb];rfl
  ·rw[if_neg e1,if_neg e1]
 simp[convert,run_underlying ht,run_underlying he,markStringish,hsh];exact hfr
theorem zp2[Dr](hTT:TTok P TT){src dst:TypeId}{x:Operand}(ho:o.op = .convert src dst x)(h:mev TT ts ks (.convert src dst x) K)(hM:Mem X w β fp ks)(hT:∀ x,Den w (Mx X fp) β (val ts x) (a.eval x))(hn:xo X w β fp a o K next):o.wpIn (qm r) n P a w next Q:=by
 have hnd:∀ c,o.op≠.defer c:=λc hc=>by rw [ho] at hc;cases hc
 simp only [mev] at h;split at h
 ·rename_i _ _ tis _ _ _ _ e _ hts ht;obtain⟨_,us,_,_,hsrc,_⟩:=qk hTT hts;split at h
  ·rename_i _ _ _ _ _ hte;obtain⟨info0,d0,z0',hi0,hu0,_,_,_,_,_,_,_,_,hd0⟩:=qk hTT ht;cases hd0;obtain⟨info1,d1,z1',hi1,hu1,_,_,_,_,_,_,_,_,hd1⟩:=qk hTT hte;cases hd1;rw [qq] at h;have hx:=hT x;split at h
   ·rename_i s ex;rw [ex] at hx;have ev:=y9 hx;rw [uw] at h;have hrun:=Lib.run_convert_string_bytes (P:=P) w src dst e ⟨s.toArray⟩ hsrc hu0 hu1;rw [jy3,qb4] at hrun;have hge:=jp5 w s.length 0 e;have hC:(Lib.bytesCells w e ⟨s.toArray⟩).size=grownCap w s.length 0 e:=by
     unfold Lib.bytesCells;rw[qb4];simp;omega
    have hW:=hM.drew;have hget:∀ j u,j<s.length->(Lib.bytesCells w e ⟨s.toArray⟩)[j]? = some u->∃ b,s[j]? = some b/\u = .int .u8 b.toNat:=λj u hj hu=>by
     unfold Lib.bytesCells at hu;rw [rx (by simpa using hj)] at hu;simp at hu;obtain⟨b,h1,h2⟩:=hu;exact⟨b,h1,h2.symm⟩
    obtain⟨hW2,hden⟩:=hW.mem.newRow e 1 s.length (grownCap w s.length 0 e) .no (λj=>[.int .u8 (qw s j)]) (Lib.bytesCells w e ⟨s.toArray⟩) ((Lib.bytesCells w e ⟨s.toArray⟩).size,(Lib.bytesCells w e ⟨s.toArray⟩).size+1) (λo ho=>by omega) (λe=>by cases e) (by rw[hC,Nat.mul_one]) hge (λ_ _=>rfl) (λk q d u hk hd hu=>by
     cases q with
     |zero =>
      simp at hd;subst hd;obtain⟨b,hb,rfl⟩:=hget k u hk (by simpa using hu);have:qw s (k:Int)=b.toNat:=by unfold qw;simp[hb]
      rw[this];exact .int _ _
     |succ q=>simp at hd) (λj u hu=>by
     unfold Lib.bytesCells at hu;rw [Array.getElem?_append] at hu;split at hu
     ·simp at hu;obtain⟨b,_,rfl⟩:=hu;rfl
     ·have:=sw hu;simp at this;rw[this.2];rfl)
    refine y3 hnd ?_ (hn _ _ _ _ _ _ h (hW.trans hW2) hden);simp only[execOp,ho,ev,strV,p8,hrun,ot,o6];rfl
   ·rename_i i n c ex;split at h
    ·rename_i hsd hnc;have esd:=jg hsd;have enc:=jg hnc;rw [jc] at h;split at h
     ·rename_i e' l hg;split at h
      ·rename_i q1 q2 q3;cases jg q1;rw [zx] at q2;have hll:=jg q2;have hpos:=yh q3;obtain⟨xs,hxs,h⟩:=ja2 h;rw [y8,uw] at h;simp only [lw] at h;rw [ex] at hx;obtain⟨L,hL,ev⟩:∃ L,β i=some L/\a.eval x = .slice (some ⟨L.b,0,none⟩) n c:=by
        generalize a.eval x=av at hx;cases hx with
        |cs _ _ _ _ L hL _=>exact⟨L,hL,rfl⟩
       have hki:=qt hg sm;have hil:i<ks.length:=(p6.1 hki).1;have hkb:=hM.at hki sm hL;cases hkb with
       |cells _ _ vs hfp hblk hlen hd h1 =>
        subst esd enc;have hrun:=zh0 (P:=P) (n:=n) (c:=n) hu0 hu1 hblk;have hvs:vs.size=n:=om
        have hxl:xs.length=n:=by rw [hxs,mq] at hll;exact hll
        have hdl:(xs.map (DV.int .u8)).length=n * 1:=by rw[mq,hxl,Nat.mul_one]
        have hW:=hM.again (L':=⟨L.b,n,n,1,false⟩) (.row e 1 n .no (qs (xs.map (DV.int .u8)) 1)) (.cells vs e (vs.size,vs.size+1)) hil hL hfp rfl
         (.row e 1 n .no _ vs (vs.size,vs.size+1) (λx=>Iff.rfl) rfl rfl rfl (λe=>by cases e) (xw _ _ _ (yp hblk)) (λo ho hh=>by have:=hh.1;omega) (by rw[hvs,Nat.mul_one]) (pu _) (λt ht=>qs5 hdl t ht) (λt q d u ht hdd hu=>by
          have hq:q<1:=by have:=(p6.1 hdd).1;rw [qs5 hdl _ ht] at this;exact this
          obtain rfl:q=0:=om
          unfold qs at hdd;rw [lq,if_pos om,m8,mw] at hdd;rw [Nat.mul_one,d6] at hdd hu;cases hxt:xs[t]? with
          |none=>rw [hxt] at hdd;cases hdd
          |some x0 =>
           rw [hxt] at hdd;cases hdd;have hlt:l[t]? = some (.d (.int .u8 x0)):=by rw[hxs,mw,hxt];rfl
           cases jh (hd t _ u hlt hu);exact .int _ _) h1)
        refine y3 hnd ?_ (hn _ _ _ _ _ _ h hW (.all ks.length ⟨L.b,n,n,1,false⟩ (yr _ _ _) rfl));simp only[execOp,ho,ev,p8,hrun,ot,o6]
      ·cases h
     ·cases h
    ·cases h
   ·cases h
  ·cases h
 ·cases h
theorem xe2{b:Bool}{cs:Array Value}(h1:b=true->∃ t x,Value.agg cs = .iface t x)(h2:b=false->Value.agg cs = .nilIface):False:=by
 cases b with
 |true=>obtain⟨t,x,h⟩:=h1 rfl;cases h
 |false=>cases h2 rfl
theorem yh1[Dr]{ea:Bool}{v:SV}{c:List SV->Prop}(h:qp7 ea v c):∃ vs,c vs/\∀ (w:World) (M:Nat->Prop) (β:Env) (u:Value),Den w M β v u->∃ vc,u=q9 ea vc/\vs.length=vc.length/\(ea=false->vc.length=1)/\(∀ (q:Nat) (s:SV) (x:Value),vs[q]? = some s->vc[q]? = some x->Den w M β s x)/\∀ x ∈ vc,x.oneCell'=true:=by
 unfold qp7 at h;split at h
 ·split at h
  ·rename_i l;refine⟨l,h,λw M β u hu=>?_⟩;cases hu with
   |agg _ vs h1 h2 h3=>exact⟨vs,rfl,h1,λe=>by(cases e),h2,h3⟩
  ·cases h
 ·split at h
  ·cases h
  ·rename_i hna;have hc:cellsOf v=[v]:=by
    unfold cellsOf;split
    ·exact absurd rfl (hna _)
    ·rfl
   have h':c (cellsOf v):=by
    unfold wb at h;split at h
    ·exact absurd rfl (hna _)
    ·cases h
    ·cases h
    ·split at h
     ·rw[hc];exact h
     ·cases h
    ·rw[hc];exact h
   refine⟨[v],by rw[<-hc];exact h',λw M β u hu=>?_⟩;obtain⟨_,hcells⟩:=qa7 (w:=w) (M:=M) (β:=β) h;obtain⟨c1,c2,c3⟩:=hcells u hu;rw [hc] at c1;have hone:u.oneCell'=true:=by
    cases hag:u with
    |agg cs =>
     subst hag;simp only [Value.cells] at c1 c2 c3;cases hu <;> first|(exact absurd rfl (hna _))|skip
     all_goals first|(rename_i hr;cases hr)|skip
     all_goals first|exact(xe2 ‹_› ‹_›).elim|skip
     all_goals (first|(unfold wb at h;simp only at h)|skip)
     all_goals (first|(split at h;(rename_i h1;exact h1);exact h.elim)|exact h.elim|skip)
    |_=>subst hag;exact c3 _ (by simp[Value.cells])
   refine⟨[u],rfl,rfl,λ_=>rfl,λq s x hs hx=>?_,λx hx=>?_⟩
   ·cases q with
    |zero=>simp at hs hx;subst hs hx;exact hu
    |succ q=>simp at hs
   ·simp at hx;subst hx;exact hone
theorem yh0[Dr]{eks:List EK}:∀ {xs ys:List Value},xs.length=eks.length->ys.length=eks.length->Fits eks xs->Fits eks ys->jm eks xs ys=true->xs=ys:=by
 induction eks with
 |nil =>
  intro xs ys h1 h2 _ _ _;rw[dq h1,dq h2]
 |cons k eks ih =>
  intro xs ys h1 h2 f1 f2 he;match xs,ys,h1,h2 with
  |x :: xs,y :: ys,h1,h2 =>
   simp only [jm,p7] at he;have hx:=f1 0 k x rfl rfl;have hy:=f2 0 k y rfl rfl;have hxy:x=y:=by
    have he1:=he.1;cases k with
    |int k =>
     cases x <;> simp [fits] at hx
     cases y <;> simp [fits] at hy
     subst hx hy;simp [zu] at he1;rw[he1]
    |bool =>
     cases x <;> simp [fits] at hx
     cases y <;> simp [fits] at hy
     simp [zu] at he1;rw[he1]
    |str =>
     cases x <;> simp [fits] at hx
     cases y <;> simp [fits] at hy
     rename_i p q;have:(p == q)=true:=by rw[jn2];simpa[zu] using he1
     have hd:(p.data == q.data)=true:=this;simp only [oy] at hd;rw[ByteArray.ext hd]
   rw[hxy,ih (by simpa using h1) (by simpa using h2) (λj k x a b=>f1 (j+1) k x (by simpa using a) (by simpa using b)) (λj k x a b=>f2 (j+1) k x (by simpa using a) (by simpa using b)) he.2]
theorem jy7[Dr]{k:EK}{x:Value}(h:fits k x)(n:Nat):Instr.sameBits n x x=true:=by
 cases k <;> cases x <;> simp [fits] at h <;> cases n <;> simp [Instr.sameBits,jn2]
theorem jx6[Dr]{eks:List EK}{ka:Bool}{xs:List Value}(hl:xs.length=eks.length)(h1:ka=false->xs.length=1)(hf:Fits eks xs):Instr.sameBits 10000 (q9 ka xs) (q9 ka xs)=true:=by
 cases ka with
 |false =>
  match xs,h1 rfl,hl,hf with
  |[x],_,hl,hf=>match eks,hl with
   |[k],_=>exact jy7 (hf 0 k x rfl rfl) _
 |true =>
  show Instr.sameBits (9999+1) (.agg xs.toArray) (.agg xs.toArray)=true;simp only[Instr.sameBits,beq_self_eq_true,p9,o7];intro p hp;obtain⟨j,hj,rfl⟩:=mr.1 hp;simp only[List.getElem_zip];have hj':j<xs.length:=by simpa using hj
  exact jy7 (hf j (eks[j]' om) (xs[j]) (pp _) (pp _)) _
theorem qy4{b:Nat}{es:Array MapEntry}{clock:Nat}(o:Obj)(h:w.heap[b]? = some (.map es clock)):(setObj b o).run P w = .ok () (World.setBlock w b o):=by
 simp[setObj,Sem.run,h,World.setBlock]
theorem Born.push{es:Array MapEntry}{c:Nat}(h:Born es c)(k v:Value):Born (es.push ⟨k,v,c⟩) (c+1):=by
 have key:∀ (i:Nat) (e:MapEntry),(es.push ⟨k,v,c⟩)[i]? = some e->(i<es.size/\es[i]? = some e)\/(i=es.size/\e.born=c):=λi e hi=>by
  rw [Array.getElem?_push] at hi;split at hi
  ·rename_i he;cases hi;exact .inr ⟨he,rfl⟩
  ·exact .inl ⟨(gq.1 hi).1,hi⟩
 refine⟨λi j e e' hi hj hb=>?_,λi e hi=>?_⟩
 ·rcases key i e hi with⟨a1,a2⟩|⟨a1,a2⟩ <;> rcases key j e' hj with⟨b1,b2⟩|⟨b1,b2⟩
  ·exact h.un i j e e' a2 b2 hb
  ·have:=h.lt i e a2;omega
  ·have:=h.lt j e' b2;omega
  ·omega
 ·rcases key i e hi with⟨a1,a2⟩|⟨a1,a2⟩
  ·have:=h.lt i e a2;omega
  ·omega
theorem Born.modify{es:Array MapEntry}{c:Nat}(h:Born es c)(j:Nat)(f:MapEntry->MapEntry)(hf:∀ e,(f e).born=e.born):Born (es.modify j f) c:=by
 have key:∀ (i:Nat) (e:MapEntry),(es.modify j f)[i]? = some e->∃ e0,es[i]? = some e0/\e.born=e0.born:=λi e hi=>by
  rw [cw] at hi;split at hi
  ·obtain⟨e0,h0,rfl⟩:=f6.1 hi;exact⟨e0,h0,hf e0⟩
  ·exact⟨e,hi,rfl⟩
 refine⟨λi k e e' hi hk hb=>?_,λi e hi=>?_⟩
 ·obtain⟨a,a1,a2⟩:=key i e hi;obtain⟨b,b1,b2⟩:=key k e' hk;exact h.un i k a b a1 b1 om
 ·obtain⟨a,a1,a2⟩:=key i e hi;have:=h.lt i a a1;omega
theorem zp1[Dr](hTT:TTok P TT){t:TypeId}{res:Option Operand}(ho:o.op = .makeMap t res)(h:mev TT ts ks (.makeMap t res) K)(hM:Mem X w β fp ks)(hT:∀ x,Den w (Mx X fp) β (val ts x) (a.eval x))(hn:xo X w β fp a o K next):o.wpIn (qm r) n P a w next Q:=by
 have hnd:∀ c,o.op≠.defer c:=λc hc=>by rw [ho] at hc;cases hc
 simp only [mev] at h;split at h
 ·rename_i _ _ _ _ kt et _ ht;obtain⟨info0,d0,z0,hi0,hu0,_,_,_,_,_,_,_,_,hd0⟩:=qk hTT ht;cases hd0;split at h
  ·rename_i _ _ ka _ kd eqk _ _ ea _ _ _ hkt het;have hn0:=hM.kl ks.length (pu _);have hmk:∀ ks',(∃ s:SV,s = .map ks.length/\ks'=ks++[.mapx (keks ka kd eqk) ka ea [] .free]/\K s ks')->(execOp a.eval o).run P w = .ok (.value (.map (some w.heap.size))) (w.alloc (.map #[] 0))->o.wpIn (qm r) n P a w next Q:=by
    rintro _ ⟨s,rfl,rfl,hK⟩ hrun
    have hW:=hM.alloc (.map #[] 0) (locB w.heap.size) (.mapx (keks ka kd eqk) ka ea [] .free) rfl (.mapx _ _ _ [] .free #[] 0 (λx=>Iff.rfl) (by show (w.heap.push _)[w.heap.size]? = _;simp) rfl (λj p e hp=>by simp at hp) ⟨λi j e e' hi=>by simp at hi,λi e hi=>by simp at hi⟩ trivial);exact y3 hnd hrun (hn _ _ _ _ _ _ hK hW (.map _ (locB w.heap.size) (yr _ _ _)))
   unfold jb4 at h;split at h
   ·rw [x6,xe,o5] at h;refine hmk _ ⟨_,rfl,rfl,h⟩ ?_;simp[execOp,ho,Instr.makeMap]
   ·rename_i x;rw [qq] at h;have hx:=hT x;split at h
    ·rename_i k q ex;rw [ex] at hx;have ev:=jh hx;rw [x6,xe,o5] at h;refine hmk _ ⟨_,rfl,rfl,h⟩ ?_;simp[execOp,ho,Instr.makeMap,ev,run_underlying hu0,asInt,asIntOf]
    ·cases h
  ·cases h
 ·cases h
theorem zj7[Dr](hTT:TTok P TT){t:TypeId}{m k v:Operand}(ho:o.op = .mapUpdate t m k v)(h:mev TT ts ks (.mapUpdate t m k v) K)(hM:Mem X w β fp ks)(hT:∀ x,Den w (Mx X fp) β (val ts x) (a.eval x))(hn:xo X w β fp a o K next):o.wpIn (qm r) n P a w next Q:=by
 have hnd:∀ c,o.op≠.defer c:=λc hc=>by rw [ho] at hc;cases hc
 simp only [mev] at h;split at h
 ·rename_i _ _ _ _ kt et _ ht;obtain⟨info0,d0,z0,hi0,hu0,_,_,_,_,_,_,_,_,hd0⟩:=qk hTT ht;cases hd0;split at h
  ·rename_i _ _ ka _ kd eqk _ _ ea _ _ _ hkt het;rw [qq] at h;obtain⟨hne,ds,h,hkey⟩:=jm7 (w:=w) (M:=Mx X fp) (β:=β) h;obtain⟨kc,ekc,hkl,hdl,hkf,hkr⟩:=hkey _ (hT k);have hK:=jp1 hTT hkt hne;rw [qq] at h;obtain⟨vs,h,hel⟩:=yh1 h;obtain⟨vc,evc,v1,v2,v3,v4⟩:=hel w (Mx X fp) β _ (hT v);split at h
   ·rw [qq] at h;have hm:=hT m;split at h
    ·rename_i b hx;rw [hx] at hm;have ev:∃ L,a.eval m = .map (some L.b)/\β b=some L:=by
      generalize a.eval m=av at hm;cases hm with
      |map _ L hL=>exact⟨L,rfl,hL⟩
     obtain⟨L,ev,hL⟩:=ev;rw [jc] at h;split at h
     ·rename_i eks ka' ea' l hg;have hk:=qt hg sm;split at h
      ·rename_i q1 q2 q3;have q1:=js4 q1;have q2:=qj9 q2;have q3:=qj9 q3;subst q1 q2 q3;obtain⟨l',hl',h⟩:=h;rw [y8] at h;have hkb:=hM.at hk sm hL;have hil:b<ks.length:=(p6.1 hk).1;cases hkb with
       |mapx _ _ _ _ _ es clock hfp hb hl hent hbo =>
        have hfind:=qy9 (P:=P) (w:=w) (M:=Mx X fp) (β:=β) hK hkl hdl hkf hkr l es.toList (by simpa using hl) (λj p e hp he=>hent j p e hp (by simpa using he));have hchk:=hK.chk w false kc hkl hkf;have hka1:ka=false->kc.length=1:=λe=>by
         subst e;rw[hkl];have hne':=hne;simp only [keks] at hne' ⊢;cases kd <;> first|rfl|exact absurd rfl hne'
        have hst:∀ o',Step (Mx X fp) w (World.setBlock w L.b o'):=λo'=>Step.setBlock w (.inr ⟨b,(hfp _).2 rfl⟩) o'
        have hent':∀ o' p e,EntAt w (Mx X fp) β (keks ka kd eqk) ka ea p e->EntAt (World.setBlock w L.b o') (Mx X fp) β (keks ka kd eqk) ka ea p e:=λo' p e he=>he.keep (hst o').keep (λ_ _ e=>e) (Ext.refl _)
        have hnew:∀ bo,EntAt w (Mx X fp) β (keks ka kd eqk) ka ea (ds,vs) ⟨q9 ka kc,q9 ea vc,bo⟩:=λbo=>⟨kc,vc,rfl,rfl,hdl,v1,hkl,hka1,v2,hkf,hkr,v3,v4⟩
        rcases qs2 l ds 0 with⟨b1,b2,b3,_⟩|⟨j,p,b1,b2,b3,b4,b5,_⟩
        ·rw [b3] at hl';subst hl';have hW:=hM.set (.mapx (keks ka kd eqk) ka ea (l++[(ds,vs)]) .free) (.map (es.push ⟨q9 ka kc,q9 ea vc,clock⟩) (clock+1)) hil hL hfp (.mapx _ _ _ _ _ _ _ hfp (xw _ _ _ (yp hb)) (by simp[hl]) (λj p e hp he=>hent' _ _ _ (by
          by_cases hj:j<l.length
          ·rw [mn hj] at hp;rw [s5 om,<-mv] at he;exact hent j p e hp he
          ·have hj':j=l.length:=by
            have:=(p6.1 hp).1;simp at this;omega
           subst hj';rw [m7 (pu _)] at hp;rw [hl,s6] at he;simp at hp he;subst hp he;exact hnew _)) (hbo.push _ _) trivial)
         refine qh9 hnd ?_ (hn _ _ _ _ _ _ h hW (.any _));rw [b1] at hfind;simp only [su] at hfind;simp only[execOp,ho,ev,ekc,evc,Instr.mapUpdate,p8,run_underlying hu0,ot,ut hb,hchk,hfind,qy4 _ hb,o6]
        ·rw [b5] at hl';subst hl';have hlt:j<es.size:=by rw[<-hl];exact(p6.1 b2).1
         have hej:=mv hlt;obtain⟨kc',vc',a1,a2,a3,a4,a5,a6,a7,a8,a9,a10,a11⟩:=(hent j p es[j] b2 hej).ex;have hkk:kc=kc':=yh0 hkl a5 hkf a8 (by rw[qx6 hkl a5 hdl a3 hkf a8 hkr a9];exact b3);subst hkk;have hW:=hM.set (.mapx (keks ka kd eqk) ka ea (l.set j (ds,vs)) .free) (.map (es.modify j λe=>{ e with key:=q9 ka kc,val:=q9 ea vc }) clock) hil hL hfp (.mapx _ _ _ _ _ _ _ hfp (xw _ _ _ (yp hb)) (by simp[hl]) (λq p' e hp he=>hent' _ _ _ (by
          rw [m5] at hp;rw [cw] at he;by_cases hq:j=q
          ·subst hq;rw [if_pos rfl,if_pos om] at hp;rw [if_pos rfl,hej] at he;cases hp;simp only [l7] at he;cases he;exact hnew _
          ·rw [if_neg hq] at hp he;exact hent q p' e hp he)) (hbo.modify _ _ (λ_=>rfl)) trivial)
         refine qh9 hnd ?_ (hn _ _ _ _ _ _ h hW (.any _));rw [b1] at hfind;have hej':es.toList[0+j]? = some es[j]:=by simp
         simp only [dt,hej',l7] at hfind;have hkeep:(Instr.keyThatStays (((es[j]?).map (·.key)).getD (q9 ka kc)) (q9 ka kc)).run P w = .ok (q9 ka kc) w:=by
          rw[hej];simp only[l7,d7,a1,Instr.keyThatStays,jx6 hkl hka1 hkf,if_true,o6]
         simp only[execOp,ho,ev,ekc,evc,Instr.mapUpdate,p8,run_underlying hu0,ot,ut hb,hchk,hfind,hkeep,qy4 _ hb,o6,o5]
      ·cases h
     ·cases h
    ·cases h
   ·cases h
  ·cases h
 ·cases h
theorem zv4[Dr]{w:World}{b:Nat}{vs:Array Value}{e:TypeId}{fz:Nat × Nat}(h:w.heap[b]? = some (.cells vs e fz))(n:Nat)(hn:n≠0) :
 ∃ o,w.freeze ⟨b,0,none⟩ n=World.setBlock w b o:=by
 obtain⟨lo,hi⟩:=fz;refine⟨.cells vs e (if lo == hi then (0,0+n) else (min lo 0,max hi (0+n))),?_⟩;unfold World.freeze World.setBlock;rw[if_neg hn];congr 1;apply aw;intro j;have hb:b<w.heap.size:=yp h;rw[cw,f5];by_cases e1:b=j
 ·subst e1;rw[if_pos rfl,if_pos rfl,if_pos hb,h];rfl
 ·rw[if_neg e1,if_neg e1]
theorem zr0[Dr]{n:Nat}{f:Nat->List DV}(h:ze2 n f)(j:Nat)(x:UInt8)(hx:(j5 n f)[j]? = some x):j<n/\f j=[.int .u8 (x.toNat:Int)]:=by
 obtain⟨h1,y,h2,h3⟩:=qy3 (λi hi=>by obtain⟨x,hx⟩:=h i hi;exact⟨_,hx⟩) j x hx;obtain⟨z,hz⟩:=h j h1;rw [h2] at hz;injection hz with hz1 _
 injection hz1 with _ hz2
 refine⟨h1,?_⟩;rw[h2,hz2];rw [hz2] at h3;have:z=x:=by rw[<-h3];simp
 rw[this]
theorem zh1[Dr](hTT:TTok P TT){args:Array Operand}{argTypes:Array TypeId}(ho:o.op = .call ⟨.builtin .unsafeString,args,argTypes⟩)(h:mev TT ts ks (.call ⟨.builtin .unsafeString,args,argTypes⟩) K)(hM:Mem X w β fp ks)(hT:∀ x,Den w (Mx X fp) β (val ts x) (a.eval x))(hn:xo X w β fp a o K next):o.wpIn (qm r) n P a w next Q:=by
 have hnd:∀ c,o.op≠.defer c:=λc hc=>by rw [ho] at hc;cases hc
 obtain⟨args⟩:=args;obtain⟨argTypes⟩:=argTypes;simp only [mev] at h;split at h
 ·rename_i p m pt it;rw [qq] at h;split at h
  ·rename_i c hm;have hvm:=hT m;rw [hm] at hvm;have em:=jh hvm;rw [qq] at h;have hv:=hT p;split at h
   ·rename_i hp;rw [hp] at hv;have ep:a.eval p = .pointer none:=by
     generalize a.eval p=av at hv;cases hv;rfl
    obtain⟨hc,h⟩:=h;subst hc;refine y3 hnd ?_ (hn _ _ _ _ _ _ h (Went.refl hM) (.d (.str [])));simp[execOp,ho,resolve,invoke,builtin,ep,em,Lib.run_unsafeString_none,strV];rfl
   ·rename_i i hp;rw [hp] at hv;split at h
    ·rename_i _ _ _ _ e _ ht;split at h
     ·rename_i _ _ _ _ _ hte;rw [jc] at h;split at h
      ·rename_i e' k z f hg;split at h
       ·rename_i hee;have hee:e'=e:=cy hee;subst hee;obtain⟨⟨hc,h63,hoct⟩,h⟩:=h;rw [y8] at h;obtain⟨info0,d0,z0',hi0,hu0,_,_,_,_,_,_,_,_,hd0⟩:=qk hTT ht;cases hd0;obtain⟨info,de,z0,hi,hue,hsz,_⟩:=qk hTT hte;simp only at hsz;have hki:=qt hg sm;have hil:i<ks.length:=(p6.1 hki).1;generalize hav:a.eval p=av at hv;cases hv with
        |rptr _ _ _ _ L hL hj =>
         have hb:=hM.at hki sm hL;cases hb with
         |rowNil _ _ _ _ _ _ hc0 hn0=>omega
         |row _ _ _ _ _ vs fz hfp hnil hLs hLn hzz hb hfz hvs hng hfl hr h1 =>
          have hk0:k≠0:=om
          have hlen:(j5 k f).length=k:=by simp[j5]
          have hcs:P.cellsOf e'=1:=by simp[Program.cellsOf,hi,hsz]
          have hshape:w.shape? L.b=some (e',vs.size):=by simp[World.shape?,hb]
          have hrun:=Lib.run_unsafeString_row (P:=P) (w:=w) pt it o.type e' hu0 hcs L.b vs.size hshape (j5 k f) (by intro e0;rw [e0] at hlen;simp at hlen;omega) om om (λj x hx=>by
           obtain⟨hjk,hfj⟩:=zr0 hoct j x hx;have hlt:j<vs.size:=om
           have hrj:=hr j 0 (.int .u8 (x.toNat:Int)) (vs[j]'hlt) hjk (by simp[hfj]) sm;have:=jf7 hrj;have ea:((⟨L.b,0,none⟩:Addr).add j)=⟨L.b,j,none⟩:=by unfold Addr.add;split <;> simp_all
           rw[ea];simp[World.cell?,hb,hlt,this])
          rw [hlen] at hrun;obtain⟨ob,hob⟩:=zv4 hb k hk0;rw [hob] at hrun;have W1:=hM.set (.obj (λ_ _ _ _=>True)) ob hil hL hfp (.obj _ (λ_ _ _ _ _ _ _ _ _ _=>trivial) trivial);have W2:=W1.mem.gone [i];have hks:jk [i] (ks.set i (.obj (λ_ _ _ _=>True)))=ks.set i .gone:=by simp[jk,zr]
          rw [hks] at W2;have W:=W1.trans W2;refine y3 hnd ?_ (hn _ _ _ _ _ _ h W (.d (.str _)));have e0:(0 * 1+0:Nat)=0:=rfl;rw [e0] at hav;subst hc;simp[execOp,ho,resolve,invoke,builtin,hav,em,hrun,strV]
       ·cases h
      ·cases h
     ·cases h
    ·cases h
   ·cases h
  ·cases h
 ·cases h
theorem ym2[Dr](hTT:TTok P TT)(h:mev TT ts ks o.op K)(hM:Mem X w β fp ks)(hT:∀ x,Den w (Mx X fp) β (val ts x) (a.eval x))(hn:xo X w β fp a o K next):o.wpIn (qm r) n P a w next Q:=by
 have hnd:∀ c,o.op≠.defer c:=λc hc=>by rw [hc] at h;exact h
 cases ho:o.op with
 |alloc t =>
  rw [ho] at h;simp only [mev] at h;split at h
  ·cases h
  ·rename_i size bytes agg zero desc eqk ht;rw [x6,xe,o5] at h;obtain⟨info,d,z,hi,hu,hsz,_,hz,hag,hzl,hzs,hzd,hz1,_⟩:=qk hTT ht;have hW:=hM.newCells t zero z.cells hzl.symm (λj s u a b=>hzd _ _ _ j s u a b) hz1;refine y3 hnd ?_ (hn _ _ (.pointer (some ⟨w.heap.size,0,none⟩)) _ _ _ h hW (.ptr _ 0 (locB w.heap.size) (yr _ _ _)));simp[execOp,ho,Instr.alloc,qx5 hi hz,newVar,newRow]
 |box t x =>
  rw [ho] at h;simp only [mev] at h;split at h
  ·cases h
  ·rename_i size bytes agg zero desc eqk ht;rw [qq] at h;obtain⟨h,hcells⟩:=qa7 (w:=w) (M:=Mx X fp) (β:=β) h;obtain⟨c1,c2,c3⟩:=hcells _ (hT x);split at h
   ·rw [x6,xe,o5] at h;have hW:=hM.newCells t (cellsOf (val ts x)) (a.eval x).cells c1 c2 (λj u hu=>c3 u (sw hu));refine y3 hnd ?_ (hn _ _ (.pointer (some ⟨w.heap.size,0,none⟩)) _ _ _ h hW (.ptr _ 0 (locB w.heap.size) (yr _ _ _)));simp[execOp,ho,Instr.box,newVar,newRow]
   ·cases h
 |store t x y=>rw [ho] at h;exact xc0 hTT ho h hM hT hn
 |buildSlice t l ps=>rw [ho] at h;exact zi2 hTT ho h hM hT hn
 |makeSlice t x y=>rw [ho] at h;exact zj8 hTT ho h hM hT hn
 |makeMap t x=>rw [ho] at h;exact zp1 hTT ho h hM hT hn
 |mapUpdate t x y z=>rw [ho] at h;exact zj7 hTT ho h hM hT hn
 |convert s d x=>rw [ho] at h;exact zp2 hTT ho h hM hT hn
 |call c =>
  obtain⟨callee,args,argTypes⟩:=c;rw [ho] at h;cases callee with
  |builtin b=>cases b <;> first|exact zu6 hTT ho h hM hT hn|exact zh1 hTT ho h hM hT hn|exact h.elim
  |value g=>exact h.elim
  |invoke r m=>exact h.elim
 |_=>rw [ho] at h;exact h.elim
end
end
section
section
variable{X:Nat->Prop}{w:World}{β:Env}{fp:Nat->Nat->Prop}{ks:List KB}
theorem Mem.know[Dr](h:Mem X w β fp ks){i:Nat}{L:Loc}(k:KB)(hi:i<ks.length)(hL:β i=some L)(hk:KBat w (Mx X fp) β L (fp i) k):Went X w β fp w β fp (ks.set i k):=by
 refine h.go (Step.refl _ _) (Ext.refl _) (λj b hb=>.inl ⟨j,hb⟩) h.dis h.kw (λj hj=>h.kl j (by simpa using hj)) h.kn (λj L' k' hk' hne hL'=>?_);rw [m5] at hk';by_cases e:i=j
 ·subst e;rw [if_pos rfl,if_pos hi] at hk';cases hk';obtain rfl:L=L':=oq (hL.symm.trans hL');exact .inr hk
 ·rw [if_neg e] at hk';exact .inl ⟨hk',hL',rfl,λ_ _=>rfl⟩
theorem yl3(l:List (List DV × List SV))(key:List DV)(z:List SV)(i:Nat):(idxM l key i=none/\opnM l key z=(l++[(key,z)],z,l.length))\/∃ j p,idxM l key i=some (i+j)/\l[j]? = some p/\jo key p.1=true/\opnM l key z=(l,p.2,j):=by
 induction l generalizing i with
 |nil=>exact .inl ⟨rfl,rfl⟩
 |cons p l ih =>
  obtain⟨k,v⟩:=p;by_cases h:jo key k=true
  ·exact .inr ⟨0,(k,v),by simp[idxM,h],rfl,h,by simp[opnM,h]⟩
  ·rcases ih (i+1) with⟨a,b⟩|⟨j,p,a,b,c,d⟩
   ·exact .inl ⟨by simp[idxM,h,a],by simp[opnM,h,b]⟩
   ·exact .inr ⟨j+1,p,by simp[idxM,h,a];omega,by simpa using b,c,by simp[opnM,h,d]⟩
theorem jr6[Dr]:∀ (l:List (List DV × List SV)) (q:Nat) (vs:List SV),putQ l q vs=l.set q (((l[q]?).map (·.1)).getD [],vs)
 |[],_,_=>rfl
 |(k,_) :: l,0,vs=>rfl
 |p :: l,q+1,vs=>by simp[putQ,jr6 l q vs]
theorem xf1{es:Array MapEntry}{clock q:Nat}{e:MapEntry}(h:Born es clock)(hq:es[q]? = some e):es.findIdx? (λx=>(x.born:Int) == (e.born:Int))=some q:=by
 rw[Array.findIdx?_eq_some_iff_getElem];obtain⟨hlt,he⟩:=gq.1 hq;refine⟨hlt,by simp[he],λj hj=>?_⟩;have hjl:j<es.size:=om
 simp only[oy,dp,oo,ne_eq];intro hb;have:=h.un j q es[j] e (mv hjl) hq om;omega
end
end
section
section
variable{P:Program}{TT:Nat->Option TI}{ts:List SV}{ks:List KB}{w:World}{X:Nat->Prop}{β:Env}{fp:Nat->Nat->Prop}{a:Act}{K:SV->List KB->Prop}{o:Oper}{r:Option Nat}{n:Nat}{next:Act->World->Prop}{Q:Exit->Act->World->Prop}
theorem jr9(l:List DV):mapD l=l.map .d:=by
 induction l with
 |nil=>rfl
 |cons a l ih=>simp[mapD,ih]
theorem yt0[Dr](l:List DV):l.length=(mapD l).length:=by simp[jr9]
theorem yu3{k:EK}{x:Value}(h:fits k x):x.oneCell'=true:=by
 cases k <;> cases x <;> first|rfl|exact h.elim
theorem jt8{x:Operand}{b:Nat}(hx:val ts x = .map b)(hT:∀ x,Den w (Mx X fp) β (val ts x) (a.eval x)):∃ L,a.eval x = .map (some L.b)/\β b=some L:=by
 have hm:=hT x;rw [hx] at hm;generalize a.eval x=av at hm;cases hm with
 |map _ L hL=>exact⟨L,rfl,hL⟩
theorem yo4{v:Value}{s:SV}{b:Nat}{w:World}{M:Nat->Prop}{β:Env}(h:Den w M β s v):Den w M β (.tup [s,.d (.int .i64 b)]) (.tuple #[v,goInt b]):=.tup _ [v,goInt b] rfl (λj s' u hs hu=>by
 match j with
 |0=>simp at hs hu;subst hs hu;exact h
 |1=>simp at hs hu;subst hs hu;exact .d (.int _ _)
 |j+2=>simp at hs)
theorem zs0{agg:Bool}{vs:List SV}{c:SV->Prop}(h:wn agg vs c)(ha:agg=false):vs.length=1:=by
 subst ha;simp only [wn] at h;split at h
 ·rfl
 ·cases h
theorem zk5[Dr](hTT:TTok P TT){t:TypeId}{m k:Operand}(ho:o.op = .mapEntry t m k)(h:sev TT ts ks (.mapEntry t m k) K)(hM:Mem X w β fp ks)(hT:∀ x,Den w (Mx X fp) β (val ts x) (a.eval x))(hn:xo X w β fp a o K next):o.wpIn (qm r) n P a w next Q:=by
 have hnd:∀ c,o.op≠.defer c:=λc hc=>by rw [ho] at hc;cases hc
 simp only [sev] at h;split at h
 ·rename_i _ _ _ _ kt et _ ht;obtain⟨info0,d0,z0,hi0,hu0,_,_,_,_,_,_,_,_,hd0⟩:=qk hTT ht;cases hd0;split at h
  ·rename_i _ _ ka _ kd eqk _ _ ea zero _ _ hkt het;obtain⟨info,de,z,hi,hue,hsz,_,hz,hag,hzl,hzs,hzd,hz1,_⟩:=qk hTT het;simp only at hsz hzl hzs hzd hag;have hzz:=qx5 (P:=P) (w:=w) hi hz;have hzm:z=q9 ea z.cells.toList:=(hTT _ _ het).zag info z hi hz;rw [qq] at h;obtain⟨hne,ds,h,hkey⟩:=jm7 (w:=w) (M:=Mx X fp) (β:=β) h;obtain⟨kc,ekc,hkl,hdl,hkf,hkr⟩:=hkey _ (hT k);have hK:=jp1 hTT hkt hne;have hka1:ka=false->kc.length=1:=λe=>by
    subst e;rw[hkl];have hne':=hne;simp only [keks] at hne' ⊢;cases kd <;> first|rfl|exact absurd rfl hne'
   rw [qq] at h;split at h
   ·rename_i b hx;obtain⟨L,ev,hL⟩:=jt8 hx hT;rw [jc] at h;split at h
    ·rename_i eks ka' ea' l hg;have hk:=qt hg sm;split at h
     ·rename_i q1 q2 q3;have q1:=js4 q1;have q2:=qj9 q2;have q3:=qj9 q3;subst q1 q2 q3;obtain⟨l',vs,q,hop,h⟩:=h;have hone:=zs0 h;obtain⟨s0,hct,hden⟩:=qi0 (w:=w) (M:=Mx X fp) (β:=β) h;have hkb:=hM.at hk sm hL;have hil:b<ks.length:=(p6.1 hk).1;cases hkb with
      |mapx _ _ _ _ _ es clock hfp hb hl hent hbo =>
       have hfind:=qy9 (P:=P) (w:=w) (M:=Mx X fp) (β:=β) hK hkl hdl hkf hkr l es.toList (by simpa using hl) (λj p e hp he=>hent j p e hp (by simpa using he));have hchk:=hK.chk w false kc hkl hkf;have hst:∀ o',Step (Mx X fp) w (World.setBlock w L.b o'):=λo'=>Step.setBlock w (.inr ⟨b,(hfp _).2 rfl⟩) o'
       have hent':∀ o' p e,EntAt w (Mx X fp) β (keks ka kd eqk) ka ea p e->EntAt (World.setBlock w L.b o') (Mx X fp) β (keks ka kd eqk) ka ea p e:=λo' p e he=>he.keep (hst o').keep (λ_ _ e=>e) (Ext.refl _)
       have hset:∀ o',(setObj L.b o').run P w = .ok () (World.setBlock w L.b o'):=λo'=>qy4 _ hb
       rcases qs2 l ds 0 with⟨b1,b2,_⟩|⟨j,p,b1,b2,b3,b4,_⟩
       ·rcases yl3 l ds zero 0 with⟨_,c2⟩|⟨j,p,c1,_⟩
        rotate_left
        ·rw [b1] at c1;cases c1
        rw [c2] at hop;cases hop;have hzl':zero.length=z.cells.toList.length:=by simpa using hzl.symm
        have hzd':∀ (q:Nat) (s:SV) (u:Value),zero[q]? = some s->z.cells.toList[q]? = some u->Den w (Mx X fp) β s u:=λq s u hs hu=>hzd w (Mx X fp) β q s u hs (by simpa using hu)
        have hz1':∀ u ∈ z.cells.toList,u.oneCell'=true:=λu hu=>by
         obtain⟨q,hq,rfl⟩:=mr.1 hu;exact hz1 q _ sm
        have hv0:=hden z.cells.toList hzl' hzd' hz1';rw [<-hzm] at hv0;have hnew:EntAt w (Mx X fp) β (keks ka kd eqk) ka ea (ds,zero) ⟨q9 ka kc,z,clock⟩:=⟨kc,z.cells.toList,rfl,hzm,hdl,hzl',hkl,hka1,λe=>by rw[<-hzl',hone e],hkf,hkr,hzd',hz1'⟩;have hW:=hM.set (.mapx (keks ka kd eqk) ka ea (l++[(ds,zero)]) (.opn l.length clock)) (.map (es.push ⟨q9 ka kc,z,clock⟩) (clock+1)) hil hL hfp (.mapx _ _ _ _ _ _ _ hfp (xw _ _ _ (yp hb)) (by simp[hl]) (λj p e hp he=>hent' _ _ _ (by
         by_cases hj:j<l.length
         ·rw [mn hj] at hp;rw [s5 om,<-mv] at he;exact hent j p e hp he
         ·have hj':j=l.length:=by
           have:=(p6.1 hp).1;simp at this;omega
          subst hj';rw [m7 (pu _)] at hp;rw [hl,s6] at he;simp at hp he;subst hp he;exact hnew)) (hbo.push _ _) ⟨_,by rw[hl];exact s6,rfl⟩)
        have hk1:=hct clock;rw [y8] at hk1;refine y3 hnd ?_ (hn _ _ _ _ _ _ hk1 hW (yo4 (hW.den hv0)));rw [b1] at hfind;simp only [su] at hfind;simp only[execOp,ho,ev,ekc,Instr.mapEntry,p8,run_underlying hu0,ot,ut hb,hchk,hfind,hzz,hset,o6]
       ·rcases yl3 l ds zero 0 with⟨c1,_⟩|⟨j',p',c1,c2,c3,c4⟩
        ·rw [b1] at c1;cases c1
        rw [b1] at c1;have hjj:j=j':=by have:=oq c1;omega
        subst hjj;rw [b2] at c2;obtain rfl:=oq c2;rw [c4] at hop;obtain⟨rfl,rfl,rfl⟩:l'=l/\vs=p.2/\q=j:=by cases hop;exact⟨rfl,rfl,rfl⟩
        have hlt:q<es.size:=by rw[<-hl];exact(p6.1 b2).1
        have hej:=mv hlt;obtain⟨kc',vc',a1,a2,a3,a4,a5,a6,a7,a8,a9,a10,a11⟩:=(hent q p es[q] b2 hej).ex;have hkk:kc=kc':=yh0 hkl a5 hkf a8 (by rw[qx6 hkl a5 hdl a3 hkf a8 hkr a9];exact b3);subst hkk;have hv0:=hden vc' a4 a10 a11;rw [<-a2] at hv0;have hmod:∀ (i:Nat) (e:MapEntry),(es.modify q λe=>{ e with key:=q9 ka kc })[i]? = some e->es[i]? = some e:=λi e he=>by
         rw [cw] at he;by_cases hq:q=i
         ·subst hq;rw [if_pos rfl,hej] at he;simp only [l7,gu] at he;rw[hej,<-he,<-a1]
         ·rw [if_neg hq] at he;exact he
        have hW:=hM.set (.mapx (keks ka kd eqk) ka ea l' (.opn q es[q].born)) (.map (es.modify q λe=>{ e with key:=q9 ka kc }) clock) hil hL hfp (.mapx _ _ _ _ _ _ _ hfp (xw _ _ _ (yp hb)) (by simp[hl]) (λi p' e hp he=>hent' _ _ _ (hent i p' e hp (hmod i e he))) (hbo.modify _ _ (λ_=>rfl)) ⟨{ es[q] with key:=q9 ka kc },by rw[cw,if_pos rfl,hej];rfl,rfl⟩);have hk1:=hct es[q].born;rw [y8] at hk1;refine y3 hnd ?_ (hn _ _ _ _ _ _ hk1 hW (yo4 (hW.den hv0)));rw [b1] at hfind;have hej':es.toList[0+q]? = some es[q]:=by simp
        simp only [dt,hej',l7] at hfind;have hkeep:(Instr.keyThatStays es[q].key (q9 ka kc)).run P w = .ok (q9 ka kc) w:=by
         simp only[a1,Instr.keyThatStays,jx6 hkl hka1 hkf,if_true,o6]
        simp only[execOp,ho,ev,ekc,Instr.mapEntry,p8,run_underlying hu0,ot,ut hb,hchk,hfind,hkeep,hset,o6,o5,hej,l7,d7]
     ·cases h
    ·cases h
   ·cases h
  ·cases h
 ·cases h
theorem zh9[Dr](hTT:TTok P TT){t:TypeId}{m s x:Operand}(ho:o.op = .entryStore t m s x)(h:sev TT ts ks (.entryStore t m s x) K)(hM:Mem X w β fp ks)(hT:∀ x,Den w (Mx X fp) β (val ts x) (a.eval x))(hn:xo X w β fp a o K next):o.wpIn (qm r) n P a w next Q:=by
 have hnd:∀ c,o.op≠.defer c:=λc hc=>by rw [ho] at hc;cases hc
 simp only [sev] at h;split at h
 ·rename_i _ _ _ _ kt et _ ht;split at h
  ·rename_i size _ ea _ _ _ het;obtain⟨info,de,z,hi,hue,hsz,_,hz,hag,hzl,hzs,hzd,hz1,_⟩:=qk hTT het;simp only at hsz hzl hzs hzd hag;rw [qq,qq,qq] at h;split at h
   ·rename_i b sn hx hs;obtain⟨L,ev,hL⟩:=jt8 hx hT;have hsv:=hT s;rw [hs] at hsv;have es0:=jh hsv;rw [jc] at h;split at h
    ·rename_i eks ka ea' l q s' hg;have hk:=qt hg sm;split at h
     ·have q3:=qj9 ‹bEq ea ea'=true›;subst q3;obtain⟨hss,h⟩:=h;subst hss;obtain⟨vs,h,hel⟩:=yh1 h;obtain⟨vc,evc,v1,v2,v3,v4⟩:=hel w (Mx X fp) β _ (hT x);split at h
      ·obtain⟨l',hl',h⟩:=h;subst hl';rw [y8] at h;have hkb:=hM.at hk sm hL;have hil:b<ks.length:=(p6.1 hk).1;cases hkb with
       |mapx _ _ _ _ _ es clock hfp hb hl hent hbo hso =>
        obtain⟨en,hen,hbs⟩:=hso;have hqe:q<es.size:=(gq.1 hen).1;have hql:q<l.length:=om
        have hst:∀ o',Step (Mx X fp) w (World.setBlock w L.b o'):=λo'=>Step.setBlock w (.inr ⟨b,(hfp _).2 rfl⟩) o'
        have hW:=hM.set (.mapx eks ka ea (putQ l q vs) .free) (.map (es.modify q λe=>{ e with val:=a.eval x }) clock) hil hL hfp (.mapx _ _ _ _ _ _ _ hfp (xw _ _ _ (yp hb)) (by rw[jr6];simp[hl]) (λi p' e hp he=>by
         refine EntAt.keep (w:=w) (M:=Mx X fp) (β:=β) ?_ (hst _).keep (λ_ _ e=>e) (Ext.refl _);rw [jr6,m5] at hp;rw [cw] at he;by_cases hq:q=i
         ·subst hq;rw [if_pos rfl,if_pos hql] at hp;rw [if_pos rfl,hen] at he;cases hp;simp only [l7,gu] at he;subst he;obtain⟨kc,vc',a1,a2,a3,a4,a5,a6,a7,a8,a9,a10,a11⟩:=(hent q l[q] en (pp hql) hen).ex;exact⟨kc,vc,a1,evc,by rw[pp hql];exact a3,v1,a5,a6,v2,a8,by rw[pp hql];exact a9,v3,v4⟩
         ·rw [if_neg hq] at hp he;exact hent i p' e hp he) (hbo.modify _ _ (λ_=>rfl)) trivial)
        refine qh9 hnd ?_ (hn _ _ _ _ _ _ h hW (.any _));have hfind:=xf1 hbo hen;rw [hbs] at hfind;have hset:∀ o',(setObj L.b o').run P w = .ok () (World.setBlock w L.b o'):=λo'=>qy4 _ hb
        simp only[execOp,ho,ev,es0,Instr.entryStore,p8,ut hb,ot,asInt,asIntOf,o6,hfind,hset]
      ·cases h
     ·cases h
    ·cases h
   ·cases h
  ·cases h
 ·cases h
theorem zy7[Dr](hTT:TTok P TT){t:TypeId}{x:Operand}(ho:o.op = .range t x)(h:sev TT ts ks (.range t x) K)(hM:Mem X w β fp ks)(hT:∀ x,Den w (Mx X fp) β (val ts x) (a.eval x))(hn:xo X w β fp a o K next):o.wpIn (qm r) n P a w next Q:=by
 have hnd:∀ c,o.op≠.defer c:=λc hc=>by rw [ho] at hc;cases hc
 simp only [sev] at h;split at h
 ·rename_i _ _ _ _ kt et _ ht;obtain⟨info0,d0,z0,hi0,hu0,_,_,_,_,_,_,_,_,hd0⟩:=qk hTT ht;cases hd0;rw [qq] at h;split at h
  ·rename_i b hx;obtain⟨L,ev,hL⟩:=jt8 hx hT;rw [jc] at h;split at h
   ·rename_i eks ka ea l hg;have hk:=qt hg sm;have hil:b<ks.length:=(p6.1 hk).1;have hkb:=hM.at hk sm hL;cases hkb with
    |mapx _ _ _ _ _ es clock hfp hb hl hent hbo =>
     have hbl:(es.toList.map (·.born)).length=l.length:=by simp[hl]
     have h:=h (es.toList.map (·.born)) clock _ hbl rfl;rw [y8,x6,xe,o5] at h;have hW:=hM.know (.mapx eks ka ea l (.born (es.toList.map (·.born)) clock)) hil hL (.mapx _ _ _ _ _ es clock hfp hb hl hent hbo ⟨rfl,rfl⟩);have hn0:=hW.mem.kl ks.length sm;have hbn:b≠ks.length:=om
     have hW2:=hW.mem.alloc (.mapIter (some L.b) clock #[] clock) (locB w.heap.size) (.iter b (es.toList.map (·.born)) clock (List.range l.length) (es.toList.map (·.born)).length) rfl (.iter b _ clock _ _ L #[] (λx=>Iff.rfl) (by rw[lw,x4 _ _ hbn];exact hL) (by show(w.heap.push _)[w.heap.size]? = _;simp) List.nodup_range (λj hj=>by rw[hbl];exact o8.1 hj) (λj bb hj=>by
      have:j<l.length:=by rw[<-hbl];exact(p6.1 hj).1
      simp[this]) (λbb hb=>by
      have:=(p6.1 hb).1;omega))
     refine y3 hnd ?_ (hn _ _ (.pointer (some ⟨w.heap.size,0,none⟩)) _ _ _ h (hW.trans hW2) (.ptr _ 0 (locB w.heap.size) (yr _ _ _)));simp[execOp,ho,ev,Instr.range,run_underlying hu0,ut hb,newObj];rfl
   ·cases h
  ·cases h
 ·cases h
theorem xi2[Dr]{it:Operand}{str:Bool}(ho:o.op = .next it str)(h:sev TT ts ks (.next it str) K)(hM:Mem X w β fp ks)(hT:∀ x,Den w (Mx X fp) β (val ts x) (a.eval x))(hn:xo X w β fp a o K next):o.wpIn (qm r) n P a w next Q:=by
 have hnd:∀ c,o.op≠.defer c:=λc hc=>by rw [ho] at hc;cases hc
 simp only [sev] at h;split at h
 ·cases h
 ·rw [qq] at h;split at h
  ·rename_i j hx;have hv:=hT it;rw [hx] at hv;rw [jc] at h;split at h
   ·rename_i i bs c rem _ hgj;have hkj:=qt hgj sm;rw [jc] at h;split at h
    ·rename_i eks ka ea l bs' c' hgi;have hki:=qt hgi sm;obtain⟨⟨rfl,rfl⟩,hstep,hover⟩:=h;have hjl:j<ks.length:=(p6.1 hkj).1;obtain⟨Lj,ev,hLj⟩:∃ Lj,a.eval it = .pointer (some ⟨Lj.b,0,none⟩)/\β j=some Lj:=by
      generalize a.eval it=av at hv;cases hv with
      |ptr _ _ L hL=>exact⟨L,rfl,hL⟩
     have haj:=hM.at hkj sm hLj;cases haj with
     |iter _ _ _ _ _ Li seen g0 g1 g2 g3 g4 g5 g6 =>
     have hai:=hM.at hki sm g1;cases hai with
     |mapx _ _ _ _ _ es clock hfp hb hl hent hbo hso =>
      obtain⟨hbs,hcc⟩:=hso;subst hbs;subst hcc;have hlt:∀ x ∈ es.toList,x.born<clock:=λx hx=>by
       obtain⟨q,hq,rfl⟩:=mr.1 hx;exact hbo.lt q _ sm
      have hlen:(es.toList.map (·.born)).length=es.size:=by simp
      have hget:∀ (q:Nat) (e:MapEntry),es[q]? = some e->(es.toList.map (·.born))[q]? = some e.born:=λq e he=>by
       rw[mw,dy,he];rfl
      rcases run_next_at (P:=P) w o.type Lj.b Li.b clock clock seen es clock g2 hb hlt (pu _) with⟨h0,hrun⟩|⟨e,he,w1,hw1,hrun⟩
      ·have hrem:rem=[]:=by
        cases hr:rem with
        |nil=>rfl
        |cons q rest =>
         exfalso;have hq:=g4 q (by rw[hr];exact l6 ..);rw [hlen] at hq;have hnot:¬ seen.contains es[q].born=true:=λhc=>((g5 q _ (hget q _ (mv hq))).1 hc) (by rw[hr];exact l6 ..)
         have:es[q] ∈ leftOf es seen:=by
          unfold leftOf;exact Array.mem_filter.2 ⟨Array.getElem_mem hq,by simpa using hnot⟩
         have h1:leftOf es seen = #[]:=Array.eq_empty_of_size_eq_zero h0;rw [h1] at this;simp at this
       refine y3 hnd ?_ (hn _ _ (.tuple #[.bool false]) _ _ _ (hover hrem) (Went.refl hM) (.tup _ [.bool false] rfl (λq s u hs hu=>by
        match q with
        |0=>simp at hs hu;subst hs hu;exact .d .ff
        |q+1=>simp at hs)))
       simp only[execOp,ho,ev,p8,hrun,ot,o6]
      ·unfold leftOf at he;obtain⟨hem,hns⟩:=Array.mem_filter.1 (fv.2 he);obtain⟨q,hq,rfl⟩:=Array.mem_iff_getElem.1 hem;have hqe:=mv hq;have hqr:q ∈ rem:=by
        by_cases hqr:q ∈ rem
        ·exact hqr
        ·have:=(g5 q _ (hget q _ hqe)).2 hqr;simp at hns this;exact absurd this hns
       obtain⟨kd,vd,hlq,hstep⟩:=hstep q hqr;obtain⟨kc,vc,a1,a2,a3,a4,a5,a6,a7,a8,a9,a10,a11⟩:=(hent q (kd,vd) es[q] hlq hqe).ex;obtain⟨kv,hstep,hkden⟩:=qi0 (w:=w) (M:=Mx X fp) (β:=β) hstep;obtain⟨vv,hstep,hvden⟩:=qi0 (w:=w) (M:=Mx X fp) (β:=β) hstep;have hkd:=hkden kc (by rw[<-yt0];exact a3) (λq s u hs hu=>by
        rw [jr9,mw] at hs;obtain⟨d,hd,rfl⟩:=f6.1 hs;exact .d (a9 q d u hd hu)) (λu hu=>by
        obtain⟨q,hq,rfl⟩:=mr.1 hu;exact yu3 (a8 q (eks[q]' om) _ (pp om) (pp hq)))
       have hvd:=hvden vc a4 a10 a11;rw [<-a1] at hkd;rw [<-a2] at hvd;have hst:=hstep _ rfl;rw [y8] at hst;have hM1:Went X w β fp w1 β fp ks:=by
        rcases hw1 with rfl|rfl
        ·exact Went.refl hM
        ·exact hM.drew
       have hb1:w1.heap=w.heap:=by rcases hw1 with rfl|rfl <;> rfl
       have hW:=hM1.mem.set (i:=j) (.iter i (es.toList.map (·.born)) clock (rem.erase q) q) (.mapIter (some Li.b) clock (seen.push es[q].born) clock) hjl hLj g0 (.iter i _ clock _ _ Li (seen.push es[q].born) g0 g1 (xw _ _ _ (by rw[hb1];exact yp g2)) (g3.erase _) (λp hp=>g4 p (List.mem_of_mem_erase hp)) (λp bb hp=>by
        rw [mw,dy] at hp;obtain⟨ep,hep,rfl⟩:=f6.1 hp;have hgp:=g5 p _ (hget p ep hep);rw[g3.mem_erase_iff];simp only [Array.contains_eq_mem,Array.mem_push,lr] at hgp ⊢;constructor
        ·rintro (hh|hh) ⟨h1,h2⟩
         ·exact hgp.1 hh h2
         ·exact h1 (hbo.un p q ep es[q] hep hqe hh)
        ·intro hh;by_cases hpq:p=q
         ·subst hpq;rw [hqe] at hep;cases hep;exact .inr rfl
         ·exact .inl (hgp.2 (λh2=>hh ⟨hpq,h2⟩))) (λbb hb=>by
        rw [hget q _ hqe] at hb;rw[Array.back?_push];exact hb))
       have hWW:=hM1.trans hW;refine y3 hnd ?_ (hn _ _ (.tuple #[.bool true,es[q].key,es[q].val]) _ _ _ hst hWW (.tup _ [.bool true,es[q].key,es[q].val] rfl (λp s u hs hu=>by
        match p with
        |0=>simp at hs hu;subst hs hu;exact .d .tt
        |1=>simp at hs hu;subst hs hu;exact hWW.den hkd
        |2=>simp at hs hu;subst hs hu;exact hWW.den hvd
        |p+3=>simp at hs)))
       simp only[execOp,ho,ev,p8,hrun,ot,o6]
       rfl
    ·cases h
   ·cases h
  ·cases h
theorem zm8{P:Program}{w:World}{b:Nat}{m:Option Nat}{s:Nat}{seen:Array Nat}{c:Nat}(h:w.heap[b]? = some (.mapIter m s seen c)):(getObj b).run P w = .ok (.mapIter m s seen c) w:=by
 simp[getObj,Sem.run,h]
theorem zy8[Dr]{it:Operand}(ho:o.op = .entry it)(h:sev TT ts ks (.entry it) K)(hM:Mem X w β fp ks)(hT:∀ x,Den w (Mx X fp) β (val ts x) (a.eval x))(hn:xo X w β fp a o K next):o.wpIn (qm r) n P a w next Q:=by
 have hnd:∀ c,o.op≠.defer c:=λc hc=>by rw [ho] at hc;cases hc
 simp only [sev] at h;rw [qq] at h;split at h
 ·rename_i j hx;have hv:=hT it;rw [hx] at hv;rw [jc] at h;split at h
  ·rename_i i bs c rem lst hgj;have hkj:=qt hgj sm;rw [jc] at h;split at h
   ·rename_i eks ka ea l bs' c' hgi;have hki:=qt hgi sm;obtain⟨⟨rfl,rfl⟩,kd,vd,hlq,hstep⟩:=h;obtain⟨Lj,ev,hLj⟩:∃ Lj,a.eval it = .pointer (some ⟨Lj.b,0,none⟩)/\β j=some Lj:=by
     generalize a.eval it=av at hv;cases hv with
     |ptr _ _ L hL=>exact⟨L,rfl,hL⟩
    have haj:=hM.at hkj sm hLj;cases haj with
    |iter _ _ _ _ _ Li seen g0 g1 g2 g3 g4 g5 g6 =>
    have hai:=hM.at hki sm g1;cases hai with
    |mapx _ _ _ _ _ es clock hfp hb hl hent hbo hso =>
     obtain⟨hbs,hcc⟩:=hso;subst hbs;subst hcc;have hq:lst<es.size:=by rw[<-hl];exact(p6.1 hlq).1
     have hqe:=mv hq;have hback:=g6 es[lst].born (by rw[mw,dy,hqe];rfl);obtain⟨kc,vc,a1,a2,a3,a4,a5,a6,a7,a8,a9,a10,a11⟩:=(hent lst (kd,vd) es[lst] hlq hqe).ex;obtain⟨kv,hstep,hkden⟩:=qi0 (w:=w) (M:=Mx X fp) (β:=β) hstep;obtain⟨vv,hstep,hvden⟩:=qi0 (w:=w) (M:=Mx X fp) (β:=β) hstep;have hkd:=hkden kc (by rw[<-yt0];exact a3) (λq s u hs hu=>by
      rw [jr9,mw] at hs;obtain⟨d,hd,rfl⟩:=f6.1 hs;exact .d (a9 q d u hd hu)) (λu hu=>by
      obtain⟨q,hq,rfl⟩:=mr.1 hu;exact yu3 (a8 q (eks[q]' om) _ (pp om) (pp hq)))
     have hvd:=hvden vc a4 a10 a11;rw [<-a1] at hkd;rw [<-a2] at hvd;have hfind:Array.find? (λx=>x.born == es[lst].born) es=some es[lst]:=by
      rw[Array.find?_eq_some_iff_getElem];refine⟨sm,lst,hq,rfl,λp hp=>?_⟩;have hpe:p<es.size:=om
      have hne:¬ es[p].born=es[lst].born:=λe=>by
       have:=hbo.un p lst es[p] es[lst] (mv hpe) hqe e;omega
      simpa using hne
     refine y3 hnd ?_ (hn _ _ (.tuple #[es[lst].key,es[lst].val]) _ _ _ hstep (Went.refl hM) (.tup _ [es[lst].key,es[lst].val] rfl (λp s u hs hu=>by
      match p with
      |0=>simp at hs hu;subst hs hu;exact hkd
      |1=>simp at hs hu;subst hs hu;exact hvd
      |p+2=>simp at hs)))
     simp only[execOp,ho,ev,Instr.entry,p8,zm8 g2,ut hb,ot,hback,bne_self_eq_false,fx,if_false,hfind,o6]
   ·cases h
  ·cases h
 ·cases h
theorem yj9[Dr](hTT:TTok P TT)(h:sev TT ts ks o.op K)(hM:Mem X w β fp ks)(hT:∀ x,Den w (Mx X fp) β (val ts x) (a.eval x))(hn:xo X w β fp a o K next):o.wpIn (qm r) n P a w next Q:=by
 cases ho:o.op with
 |mapEntry t m k=>rw [ho] at h;exact zk5 hTT ho h hM hT hn
 |entryStore t m s x=>rw [ho] at h;exact zh9 hTT ho h hM hT hn
 |range t x=>rw [ho] at h;exact zy7 hTT ho h hM hT hn
 |next it str=>rw [ho] at h;exact xi2 ho h hM hT hn
 |entry it=>rw [ho] at h;exact zy8 ho h hM hT hn
 |_=>rw [ho] at h;exact h.elim
end
end
end Go.Eng
