/-
  Part of the proof: lemmas about the functions that the row calls, and about the steps of a run. Conditions: those ahead of each lemma.
-/
import Derived.Deep.Upon
import Derived.Laws.MakeOwn
import Derived.Great.BuildSlice
import Derived.Lib.ConvBytes
import Derived.Laws.IdiomCopy
import Derived.Lib.UnsafeStr
import Derived.Maps.RangeRun
import Derived.Test.YtoefgnnkajhmiaaGreatDoorN1
set_option linter.unusedVariables false
set_option linter.unusedSimpArgs false
set_option maxRecDepth 100000
set_option maxHeartbeats 64000000
namespace Go.Eng
open Go Go.RowKit
section
section
variable{P:Program}{TT:Nat->Option TI}{ts:List SV}{ks:List KB}{w:World}{M:Nat->Prop}{β:Env}{a:Act}{K:SV->Prop}{o:Oper}
theorem xg5(k:IntKind):kEq k k=true:=by cases k <;> rfl
theorem qn2[Dr]{a b:List EK}(h:ekEq a b=true):a=b:=by
 induction a generalizing b with
 |nil=>cases b with
  |nil=>rfl
  |cons=>cases h
 |cons x a ih=>cases b with
  |nil=>cases x <;> cases h
  |cons y b =>
   cases x <;> cases y <;> simp only [ekEq] at h <;> first|cases h|skip
   ·split at h
    ·rename_i hk;rw[wr hk,ih h]
    ·cases h
   ·rw[ih h]
   ·rw[ih h]
theorem uy{a b:Bool}(h:bEq a b=true):a=b:=by cases a <;> cases b <;> first|rfl|cases h
theorem yh9{d:DV}{k:IntKind}{n:Int}(h:Rd w M d (.int k n)):d = .int k n:=by cases h;rfl
theorem yc3{d:DV}{b:Bool}(h:Rd w M d (.bool b)):qp5 d=some b:=by cases h <;> rfl
theorem yh8[Dr]{d:DV}{s:ByteArray}(h:Rd w M d (.string s)):d = .str s.toList:=by
 generalize hv:Value.string s=v at h;cases h <;> simp [strV] at hv
 subst hv;rw[um]
theorem zq9[Dr]{k:EK}{x y:Value}{d e:DV}(hx:fits k x)(hy:fits k y)(hd:Rd w M d x)(he:Rd w M e y):zr k x y=dEq d e:=by
 cases k with
 |int k =>
  cases x <;> simp [fits] at hx
  cases y <;> simp [fits] at hy
  subst hx hy;rw[yh9 hd,yh9 he];simp[zr,dEq,xg5]
 |bool =>
  cases x <;> simp [fits] at hx
  cases y <;> simp [fits] at hy
  have h1:=yc3 hd;have h2:=yc3 he;cases d <;> simp [qp5] at h1 <;> cases e <;> simp [qp5] at h2 <;> simp [zr,dEq,qp5,h1,h2]
 |str =>
  cases x <;> simp [fits] at hx
  cases y <;> simp [fits] at hy
  rw[yh8 hd,yh8 he];simp[zr,dEq]
def RdL(w:World)(M:Nat->Prop)(ds:List DV)(cs:List Value):Prop:=∀ (q:Nat) (d:DV) (u:Value),ds[q]? = some d->cs[q]? = some u->Rd w M d u
theorem qq0[Dr]{eks:List EK}:∀ {xs ys:List Value} {ds es:List DV},xs.length=eks.length->ys.length=eks.length->ds.length=xs.length->es.length=ys.length->Fits eks xs->Fits eks ys->RdL w M ds xs->RdL w M es ys->jl eks xs ys=jg ds es:=by
 induction eks with
 |nil =>
  intro xs ys ds es h1 h2 h3 h4 _ _ _ _;match xs,ys,ds,es,h1,h2,h3,h4 with
  |[],[],[],[],_,_,_,_=>rfl
 |cons k eks ih =>
  intro xs ys ds es h1 h2 h3 h4 f1 f2 r1 r2;match xs,ys,ds,es,h1,h2,h3,h4 with
  |x :: xs,y :: ys,d :: ds,e :: es,h1,h2,h3,h4 =>
   simp only[jl,jg];rw[zq9 (f1 0 k x rfl rfl) (f2 0 k y rfl rfl) (r1 0 d x rfl rfl) (r2 0 e y rfl rfl),ih (by simpa using h1) (by simpa using h2) (by simpa using h3) (by simpa using h4)
    (fun j k x a b=>f1 (j+1) k x (by simpa using a) (by simpa using b)) (fun j k x a b=>f2 (j+1) k x (by simpa using a) (by simpa using b))
    (fun q d u a b=>r1 (q+1) d u (by simpa using a) (by simpa using b)) (fun q d u a b=>r2 (q+1) d u (by simpa using a) (by simpa using b))]
structure KeyTy(P:Program)(kt:TypeId)(eks:List EK)(ka:Bool):Prop where
 chk:∀ (w:World) (b:Bool) (kc:List Value),kc.length=eks.length->Fits eks kc->(Instr.checkKey b 10000 kt (qr ka kc)).run P w = .ok () w
 eq:∀ (w:World) (xs ys:List Value),xs.length=eks.length->ys.length=eks.length->Fits eks xs->Fits eks ys->(Op.equal kt (qr ka xs) (qr ka ys)).run P w = .ok (jl eks xs ys) w
 now:∃ d,P.underlying kt=some d/\((∀ (xs ys:List Value),xs.length=eks.length->ys.length=eks.length->Fits eks xs->Fits eks ys->Instr.sameNow d (qr ka xs) (qr ka ys)=none) \/
  (∀ (xs ys:List Value),xs.length=eks.length->ys.length=eks.length->Fits eks xs->Fits eks ys->Instr.sameNow d (qr ka xs) (qr ka ys)=some (jl eks xs ys)))
def idxM:List (List DV × List SV)->List DV->Nat->Option Nat
 |[],_,_=>none
 |(k,_) :: l,key,i=>if jg key k then some i else idxM l key (i+1)
theorem ql2(l:List (List DV × List SV))(key:List DV)(i:Nat):(idxM l key i=none/\y6 l key=none/\(∀ vs,putM l key vs=l++[(key,vs)])/\delM l key=l) \/
 ∃ j p,idxM l key i=some (i+j)/\l[j]? = some p/\jg key p.1=true/\y6 l key=some p.2/\(∀ vs,putM l key vs=l.set j (key,vs))/\delM l key=l.eraseIdx j:=by
 induction l generalizing i with
 |nil=>exact .inl ⟨rfl,rfl,fun _=>rfl,rfl⟩
 |cons p l ih =>
  obtain⟨k,v⟩:=p;by_cases h:jg key k=true
  ·exact .inr ⟨0,(k,v),by simp[idxM,h],rfl,h,by simp[y6,h],fun vs=>by simp[putM,h],by simp[delM,h]⟩
  ·rcases ih (i+1) with⟨a,b,c,d⟩|⟨j,p,a,b,c,d,e,f⟩
   ·exact .inl ⟨by simp[idxM,h,a],by simp[y6,h,b],fun vs=>by simp[putM,h,c],by simp[delM,h,d]⟩
   ·exact .inr ⟨j+1,p,by simp[idxM,h,a];omega,by simpa using b,c,by simp[y6,h,d],fun vs=>by simp[putM,h,e],by simp[delM,h,f]⟩
theorem zl1[Dr]{d:TypeDesc}{eks:List EK}{ka ea:Bool}{ds:List DV}{kc:List Value}(hl:kc.length=eks.length)(hdl:ds.length=kc.length)(hf:Fits eks kc)(hr:RdL w M ds kc)
 (hn:∀ (xs ys:List Value),xs.length=eks.length->ys.length=eks.length->Fits eks xs->Fits eks ys->Instr.sameNow d (qr ka xs) (qr ka ys)=some (jl eks xs ys)) :
 ∀ (l:List (List DV × List SV)) (es:List MapEntry) (i:Nat),l.length=es.length->(∀ (j:Nat) (p:List DV × List SV) (e:MapEntry),l[j]? = some p->es[j]? = some e->EntAt w M β eks ka ea p e) ->
  Instr.findNow d (qr ka kc) es i=some ((idxM l ds i).bind fun j=>(es[j - i]?).map fun e=>(j,e.val)):=by
 intro l;induction l with
 |nil=>intro es i h _;cases es with
  |nil=>rfl
  |cons=>simp at h
 |cons p l ih =>
  intro es i h he;cases es with
  |nil=>simp at h
  |cons e es =>
   obtain⟨k,v⟩:=p;obtain⟨kc',vc,a1,a2,a3,a4,a5,a6,a7,a8,a9,a10,a11⟩:=(he 0 (k,v) e rfl rfl).ex;have heq:=hn kc kc' hl a5 hf a8;rw [<-a1] at heq;have hke:=qq0 (w:=w) (M:=M) hl a5 hdl a3 hf a8 hr a9;simp only[Instr.findNow,heq,hke,idxM];cases hk:jg ds k with
   |true=>simp
   |false =>
    simp only[d6,if_false];rw[ih es (i+1) (by simpa using h) (fun j p e a b=>he (j+1) p e (by simpa using a) (by simpa using b))];rcases ql2 l ds (i+1) with⟨b1,_⟩|⟨j,p,b1,b2,_⟩
    ·simp[b1]
    ·simp only[b1,dp];rw[show i+1+j - (i+1)=j from by omega,show i+1+j - i=j+1 from by omega];simp
theorem zd4[Dr]{kt:TypeId}{eks:List EK}{ka ea:Bool}{ds:List DV}{kc:List Value}(hl:kc.length=eks.length)(hdl:ds.length=kc.length)(hf:Fits eks kc)(hr:RdL w M ds kc)
 (hn:∀ (w:World) (xs ys:List Value),xs.length=eks.length->ys.length=eks.length->Fits eks xs->Fits eks ys->(Op.equal kt (qr ka xs) (qr ka ys)).run P w = .ok (jl eks xs ys) w) :
 ∀ (l:List (List DV × List SV)) (es:List MapEntry) (i:Nat),l.length=es.length->(∀ (j:Nat) (p:List DV × List SV) (e:MapEntry),l[j]? = some p->es[j]? = some e->EntAt w M β eks ka ea p e) ->
  (Instr.findAsking kt (qr ka kc) es i).run P w = .ok ((idxM l ds i).bind fun j=>(es[j - i]?).map fun e=>(j,e.val)) w:=by
 intro l;induction l with
 |nil=>intro es i h _;cases es with
  |nil=>rfl
  |cons=>simp at h
 |cons p l ih =>
  intro es i h he;cases es with
  |nil=>simp at h
  |cons e es =>
   obtain⟨k,v⟩:=p;obtain⟨kc',vc,a1,a2,a3,a4,a5,a6,a7,a8,a9,a10,a11⟩:=(he 0 (k,v) e rfl rfl).ex;have heq:=hn w kc kc' hl a5 hf a8;rw [<-a1] at heq;have hke:=qq0 (w:=w) (M:=M) hl a5 hdl a3 hf a8 hr a9;simp only[Instr.findAsking,p6,heq,hke,idxM,p9];cases hk:jg ds k with
   |true=>simp
   |false =>
    simp only[d6,if_false];rw[ih es (i+1) (by simpa using h) (fun j p e a b=>he (j+1) p e (by simpa using a) (by simpa using b))];rcases ql2 l ds (i+1) with⟨b1,_⟩|⟨j,p,b1,b2,_⟩
    ·simp[b1]
    ·simp only[b1,dp];rw[show i+1+j - (i+1)=j from by omega,show i+1+j - i=j+1 from by omega];simp
theorem qh2[Dr]{kt:TypeId}{eks:List EK}{ka ea:Bool}(hK:KeyTy P kt eks ka){ds:List DV}{kc:List Value}(hl:kc.length=eks.length)(hdl:ds.length=kc.length)(hf:Fits eks kc)(hr:RdL w M ds kc)
 (l:List (List DV × List SV)) (es:List MapEntry) (h:l.length=es.length) (he:∀ (j:Nat) (p:List DV × List SV) (e:MapEntry),l[j]? = some p->es[j]? = some e->EntAt w M β eks ka ea p e) :
  (Instr.findKey kt (qr ka kc) es).run P w = .ok ((idxM l ds 0).bind fun j=>(es[j]?).map fun e=>(j,e.val)) w:=by
 obtain⟨d,hd,hno|hno⟩:=hK.now
 ·have hask:=zd4 (P:=P) (w:=w) (M:=M) (β:=β) hl hdl hf hr hK.eq l es 0 h he;simp only [ru] at hask;cases es with
  |nil=>cases l with
   |nil=>simp[Instr.findKey,run_underlying hd,Instr.findNow,idxM]
   |cons=>simp at h
  |cons e es =>
   have:Instr.findNow d (qr ka kc) (e :: es) 0=none:=by
    cases l with
    |nil=>simp at h
    |cons p l =>
     obtain⟨kc',vc,a1,a2,a3,a4,a5,a6,a7,a8,a9,a10,a11⟩:=(he 0 p e rfl rfl).ex;have:=hno kc kc' hl a5 hf a8;rw [<-a1] at this;simp[Instr.findNow,this]
   simp only[Instr.findKey,p6,run_underlying hd,p9,this];exact hask
 ·have hnow:=zl1 (w:=w) (M:=M) (β:=β) hl hdl hf hr hno l es 0 h he;simp only [ru] at hnow;simp[Instr.findKey,run_underlying hd,hnow]
theorem ql4{t:TypeId}{d:TypeDesc}(hu:P.underlying t=some d)(hd:(∃ k,d = .int k)\/d = .string\/d = .bool)(b:Bool)(n:Nat)(v:Value):(Instr.checkKey b (n+1) t v).run P w = .ok () w:=by
 simp only[Instr.checkKey,p6,run_underlying hu,p9];rcases hd with⟨k,rfl⟩|rfl|rfl <;> cases v <;> rfl
theorem xp1{t:TypeId}{k:IntKind}(hu:P.underlying t=some (.int k))(p q:Int):(Op.equal t (.int k p) (.int k q)).run P w = .ok (p == q) w:=run_equalIn_int (P:=P) w 9999 t k k p q hu
theorem xp0{t:TypeId}(hu:P.underlying t=some .string)(p q:ByteArray):(Op.equal t (.string p) (.string q)).run P w = .ok (p.toList == q.toList) w:=run_equalIn_string (P:=P) w 9999 t p q hu
theorem jm6[Dr](p q:ByteArray):(p == q)=(p.toList == q.toList):=by
 have hd:(p == q)=(p.data == q.data):=rfl;rw[hd];by_cases h:p=q
 ·subst h;simp
 ·have h1:(p.data == q.data)=false:=by
   simp only[mq,ne_eq];intro e;exact h (ByteArray.ext e)
  have h2:¬ p.toList=q.toList:=fun e=>h (by
   have e1:p=⟨p.toList.toArray⟩:=by rw[show p.toList=p.data.toList from um p.data.toList]
   have e2:q=⟨q.toList.toArray⟩:=by rw[show q.toList=q.data.toList from um q.data.toList]
   rw[e1,e2,e])
  rw[h1];symm;simpa using h2
theorem jb5[Dr](hTT:TTok P TT){kt:TypeId}{size bytes:Nat}{ka:Bool}{zero:List SV}{kd:TD}{eqk:List EK}(ht:TT kt=some ⟨size,bytes,ka,zero,kd,eqk⟩)(hne:keks ka kd eqk≠[]):KeyTy P kt (keks ka kd eqk) ka:=by
 obtain⟨info,d,z,hi,hu,_,_,_,hag,_,_,_,_,hd⟩:=qi hTT ht;cases ka with
 |true =>
  simp only [keks] at hne ⊢;have h1:=(hTT _ _ ht).eqk hne;have h2:=((hTT _ _ ht).key hne).2;simp only at h1 h2 hag;refine⟨fun w b kc hl hf=>h2 w b kc hl hf,fun w xs ys a b c e=>(h1 w xs ys a b c e).1,d,hu,.inl (fun xs ys _ _ _ _=>?_)⟩;cases d <;> simp [yt] at hag <;> rfl
 |false =>
  simp only at hd;have one:∀ {k:EK} {xs:List Value},xs.length=[k].length->Fits [k] xs->∃ x,xs=[x]/\fits k x:=fun {k xs} hl hf=>by
   match xs,hl with
   |[x],_=>exact⟨x,rfl,hf 0 k x rfl rfl⟩
  cases kd with
  |int k =>
   cases hd;show KeyTy P kt [.int k] false;refine⟨fun w b kc hl hf=>ql4 hu (.inl ⟨_,rfl⟩) _ 9999 _,fun w xs ys a b c e=>?_,_,hu,.inr (fun xs ys a b c e=>?_)⟩
   ·obtain⟨x,rfl,hx⟩:=one a c;obtain⟨y,rfl,hy⟩:=one b e;cases x <;> simp [fits] at hx
    cases y <;> simp [fits] at hy
    subst hx hy;simp[qr,jl,zr,xp1 hu]
   ·obtain⟨x,rfl,hx⟩:=one a c;obtain⟨y,rfl,hy⟩:=one b e;cases x <;> simp [fits] at hx
    cases y <;> simp [fits] at hy
    subst hx hy;simp[qr,jl,zr,Instr.sameNow]
  |str =>
   cases hd;show KeyTy P kt [.str] false;refine⟨fun w b kc hl hf=>ql4 hu (.inr (.inl rfl)) _ 9999 _,fun w xs ys a b c e=>?_,_,hu,.inr (fun xs ys a b c e=>?_)⟩
   ·obtain⟨x,rfl,hx⟩:=one a c;obtain⟨y,rfl,hy⟩:=one b e;cases x <;> simp [fits] at hx
    cases y <;> simp [fits] at hy
    simp[qr,jl,zr,xp0 hu]
   ·obtain⟨x,rfl,hx⟩:=one a c;obtain⟨y,rfl,hy⟩:=one b e;cases x <;> simp [fits] at hx
    cases y <;> simp [fits] at hy
    simp[qr,jl,zr,Instr.sameNow,jm6]
  |bool =>
   cases hd;show KeyTy P kt [.bool] false;refine⟨fun w b kc hl hf=>ql4 hu (.inr (.inr rfl)) _ 9999 _,fun w xs ys a b c e=>?_,_,hu,.inr (fun xs ys a b c e=>?_)⟩
   ·obtain⟨x,rfl,hx⟩:=one a c;obtain⟨y,rfl,hy⟩:=one b e;cases x <;> simp [fits] at hx
    cases y <;> simp [fits] at hy
    simp[qr,jl,zr,jr1 _ _ _ hu]
   ·obtain⟨x,rfl,hx⟩:=one a c;obtain⟨y,rfl,hy⟩:=one b e;cases x <;> simp [fits] at hx
    cases y <;> simp [fits] at hy
    simp[qr,jl,zr,Instr.sameNow]
  |_=>exact absurd rfl hne
theorem ym2{l:List SV}{c:List DV->Prop}(h:qc5 l c):∃ ds:List DV,l=ds.map .d/\c ds:=by
 induction l generalizing c with
 |nil=>exact⟨[],rfl,h⟩
 |cons a l ih =>
  cases a with
  |d x =>
   obtain⟨ds,rfl,hc⟩:=ih h;exact⟨x :: ds,rfl,hc⟩
  |_=>exact h.elim
theorem zz1[Dr]{e:EK}{d:DV}{u:Value}(h:fitD e d=true)(hr:Rd w M d u):fits e u:=by
 cases e with
 |int k=>cases d with
  |int k' n=>cases hr;exact wr h
  |_=>cases h
 |bool=>cases d with
  |bool=>cases hr;exact True.intro
  |tt=>cases hr;exact True.intro
  |ff=>cases hr;exact True.intro
  |_=>cases h
 |str=>cases d with
  |str=>cases hr;exact True.intro
  |_=>cases h
theorem ye0[Dr]{es:List EK}:∀ {ds:List DV} {us:List Value},qw6 es ds=true->ds.length=us.length->RdL w M ds us->us.length=es.length/\Fits es us:=by
 induction es with
 |nil=>intro ds us h hl _;cases ds with
  |nil=>exact ⟨by simpa using hl.symm,fun j k x hk=>by simp at hk⟩
  |cons=>cases h
 |cons e es ih =>
  intro ds us h hl hr;cases ds with
  |nil=>cases h
  |cons d ds=>cases us with
   |nil=>simp at hl
   |cons u us =>
    simp only [qw6] at h;split at h
    ·rename_i hd;obtain⟨a,b⟩:=ih h (by simpa using hl) (fun q d u x y=>hr (q+1) d u (by simpa using x) (by simpa using y));refine⟨by simp[a],fun j k x hk hx=>?_⟩;cases j with
     |zero=>simp at hk hx;subst hk hx;exact zz1 hd (hr 0 d u rfl rfl)
     |succ j=>exact b j k x (by simpa using hk) (by simpa using hx)
    ·cases h
theorem ja1[Dr]{eks:List EK}{ka:Bool}{key:SV}{c:List DV->Prop}(h:keyK eks ka key c):eks≠[]/\∃ ds,c ds/\∀ v,Den w M β key v->∃ kc,v=qr ka kc/\kc.length=eks.length/\ds.length=kc.length/\Fits eks kc/\RdL w M ds kc:=by
 unfold keyK at h;split at h
 ·cases h
 ·rename_i e es;refine⟨by simp,?_⟩;split at h
  ·split at h
   ·rename_i l;obtain⟨ds,hds,h1⟩:=ym2 h;subst hds;split at h1
    ·rename_i hfit;refine⟨ds,h1,fun v hv=>?_⟩;cases hv with
     |agg _ vs h1 h2 h3 =>
      have hr:RdL w M ds vs:=fun q d u hd hu=>jb (h2 q (.d d) u (by simp[hd]) hu)
      obtain⟨f1,f2⟩:=ye0 hfit (by simpa using h1) hr;exact⟨vs,rfl,f1,by simpa using h1,f2,hr⟩
    ·exact h1.elim
   ·cases h
  ·split at h
   ·rename_i x;split at h
    ·rename_i hfit;refine⟨[x],h,fun v hv=>?_⟩;have hr:RdL w M [x] [v]:=fun q d u hd hu=>by
      cases q with
      |zero=>simp at hd hu;subst hd hu;exact jb hv
      |succ q=>simp at hd
     obtain⟨f1,f2⟩:=ye0 hfit rfl hr;exact⟨[v],rfl,f1,rfl,f2,hr⟩
    ·cases h
   ·cases h
theorem qc8{agg:Bool}{vs:List SV}{c:SV->Prop}(h:k6 agg vs c):∃ s,c s/\∀ (vc:List Value),vs.length=vc.length->(∀ (q:Nat) (s:SV) (u:Value),vs[q]? = some s->vc[q]? = some u->Den w M β s u)->(∀ u ∈ vc,u.oneCell'=true)->Den w M β s (qr agg vc):=by
 unfold k6 at h;split at h
 ·exact⟨_,h,fun vc h1 h2 h3=>.agg vs vc h1 h2 h3⟩
 ·split at h
  ·rename_i v;refine⟨_,h,fun vc h1 h2 h3=>?_⟩
   match vc,h1 with
   |[u],_=>exact h2 0 v u rfl rfl
  ·cases h
theorem qz0[Dr]{c agg:Bool}{zero:List SV}{r:Option (List SV)}(h:lookK c agg zero r K){vc:List Value}(hl:(r.getD zero).length=vc.length)(hd:∀ (q:Nat) (s:SV) (u:Value),(r.getD zero)[q]? = some s->vc[q]? = some u->Den w M β s u)(h1:∀ u ∈ vc,u.oneCell'=true) :
 ∃ s,K s/\Den w M β s (if c then .tuple #[qr agg vc,.bool r.isSome] else qr agg vc):=by
 unfold lookK at h;have pair:∀ (s:SV) (b:Bool) (x:DV),Den w M β s (qr agg vc)->Rd w M x (.bool b)->Den w M β (.tup [s,.d x]) (.tuple #[qr agg vc,.bool b]):=fun s b x hs hx=>by
  refine .tup _ [qr agg vc,.bool b] rfl (fun j s' u hs' hu=>?_)
  match j with
  |0=>simp at hs' hu;subst hs' hu;exact hs
  |1=>simp at hs' hu;subst hs' hu;exact .d hx
  |j+2=>simp at hs'
 cases r with
 |some vs =>
  obtain⟨s,h,hs⟩:=qc8 (w:=w) (M:=M) (β:=β) h;have:=hs vc hl hd h1;cases c with
  |true=>exact⟨_,h,pair s true .tt this .tt⟩
  |false=>exact⟨_,h,this⟩
 |none =>
  obtain⟨s,h,hs⟩:=qc8 (w:=w) (M:=M) (β:=β) h;have:=hs vc hl hd h1;cases c with
  |true=>exact⟨_,h,pair s false .ff this .ff⟩
  |false=>exact⟨_,h,this⟩
def v7(l:List (List DV × Nat × (Nat->List DV))):List (List DV × List SV):=l.map fun p=>(p.1,[.any])
theorem entR{eks:List EK}{ka:Bool}{l:List (List DV × Nat × (Nat->List DV))}{es:Array MapEntry}(hl:l.length=es.size)(hk:∀ (j:Nat) (p:List DV × Nat × (Nat->List DV)) (e:MapEntry),l[j]? = some p->es[j]? = some e->KeyAt w M eks ka p.1 e.key)
 (hv:∀ (j:Nat) (p:List DV × Nat × (Nat->List DV)) (en:MapEntry),l[j]? = some p->es[j]? = some en->∃ x:Option Addr × Nat × Nat,en.val = .slice x.1 x.2.1 x.2.2) :
 ∀ (j:Nat) (p:List DV × List SV) (e:MapEntry),(v7 l)[j]? = some p->es[j]? = some e->EntAt w M β eks ka false p e:=fun j p e hp he=>by
 simp only [v7,o4] at hp;obtain⟨p0,hp0,rfl⟩:=fw.1 hp;obtain⟨kc,a1,a2,a3,a4,a5,a6⟩:=(hk j p0 e hp0 he).ex;obtain⟨x,hx⟩:=hv j p0 e hp0 he;refine⟨kc,[e.val],a1,rfl,a2,rfl,a3,a4,fun _=>rfl,a5,a6,fun q s u hs _=>?_,fun u hu=>?_⟩
 ·match q with
  |0=>simp at hs;subst hs;exact .any _
  |q+1=>simp at hs
 ·rw[lv.1 hu,hx];rfl
theorem yj8(l:List (List DV × Nat × (Nat->List DV)))(key:List DV)(i:Nat):(idxM (v7 l) key i=none/\qk1 l key=none/\idxR l key i=none) \/
 ∃ j p,idxM (v7 l) key i=some (i+j)/\l[j]? = some p/\jg key p.1=true/\qk1 l key=some p.2.1/\idxR l key i=some (i+j,p.2):=by
 induction l generalizing i with
 |nil=>exact .inl ⟨rfl,rfl,rfl⟩
 |cons p l ih =>
  obtain⟨k,n,f⟩:=p;by_cases h:jg key k=true
  ·exact .inr ⟨0,(k,n,f),by simp[v7,idxM,h],rfl,h,by simp[qk1,h],by simp[idxR,h]⟩
  ·rcases ih (i+1) with⟨a,b,c⟩|⟨j,p,a,b,c,d,e⟩
   ·exact .inl ⟨by simp only[v7,cu,idxM,h];exact a,by simp[qk1,h,b],by simp[idxR,h,c]⟩
   ·refine .inr ⟨j+1,p,?_,by simpa using b,c,by simp[qk1,h,d],?_⟩
    ·simp only[v7,cu,idxM,h];rw[show i+(j+1)=i+1+j from by omega];exact a
    ·simp only[idxR,h];rw[show i+(j+1)=i+1+j from by omega];exact e
theorem zo5[Dr](hTT:TTok P TT)(hT:∀ x,Den w M β (val ts x) (a.eval x))(hB:∀ (i:Nat) (L:Loc) (k:KB),ks[i]? = some k->k≠.gone->β i=some L->∃ fp,KBat w M β L fp k){t:TypeId}{x y:Operand}{c:Bool}(ho:o.op = .lookup t x y c)(h:pev P TT ts ks (.lookup t x y c) K):Ran P o a w M β K:=by
 unfold Ran;simp only[execOp,ho];simp only [pev,qm] at h;split at h
 ·rename_i _ _ _ _ kt et _ ht;obtain⟨info0,d0,z0,hi0,hu0,_,_,_,_,_,_,_,_,hd0⟩:=qi hTT ht;cases hd0;split at h
  ·rename_i _ _ ka _ kd eqk hkt;split at h
   ·rename_i esize _ ea zero _ _ het;obtain⟨hne,ds,h,hkey⟩:=ja1 (w:=w) (M:=M) (β:=β) h;obtain⟨kc,ekc,hkl,hdl,hkf,hkr⟩:=hkey _ (hT y);have hK:=jb5 hTT hkt hne;obtain⟨info,de,z,hi,hue,hsz,_,hz,hag,hzl,hzs,hzd,hz1,_⟩:=qi hTT het;simp only at hsz hzl hzs hzd hag;have hv:=hT x;generalize a.eval x=av at hv ⊢;generalize a.eval y=kv at ekc ⊢;subst ekc;have hzz:=qp9 (P:=P) (w:=w) hi hz;have hzm:z=qr ea z.cells.toList:=(hTT _ _ het).zag info z hi hz;split at h
    ·rename_i b hx;rw [hx] at hv;cases hv with
     |map _ L hL =>
     rw [qs] at h;split at h
     ·rename_i eks ka' ea' l _ hg;split at h
      ·rename_i q1 q2 q3;have q1:=qn2 q1;have q2:=uy q2;have q3:=uy q3;subst q1 q2 q3;obtain⟨r,hr,h⟩:=h;obtain⟨fp',hk⟩:=jq hB hL (qk hg (by simp)) (by simp);cases hk with
       |mapx _ _ _ _ _ es clock hfp hb hl hent =>
        have hfind:=qh2 (P:=P) (w:=w) (M:=M) (β:=β) hK hkl hdl hkf hkr l es.toList (by simpa using hl) (fun j p e hp he=>hent j p e hp (by simpa using he));have hchk:=hK.chk w es.isEmpty kc hkl hkf;rcases ql2 l ds 0 with⟨b1,b2,_⟩|⟨j,p,b1,b2,b3,b4,_⟩
        ·rw [b2] at hr;subst hr;obtain⟨s,hs,hden⟩:=qz0 (w:=w) (M:=M) (β:=β) h (vc:=z.cells.toList) (by simpa using hzl.symm) (fun q s u hs hu=>hzd w M β q s u hs (by simpa using hu)) (fun u hu=>by
          obtain⟨q,hq,rfl⟩:=o9.1 hu;exact hz1 q _ (by simp))
         refine⟨s,_,hs,?_,hden⟩;rw [b1] at hfind;rw[<-hzm];simp only[Instr.lookup,p6,run_underlying hu0,p9,zw hb,oy,hchk,hfind,rp,hzz,sy]
        ·rw [b4] at hr;subst hr;have hlt:j<es.size:=by rw[<-hl];exact(pq.1 b2).1
         obtain⟨kc',vc,a1,a2,a3,a4,a5,a6,a7,a8,a9,a10,a11⟩:=(hent j p es[j] b2 (oz hlt)).ex;obtain⟨s,hs,hden⟩:=qz0 (w:=w) (M:=M) (β:=β) h (vc:=vc) a4 a10 a11;refine⟨s,_,hs,?_,hden⟩;rw [b1] at hfind;have hej:es.toList[0+j]? = some es[j]:=by simp
         rw[<-a2];simp only [dp,hej,o8] at hfind;simp only[Instr.lookup,p6,run_underlying hu0,p9,zw hb,oy,hchk,hfind,Option.isSome_some]
      ·cases h
     ·rename_i eks ka' e' sz' l _ hg;split at h
      ·split at h
       ·rename_i q1 q2;have q1:=qn2 q1;have q2:=uy q2;subst q1 q2;obtain⟨r,hr,h⟩:=h;obtain⟨fp',hk⟩:=jq hB hL (qk hg (by simp)) (by simp);cases hk with
        |mapr _ _ _ _ _ _ es clock bl cp hfp hb hl hkey hval =>
         have hent:=entR (β:=β) hl hkey (fun j p en hp he=>⟨(_,_,_),(hval j p en hp he (hl ▸ (pq.1 hp).1)).1⟩);have hfind:=qh2 (P:=P) (w:=w) (M:=M) (β:=β) hK hkl hdl hkf hkr (v7 l) es.toList (by simpa[v7] using hl) (fun j p e hp he=>hent j p e hp (by simpa using he));have hchk:=hK.chk w es.isEmpty kc hkl hkf;rcases yj8 l ds 0 with⟨b1,b2,_⟩|⟨j,p,b1,b2,b3,b4,_⟩
         ·rw [b2] at hr;subst hr;obtain⟨s,hs,hden⟩:=qz0 (w:=w) (M:=M) (β:=β) h (vc:=z.cells.toList) (by simpa using hzl.symm) (fun q s u hs hu=>hzd w M β q s u hs (by simpa using hu)) (fun u hu=>by
           obtain⟨q,hq,rfl⟩:=o9.1 hu;exact hz1 q _ (by simp))
          refine⟨s,_,hs,?_,hden⟩;rw [b1] at hfind;rw[<-hzm];simp only[Instr.lookup,p6,run_underlying hu0,p9,zw hb,oy,hchk,hfind,rp,hzz,sy]
         ·rw [b4] at hr;subst hr;have hlt:j<es.size:=by rw[<-hl];exact(pq.1 b2).1
          have hv:=(hval j p es[j] b2 (oz hlt) hlt).1;refine⟨_,es[j].val,h,?_,by rw[hv];exact .ln _ _ _⟩;rw [b1] at hfind;have hej:es.toList[0+j]? = some es[j]:=by simp
          simp only [dp,hej,o8] at hfind;simp only[Instr.lookup,p6,run_underlying hu0,p9,zw hb,oy,hchk,hfind,Option.isSome_some]
          rfl
       ·cases h
      ·cases h
     ·cases h
    ·rename_i hx;rw [hx] at hv;cases hv;obtain⟨s,hs,hden⟩:=qz0 (w:=w) (M:=M) (β:=β) h (vc:=z.cells.toList) (by simpa using hzl.symm) (fun q s u hs hu=>hzd w M β q s u hs (by simpa using hu)) (fun u hu=>by
      obtain⟨q,hq,rfl⟩:=o9.1 hu;exact hz1 q _ (by simp))
     refine⟨s,_,hs,?_,hden⟩;have hchk:=hK.chk w true kc hkl hkf;have hfind:=qh2 (P:=P) (w:=w) (M:=M) (β:=β) (ea:=ea) hK hkl hdl hkf hkr [] [] rfl (fun j p e hp=>by simp at hp);rw[<-hzm];simp only [idxM,rp] at hfind;simp only[Instr.lookup,p6,run_underlying hu0,p9,oy,Array.isEmpty_empty,hchk,hfind,hzz,sy,sw]
    ·cases h
   ·cases h
  ·cases h
 ·cases h
end
end
section
def ql(r:Option Nat):Fence:={ Fence.wide with round:=r }
theorem jw3{r:Option Nat}{n:Nat}{P:Program}{f:FuncId}{args:Array Value}{w:World}{R:Ending->World->Prop}(h:Calls P f args w R):CallsIn (ql r) n P f args w R :=
 (callsIn_wide (n:=n)).2 h
theorem qq7{l:List SV}(h:xj l=true)(j:Nat)(s:SV)(hs:l[j]? = some s):closed s=true:=by
 induction l generalizing j with
 |nil=>simp at hs
 |cons a l ih =>
  simp only [xj,p8] at h;cases j with
  |zero=>simp at hs;subst hs;exact h.1
  |succ j=>exact ih h.2 j (by simpa using hs)
theorem Den.closed[Dr]{w:World}{M:Nat->Prop}{β:Env}{s:SV}{v:Value}(h:Den w M β s v)(hc:closed s=true)(β':Env):Den w M β' s v:=by
 induction h with
 |d h=>exact .d h
 |ptr=>simp [Go.Eng.closed] at hc
 |aptr=>simp [Go.Eng.closed] at hc
 |dptr cells off ad u h1 h2 h3 h4=>exact .dptr cells off ad u h1 h2 h3 h4
 |allNil=>simp [Go.Eng.closed] at hc
 |all=>simp [Go.Eng.closed] at hc
 |rowNil=>simp [Go.Eng.closed] at hc
 |row=>simp [Go.Eng.closed] at hc
 |cs=>simp [Go.Eng.closed] at hc
 |rptr=>simp [Go.Eng.closed] at hc
 |agg l vs h1 _ h3 ih=>exact .agg l vs h1 (fun j s u a b=>ih j s u a b (qq7 (by simpa[Go.Eng.closed] using hc) j s a)) h3
 |tup l vs h1 _ ih=>exact .tup l vs h1 (fun j s u a b=>ih j s u a b (qq7 (by simpa[Go.Eng.closed] using hc) j s a))
 |fn f caps vs h1 _ ih=>exact .fn f caps vs h1 (fun j s u a b=>ih j s u a b (qq7 (by simpa[Go.Eng.closed] using hc) j s a))
 |map=>simp [Go.Eng.closed] at hc
 |ap=>simp [Go.Eng.closed] at hc
 |npNil=>simp [Go.Eng.closed] at hc
 |np=>simp [Go.Eng.closed] at hc
 |yl=>simp [Go.Eng.closed] at hc
 |ln n c ad=>exact .ln n c ad
 |err b v h1 h2=>exact .err b v h1 h2
 |v x=>exact .v x
 |any x=>exact .any x
theorem jy1{l:List SV}(h:qt7 l=true)(j:Nat)(s:SV)(hs:l[j]? = some s):scalar s=true:=by
 induction l generalizing j with
 |nil=>simp at hs
 |cons a l ih =>
  simp only [qt7,p8] at h;cases j with
  |zero=>simp at hs;subst hs;exact h.1
  |succ j=>exact ih h.2 j (by simpa using hs)
theorem Den.scalar[Dr]{w:World}{M:Nat->Prop}{β:Env}{s:SV}{v:Value}(h:Den w M β s v)(hc:scalar s=true)(w':World)(M':Nat->Prop)(β':Env):Den w' M' β' s v:=by
 induction h with
 |d h =>
  cases h with
  |int=>exact .d (.int _ _)
  |bool=>exact .d (.bool _)
  |tt=>exact .d .tt
  |ff=>exact .d .ff
  |str=>exact .d (.str _)
  |nil=>simp [Go.Eng.scalar] at hc
  |sl=>simp [Go.Eng.scalar] at hc
 |agg l vs h1 _ h3 ih=>exact .agg l vs h1 (fun j s u a b=>ih j s u a b (jy1 (by simpa[Go.Eng.scalar] using hc) j s a)) h3
 |tup l vs h1 _ ih=>exact .tup l vs h1 (fun j s u a b=>ih j s u a b (jy1 (by simpa[Go.Eng.scalar] using hc) j s a))
 |ln n c ad=>exact .ln n c ad
 |err b v h1 h2=>exact .err b v h1 h2
 |_=>simp [Go.Eng.scalar] at hc
section
variable{P:Program}{TT:Nat->Option TI}{ts:List SV}{ks:List KB}{w:World}{M:Nat->Prop}{β:Env}{a:Act}{K:SV->Prop}{o:Oper}{r:Option Nat}{n:Nat}{next:Act->World->Prop}{Q:Exit->Act->World->Prop}
theorem jz{v:Value}{w':World}(hnd:∀ c,o.op≠.defer c)(hr:(execOp a.eval o).run P w = .ok (.value v) w')(h:next (a.put o.dst v) w'):o.wpIn (ql r) n P a w next Q:=by
 refine⟨fun _ _=>trivial,?_⟩;rw[Oper.semAt_eq _ _ _ hnd,hr];exact h
theorem u5{w':World}(hnd:∀ c,o.op≠.defer c)(hr:(execOp a.eval o).run P w = .ok .skip w')(h:next (a.put o.dst undef) w'):o.wpIn (ql r) n P a w next Q:=by
 refine⟨fun _ _=>trivial,?_⟩;rw[Oper.semAt_eq _ _ _ hnd,hr];exact h
theorem qz7[Dr](hTT:TTok P TT)(h:pev P TT ts ks o.op K)(hT:∀ x,Den w M β (val ts x) (a.eval x))(hB:∀ (i:Nat) (L:Loc) (k:KB),ks[i]? = some k->k≠.gone->β i=some L->∃ fp,KBat w M β L fp k)(hA:jh6 β ks):Ran P o a w M β K:=by
 cases ho:o.op with
 |move x=>rw [ho] at h;exact yo5 hT (.inl ho) (by simpa [pev,qm] using h)
 |assign x=>rw [ho] at h;exact yo5 hT (.inr ho) (by simpa [pev,qm] using h)
 |pick c x y=>rw [ho] at h;exact xf1 hT ho h
 |load t x=>rw [ho] at h;exact xf2 hTT hT hB ho h
 |fieldAddr t x f=>rw [ho] at h;exact ze8 hTT hT ho h
 |field t x f=>rw [ho] at h;exact zw2 hTT hT ho h
 |indexAddr t x i=>rw [ho] at h;exact ze7 hTT hT hB ho h
 |index t x i=>rw [ho] at h;exact zw1 hTT hT ho h
 |binOp op t x y t'=>rw [ho] at h;exact zw4 hTT hT hB hA ho h
 |unOp op t x=>rw [ho] at h;exact xf0 hT ho h
 |convert s d x=>rw [ho] at h;exact zj4 hTT hT hB ho h
 |extract x i=>rw [ho] at h;exact zj3 hT ho h
 |makeFunc fn x y=>rw [ho] at h;exact zg7 hT ho h
 |makeInterface t x =>
  rw [ho] at h;unfold Ran;simp only[execOp,ho];simp only [pev] at h;split at h
  ·rename_i ht;obtain⟨info,d,z,hi,hu,_,_,_,_,_,_,_,_,hd⟩:=qi hTT ht;cases hd;split at h
   ·rename_i k n;have ea:a.eval (.const (.int k n)) = .int k n:=rfl;exact⟨_,.iface t (.int k n),h,by simp[Instr.makeInterface,run_underlying hu,ea],.v _⟩
   ·cases h
  ·cases h
 |build t ps=>rw [ho] at h;exact zw3 hTT hT ho h
 |slice t x l h' m=>rw [ho] at h;exact zw0 hTT hT hB ho h
 |nilCheck x=>rw [ho] at h;exact zg6 hT ho h
 |lookup t x i c=>rw [ho] at h;exact zo5 hTT hT hB ho h
 |call c =>
  obtain⟨callee,args,argTypes⟩:=c;rw [ho] at h;cases callee with
  |value g=>exact h.elim
  |builtin b=>exact zj5 hTT hT hB ho h
  |invoke r m=>exact h.elim
 |_=>rw [ho] at h;exact h.elim
end
end
section
def updP(f:Nat->Nat->Prop)(i:Nat)(p:Nat->Prop):Nat->Nat->Prop:=fun j=>if j=i then p else f j
theorem yp(f:Nat->Nat->Prop)(i:Nat)(p:Nat->Prop):updP f i p i=p:=by simp[updP]
theorem ju(f:Nat->Nat->Prop){i j:Nat}(p:Nat->Prop)(h:j≠i):updP f i p j=f j:=by simp[updP,h]
section
variable{X:Nat->Prop}{w w':World}{β β':Env}{fp fp':Nat->Nat->Prop}{ks ks':List KB}
theorem Mem0.mlt(h:Mem0 X w β fp ks):∀ b,Mx X fp b->b<w.heap.size:=by
 rintro b (hx|⟨i,hi⟩)
 ·exact h.xa b hx
 ·exact h.kw i b hi
theorem Mem0.kb'(h:Mem0 X w β fp ks):∀ (i:Nat) (L:Loc) (k:KB),ks[i]? = some k->k≠.gone->β i=some L->∃ fp',KBat w (Mx X fp) β L fp' k:=fun i L k hk hne hL =>
 ⟨_,h.kb i L k hk hne hL⟩
theorem Mem0.at(h:Mem0 X w β fp ks){i:Nat}{k:KB}(hk:ks[i]? = some k)(hne:k≠.gone){L:Loc}(hL:β i=some L):KBat w (Mx X fp) β L (fp i) k:=h.kb i L k hk hne hL
theorem Mem.out(h:Mem X w β fp ks){i:Nat}(hi:ks.length<=i):∀ b,¬ fp i b:=fun b hb=>by
 obtain⟨L,hL⟩:=h.kn i b hb;rw [h.kl i hi] at hL;cases hL
theorem Mem0.apart[Dr](h:Mem0 X w β fp ks):jh6 β ks:=fun i j L L' t t' l l' hne hi hj hL hL' e=>by
 have h1:=h.at hi (by simp) hL;have h2:=h.at hj (by simp) hL';cases h1 with
 |cells _ _ _ f1 =>
 cases h2 with
 |cells _ _ _ f2=>exact hne (h.dis i j L.b ((f1 _).2 rfl) ((f2 _).2 e))
theorem Mem.go[Dr](h:Mem X w β fp ks)(hst:Step (fun b=>∃ i,fp i b) w w')(hext:Ext β β')(hown:∀ i b,fp' i b->(∃ j,fp j b)\/w.heap.size<=b)
 (hdis:∀ i j b,fp' i b->fp' j b->i=j) (hkw:∀ i b,fp' i b->b<w'.heap.size) (hkl:∀ i,ks'.length<=i->β' i=none) (hka:∀ i t dom cols,ks'[i]? = some (.arena t dom cols)->∃ L,β' i=some L) (hkn:∀ i b,fp' i b->∃ L,β' i=some L)
 (hkb:∀ (i:Nat) (L:Loc) (k:KB),ks'[i]? = some k->k≠.gone->β' i=some L->(ks[i]? = some k/\β i=some L/\fp' i=fp i/\∀ b,fp i b->w'.heap[b]? = w.heap[b]?)\/KBat w' (Mx X fp') β' L (fp' i) k):Went X w β fp w' β' fp' ks':=by
 have hM:∀ b,b<w.heap.size->Mx X fp' b->Mx X fp b:=fun b hb hm=>hm.imp id (fun⟨i,hi⟩=>(hown i b hi).elim id (fun e=>by omega))
 refine⟨⟨⟨fun b hb=>bx (h.xa b hb) hst.size,fun i b hi hx=>(hown i b hi).elim (fun⟨j,hj⟩=>h.xb j b hj hx) (fun e=>by have:=h.xa b hx;omega),hdis,hkw,hkn,fun i L k hk hne hL=>?_⟩,hkl,hka,h.vo.step hst hown⟩,hst,hext,hown⟩;rcases hkb i L k hk hne hL with⟨h1,hL0,h2,h3⟩|h1
 ·have hb:=h.kb i L k h1 hne hL0;rw[h2];exact hb.mono (hst.mono (fun _ _ e=>.inr e)) hM hext h3
 ·exact h1
theorem vb{β:Env}{n:Nat}(L:Loc)(h:β n=none):Ext β (upd β n (some L)):=fun i L' e=>by
 by_cases hi:i=n
 ·subst hi;rw [h] at e;cases e
 ·rw[jk _ _ hi];exact e
theorem Mem.ka_add(h:Mem X w β fp ks)(k:KB)(L:Loc):∀ i t dom cols,(ks++[k])[i]? = some (.arena t dom cols)->∃ L',upd β ks.length (some L) i=some L':=fun i t dom cols hi=>by
 by_cases e:i=ks.length
 ·subst e;exact⟨L,q8 _ _ _⟩
 ·have hlt:i<ks.length:=by
   have:=(pq.1 hi).1;simp at this;omega
  rw [ot hlt] at hi;rw[jk _ _ e];exact h.ka i t dom cols hi
theorem Mem.ka_set(h:Mem X w β fp ks){i:Nat}{L:Loc}(hL:β i=some L)(k:KB):∀ j t dom cols,(ks.set i k)[j]? = some (.arena t dom cols)->∃ L',β j=some L':=fun j t dom cols hj=>by
 rw [oq] at hj;split at hj
 ·rename_i e;subst e;exact⟨L,hL⟩
 ·exact h.ka j t dom cols hj
theorem Mem.alloc[Dr](h:Mem X w β fp ks)(o:Obj)(L:Loc)(k:KB)(hL:L.b=w.heap.size)
 (hk:KBat (w.alloc o) (Mx X (updP fp ks.length (· = w.heap.size))) (upd β ks.length (some L)) L (· = w.heap.size) k) :
 Went X w β fp (w.alloc o) (upd β ks.length (some L)) (updP fp ks.length (· = w.heap.size)) (ks++[k]):=by
 have hn:=h.kl ks.length (pr _);refine h.go (Step.alloc _ w o) (vb L hn) (fun i b hb=>?_) (fun i j b hi hj=>?_) (fun i b hb=>?_) (fun i hi=>?_) (h.ka_add k L) (fun i b hb=>?_) (fun i L' k' hk' hne hL'=>?_)
 ·by_cases hi:i=ks.length
  ·subst hi;rw [yp] at hb;exact .inr (by omega)
  ·rw [ju _ _ hi] at hb;exact .inl ⟨i,hb⟩
 ·by_cases h1:i=ks.length <;> by_cases h2:j=ks.length
  ·omega
  ·subst h1;rw [yp] at hi;rw [ju _ _ h2] at hj;have:=h.kw j b hj;omega
  ·subst h2;rw [yp] at hj;rw [ju _ _ h1] at hi;have:=h.kw i b hi;omega
  ·rw [ju _ _ h1] at hi;rw [ju _ _ h2] at hj;exact h.dis i j b hi hj
 ·by_cases hi:i=ks.length
  ·subst hi;rw [yp] at hb;subst hb;simp
  ·rw [ju _ _ hi] at hb;have:=h.kw i b hb;simp;omega
 ·have hi':i≠ks.length:=by simp at hi;omega
  rw[jk _ _ hi'];exact h.kl i (by simp at hi;omega)
 ·by_cases hi:i=ks.length
  ·subst hi;exact⟨L,q8 _ _ _⟩
  ·rw [ju _ _ hi] at hb;rw [jk _ _ hi];exact h.kn i b hb
 ·by_cases hi:i=ks.length
  ·subst hi;rw [o5 (pr _)] at hk';simp at hk';subst hk';rw [q8] at hL';cases hL';exact .inr (by rw[yp];exact hk)
  ·have hlt:i<ks.length:=by
    have:=(pq.1 hk').1;simp at this;omega
   rw [ot hlt] at hk';rw [jk _ _ hi] at hL';exact .inl ⟨hk',hL',ju _ _ hi,fun b hb=>Below.heap_alloc w o b (h.kw i b hb)⟩
theorem Mem.set[Dr](h:Mem X w β fp ks){i:Nat}{L:Loc}(k:KB)(o:Obj)(hi:i<ks.length)(hL:β i=some L)(hfp:∀ x,fp i x↔x=L.b)
 (hk:KBat (World.setBlock w L.b o) (Mx X fp) β L (fp i) k):Went X w β fp (World.setBlock w L.b o) β fp (ks.set i k):=by
 refine h.go (Step.setBlock w ⟨i,(hfp _).2 rfl⟩ o) (Ext.refl _) (fun j b hb=>.inl ⟨j,hb⟩) h.dis (fun j b hb=>by simpa[World.setBlock] using h.kw j b hb) (fun j hj=>h.kl j (by simpa using hj)) (h.ka_set hL k) h.kn (fun j L' k' hk' hne hL'=>?_);rw [oq] at hk';by_cases e:i=j
 ·subst e;rw [if_pos rfl,if_pos hi] at hk';cases hk';obtain rfl:L=L':=p7 (hL.symm.trans hL');exact .inr hk
 ·rw [if_neg e] at hk';exact .inl ⟨hk',hL',rfl,fun b hb=>x6 w L.b b o (fun eb=>e (h.dis i j b ((hfp b).2 eb) hb))⟩
theorem Mem.drew[Dr](h:Mem X w β fp ks):Went X w β fp w.drew β fp ks :=
 h.go (Step.drew _ w) (Ext.refl _) (fun i b hb=>.inl ⟨i,hb⟩) h.dis h.kw h.kl h.ka h.kn (fun i L k hk _ hL=>.inl ⟨hk,hL,rfl,fun _ _=>rfl⟩)
def jv(fr:List Nat)(fp:Nat->Nat->Prop):Nat->Nat->Prop:=fun i b=>i ∉ fr/\fp i b
theorem ja4[Dr](fr:List Nat)(ks:List KB)(i:Nat)(k:KB)(h:(jm fr ks)[i]? = some k)(hne:k≠.gone):i ∉ fr/\ks[i]? = some k:=by
 induction fr generalizing ks with
 |nil=>exact⟨by simp,h⟩
 |cons j fr ih =>
  simp only [jm] at h;obtain⟨h1,h2⟩:=ih _ h;rw [yr,oq] at h2;split at h2
  ·split at h2
   ·cases h2;exact absurd rfl hne
   ·cases h2
  ·rename_i e;exact⟨by simp[h1,Ne.symm e],h2⟩
theorem ji5[Dr](fr:List Nat)(ks:List KB):(jm fr ks).length=ks.length:=by
 induction fr generalizing ks with
 |nil=>rfl
 |cons j fr ih=>simp only[jm];rw[ih,yr,gn]
theorem Mem.gone[Dr](h:Mem X w β fp ks)(fr:List Nat):Went X w β fp w β (jv fr fp) (jm fr ks):=by
 refine h.go (Step.refl _ _) (Ext.refl _) (fun i b hb=>.inl ⟨i,hb.2⟩) (fun i j b hi hj=>h.dis i j b hi.2 hj.2) (fun i b hb=>h.kw i b hb.2) (fun i hi=>?_) (fun i t dom cols hi=>h.ka i t dom cols (ja4 fr ks i _ hi (by simp)).2) (fun i b hb=>h.kn i b hb.2) (fun i L k hk hne hL=>?_)
 ·rw [ji5] at hi;exact h.kl i hi
 ·obtain⟨h1,h2⟩:=ja4 fr ks i k hk hne;exact .inl ⟨h2,hL,by funext b;simp[jv,h1],fun _ _=>rfl⟩
theorem Mem0.goneM(h:Mem0 X w β fp ks)(fr:List Nat):∀ b,Mx X (jv fr fp) b->Mx X fp b:=fun _ hm=>hm.imp id (fun⟨i,hi⟩=>⟨i,hi.2⟩)
theorem Mem0.goneOut(h:Mem0 X w β fp ks){fr:List Nat}{i b:Nat}(hi:i ∈ fr)(hb:fp i b):¬ Mx X (jv fr fp) b:=by
 rintro (hx|⟨j,hj,hjb⟩)
 ·exact h.xb i b hb hx
 ·exact hj (h.dis i j b hb hjb ▸ hi)
theorem Mem.again[Dr](h:Mem X w β fp ks){i:Nat}{L L':Loc}(k:KB)(o:Obj)(hi:i<ks.length)(hL:β i=some L)(hfp:∀ x,fp i x↔x=L.b)(hL':L'.b=L.b)
 (hk:KBat (World.setBlock w L.b o) (Mx X (updP (updP fp i (fun _=>False)) ks.length (· = L.b))) (upd β ks.length (some L')) L' (· = L.b) k) :
 Went X w β fp (World.setBlock w L.b o) (upd β ks.length (some L')) (updP (updP fp i (fun _=>False)) ks.length (· = L.b)) (ks.set i .gone++[k]):=by
 have hn:=h.kl ks.length (pr _);have hin:i≠ks.length:=by omega
 refine h.go (Step.setBlock w ⟨i,(hfp _).2 rfl⟩ o) (vb L' hn) (fun j b hb=>?_) (fun p q b hp hq=>?_) (fun j b hb=>?_) (fun j hj=>?_) (fun j t dom cols hj=>?_) (fun j b hb=>?_) (fun j L2 k' hk' hne hL2=>?_)
 ·by_cases hj:j=ks.length
  ·subst hj;rw [yp] at hb;exact .inl ⟨i,(hfp b).2 hb⟩
  ·rw [ju _ _ hj] at hb;by_cases e:j=i
   ·subst e;rw [yp] at hb;exact hb.elim
   ·rw [ju _ _ e] at hb;exact .inl ⟨j,hb⟩
 ·have key:∀ j,updP (updP fp i (fun _=>False)) ks.length (· = L.b) j b->(j=ks.length/\b=L.b)\/(j≠ks.length/\j≠i/\fp j b):=fun j hj=>by
   by_cases h1:j=ks.length
   ·subst h1;rw [yp] at hj;exact .inl ⟨rfl,hj⟩
   ·rw [ju _ _ h1] at hj;by_cases e:j=i
    ·subst e;rw [yp] at hj;exact hj.elim
    ·rw [ju _ _ e] at hj;exact .inr ⟨h1,e,hj⟩
  rcases key p hp with⟨a1,a2⟩|⟨a1,a2,a3⟩ <;> rcases key q hq with⟨b1,b2⟩|⟨b1,b2,b3⟩
  ·omega
  ·exact absurd (h.dis q i b b3 ((hfp b).2 a2)) b2
  ·exact absurd (h.dis p i b a3 ((hfp b).2 b2)) a2
  ·exact h.dis p q b a3 b3
 ·by_cases hj:j=ks.length
  ·subst hj;rw [yp] at hb;subst hb;simpa [World.setBlock] using h.kw i L.b ((hfp _).2 rfl)
  ·rw [ju _ _ hj] at hb;by_cases e:j=i
   ·subst e;rw [yp] at hb;exact hb.elim
   ·rw [ju _ _ e] at hb;simpa [World.setBlock] using h.kw j b hb
 ·simp at hj;have hj':j≠ks.length:=by omega
  rw[jk _ _ hj'];exact h.kl j (by omega)
 ·by_cases e:j=ks.length
  ·subst e;exact⟨L',q8 _ _ _⟩
  ·have hlt:j<ks.length:=by
    have:=(pq.1 hj).1;simp at this;omega
   rw [ot (by simpa using hlt)] at hj;rw[jk _ _ e];exact h.ka_set hL .gone j t dom cols hj
 ·by_cases hj:j=ks.length
  ·subst hj;exact⟨L',q8 _ _ _⟩
  ·rw [ju _ _ hj] at hb;rw[jk _ _ hj];by_cases e:j=i
   ·subst e;exact⟨L,hL⟩
   ·rw [ju _ _ e] at hb;exact h.kn j b hb
 ·by_cases hj:j=ks.length
  ·subst hj;rw [o5 (by simp)] at hk';simp at hk';subst hk';rw [q8] at hL2;cases hL2;exact .inr (by rw[yp];exact hk)
  ·have hlt:j<ks.length:=by
    have:=(pq.1 hk').1;simp at this;omega
   rw [ot (by simpa using hlt),oq] at hk';by_cases e:i=j
   ·subst e;rw [if_pos rfl,if_pos hi] at hk';cases hk';exact absurd rfl hne
   ·rw [if_neg e] at hk';rw [jk _ _ hj] at hL2;refine .inl ⟨hk',hL2,by rw[ju _ _ hj,ju _ _ (Ne.symm e)],fun b hb=>x6 w L.b b o (fun eb=>e (h.dis i j b ((hfp b).2 eb) hb))⟩
theorem Mem.nilRow[Dr](h:Mem X w β fp ks)(e:TypeId)(sz:Nat)(z:Z)(hz:z≠.no)(f:Nat->List DV) :
 Went X w β fp w (upd β ks.length (some ⟨0,0,0,sz,true⟩)) fp (ks++[.row e sz 0 z f]):=by
 have hn:=h.kl ks.length (pr _);refine h.go (Step.refl _ _) (vb _ hn) (fun i b hb=>.inl ⟨i,hb⟩) h.dis h.kw (fun i hi=>?_) (h.ka_add _ _) (fun i b hb=>?_) (fun i L' k' hk' hne hL'=>?_)
 ·simp at hi;rw[jk _ _ (show i≠ks.length by omega)];exact h.kl i (by omega)
 ·obtain⟨L,hL⟩:=h.kn i b hb;exact⟨L,vb _ hn i L hL⟩
 ·by_cases hi:i=ks.length
  ·subst hi;rw [o5 (pr _)] at hk';simp at hk';subst hk';rw [q8] at hL';cases hL';exact .inr (.rowNil e sz z f (h.out (pr _)) rfl rfl rfl hz)
  ·have hlt:i<ks.length:=by
    have:=(pq.1 hk').1;simp at this;omega
   rw [ot hlt] at hk';rw [jk _ _ hi] at hL';exact .inl ⟨hk',hL',rfl,fun _ _=>rfl⟩
theorem Mem.setArena[Dr](h:Mem X w β fp ks){i n:Nat}{L:Loc}{t:TypeId}{dom:Nat->Prop}{cols:List Col}(hki:ks[i]? = some (.arena t dom cols))(hL:β i=some L)(hn:dom (n+1))(cols':List Col)(vs':Array Value)(hl:vs'.size=cols'.length)
 (hd:∀ (j:Nat) (c:Col) (u:Value),cols'[j]? = some c->vs'[j]? = some u->Den w (Mx X fp) β (c.at (n+1)) u) (h1:∀ (j:Nat) (u:Value),vs'[j]? = some u->u.oneCell'=true)
 (hlen:cols'.length=cols.length) (hsame:∀ (j:Nat) (c c':Col) (m:Nat),cols[j]? = some c->cols'[j]? = some c'->m≠n+1->∀ (w:World) (M:Nat->Prop) (u:Value),Den w M β (c.at m) u->Den w M β (c'.at m) u) :
 Went X w β fp (World.setBlock w n (.cells vs' t (0,0))) β fp (ks.set i (.arena t dom cols')):=by
 have hil:i<ks.length:=(pq.1 hki).1;have hb:=h.at hki (by simp) hL;cases hb with
 |arena _ _ _ hfp h0 hall =>
  have hst:Step (fun b=>∃ i,fp i b) w (World.setBlock w n (.cells vs' t (0,0))):=Step.setBlock w ⟨i,(hfp n).2 hn⟩ _;have hst':=hst.mono (M':=Mx X fp) (fun _ _ e=>.inr e);obtain⟨_,hbn,_⟩:=hall n hn;refine h.go hst (Ext.refl _) (fun j b hb=>.inl ⟨j,hb⟩) h.dis (fun j b hb=>by simpa[World.setBlock] using h.kw j b hb) (fun j hj=>h.kl j (by simpa using hj)) (h.ka_set hL _) h.kn (fun j L' k' hk' hne hL'=>?_);rw [oq] at hk';by_cases e:i=j
  ·subst e;rw [if_pos rfl,if_pos hil] at hk';cases hk';refine .inr (.arena t dom cols' hfp h0 (fun x hx=>?_));by_cases hxn:x=n
   ·subst hxn;exact⟨vs',yf _ _ _ (jo hbn),hl,fun j c u hc hu=>(hd j c u hc hu).mono hst' (fun _ _ e=>e) (Ext.refl _),h1⟩
   ·obtain⟨vs,a1,a2,a3,a4⟩:=hall x hx;refine⟨vs,(x6 _ _ _ _ hxn).trans a1,by rw[a2,hlen],fun j c u hc hu=>?_,a4⟩;have hj:j<cols.length:=by rw[<-hlen];exact(pq.1 hc).1
    have hcj:=pp hj;exact hsame j _ c (x+1) hcj hc (by omega) _ _ u ((a3 j _ u hcj hu).mono hst' (fun _ _ e=>e) (Ext.refl _))
  ·rw [if_neg e] at hk';exact .inl ⟨hk',hL',rfl,fun b hb=>x6 w n b _ (fun eb=>e (h.dis i j b ((hfp b).2 (by rw[eb];exact hn)) hb))⟩
end
end
section
section
variable{P:Program}{X:Nat->Prop}{w:World}{β:Env}{fp:Nat->Nat->Prop}{ks:List KB}
theorem z6[Dr]{M M':Nat->Prop}{d:DV}{v:Value}(h:Rd w M d v)(hM:∀ b,M' b->M b):Rd w M' d v:=h.mono (Step.refl _ _) (fun b _ e=>hM b e)
theorem qn7[Dr]{M M':Nat->Prop}{L:Loc}{e sz m:Nat}{vs:Array Value}{fz:Nat × Nat}{f:Nat->List DV}(hb:w.heap[L.b]? = some (.cells vs e fz))(hvs:vs.size=L.c * sz)(hm:m<=L.c)
 (hfl:∀ k,k<m->(f k).length=sz) (hr:∀ (k j:Nat) (d:DV) (u:Value),k<m->(f k)[j]? = some d->vs[k * sz+j]? = some u->Rd w M d u) (lo n off cap:Nat) (h1:lo+n<=m) (h2:n<=cap) (h3:0<n->off=lo * sz)
 (hn:¬ M' L.b) (hM:∀ b,M' b->M b):Rd w M' (.sl false n sz (fun j=>f (lo+j))) (.slice (some ⟨L.b,off,none⟩) n cap):=by
 have hin:∀ i j,i<n->j<sz->(lo+i) * sz+j<vs.size:=fun i j hi hj=>by
  rw[hvs];calc (lo+i) * sz+j<(lo+i) * sz+sz:=by omega
   _=(lo+i+1) * sz:=by rw[ow (lo+i) 1,mv]
   _<=L.c * sz:=o6 _ (by omega)
 refine .sl n sz _ ⟨L.b,off,none⟩ cap (fun i j=>vs[(lo+i) * sz+j]?.getD undef) h2 (fun _=>⟨jo hb,hn⟩) (fun i hi=>hfl _ (by omega)) (fun i j d hi hd=>?_) (fun i j d hi hd=>?_)
 ·have hj:j<sz:=by have:=(pq.1 hd).1;rw [hfl _ (by omega)] at this;exact this
  rw[show(⟨L.b,off,none⟩:Addr).add (i * sz+j)=⟨L.b,off+(i * sz+j),none⟩ from by unfold Addr.add;split <;> simp_all,h3 (by omega),show lo * sz+(i * sz+j)=(lo+i) * sz+j from by rw[ow];omega];simp[World.cell?,hb,hin i j hi hj]
 ·have hj:j<sz:=by have:=(pq.1 hd).1;rw [hfl _ (by omega)] at this;exact this
  refine z6 ?_ hM;have:=hr (lo+i) j d (vs[(lo+i) * sz+j]'(hin i j hi hj)) (by omega) hd (oz _);simpa[hin i j hi hj] using this
theorem jk7[Dr]:∀ (l:List SV) (K:List DV->Prop),qc5 l K->∃ ds:List DV,K ds/\l=ds.map SV.d
 |[],_,h=>⟨[],h,rfl⟩
 | .d x :: l,K,h=>by
  obtain⟨ds,hk,rfl⟩:=jk7 l _ h;exact⟨x :: ds,hk,rfl⟩
theorem qr7{ds:List DV}{n sz:Nat}(h:ds.length=n * sz)(j:Nat)(hj:j<n):(qx ds sz j).length=sz:=by
 unfold qx;have:(j+1) * sz<=n * sz:=o6 _ hj;rw [ow,mv] at this;simp[h];omega
theorem qm1[Dr](h:Mem0 X w β fp ks){s:SV}{K:DV->List Nat->Prop}(hk:dvK ks s K){v:Value}(hv:Den w (Mx X fp) β s v) :
 ∃ d fr,K d fr/\(∀ i ∈ fr,i<ks.length)/\∀ fr',(∀ i ∈ fr,i ∈ fr')->Rd w (Mx X (jv fr' fp)) d v:=by
 have hout:∀ (i:Nat) (L:Loc) (fr':List Nat),i ∈ fr'->(∀ x,fp i x↔x=L.b)->¬ Mx X (jv fr' fp) L.b:=fun i L fr' hi hf=>h.goneOut hi ((hf _).2 rfl)
 unfold dvK at hk;split at hk
 ·rename_i x;exact⟨x,[],hk,by simp,fun fr' _=>z6 (jb hv) (h.goneM fr')⟩
 ·rename_i i;rw [qs] at hk;split at hk
  ·rename_i e sz n z f hg;have hki:=qk hg (by simp);have hi:i<ks.length:=(pq.1 hki).1;cases hv with
   |allNil _ L hL hnil =>
    have hb:=h.at hki (by simp) hL;cases hb with
    |rowNil _ _ _ _ _ _ _ _ hz =>
     split at hk
     ·exact absurd rfl hz
     ·exact⟨_,_,hk,by simp[hi],fun fr' _=>.nil _ _⟩
     ·omega
    |row _ _ _ _ _ vs fz hfp hnil'=>rw [hnil] at hnil';cases hnil'
   |all _ L hL hnil =>
    have hb:=h.at hki (by simp) hL;cases hb with
    |rowNil _ _ _ _ _ hnil'=>rw [hnil] at hnil';cases hnil'
    |row _ _ _ _ _ vs fz hfp _ hLs hLn hzz hb hfz hvs hng hfl hr _ =>
     have key:∀ fr',i ∈ fr'->Rd w (Mx X (jv fr' fp)) (.sl false n sz f) (.slice (some ⟨L.b,0,none⟩) L.n L.c):=fun fr' hi'=>by
      have:=qn7 (M':=Mx X (jv fr' fp)) hb hvs hng hfl hr 0 n 0 L.c (by omega) hng (by simp) (hout i L fr' hi' hfp) (h.goneM fr');simp only [ox] at this;rw[hLn];exact this
     split at hk
     ·exact⟨_,_,hk,by simp[hi],fun fr' hf=>key fr' (hf i (by simp))⟩
     ·have:Nat.beq n 0=false:=by
       have:=hzz rfl;cases n with
       |zero=>omega
       |succ n=>rfl
      rw [this] at hk;exact⟨_,_,hk,by simp[hi],fun fr' hf=>key fr' (hf i (by simp))⟩
     ·exact⟨_,_,hk.2,by simp[hi],fun fr' hf=>key fr' (hf i (by simp))⟩
  ·exact hk.elim
 ·rename_i i lo n;rw [qs] at hk;split at hk
  ·rename_i e sz m z f hg;have hki:=qk hg (by simp);have hi:i<ks.length:=(pq.1 hki).1;cases hv with
   |rowNil _ L hL hnil =>
    have hb:=h.at hki (by simp) hL;cases hb with
    |rowNil _ _ _ _ _ _ _ _ hz =>
     split at hk
     ·exact absurd rfl hz
     ·omega
    |row _ _ _ _ _ vs fz hfp hnil'=>rw [hnil] at hnil';cases hnil'
   |row _ _ _ off L hL hnil hc ho =>
    have hb:=h.at hki (by simp) hL;cases hb with
    |rowNil _ _ _ _ _ hnil'=>rw [hnil] at hnil';cases hnil'
    |row _ _ _ _ _ vs fz hfp _ hLs hLn hzz hb hfz hvs hng hfl hr _ =>
     have key:lo+n<=m->∀ fr',i ∈ fr'->Rd w (Mx X (jv fr' fp)) (.sl false n sz (fun j=>f (lo+j))) (.slice (some ⟨L.b,off,none⟩) n (L.c - lo)):=fun hle fr' hi' =>
      qn7 (M':=Mx X (jv fr' fp)) hb hvs hng hfl hr lo n off (L.c - lo) hle (by omega) (fun hn=>by rw[ho (.inl (by omega)),hLs]) (hout i L fr' hi' hfp) (h.goneM fr')
     split at hk
     ·exact⟨_,_,hk.2,by simp[hi],fun fr' hf=>key hk.1 fr' (hf i (by simp))⟩
     ·exact⟨_,_,hk.2,by simp[hi],fun fr' hf=>key hk.1.1 fr' (hf i (by simp))⟩
  ·exact hk.elim
 ·rename_i i off n c;rw [qs] at hk;split at hk
  ·rename_i t l hg;split at hk
   ·rename_i hble;generalize Nat.div (lenL l - off) c=sz at *;rw [y9] at hble;have hble:=jr hble;rw [qa3,qa1] at hk;have hki:=qk hg (by simp);have hi:i<ks.length:=(pq.1 hki).1;obtain⟨ds,hk,hds⟩:=jk7 _ _ hk;have hdl:ds.length=n * sz:=by
     have:=congrArg List.length hds;simp at this;omega
    cases hv with
    |cs _ _ _ _ L hL hnc =>
     have hb:=h.at hki (by simp) hL;cases hb with
     |cells _ _ vs hfp hb hl hd h1 =>
      refine⟨_,_,hk,by simp[hi],fun fr' hf=>?_⟩;have hat:∀ j q d,j<n->(qx ds sz j)[q]? = some d->q<sz/\l[off+(j * sz+q)]? = some (.d d)/\off+(j * sz+q)<vs.size:=fun j q d hj hdd=>by
       have hq:q<sz:=by have:=(pq.1 hdd).1;rw [qr7 hdl _ hj] at this;exact this
       unfold qx at hdd;rw [mu,if_pos hq,lq] at hdd;have hlt:=(pq.1 hdd).1;have:((l.drop off).take (n * sz))[j * sz+q]? = some (.d d):=by rw[hds,o4,hdd];rfl
       rw [mu,if_pos (by omega),lq] at this;exact⟨hq,this,by have:=(pq.1 this).1;omega⟩
      refine .sl n sz _ ⟨L.b,off,none⟩ c (fun j q=>vs[off+(j * sz+q)]?.getD undef) hnc (fun _=>⟨jo hb,hout i L fr' (hf i (by simp)) hfp⟩) (fun j hj=>qr7 hdl j hj) (fun j q d hj hdd=>?_) (fun j q d hj hdd=>?_)
      ·obtain⟨_,_,hlt⟩:=hat j q d hj hdd;rw[yc];simp[World.cell?,hb,hlt]
      ·obtain⟨_,hls,hlt⟩:=hat j q d hj hdd;have:=jb (hd _ _ (vs[off+(j * sz+q)]'hlt) hls (oz _));simpa[hlt] using z6 this (h.goneM fr')
   ·exact hk.elim
  ·exact hk.elim
 ·exact hk.elim
theorem je2(l m:List Nat)(k:List Nat->Prop):appN l m k=k (l++m):=by
 induction l generalizing k with
 |nil=>rfl
 |cons a l ih=>simp[appN,ih]
theorem qd8[Dr](fr:List Nat)(ks:List KB)(K:List KB->Prop):uc fr ks K=K (jm fr ks):=by
 induction fr generalizing ks with
 |nil=>rfl
 |cons i fr ih=>simp only[uc,jm,jp,ih,yr]
theorem ql3[Dr](h:Mem0 X w β fp ks):∀ (l:List SV) (K:List DV->List Nat->Prop) (vs:List Value),dvsK ks l K->l.length=vs.length->(∀ (j:Nat) (s:SV) (u:Value),l[j]? = some s->vs[j]? = some u->Den w (Mx X fp) β s u) ->
 ∃ ds fr,K ds fr/\ds.length=l.length/\(∀ i ∈ fr,i<ks.length)/\∀ fr',(∀ i ∈ fr,i ∈ fr')->∀ (j:Nat) (d:DV) (u:Value),ds[j]? = some d->vs[j]? = some u->Rd w (Mx X (jv fr' fp)) d u:=by
 intro l;induction l with
 |nil=>intro K vs hk hl _;exact ⟨[],[],hk,rfl,by simp,fun _ _ j d u hd=>by simp at hd⟩
 |cons a l ih =>
  intro K vs hk hl hd;match vs,hl with
  |v :: vs,hl =>
   simp only [dvsK] at hk;obtain⟨d,fr,hk,h1,h2⟩:=qm1 h hk (hd 0 a v rfl rfl);obtain⟨ds,fr2,hk,h3,h4,h5⟩:=ih _ vs hk (by simpa using hl) (fun j s u hs hu=>hd (j+1) s u (by simpa using hs) (by simpa using hu));rw [je2] at hk;refine⟨d :: ds,fr++fr2,hk,by simp[h3],fun i hi=>(o3.1 hi).elim (h1 i) (h4 i),fun fr' hf j x u hx hu=>?_⟩;cases j with
   |zero=>simp at hx hu;subst hx hu;exact h2 fr' (fun i hi=>hf i (by simp [hi]))
   |succ j=>exact h5 fr' (fun i hi=>hf i (by simp[hi])) j x u (by simpa using hx) (by simpa using hu)
structure SrcOk(P:Program)(w:World)(M:Nat->Prop)(sz:Nat)(tx:TypeId)(v:Value)(k:Nat)(g:Nat->List DV)(us:List Value):Prop where
 src:Src P sz tx v k us w
 wid:∀ j,j<k->(g j).length=sz
 rd:∀ (j q:Nat) (d:DV) (u:Value),j<k->(g j)[q]? = some d->us[j * sz+q]? = some u->Rd w M d u
theorem SrcOk.less[Dr]{M M':Nat->Prop}{sz:Nat}{tx:TypeId}{v:Value}{k:Nat}{g:Nat->List DV}{us:List Value}(h:SrcOk P w M sz tx v k g us)(hM:∀ b,M' b->M b):SrcOk P w M' sz tx v k g us :=
 ⟨h.src,h.wid,fun j q d u a b c=>z6 (h.rd j q d u a b c) hM⟩
theorem jl1[Dr](h:Mem0 X w β fp ks){sz:Nat}(hsz:0<sz){x:SV}{K:Nat->(Nat->List DV)->List Nat->Prop}(hk:srcK ks sz x K){v:Value}(hv:Den w (Mx X fp) β x v){tx:TypeId}
 (htx:(∃ e',P.underlying tx=some (.slice e'))\/P.underlying tx=some .string) :
 ∃ k g fr us,K k g fr/\(∀ i ∈ fr,i<ks.length)/\∀ fr',(∀ i ∈ fr,i ∈ fr')->SrcOk P w (Mx X (jv fr' fp)) sz tx v k g us:=by
 have nilSrc:∀ c,Src P sz tx (.slice none 0 c) 0 [] w:=fun c=>by
  rcases htx with⟨e',he⟩|he
  ·exact Src.ofNil w he c
  ·exact⟨.inr he,fun _=>rfl,run_firstCells_none w sz 0 0 c,run_firstCells_none w.drew sz 0 0 c,by simp,fun _ h=>by cases h⟩
 have slSrc:∀ (ad:Addr) (n c:Nat) (news:List Value),news.length=n * sz->(∀ (j:Nat) (u:Value),news[j]? = some u->w.cell? (ad.add j)=some u)->(∀ u ∈ news,u.oneCell'=true)->Src P sz tx (.slice (some ad) n c) n news w:=fun ad n c news hl hn h1=>by
  rcases htx with⟨e',he⟩|he
  ·exact Src.ofSlice w he ad n c news hl hn h1
  ·exact⟨.inr he,fun _=>rfl,run_firstCells_some w sz n ad n c news hl hn,run_firstCells_some w.drew sz n ad n c news hl (by simpa using hn),hl,h1⟩
 have divmod:∀ j q,q<sz->(j * sz+q) / sz=j/\(j * sz+q) % sz=q:=fun j q hq=>by
  constructor
  ·rw[c7,Nat.mul_add_div hsz,Nat.div_eq_of_lt hq,du]
  ·rw[c7,Nat.mul_add_mod,rq hq]
 have lt_mul:∀ m n,m<n * sz->m / sz<n:=fun m n hm=>Nat.div_lt_of_lt_mul (by rw[c7];exact hm)
 unfold srcK at hk;split at hk
 ·rename_i nl n sz' f;split at hk
  ·rename_i hb;cases qv hb;cases jb hv with
   |nil=>exact⟨0,f,[],[],hk,by simp,fun _ _=>⟨nilSrc 0,fun j hj=>absurd hj (by omega),fun j q d u hj=>absurd hj (by omega)⟩⟩
   |sl _ _ _ ad cap u hcap hblk hlen hcell hrd =>
    refine⟨n,f,[],(List.range (n * sz)).map (fun m=>u (m / sz) (m % sz)),hk,by simp,fun fr' _=>⟨slSrc ad n cap _ (by simp) (fun j x hx=>?_) (fun x hx=>?_),hlen,fun j q d x hj hd hx=>?_⟩⟩
    ·obtain⟨hj,rfl⟩:=w5 (u:=fun m=>u (m / sz) (m % sz)) hx;have h1:=lt_mul j n hj;have h2:j % sz<(f (j / sz)).length:=by rw[hlen _ h1];exact Nat.mod_lt _ hsz
     have:=hcell (j / sz) (j % sz) _ h1 (pp h2)
     rwa [c7,Nat.div_add_mod] at this
    ·simp at hx;obtain⟨m,hm,rfl⟩:=hx;have h1:=lt_mul m n hm;have h2:m % sz<(f (m / sz)).length:=by rw[hlen _ h1];exact Nat.mod_lt _ hsz
     exact qr1 (hrd (m / sz) (m % sz) _ h1 (pp h2))
    ·have hq:q<sz:=by have:=(pq.1 hd).1;rw [hlen _ hj] at this;exact this
     obtain⟨e1,e2⟩:=divmod j q hq;obtain⟨_,rfl⟩:=w5 (u:=fun m=>u (m / sz) (m % sz)) hx;simp only[e1,e2];exact z6 (hrd j q d hj hd) (h.goneM fr')
  ·split at hk
   ·refine⟨0,_,[],[],hk,by simp,fun _ _=>⟨?_,fun j hj=>absurd hj (by omega),fun j q d u hj=>absurd hj (by omega)⟩⟩;cases jb hv with
    |nil=>exact nilSrc 0
    |sl _ _ _ ad cap u=>exact slSrc ad 0 cap [] (by simp) (fun j x hx=>by simp at hx) (fun x hx=>by simp at hx)
   ·exact hk.elim
 ·rename_i s;split at hk
  ·cases yk hv;have hsrc:Src P 1 tx (strV s) s.length (byteCells ⟨s.toArray⟩) w:=by
    have hss:(⟨s.toArray⟩:ByteArray).size=s.length:=qa2 s;have f1:=fun w':World=>firstCells_string (P:=P) ⟨s.toArray⟩ w'
    rw [hss] at f1;exact⟨htx,fun w'=>by simp[Builtin.lenOf,strV,hss],f1 w,f1 w.drew,by rw[byteCells_length,hss,Nat.mul_one],fun u hu=>by
     obtain⟨_,_,rfl⟩:=lz.1 hu;rfl⟩
   refine⟨s.length,_,[],byteCells ⟨s.toArray⟩,hk,by simp,fun fr' _=>⟨hsrc,fun j _=>rfl,fun j q d u hj hd hu=>?_⟩⟩;cases q with
   |zero =>
    simp at hd;subst hd;simp [byteCells] at hu;obtain⟨x,hx,rfl⟩:=hu;have:jc s (j:Int)=x.toNat:=by
     unfold jc;simp[hx]
    rw[this];exact .int _ _
   |succ q=>simp at hd
  ·exact hk.elim
 ·rename_i i;rw [qs] at hk;split at hk
  ·rename_i e sz' n z f hg;split at hk
   ·rename_i hb;cases qv hb;have hki:=qk hg (by simp);cases hv with
    |allNil _ L hL hnil =>
     have hb:=h.at hki (by simp) hL;cases hb with
     |rowNil=>exact⟨0,f,[],[],hk,by simp,fun _ _=>⟨nilSrc 0,fun j hj=>absurd hj (by omega),fun j q d u hj=>absurd hj (by omega)⟩⟩
     |row _ _ _ _ _ vs fz hfp hnil'=>rw [hnil] at hnil';cases hnil'
    |all _ L hL hnil =>
     have hb:=h.at hki (by simp) hL;cases hb with
     |rowNil _ _ _ _ _ hnil'=>rw [hnil] at hnil';cases hnil'
     |row _ _ _ _ _ vs fz hfp _ hLs hLn hzz hb hfz hvs hng hfl hr h1 =>
      have hle:n * sz<=vs.size:=by rw[hvs];exact o6 _ hng
      refine⟨n,f,[],vs.toList.take (n * sz),hk,by simp,fun fr' _=>⟨?_,hfl,fun j q d u hj hd hu=>?_⟩⟩
      ·rw[hLn];refine slSrc _ n _ _ (by simp;omega) (fun j x hx=>?_) (fun x hx=>?_)
       ·rw [mu] at hx;split at hx
        ·rw[yc];simpa[World.cell?,hb] using hx
        ·cases hx
       ·obtain⟨j,hj,rfl⟩:=o9.1 (gt hx);exact h1 j _ (by simp)
      ·rw [mu] at hu;split at hu
       ·exact z6 (hr j q d u hj hd (by simpa using hu)) (h.goneM fr')
       ·cases hu
   ·exact hk.elim
  ·exact hk.elim
 ·rename_i i lo n;rw [qs] at hk;split at hk
  ·rename_i e sz' m z f hg;split at hk
   ·rename_i hb;cases qv hb;obtain⟨hle,hk⟩:=hk;have hki:=qk hg (by simp);cases hv with
    |rowNil _ L hL hnil=>exact⟨0,_,[],[],hk,by simp,fun _ _=>⟨nilSrc 0,fun j hj=>absurd hj (by omega),fun j q d u hj=>absurd hj (by omega)⟩⟩
    |row _ _ _ off L hL hnil hc ho =>
     have hb:=h.at hki (by simp) hL;cases hb with
     |rowNil _ _ _ _ _ hnil'=>rw [hnil] at hnil';cases hnil'
     |row _ _ _ _ _ vs fz hfp _ hLs hLn hzz hb hfz hvs hng hfl hr h1 =>
      have hle':lo * sz+n * sz<=vs.size:=by rw[hvs,<-ow];exact o6 _ hc
      refine⟨n,_,[],(vs.toList.drop (lo * sz)).take (n * sz),hk,by simp,fun fr' _=>⟨?_,fun j hj=>hfl _ (by omega),fun j q d u hj hd hu=>?_⟩⟩
      ·refine slSrc _ n _ _ (by simp;omega) (fun j x hx=>?_) (fun x hx=>?_)
       ·rw [mu] at hx;split at hx
        ·rename_i hj;have hn:0<n:=by
          rcases fq n with e|e
          ·subst e;simp at hj
          ·exact e
         rw [lq] at hx;rw[yc,ho (.inl (by omega)),hLs];simpa[World.cell?,hb] using hx
        ·cases hx
       ·obtain⟨j,hj,rfl⟩:=o9.1 (ar (gt hx));exact h1 j _ (by simp)
      ·rw [mu] at hu;split at hu
       ·rw [lq] at hu;refine z6 (hr (lo+j) q d u (by omega) hd ?_) (h.goneM fr');rw[ow,Nat.add_assoc];simpa using hu
       ·cases hu
   ·exact hk.elim
  ·exact hk.elim
 ·rename_i i off n c;rw [qs] at hk;split at hk
  ·rename_i t l hg;split at hk
   ·rename_i hble;rw [y9] at hble;have hble:=jr hble;rw [qa3,qa1] at hk;have hki:=qk hg (by simp);cases hv with
    |cs _ _ _ _ L hL hnc =>
     have hb:=h.at hki (by simp) hL;cases hb with
     |cells _ _ vs hfp hb hl hd h1 =>
      obtain⟨ds,fr,hk,h2,h3,h4⟩:=ql3 h _ _ ((vs.toList.drop off).take (n * sz)) hk (by simp[hl]) (fun j s u hs hu=>by
       rw [mu] at hs hu;split at hs
       ·rename_i hj;rw [if_pos hj] at hu;rw [lq] at hs hu;exact hd _ _ _ hs (by simpa using hu)
       ·cases hs)
      have hdl:ds.length=n * sz:=by rw[h2];simp;omega
      have hch:∀ j,j<n->(qx ds sz j).length=sz:=fun j hj=>by
       unfold qx;have:(j+1) * sz<=n * sz:=o6 _ hj;rw [ow,mv] at this;simp[hdl];omega
      refine⟨n,_,fr,(vs.toList.drop off).take (n * sz),hk,h3,fun fr' hf=>⟨slSrc _ n _ _ (by simp;omega) (fun j x hx=>?_) (fun x hx=>?_),hch,fun j q d u hj hdd hu=>?_⟩⟩
      ·rw [mu] at hx;split at hx
       ·rw [lq] at hx;rw[yc];simpa[World.cell?,hb] using hx
       ·cases hx
      ·obtain⟨j,hj,rfl⟩:=o9.1 (ar (gt hx));exact h1 j _ (by simp)
      ·have hq:q<sz:=by have:=(pq.1 hdd).1;rw [hch _ hj] at this;exact this
       unfold qx at hdd;rw [mu,if_pos hq,lq] at hdd;exact h4 fr' hf _ d u hdd hu
   ·exact hk.elim
  ·exact hk.elim
 ·exact hk.elim
end
end
section
section
variable{P:Program}{X:Nat->Prop}{w:World}{β:Env}{fp:Nat->Nat->Prop}{ks:List KB}
theorem jh7[Dr]{w:World}{b:Nat}{o:Obj}(h:w.heap[b]? = some o):World.setBlock w b o=w:=by
 have hlt:=jo h;unfold World.setBlock;have:w.heap.setIfInBounds b o=w.heap:=by
  apply rn;intro i;rw[f6];split
  ·rename_i e;subst e;rw[h]
  ·rfl
 rw[this]
theorem jy0[Dr]{w:World}{b:Nat}{cs:Array Value}{t:TypeId}{fz:Nat × Nat}(h:w.heap[b]? = some (.cells cs t fz))(off:Nat)(us:List Value):w.setCells b off us=World.setBlock w b (.cells (je cs off us) t fz):=by
 induction us generalizing w cs off with
 |nil=>simp only[World.setCells,je];exact(jh7 h).symm
 |cons u us ih =>
  simp only[World.setCells,je];rw[ju6 h,ih (yf _ _ _ (jo h)),ju7]
theorem jr8[Dr](h:Mem X w β fp ks)(n:Nat):∀ b,b<w.heap.size->Mx X (updP fp n (· = w.heap.size)) b->Mx X fp b:=fun b hb hm=>hm.imp id (fun⟨i,hi⟩=>by
 by_cases e:i=n
 ·subst e;rw [yp] at hi;omega
 ·rw [ju _ _ e] at hi;exact ⟨i,hi⟩)
def locB(b:Nat):Loc:=⟨b,0,0,0,false⟩
theorem Mem.newCells[Dr](h:Mem X w β fp ks)(t:TypeId)(l:List SV)(vs:Array Value)(hl:l.length=vs.size)(hd:∀ (j:Nat) (s:SV) (u:Value),l[j]? = some s->vs[j]? = some u->Den w (Mx X fp) β s u)(h1:∀ (j:Nat) (u:Value),vs[j]? = some u->u.oneCell'=true) :
 Went X w β fp (w.alloc (.cells vs t)) (upd β ks.length (some (locB w.heap.size))) (updP fp ks.length (· = w.heap.size)) (ks++[.cells t l]):=by
 have hn:=h.kl ks.length (pr _);refine h.alloc _ (locB w.heap.size) _ rfl (.cells t l vs (fun x=>Iff.rfl) (by show(w.heap.push _)[w.heap.size]? = _;simp) hl (fun j s u a b=>(hd j s u a b).mono (Step.alloc _ w _) (jr8 h _) (vb _ hn)) h1)
theorem Mem.newRow[Dr](h:Mem X w β fp ks)(e:TypeId)(sz n c:Nat)(z:Z)(f:Nat->List DV)(vs:Array Value)(fz:Nat × Nat)(hfz:∀ o,o<vs.size->¬ (fz.1<=o/\o<fz.2))(hz:z = .iff->0<n)(hsz:vs.size=c * sz)(hn:n<=c)(hfl:∀ k,k<n->(f k).length=sz)
 (hr:∀ (k j:Nat) (d:DV) (u:Value),k<n->(f k)[j]? = some d->vs[k * sz+j]? = some u->Rd w (Mx X fp) d u) (h1:∀ (j:Nat) (u:Value),vs[j]? = some u->u.oneCell'=true) :
 Went X w β fp (w.alloc (.cells vs e fz)) (upd β ks.length (some ⟨w.heap.size,n,c,sz,false⟩)) (updP fp ks.length (· = w.heap.size)) (ks++[.row e sz n z f]) /\
  Den (w.alloc (.cells vs e fz)) (Mx X (updP fp ks.length (· = w.heap.size))) (upd β ks.length (some ⟨w.heap.size,n,c,sz,false⟩)) (.all ks.length) (.slice (some ⟨w.heap.size,0,none⟩) n c):=by
 refine⟨h.alloc _ ⟨w.heap.size,n,c,sz,false⟩ _ rfl (.row e sz n z f vs fz (fun x=>Iff.rfl) rfl rfl rfl hz (by show(w.heap.push _)[w.heap.size]? = _;simp) hfz hsz hn hfl (fun k j d u a b c=>(hr k j d u a b c).mono (Step.alloc _ w _) (jr8 h _)) h1),?_⟩;exact .all ks.length ⟨w.heap.size,n,c,sz,false⟩ (q8 _ _ _) rfl
theorem yr9{n k sz:Nat}{f g:Nat->List DV}(hf:∀ j,j<n->(f j).length=sz)(hg:∀ j,j<k->(g j).length=sz):∀ j,j<n+k->(catF n f g j).length=sz:=fun j hj=>by
 unfold catF;split
 ·exact hf j (by assumption)
 ·exact hg _ (by omega)
theorem jo6(w:World)(need old:Nat)(e:TypeId):need<=grownCap w need old e:=by
 unfold grownCap;simp only[Question.cut];omega
theorem zd8{z:Array Value}(hz:∀ (j:Nat) (u:Value),z[j]? = some u->u.oneCell'=true)(n:Nat):∀ (j:Nat) (u:Value),(Builtin.zeroCells z n)[j]? = some u->u.oneCell'=true:=fun j u hu=>by
 unfold Builtin.zeroCells at hu;rw [Array.getElem?_map] at hu;cases hr:(Array.range (n * z.size))[j]? with
 |none=>rw [hr] at hu;cases hu
 |some m =>
  rw [hr] at hu;simp only [o8] at hu;cases hu;have hj:j<n * z.size:=by
   have:=(m7.1 hr).1;simpa using this
  have hp:0<z.size:=by
   rcases fq z.size with e|e
   ·rw [e] at hj;omega
   ·exact e
  have hm:=Nat.mod_lt m hp;rw[getElem!_pos z (m % z.size) hm];exact hz _ _ (oz hm)
section
variable{st xt ty e:TypeId}{info:TypeInfo}{z0:Value}{sz:Nat}
theorem qy3[Dr](h:Mem X w β fp ks)(hst:P.underlying st=some (.slice e))(hi:P.info? e=some info)(hz0:info.zero=some z0)(hsz:info.size=sz)(hzs:z0.cells.size=sz)(hz1:∀ (j:Nat) (u:Value),z0.cells[j]? = some u->u.oneCell'=true)
 (base:Option Addr) (n cap:Nat) (f:Nat->List DV) (olds:List Value) (hold:(Builtin.firstCells sz n (.slice base n cap)).run P w.drew = .ok olds.toArray w.drew) (hol:olds.length=n * sz) (ho1:∀ u ∈ olds,u.oneCell'=true)
 (hfl:∀ k,k<n->(f k).length=sz) (hr:∀ (k j:Nat) (d:DV) (u:Value),k<n->(f k)[j]? = some d->olds[k * sz+j]? = some u->Rd w (Mx X fp) d u)
 {x:Value} {k:Nat} {g:Nat->List DV} {us:List Value} (hs:SrcOk P w (Mx X fp) sz xt x k g us) (hgr:cap<n+k) (hby:(n+k) * info.bytes<=70368744177664) (h63:n+k<=9223372036854775807) (z:Z) :
 ∃ v w' β' fp',(Builtin.append_ #[st,xt] ty #[.slice base n cap,x]).run P w = .ok v w'/\Went X w β fp w' β' fp' (ks++[.row e sz (n+k) z (catF n f g)])/\Den w' (Mx X fp') β' (.all ks.length) v:=by
 subst hsz;have hfit:Builtin.nextslicecap (n+k) cap * info.bytes<=281474976710656:=by
  have h1:=nextslicecap_le hgr;have h2:=o6 info.bytes h1;rw [Nat.mul_assoc] at h2;omega
 have hrun:=run_append_grow_src w st xt ty e info z0 hst hi hz0 base n cap olds hold x k us hs.src hgr (by omega) hfit;have hge:=jo6 w (n+k) cap e;generalize grownCap w (n+k) cap e=c at hrun hge;have hW:=h.drew;have hus:=hs.src.newsLen;have hget:∀ m u,((olds++us).toArray++Builtin.zeroCells z0.cells (c - (n+k)))[m]? = some u->m<(n+k) * info.size->(if m<n * info.size then olds[m]? else us[m - n * info.size]?)=some u:=fun m u hu hm=>by
  rw [ow] at hm;rw [sq (by simp;omega)] at hu;simp only [List.getElem?_toArray] at hu;split
  ·rename_i hlt;rw [ot (by omega)] at hu;exact hu
  ·rename_i hlt;rw [o5 (by omega),hol] at hu;exact hu
 have hlt:∀ t q,t<n+k->q<info.size->t * info.size+q<(n+k) * info.size:=fun t q ht hq=>by
  calc t * info.size+q<t * info.size+info.size:=by omega
   _=(t+1) * info.size:=by rw[ow,mv]
   _<=(n+k) * info.size:=o6 _ ht
 have hcl:=yr9 hfl hs.wid;obtain⟨hW2,hden⟩:=hW.mem.newRow e info.size (n+k) c z (catF n f g) ((olds++us).toArray++Builtin.zeroCells z0.cells (c - (n+k))) (0,0) (by simp) (fun _=>by omega) (by
  rw[Array.size_append,size_zeroCells,hzs];simp[hol,hus];rw[<-ow,<-ow];congr 1;omega) hge hcl (fun t q d u ht hd hu=>by
  have hq:q<info.size:=by have:=(pq.1 hd).1;rw [hcl _ ht] at this;exact this
  have h2:=hget _ u hu (hlt t q ht hq);have hst:Step (Mx X fp) w w.drew:=Step.drew _ w;unfold catF at hd;split at hd
  ·rename_i htn;rw[if_pos (by
    calc t * info.size+q<t * info.size+info.size:=by omega
     _=(t+1) * info.size:=by rw[ow,mv]
     _<=n * info.size:=o6 _ htn)] at h2
   exact(hr t q d u htn hd h2).mono hst (fun _ _ e=>e)
  ·rename_i htn;have hle:n * info.size<=t * info.size:=o6 _ (by omega);rw [if_neg (by omega),show t * info.size+q - n * info.size=(t - n) * info.size+q from by rw [Nat.sub_mul];omega] at h2;exact(hs.rd (t - n) q d u (by omega) hd h2).mono hst (fun _ _ e=>e)) (fun j u hu=>by
  rcases oo j ((olds++us).toArray.size) with hj|hj
  ·rw [sq hj] at hu;simp only [List.getElem?_toArray] at hu;rcases o3.1 (ov hu) with hm|hm
   ·exact ho1 u hm
   ·exact hs.src.one u hm
  ·rw [Array.getElem?_append_right hj] at hu;exact zd8 hz1 _ _ u hu)
 exact⟨_,_,_,_,hrun,hW.trans hW2,hden⟩
theorem append_nil[Dr](h:Mem X w β fp ks)(hst:P.underlying st=some (.slice e))(hi:P.info? e=some info)(hz0:info.zero=some z0)(hsz:info.size=sz)(hzs:z0.cells.size=sz)(hz1:∀ (j:Nat) (u:Value),z0.cells[j]? = some u->u.oneCell'=true)(hpos:0<sz)
 {x:Value} {k:Nat} {g:Nat->List DV} {us:List Value} (hs:SrcOk P w (Mx X fp) sz xt x k g us) (hby:k * info.bytes<=70368744177664) (h63:k<=9223372036854775807) (z:Z) (hz:z≠.no) (f:Nat->List DV) :
 ∃ v w' β' fp',(Builtin.append_ #[st,xt] ty #[.slice none 0 0,x]).run P w = .ok v w'/\Went X w β fp w' β' fp' (ks++[.row e sz (0+k) z (catF 0 f g)])/\Den w' (Mx X fp') β' (.all ks.length) v:=by
 by_cases hk:k=0
 ·subst hk;have hus:us=[]:=f8 (by rw[hs.src.newsLen];simp);subst hus;have hrun:=run_append_nothing w st xt ty e info hst hi none 0 0 (pr _) x (hsz ▸ hs.src);have hW:=h.nilRow e sz z hz (catF 0 f g);exact⟨_,_,_,_,hrun,hW,.allNil ks.length _ (q8 _ _ _) rfl⟩
 ·exact qy3 h hst hi hz0 hsz hzs hz1 none 0 0 f [] (run_firstCells_none w.drew sz 0 0 0) (by simp) (by simp) (fun k hk=>absurd hk (by omega)) (fun k j d u hk=>absurd hk (by omega)) hs (by omega) (by simpa using hby) (by omega) z
theorem yf2[Dr](h:Mem X w β fp ks)(hst:P.underlying st=some (.slice e))(hi:P.info? e=some info)(hz0:info.zero=some z0)(hsz:info.size=sz)(hzs:z0.cells.size=sz)(hz1:∀ (j:Nat) (u:Value),z0.cells[j]? = some u->u.oneCell'=true)
 {i m n:Nat} {z:Z} {f:Nat->List DV} (hki:ks[i]? = some (.row e sz m z f)) {L:Loc} (hL:β i=some L) (hnil:L.nil=false) (hn:n<=m)
 {x:Value} {k:Nat} {g:Nat->List DV} {us:List Value} (hs:SrcOk P w (Mx X fp) sz xt x k g us) (hby:(n+k) * info.bytes<=70368744177664) (h63:n+k<=9223372036854775807) (z':Z) (hz':z' = .iff->0<n+k) :
 ∃ v w' β' fp',(Builtin.append_ #[st,xt] ty #[.slice (some ⟨L.b,0,none⟩) n L.c,x]).run P w = .ok v w'/\Went X w β fp w' β' fp' (ks.set i .gone++[.row e sz (n+k) z' (catF n f g)])/\Den w' (Mx X fp') β' (.all ks.length) v:=by
 have hil:i<ks.length:=(pq.1 hki).1;have hb:=h.at hki (by simp) hL;cases hb with
 |rowNil _ _ _ _ _ hnil'=>rw [hnil] at hnil';cases hnil'
 |row _ _ _ _ _ vs fz hfp _ hLs hLn hzz hb hfz hvs hng hfl hr h1 =>
  have hus:=hs.src.newsLen;by_cases hroom:n+k<=L.c
  ·have hin:n * sz+us.length<=vs.size:=by rw[hus,hvs,<-ow];exact o6 _ hroom
   have hrun:=run_append_room_src (P:=P) w st xt ty e info hst hi L.b 0 n L.c x k us (hsz ▸ hs.src) hroom (fun j hj=>by
    rw[hsz,ox];have:n * sz+j<vs.size:=by omega
    simp[World.cell?,hb,this]) (fun j hj=>by
    rw[hsz,ox];have:=hfz (n * sz+j) (by omega);obtain⟨lo,hi⟩:=fz;simp[World.frozen?,hb];intro hlo;simp at this;exact this hlo)
   rw [hsz,ox,jy0 hb] at hrun;have hM:∀ b,b<w.heap.size->Mx X (updP (updP fp i (fun _=>False)) ks.length (· = L.b)) b->Mx X fp b:=fun b _ hm=>hm.imp id (fun⟨j,hj⟩=>by
    by_cases h1:j=ks.length
    ·subst h1;rw [yp] at hj;exact ⟨i,(hfp b).2 hj⟩
    ·rw [ju _ _ h1] at hj;by_cases e:j=i
     ·subst e;rw [yp] at hj;exact hj.elim
     ·rw [ju _ _ e] at hj;exact ⟨j,hj⟩)
   have hst':Step (Mx X fp) w (World.setBlock w L.b (.cells (je vs (n * sz) us) e fz)):=Step.setBlock w (.inr ⟨i,(hfp _).2 rfl⟩) _;have hfl':∀ t,t<n->(f t).length=sz:=fun t ht=>hfl t (by omega)
   have hcl:=yr9 hfl' hs.wid;have hW:=h.again (L':=⟨L.b,n+k,L.c,sz,false⟩) (.row e sz (n+k) z' (catF n f g)) (.cells (je vs (n * sz) us) e fz) hil hL hfp rfl
    (.row e sz (n+k) z' (catF n f g) (je vs (n * sz) us) fz (fun x=>Iff.rfl) rfl rfl rfl hz' (yf _ _ _ (jo hb)) (by rw[ku];exact hfz) (by rw[ku];exact hvs) hroom hcl (fun t q d u ht hd hu=>by
     have hq:q<sz:=by have:=(pq.1 hd).1;rw [hcl _ ht] at this;exact this
     rw [xh _ _ _ _ hin] at hu;unfold catF at hd;split at hd
     ·rename_i htn;have hlt:t * sz+q<n * sz:=by
       calc t * sz+q<t * sz+sz:=by omega
        _=(t+1) * sz:=by rw[ow,mv]
        _<=n * sz:=o6 _ htn
      rw [if_neg (by omega)] at hu;exact(hr t q d u (by omega) hd hu).mono hst' hM
     ·rename_i htn;have hle:n * sz<=t * sz:=o6 _ (by omega);have hlt:t * sz+q<(n+k) * sz:=by
       calc t * sz+q<t * sz+sz:=by omega
        _=(t+1) * sz:=by rw[ow,mv]
        _<=(n+k) * sz:=o6 _ ht
      rw [if_pos (by rw [hus,<-ow];omega),show t * sz+q - n * sz=(t - n) * sz+q from by rw [Nat.sub_mul];omega] at hu;exact(hs.rd (t - n) q d u (by omega) hd hu).mono hst' hM) (fun j u hu=>by
     rw [xh _ _ _ _ hin] at hu;split at hu
     ·exact hs.src.one u (ov hu)
     ·exact h1 j u hu))
   exact⟨_,_,_,_,hrun,hW,.all ks.length ⟨L.b,n+k,L.c,sz,false⟩ (q8 _ _ _) rfl⟩
  ·have hW:=h.gone [i];have hks:jm [i] ks=ks.set i .gone:=by simp[jm,yr]
   rw [hks] at hW;have hle:n * sz<=vs.size:=by rw[hvs];exact o6 _ (by omega)
   have hlen:(ks.set i KB.gone).length=ks.length:=by simp
   obtain⟨v,w',β',fp',r1,r2,r3⟩:=qy3 (P:=P) (st:=st) (xt:=xt) (ty:=ty) hW.mem hst hi hz0 hsz hzs hz1 (some ⟨L.b,0,none⟩) n L.c f (vs.toList.take (n * sz)) (run_firstCells_some w.drew sz n ⟨L.b,0,none⟩ n L.c _ (by simp;omega) (fun j u hu=>by
    rw [mu] at hu;split at hu
    ·rw[yc];show w.cell? _=_;simpa[World.cell?,hb] using hu
    ·cases hu)) (by simp;omega) (fun u hu=>by
    obtain⟨j,hj,rfl⟩:=o9.1 (gt hu);exact h1 j _ (by simp)) (fun t ht=>hfl t (by omega)) (fun t q d u ht hd hu=>by
    rw [mu] at hu;split at hu
    ·exact z6 (hr t q d u (by omega) hd (by simpa using hu)) (h.goneM [i])
    ·cases hu) (hs.less (h.goneM [i])) (by omega) hby h63 z'
   rw [hlen] at r3;exact⟨v,w',β',fp',r1,hW.trans r2,r3⟩
end
end
end
section
section
variable{P:Program}{TT:Nat->Option TI}{X:Nat->Prop}{w:World}{β:Env}{fp:Nat->Nat->Prop}{ts:List SV}{ks:List KB}{a:Act}{K:SV->List KB->Prop}{o:Oper}{r:Option Nat}{n:Nat}{next:Act->World->Prop}{Q:Exit->Act->World->Prop}
theorem xb2[Dr](h:Mem X w β fp ks){st xt ty e:TypeId}{info:TypeInfo}{z0:Value}{sz:Nat}(hst:P.underlying st=some (.slice e))(hi:P.info? e=some info)(hz0:info.zero=some z0)(hsz:info.size=sz)(hzs:z0.cells.size=sz)(hz1:∀ (j:Nat) (u:Value),z0.cells[j]? = some u->u.oneCell'=true)
 {i n:Nat} {l:List SV} (hki:ks[i]? = some (.cells e l)) {L:Loc} (hL:β i=some L) (hpos:0<sz) (hll:l.length=n * sz) {ds:List DV} (hdl:ds.length=l.length)
 (hds:∀ vs:Array Value,w.heap[L.b]? = some (.cells vs e (0,0))->∀ (j:Nat) (d:DV) (u:Value),ds[j]? = some d->vs[j]? = some u->Rd w (Mx X fp) d u)
 {x:Value} {k:Nat} {g:Nat->List DV} {us:List Value} (hs:SrcOk P w (Mx X fp) sz xt x k g us) (hby:(n+k) * info.bytes<=70368744177664) (h63:n+k<=9223372036854775807) :
 ∃ v w' β' fp',(Builtin.append_ #[st,xt] ty #[.slice (some ⟨L.b,0,none⟩) n n,x]).run P w = .ok v w'/\Went X w β fp w' β' fp' (ks.set i .gone++[.row e sz (n+k) .no (catF n (qx ds sz) g)])/\Den w' (Mx X fp') β' (.all ks.length) v:=by
 have hil:i<ks.length:=(pq.1 hki).1;have hb:=h.at hki (by simp) hL;cases hb with
 |cells _ _ vs hfp hb hl hd h1 =>
  have hvs:vs.size=n * sz:=by rw[<-hl,hll]
  have hch:∀ j,j<n->(qx ds sz j).length=sz:=fun j hj=>by
   unfold qx;have:(j+1) * sz<=n * sz:=o6 _ hj;rw [ow,mv] at this;simp[hdl,hll];omega
  have hcr:∀ (t q:Nat) (d:DV) (u:Value),t<n->(qx ds sz t)[q]? = some d->vs[t * sz+q]? = some u->Rd w (Mx X fp) d u:=fun t q d u ht hdd hu=>by
   have hq:q<sz:=by have:=(pq.1 hdd).1;rw [hch _ ht] at this;exact this
   unfold qx at hdd;rw [mu,if_pos hq,lq] at hdd;exact hds vs hb _ d u hdd hu
  by_cases hk:k=0
  ·subst hk;have hus:us=[]:=f8 (by rw[hs.src.newsLen];simp);subst hus;have hrun:=run_append_nothing w st xt ty e info hst hi (some ⟨L.b,0,none⟩) n n (pr _) x (hsz ▸ hs.src);have hself:=jh7 hb;have hM:∀ b,b<w.heap.size->Mx X (updP (updP fp i (fun _=>False)) ks.length (· = L.b)) b->Mx X fp b:=fun b _ hm=>hm.imp id (fun⟨j,hj⟩=>by
    by_cases h1:j=ks.length
    ·subst h1;rw [yp] at hj;exact ⟨i,(hfp b).2 hj⟩
    ·rw [ju _ _ h1] at hj;by_cases e:j=i
     ·subst e;rw [yp] at hj;exact hj.elim
     ·rw [ju _ _ e] at hj;exact ⟨j,hj⟩)
   have hW:=h.again (L':=⟨L.b,n,n,sz,false⟩) (.row e sz (n+0) .no (catF n (qx ds sz) g)) (.cells vs e (0,0)) hil hL hfp rfl
    (.row e sz (n+0) .no _ vs (0,0) (fun x=>Iff.rfl) rfl rfl rfl (fun e=>by cases e) (yf _ _ _ (jo hb)) (by simp) hvs (pr _) (fun t ht=>by rw[show catF n (qx ds sz) g t=qx ds sz t from if_pos ht];exact hch t ht) (fun t q d u ht hdd hu=>by
     rw [show catF n (qx ds sz) g t=qx ds sz t from if_pos ht] at hdd;rw[hself];exact(hcr t q d u ht hdd hu).mono (Step.refl _ _) hM) h1)
   rw [hself] at hW;exact⟨_,_,_,_,hrun,hW,.all ks.length ⟨L.b,n,n,sz,false⟩ (q8 _ _ _) rfl⟩
  ·have hW:=h.gone [i];have hks:jm [i] ks=ks.set i .gone:=by simp[jm,yr]
   rw [hks] at hW;have hlen:(ks.set i KB.gone).length=ks.length:=by simp
   obtain⟨v,w',β',fp',r1,r2,r3⟩:=qy3 (P:=P) (st:=st) (xt:=xt) (ty:=ty) hW.mem hst hi hz0 hsz hzs hz1 (some ⟨L.b,0,none⟩) n n (qx ds sz) vs.toList (run_firstCells_some w.drew sz n ⟨L.b,0,none⟩ n n _ (by simp[hvs]) (fun j u hu=>by
    rw[yc];show w.cell? _=_;simpa[World.cell?,hb] using hu)) (by simp[hvs]) (fun u hu=>by
    obtain⟨j,hj,rfl⟩:=o9.1 hu;exact h1 j _ (by simp)) hch (fun t q d u ht hdd hu=>z6 (hcr t q d u ht hdd (by simpa using hu)) (h.goneM [i])) (hs.less (h.goneM [i])) (by omega) hby h63 .no
   rw [hlen] at r3;exact⟨v,w',β',fp',r1,hW.trans r2,r3⟩
theorem jo0{t:Nat}{l:List Nat}(h:t ∈ l):memN t l=true:=by
 induction l with
 |nil=>cases h
 |cons a l ih =>
  simp only[memN];split
  ·rfl
  ·rename_i hb;rcases pv.1 h with e|h
   ·subst e;rw [show Nat.beq t t=true from cw t] at hb;cases hb
   ·exact ih h
theorem qo2[Dr]{t:Nat}{l:List Nat}(h:memN t l=false):t ∉ l:=fun e=>by rw [jo0 e] at h;cases h
theorem qq5[Dr](fr:List Nat)(ks:List KB)(i:Nat)(h:i ∉ fr):(jm fr ks)[i]? = ks[i]?:=by
 induction fr generalizing ks with
 |nil=>rfl
 |cons j fr ih =>
  simp only[jm];rw[ih _ (fun e=>h (by simp[e])),yr,oq,if_neg (fun e=>h (by simp[e]))]
theorem zh1(fr:List Nat)(fp:Nat->Nat->Prop)(i:Nat)(h:i ∉ fr):jv fr fp i=fp i:=by funext b;simp[jv,h]
theorem jj9[Dr](hTT:TTok P TT){t:TypeId}(h:qw3 TT t=true):(∃ e',P.underlying t=some (.slice e'))\/P.underlying t=some .string:=by
 unfold qw3 at h;split at h
 ·rename_i ht;obtain⟨info,d,z,hi,hu,_,_,_,_,_,_,_,_,hd⟩:=qi hTT ht;cases hd;exact .inl ⟨_,hu⟩
 ·rename_i ht;obtain⟨info,d,z,hi,hu,_,_,_,_,_,_,_,_,hd⟩:=qi hTT ht;cases hd;exact .inr hu
 ·cases h
theorem qt8[Dr](z:List SV)(n:Nat)(c:List SV->Prop):repK z n c=c ((List.replicate n z).flatten):=by
 induction n generalizing c with
 |zero=>rfl
 |succ n ih=>simp only[repK,ih,qe7,List.replicate_succ,List.flatten_cons]
theorem jq0{α:Type}(z:List α)(n m:Nat)(s:α)(h:((List.replicate n z).flatten)[m]? = some s):z[m % z.length]? = some s/\m<n * z.length:=by
 induction n generalizing m with
 |zero=>simp at h
 |succ n ih =>
  rw [List.replicate_succ,List.flatten_cons] at h;rcases oo m z.length with hm|hm
  ·rw [ot hm] at h;rw[rq hm];exact⟨h,by rw[ow];omega⟩
  ·rw [o5 hm] at h;obtain⟨a,b⟩:=ih (m - z.length) h;rw [<-Nat.mod_eq_sub_mod hm] at a;exact⟨a,by rw[ow];omega⟩
theorem jk3[Dr]{M:Nat->Prop}(hT:∀ x,Den w M β (val ts x) (a.eval x)){size:Nat} :
 ∀ (parts:List (Nat × Operand)) (cs:List SV) (c:List SV->Prop) (vs:List Value),fillS ts size cs parts c->cs.length=vs.length ->
  (∀ (j:Nat) (s:SV) (u:Value),cs[j]? = some s->vs[j]? = some u->Den w M β s u)->(∀ u ∈ vs,u.oneCell'=true) ->
  ∃ (cs':List SV) (vs':List Value),c cs'/\Instr.fill (fun i=>some (i * size,size)) vs.toArray (parts.map fun p=>(p.1,a.eval p.2))=some vs'.toArray/\cs'.length=vs'.length /\
   (∀ (j:Nat) (s:SV) (u:Value),cs'[j]? = some s->vs'[j]? = some u->Den w M β s u)/\(∀ u ∈ vs',u.oneCell'=true):=by
 intro parts;induction parts with
 |nil=>intro cs c vs h hl hd h1;exact⟨cs,vs,by simpa[fillS] using h,rfl,hl,hd,h1⟩
 |cons p parts ih =>
  obtain⟨i,x⟩:=p;intro cs c vs h hl hd h1;simp only [fillS] at h;rw [qm] at h;obtain⟨h,hcells⟩:=ul (w:=w) (M:=M) (β:=β) h;obtain⟨c1,c2,c3⟩:=hcells _ (hT x);split at h
  ·rename_i hb1 hb2;rw [y9] at hb1 hb2;have hb1:=qv hb1;have hb2:=jr hb2;rw [qj1] at h;have c3':∀ u ∈ (a.eval x).cells.toList,u.oneCell'=true:=fun u hu=>c3 u (by simpa using hu)
   obtain⟨d1,d2⟩:=jr3 (w:=w) (M:=M) (β:=β) (off:=i * size) (us:=(a.eval x).cells.toList) hl (by simpa using c1) (by omega) hd (fun j s u hs hu=>c2 j s u hs (by simpa using hu));obtain⟨cs',vs',hc,hfill,r1,r2,r3⟩:=ih _ c (je vs.toArray (i * size) (a.eval x).cells.toList).toList h (by simpa using d1) (fun j s u hs hu=>d2 j s u hs (by simpa using hu)) (fun u hu=>by
    obtain⟨j,hj,rfl⟩:=o9.1 hu;exact qx5 (off:=i * size) (us:=(a.eval x).cells.toList) (by simp;omega) h1 c3' j _ (by simp))
   refine⟨cs',vs',hc,?_,r1,r2,r3⟩;simp only[cu,Instr.fill];have hs:(a.eval x).cells.size=size:=by omega
   rw[if_neg (by simp[hs];omega)];have hfold:=jw2 (a.eval x).cells.toList vs.toArray (i * size) 0;rw [du] at hfold;have hz:(a.eval x).cells.zipIdx.foldl (fun cs (x:Value × Nat)=>cs.setIfInBounds (i * size+x.2) x.1) vs.toArray=je vs.toArray (i * size) (a.eval x).cells.toList:=by
    rw[<-hfold,<-s4];simp
   rw[hz];simpa using hfill
  ·cases h
def zp[Dr](X:Nat->Prop)(w:World)(β:Env)(fp:Nat->Nat->Prop)(a:Act)(o:Oper)(K:SV->List KB->Prop)(next:Act->World->Prop):Prop :=
 ∀ r ks' v w' β' fp',K r ks'->Went X w β fp w' β' fp' ks'->Den w' (Mx X fp') β' r v->next (a.put o.dst v) w'
theorem qq1[Dr]{t:TypeId}{i:TypeInfo}(hi:P.info? t=some i)(b off:Nat)(v:Value)(t':TypeId)(fz:Nat × Nat)(cs:Array Value)(hb:w.heap[b]? = some (.cells cs t' fz))(hfz:∀ o,o<cs.size->¬ (fz.1<=o/\o<fz.2))
 (hsz:v.cells.size=i.size) (hin:off+i.size<=cs.size) (h1:∀ u ∈ v.cells,u.oneCell'=true) (hpos:0<i.size) :
 (storeVar t ⟨b,off,none⟩ v).run P w = .ok () (World.setBlock w b (.cells (je cs off v.cells.toList) t' fz)):=by
 have hne:v.cells.toList≠[]:=fun e=>by
  have:=congrArg List.length e;simp at this;rw [this] at hsz;simp at hsz;omega
 have:=jv1 (P:=P) b t' fz v.cells.toList w cs off 0 hb (by simp;omega) hfz (fun u hu=>h1 u (by simpa using hu));rw [if_neg hne,du] at this;simp[storeVar,run_sizeOf hi,hsz,this]
theorem zo4[Dr]{k:IntKind}{i m:Int}{l:List SV}:∀ {j:Int} {c:List SV->Prop},qp0 k i m l j c->∃ (xs:List Int) (l':List SV),l=xs.map (fun n=>.d (.int k n))/\c l'/\l'.length=l.length /\
 ∀ (q:Nat) (x:Int),xs[q]? = some x->l'[q]? = some (.d (.int k (if i=j+q then m else x))):=by
 induction l with
 |nil=>intro j c h;exact⟨[],[],rfl,h,rfl,by simp⟩
 |cons s l ih =>
  intro j c h;cases s with
  |d x =>
   cases x with
   |int k' x =>
    simp only [qp0] at h;split at h
    ·rename_i hk;cases wr hk;obtain⟨xs,l',rfl,hc,hlen,hg⟩:=ih h;refine⟨x :: xs,_,rfl,hc,by simp[hlen],fun q y hq=>?_⟩;cases q with
     |zero=>simp at hq;subst hq;simp
     |succ q =>
      simp at hq;have:=hg q y hq;simp only[List.getElem?_cons_succ];rw[this];congr 3;rw[show j+1+(q:Int)=j+((q+1:Nat):Int) from by omega]
    ·cases h
   |_=>exact h.elim
  |_=>exact h.elim
theorem Mem.store[Dr](h:Mem X w β fp ks){i:Nat}{L:Loc}{t:TypeId}{l l':List SV}{vs vs':Array Value}(hk:ks[i]? = some (.cells t l))(hL:β i=some L)(hfp:∀ x,fp i x↔x=L.b)(hblk:w.heap[L.b]? = some (.cells vs t (0,0)))
 (hl:l'.length=vs'.size) (hd:∀ (j:Nat) (s:SV) (u:Value),l'[j]? = some s->vs'[j]? = some u->Den w (Mx X fp) β s u) (h1:∀ (j:Nat) (u:Value),vs'[j]? = some u->u.oneCell'=true) :
 Went X w β fp (World.setBlock w L.b (.cells vs' t (0,0))) β fp (ks.set i (.cells t l')) :=
 h.set (.cells t l') _ (pq.1 hk).1 hL hfp (.cells t l' vs' hfp (yf _ _ _ (jo hblk)) hl
  (fun j s u a b=>(hd j s u a b).mono (Step.setBlock w (.inr ⟨i,(hfp _).2 rfl⟩) _) (fun _ _ e=>e) (Ext.refl _)) h1)
theorem jy9(l:List DV)(off:Nat)(vs:List DV):(putD l off vs).length=l.length:=by
 induction vs generalizing l off with
 |nil=>cases l <;> rfl
 |cons v vs ih=>simp[putD,ih]
theorem xe6(l:List DV)(off:Nat)(vs:List DV)(j:Nat)(hin:off+vs.length<=l.length):(putD l off vs)[j]? = if off<=j/\j<off+vs.length then vs[j - off]? else l[j]?:=by
 induction vs generalizing l off with
 |nil=>simp[putD];intro _ _;omega
 |cons v vs ih =>
  simp only [ou] at hin;simp only[putD,ou];rw[ih (l.set off v) (off+1) (by simp;omega)];by_cases h1:off+1<=j/\j<off+1+vs.length
  ·rw[if_pos h1,if_pos (by omega),show j - off=(j - (off+1))+1 from by omega];simp
  ·rw[if_neg h1,oq];by_cases h2:off=j
   ·subst h2;rw[if_pos rfl,if_pos (by omega),if_pos (by omega)];simp
   ·rw[if_neg h2,if_neg (by omega)]
theorem zo3[Dr]{c:Col}{n:Nat}{v:SV}{K:Col->Prop}(h:qw2 c n v K):∃ c',K c'/\(∀ m,m≠n->c'.at m=c.at m)/\∀ (w:World) (M:Nat->Prop) (β:Env) (u:Value),Den w M β v u->Den w M β (c'.at n) u:=by
 unfold qw2 at h;split at h
 ·split at h
  ·split at h
   ·rename_i k f k' x hk;cases wr hk;exact⟨_,h,fun m hm=>by simp[Col.at,jk _ _ hm],fun w M β u hu=>by simpa[Col.at,q8] using hu⟩
   ·cases h
  ·cases h
 ·split at h
  ·rename_i f x;obtain⟨b,h,hb⟩:=qr4 h;exact⟨_,h,fun m hm=>by simp[Col.at,jk _ _ hm],fun w M β u hu=>by
    rw[hb w M u (jb hu)];simp only[Col.at,q8];exact .d (.bool b)⟩
  ·cases h
 ·split at h
  ·exact⟨_,h,fun m hm=>by simp[Col.at,jk _ _ hm],fun w M β u hu=>by simpa[Col.at,q8] using hu⟩
  ·cases h
 ·rename_i sz nil q g;split at h
  ·rename_i b q' sz' h';split at h
   ·rename_i hsz;cases qv hsz;exact⟨_,h,fun m hm=>by simp[Col.at,jk _ _ hm],fun w M β u hu=>by simpa[Col.at,q8] using hu⟩
   ·split at h
    ·exact⟨_,h,fun m hm=>by simp[Col.at,jk _ _ hm],fun w M β u hu=>by
      simp only[Col.at,q8];exact .d (jb hu).width⟩
    ·cases h
  ·cases h
 ·split at h
  ·split at h
   ·rename_i i f j x hj;cases qv hj;exact⟨_,h,fun m hm=>by simp[Col.at,jk _ _ hm],fun w M β u hu=>by simpa[Col.at,q8] using hu⟩
   ·cases h
  ·split at h
   ·rename_i i f j x off hj;cases qv hj;exact⟨_,h,fun m hm=>by simp[Col.at,jk _ _ hm],fun w M β u hu=>by
     simp only[Col.at,q8];cases hu with
     |ap _ n _ L hL=>exact .np _ n L hL⟩
   ·cases h
  ·exact⟨_,h,fun m hm=>by simp[Col.at,jk _ _ hm],fun w M β u hu=>by
    simp only[Col.at,q8];cases hu;exact .npNil _⟩
  ·cases h
 ·exact⟨_,h,fun m hm=>rfl,fun w M β u hu=>.any _⟩
theorem yv1(l:List Col):lenC l=l.length:=by
 induction l with
 |nil=>rfl
 |cons a l ih=>simp[lenC,ih]
theorem yc5[Dr]:∀ {cols:List Col} {off n:Nat} {vs:List SV} {K:List Col->Prop},zu cols off n vs K->∃ cols',K cols'/\cols'.length=cols.length/\(∀ (j:Nat) (c:Col),cols[j]? = some c->∃ c',cols'[j]? = some c'/\(∀ m,m≠n->c'.at m=c.at m) /\
 ((off<=j/\j<off+vs.length/\∃ v,vs[j - off]? = some v/\∀ (w:World) (M:Nat->Prop) (β:Env) (u:Value),Den w M β v u->Den w M β (c'.at n) u)\/(¬ (off<=j/\j<off+vs.length)/\c'=c))):=by
 intro cols;induction cols with
 |nil =>
  intro off n vs K h;cases vs with
  |nil=>exact ⟨[],by simpa [zu] using h,rfl,fun j c hc=>by simp at hc⟩
  |cons=>simp [zu] at h
 |cons c l ih =>
  intro off n vs K h;cases vs with
  |nil=>exact⟨c :: l,by simpa[zu] using h,rfl,fun j c' hc=>⟨c',hc,fun _ _=>rfl,.inr ⟨by rw[gv];omega,rfl⟩⟩⟩
  |cons v vs =>
   cases off with
   |zero =>
    simp only [zu] at h;obtain⟨c',h,g1,g2⟩:=zo3 h;obtain⟨l',h,g3,g4⟩:=ih h;refine⟨c' :: l',h,by simp[g3],fun j cj hc=>?_⟩;cases j with
    |zero=>simp at hc;subst hc;exact ⟨c',rfl,g1,.inl ⟨pr _,by simp,v,rfl,g2⟩⟩
    |succ j =>
     obtain⟨c2,e1,e2,e3⟩:=g4 j cj (by simpa using hc);refine⟨c2,by simpa using e1,e2,?_⟩;rcases e3 with⟨f1,f2,f3⟩|⟨f1,f2⟩
     ·exact .inl ⟨pz _,by simp;omega,by simpa using f3⟩
     ·exact .inr ⟨by simp;simp at f1;omega,f2⟩
   |succ off =>
    simp only [zu] at h;obtain⟨l',h,g3,g4⟩:=ih h;refine⟨c :: l',h,by simp[g3],fun j cj hc=>?_⟩;cases j with
    |zero=>simp at hc;subst hc;exact ⟨c,rfl,fun _ _=>rfl,.inr ⟨by omega,rfl⟩⟩
    |succ j =>
     obtain⟨c2,e1,e2,e3⟩:=g4 j cj (by simpa using hc);refine⟨c2,by simpa using e1,e2,?_⟩;rcases e3 with⟨f1,f2,f3⟩|⟨f1,f2⟩
     ·exact .inl ⟨by omega,by omega,by rw[show j+1 - (off+1)=j - off from by omega];exact f3⟩
     ·exact .inr ⟨by omega,f2⟩
end
end
section
section
variable{P:Program}{TT:Nat->Option TI}{X:Nat->Prop}{w:World}{β:Env}{fp:Nat->Nat->Prop}{ts:List SV}{ks:List KB}{a:Act}{K:SV->List KB->Prop}{o:Oper}{r:Option Nat}{n:Nat}{next:Act->World->Prop}{Q:Exit->Act->World->Prop}
theorem uo[Dr](ks:List KB)(k:KB)(K:SV->List KB->Prop):ky ks k K=K (.all ks.length) (ks++[k]):=by
 simp[ky,xr,zx]
theorem zx5[Dr](hTT:TTok P TT){t:TypeId}{x y:Operand}(ho:o.op = .store t x y)(h:mev TT ts ks (.store t x y) K)(hM:Mem X w β fp ks)(hT:∀ x,Den w (Mx X fp) β (val ts x) (a.eval x))(hn:zp X w β fp a o K next):o.wpIn (ql r) n P a w next Q:=by
 have hnd:∀ c,o.op≠.defer c:=fun c hc=>by rw [ho] at hc;cases hc
 simp only [mev] at h;split at h
 ·cases h
 ·rename_i size bytes agg zero desc eqk ht;rw [qm,qm] at h;have hv:=hT y;have hp:=hT x;obtain⟨info,d,z,hi,hu,hsz,hrest⟩:=qi hTT ht;simp only at hsz;clear hrest;split at h
  ·rename_i i off hx;rw [hx] at hp;have ep:∃ L,β i=some L/\a.eval x = .pointer (some ⟨L.b,off,none⟩):=by
    generalize a.eval x=av at hp;cases hp with
    |ptr _ _ L hL=>exact⟨L,hL,rfl⟩
   obtain⟨L,hL,ep⟩:=ep;rw [qs] at h;split at h
   ·rename_i t' l hg;have hk:=qk hg (by simp);obtain⟨h,hcells⟩:=ul (w:=w) (M:=Mx X fp) (β:=β) h;obtain⟨c1,c2,c3⟩:=hcells _ hv;split at h
    ·rename_i hb1 hb2 hb3;rw [y9] at hb1 hb2;have hb1:=qv hb1;have hb2:=jr hb2;have hpos:=jr hb3;rw [qj1,jp] at h;have hkb:=hM.at hk (by simp) hL;cases hkb with
     |cells _ _ vs hfp hblk hl hd h1 =>
      have c3':∀ u ∈ (a.eval y).cells.toList,u.oneCell'=true:=fun u hu=>c3 u (by simpa using hu)
      obtain⟨d1,d2⟩:=jr3 (w:=w) (M:=Mx X fp) (β:=β) (off:=off) (l:=l) (cs:=vs.toList) (us:=(a.eval y).cells.toList) (by simpa using hl) (by simpa using c1) (by omega) (fun j s u hs hu=>hd j s u hs (by simpa using hu)) (fun j s u hs hu=>c2 j s u hs (by simpa using hu));have hW:=hM.store (vs':=je vs off (a.eval y).cells.toList) hk hL hfp hblk (by simpa using d1) (fun j s u hs hu=>d2 j s u hs (by simpa using hu)) (fun j u hu =>
       qx5 (cs:=vs.toList) (us:=(a.eval y).cells.toList) (off:=off) (by simp;omega) (fun u hu=>by
        obtain⟨q,hq,rfl⟩:=o9.1 hu;exact h1 q _ (by simp)) c3' j u (by simpa using hu))
      refine u5 hnd ?_ (hn _ _ _ _ _ _ h hW (.any _));have hrun:=qq1 (P:=P) (w:=w) hi L.b off (a.eval y) t' (0,0) vs hblk (by simp) (by omega) (by omega) c3 (by omega);simp[execOp,ho,Instr.storeAt,Instr.sureAddr,ep,hrun]
    ·cases h
   ·cases h
  ·rename_i i off len ix hx;rw [hx] at hp;have ep:∃ L,0<=ix/\ix<len/\β i=some L/\a.eval x = .pointer (some ⟨L.b,off+ix.toNat,none⟩):=by
    generalize a.eval x=av at hp;cases hp with
    |aptr _ _ _ _ L h0 h1 hL=>exact⟨L,h0,h1,hL,rfl⟩
   obtain⟨L,h0,h1,hL,ep⟩:=ep;split at h
   ·rename_i k k' m hy;rw [hy] at hv;have ev:=ja hv;split at h
    ·rename_i hkk;cases wr hkk;rw [qs] at h;split at h
     ·rename_i t' l hg;have hk:=qk hg (by simp);split at h
      ·rename_i hble;rw [y9] at hble;have hble:=jr hble;rw [qa3,qa1] at h;obtain⟨xs,l',hxs,h,hlen,hget⟩:=zo4 h;rw [qj1,jp] at h;have hkb:=hM.at hk (by simp) hL;cases hkb with
       |cells _ _ vs hfp hblk hl hd hone =>
        have hl':l'.length=len:=by rw[hlen];simp;omega
        have hxl:xs.length=len:=by
         have:=congrArg List.length hxs;simp at this;omega
        have hW:=hM.store (l':=putCells l off l') (vs':=je vs (off+ix.toNat) [.int k m]) hk hL hfp hblk (by rw[qp8,ku];exact hl) (fun j s u hs hu=>by
         rw [qx3 _ _ _ _ (by omega)] at hs;rw [xh _ _ _ _ (by simp;omega)] at hu;split at hs
         ·rename_i hj;have hq:j - off<xs.length:=by omega
          have hs2:=hget (j - off) _ (pp hq);rw [hs2] at hs;cases hs;split at hu
          ·rename_i hj2;simp at hj2 hu;have hje:j=off+ix.toNat:=by omega
           subst hje;simp at hu;subst hu;rw[if_pos (by omega)];exact .d (.int _ _)
          ·rename_i hj2;simp at hj2;rw[if_neg (by omega)];have hsl:l[j]? = some (.d (.int k (xs[j - off]'hq))):=by
            have h2:((l.drop off).take len)[j - off]? = some (.d (.int k (xs[j - off]'hq))):=by rw[hxs];simp[hq]
            rw [mu,if_pos (by omega),lq] at h2;rw [show off+(j - off)=j from by omega] at h2;exact h2
           exact hd j _ u hsl hu
         ·rename_i hj;rw [if_neg (by simp;omega)] at hu;exact hd j s u hs hu) (fun j u hu=>by
         rw [xh _ _ _ _ (by simp;omega)] at hu;split at hu
         ·have:=ov hu;simp at this;subst this;rfl
         ·exact hone j u hu)
        refine u5 hnd ?_ (hn _ _ _ _ _ _ h hW (.any _));have hrun:=qq1 (P:=P) (w:=w) hi L.b (off+ix.toNat) (.int k m) t' (0,0) vs hblk (by simp) (by simp[Value.cells];omega) (by omega) (by simp[Value.cells,Value.oneCell']) (by omega);simp[execOp,ho,Instr.storeAt,Instr.sureAddr,ep,ev,hrun,Value.cells]
      ·cases h
     ·cases h
    ·cases h
   ·cases h
  ·rename_i i j off sz hx;rw [hx] at hp;have ep:∃ L,β i=some L/\j<L.n/\a.eval x = .pointer (some ⟨L.b,j * sz+off,none⟩):=by
    generalize a.eval x=av at hp;cases hp with
    |rptr _ _ _ _ L hL hj=>exact⟨L,hL,hj,rfl⟩
   obtain⟨L,hL,hj,ep⟩:=ep;rw [qs] at h;split at h
   ·rename_i e sz' m z' f hg;have hk:=qk hg (by simp);split at h
    ·rename_i hb;cases qv hb;obtain⟨h,hcells⟩:=ul (w:=w) (M:=Mx X fp) (β:=β) h;obtain⟨c1,c2,c3⟩:=hcells _ hv;split at h
     ·rename_i hb1 hb2 hb3;rw [y9] at hb1;have hb1:=qv hb1;have hb2:=jr hb2;have hpos:=jr hb3;obtain⟨ds,fr,h,e1,e2,e3⟩:=ql3 hM.toMem0 _ _ (a.eval y).cells.toList h (by simpa using c1) (fun j s u hs hu=>c2 j s u hs (by simpa using hu));split at h
      ·rename_i hmem;have hnot:=qo2 hmem;rw [qd8,jp] at h;have hW:=hM.gone fr;have hk1:(jm fr ks)[i]? = some (.row e sz m z' f):=by rw[qq5 _ _ _ hnot];exact hk
       have hkb:=hW.mem.at hk1 (by simp) hL;cases hkb with
       |rowNil _ _ _ _ _ _ _ hLn=>rw [hLn] at hj;omega
       |row _ _ _ _ _ vs fz hfp hnil hLs hLn hzz hblk hfz hvs hng hfl hr hone =>
        have hjm:j<m:=hLn ▸ hj;have hjc:(j+1) * sz<=vs.size:=by rw[hvs];exact o6 _ (by omega)
        rw [ow,mv] at hjc;have c3':∀ u ∈ (a.eval y).cells.toList,u.oneCell'=true:=fun u hu=>c3 u (by simpa using hu)
        have hsl:(a.eval y).cells.toList.length=size:=by simp;omega
        have hdl:ds.length=size:=by omega
        have hin:j * sz+off+(a.eval y).cells.toList.length<=vs.size:=by omega
        have hst:Step (Mx X (jv fr fp)) w (World.setBlock w L.b (.cells (je vs (j * sz+off) (a.eval y).cells.toList) e fz)):=Step.setBlock w (.inr ⟨i,(hfp _).2 rfl⟩) _;have hW2:=hW.mem.set (.row e sz m z' (oneF j off ds f)) (.cells (je vs (j * sz+off) (a.eval y).cells.toList) e fz) (by rw[ji5];exact(pq.1 hk).1) hL hfp
         (.row e sz m z' _ _ fz hfp hnil hLs hLn hzz (yf _ _ _ (jo hblk)) (by rw[ku];exact hfz) (by rw[ku];exact hvs) hng (fun t ht=>by
          unfold oneF;split
          ·rw[jy9];exact hfl t ht
          ·exact hfl t ht) (fun t q d u ht hd hu=>by
          rw [xh _ _ _ _ hin] at hu;unfold oneF at hd;split at hd
          ·rename_i htj;subst htj;have hq:q<sz:=by have:=(pq.1 hd).1;rw [jy9,hfl _ ht] at this;exact this
           rw [xe6 _ _ _ _ (by rw [hfl _ ht];omega)] at hd;split at hd
           ·rename_i hqr;rw [if_pos (by omega),show t * sz+q - (t * sz+off)=q - off from by omega] at hu;exact(e3 fr (fun _ hi=>hi) _ d u hd hu).mono hst (fun _ _ e=>e)
           ·rename_i hqr;rw [if_neg (by omega)] at hu;exact(hr t q d u ht hd hu).mono hst (fun _ _ e=>e)
          ·rename_i htj;have hq:q<sz:=by have:=(pq.1 hd).1;rw [hfl _ ht] at this;exact this
           rw[if_neg (by
            rintro ⟨a1,a2⟩
            apply htj;rcases ct t j with hlt|heq|hgt
            ·have:(t+1) * sz<=j * sz:=o6 _ hlt;rw [ow,mv] at this;omega
            ·exact heq
            ·have:(j+1) * sz<=t * sz:=o6 _ hgt;rw [ow,mv] at this;omega)] at hu
           exact(hr t q d u ht hd hu).mono hst (fun _ _ e=>e)) (fun q u hu=>by
          rw [xh _ _ _ _ hin] at hu;split at hu
          ·exact c3' u (ov hu)
          ·exact hone q u hu))
        refine u5 hnd ?_ (hn _ _ _ _ _ _ h (hW.trans hW2) (.any _));have hrun:=qq1 (P:=P) (w:=w) hi L.b (j * sz+off) (a.eval y) e fz vs hblk hfz (by simp at hsl;omega) (by simp at hsl;omega) c3 (by omega);simp[execOp,ho,Instr.storeAt,Instr.sureAddr,ep,hrun]
      ·cases h
     ·cases h
    ·cases h
   ·rename_i e sz' m f hg;have hk:=qk hg (by simp);split at h
    ·rename_i hb;cases qv hb;obtain⟨h,hcells⟩:=ul (w:=w) (M:=Mx X fp) (β:=β) h;obtain⟨c1,c2,c3⟩:=hcells _ hv;split at h
     ·rename_i hb1 hb2 hb3;rw [y9] at hb1;have hb1:=qv hb1;have hb2:=jr hb2;have hpos:=jr hb3;rw [jp] at h;have hkb:=hM.at hk (by simp) hL;cases hkb with
      |rows _ _ _ _ vs fz hfp hnil hLs hLn hblk hfz hvs hng hfl hr hone =>
       have hjm:j<m:=hLn ▸ hj;have hjc:(j+1) * sz<=vs.size:=by rw[hvs];exact o6 _ (by omega)
       rw [ow,mv] at hjc;have c3':∀ u ∈ (a.eval y).cells.toList,u.oneCell'=true:=fun u hu=>c3 u (by simpa using hu)
       have hsl:(a.eval y).cells.toList.length=size:=by simp;omega
       have hin:j * sz+off+(a.eval y).cells.toList.length<=vs.size:=by omega
       have hst:Step (Mx X fp) w (World.setBlock w L.b (.cells (je vs (j * sz+off) (a.eval y).cells.toList) e fz)):=Step.setBlock w (.inr ⟨i,(hfp _).2 rfl⟩) _;have hW2:=hM.set (.rows e sz m (oneS j off (cellsOf (val ts y)) f)) (.cells (je vs (j * sz+off) (a.eval y).cells.toList) e fz) (pq.1 hk).1 hL hfp
        (.rows e sz m _ _ fz hfp hnil hLs hLn (yf _ _ _ (jo hblk)) (by rw[ku];exact hfz) (by rw[ku];exact hvs) hng (fun t ht=>by
         unfold oneS;split
         ·rw[qp8];exact hfl t ht
         ·exact hfl t ht) (fun t q s u ht hs hu=>by
         rw [xh _ _ _ _ hin] at hu;unfold oneS at hs;split at hs
         ·rename_i htj;subst htj;have hq:q<sz:=by have:=(pq.1 hs).1;rw [qp8,hfl _ ht] at this;exact this
          rw [qx3 _ _ _ _ (by rw [hfl _ ht];omega)] at hs;split at hs
          ·rename_i hqr;rw [if_pos (by omega),show t * sz+q - (t * sz+off)=q - off from by omega] at hu;exact(c2 (q - off) s u hs (by simpa using hu)).mono hst (fun _ _ e=>e) (Ext.refl _)
          ·rename_i hqr;rw [if_neg (by omega)] at hu;exact(hr t q s u ht hs hu).mono hst (fun _ _ e=>e) (Ext.refl _)
         ·rename_i htj;have hq:q<sz:=by have:=(pq.1 hs).1;rw [hfl _ ht] at this;exact this
          rw[if_neg (by
           rintro ⟨a1,a2⟩
           apply htj;rcases ct t j with hlt|heq|hgt
           ·have:(t+1) * sz<=j * sz:=o6 _ hlt;rw [ow,mv] at this;omega
           ·exact heq
           ·have:(j+1) * sz<=t * sz:=o6 _ hgt;rw [ow,mv] at this;omega)] at hu
          exact(hr t q s u ht hs hu).mono hst (fun _ _ e=>e) (Ext.refl _)) (fun q u hu=>by
         rw [xh _ _ _ _ hin] at hu;split at hu
         ·exact c3' u (ov hu)
         ·exact hone q u hu))
       refine u5 hnd ?_ (hn _ _ _ _ _ _ h hW2 (.any _));have hrun:=qq1 (P:=P) (w:=w) hi L.b (j * sz+off) (a.eval y) e fz vs hblk hfz (by simp at hsl;omega) (by simp at hsl;omega) c3 (by omega);simp[execOp,ho,Instr.storeAt,Instr.sureAddr,ep,hrun]
     ·cases h
    ·cases h
   ·cases h
  ·rename_i i n off hx;rw [hx] at hp;have ep:∃ m L,n=m+1/\β i=some L/\a.eval x = .pointer (some ⟨m,off,none⟩):=by
    generalize a.eval x=av at hp;cases hp with
    |ap _ m _ L hL=>exact⟨m,L,rfl,hL,rfl⟩
   obtain⟨m,L,rfl,hL,ep⟩:=ep;rw [qs] at h;split at h
   ·rename_i t' dom cols hg;have hk:=qk hg (by simp);obtain⟨h,hcells⟩:=ul (w:=w) (M:=Mx X fp) (β:=β) h;obtain⟨c1,c2,c3⟩:=hcells _ hv;split at h
    ·rename_i hb1 hb2 hb3;rw [y9] at hb1;rw [yv1] at hb2;have hb1:=qv hb1;have hb2:=jr hb2;have hpos:=jr hb3;obtain⟨hdom,h⟩:=h;obtain⟨cols',h,g1,g2⟩:=yc5 h;rw [jp] at h;have hkb:=hM.at hk (by simp) hL;cases hkb with
     |arena _ _ _ hfp h0 hall =>
      obtain⟨vs,hblk,hl,hd,h1⟩:=hall m hdom;have c3':∀ u ∈ (a.eval y).cells.toList,u.oneCell'=true:=fun u hu=>c3 u (by simpa using hu)
      have hin:off+(a.eval y).cells.toList.length<=vs.size:=by rw[hl];simp;omega
      have hW:=hM.setArena (n:=m) hk hL hdom cols' (je vs off (a.eval y).cells.toList) (by rw[ku,hl,g1]) (fun j c u hc hu=>by
       have hj:j<cols.length:=by rw[<-g1];exact(pq.1 hc).1
       obtain⟨c',e1,e2,e3⟩:=g2 j _ (pp hj);rw [hc] at e1;cases e1;rw [xh _ _ _ _ hin] at hu;rcases e3 with⟨f1,f2,v,fv,f3⟩|⟨f1,f2⟩
       ·rw [if_pos ⟨f1,by simp;omega⟩] at hu;exact f3 _ _ _ _ (c2 _ v u fv (by simpa using hu))
       ·rw [if_neg (by simp;omega)] at hu;rw[f2];exact hd j _ u (pp hj) hu) (fun j u hu =>
       qx5 (cs:=vs.toList) (us:=(a.eval y).cells.toList) (off:=off) (by simpa using hin) (fun u hu=>by
        obtain⟨q,hq,rfl⟩:=o9.1 hu;exact h1 q _ (by simp)) c3' j u (by simpa using hu)) g1 (fun j c c' q hc hc' hq w M u hu=>by
        obtain⟨c2,e1,e2,_⟩:=g2 j c hc;rw [hc'] at e1;cases e1;rw[e2 q hq];exact hu)
      refine u5 hnd ?_ (hn _ _ _ _ _ _ h hW (.any _));have hrun:=qq1 (P:=P) (w:=w) hi m off (a.eval y) t' (0,0) vs hblk (by simp) (by omega) (by omega) c3 (by omega);simp[execOp,ho,Instr.storeAt,Instr.sureAddr,ep,hrun]
    ·cases h
   ·cases h
  ·cases h
theorem ui{z:Array Value}{n m:Nat}{u:Value}(h:((Array.range n).map (z[· % z.size]!))[m]? = some u)(hz:0<z.size):m<n/\z[m % z.size]? = some u:=by
 rw [Array.getElem?_map] at h;cases hr:(Array.range n)[m]? with
 |none=>rw [hr] at h;cases h
 |some q =>
  rw [hr] at h;simp only [o8] at h;have hm:m<n:=by have:=(m7.1 hr).1;simpa using this
  have hq:q=m:=by
   have:=(m7.1 hr).2;simpa using this.symm
  subst hq;have hl:=Nat.mod_lt q hz;rw [getElem!_pos z (q % z.size) hl] at h;exact⟨hm,by rw[oz hl];exact h⟩
theorem zc7{P:Program}{w:World}(t tx ty e:TypeId)(i:TypeInfo)(ht:P.underlying t=some (.slice e))(hi:P.info? e=some i)(ad:Addr)(sLen sCap:Nat)(x:Value)(news:List Value)(hs:Src P i.size tx x 0 news w)(hroom:sLen<=sCap) :
 (Builtin.append_ #[t,tx] ty #[.slice (some ad) sLen sCap,x]).run P w = .ok (.slice (some ad) sLen sCap) w:=by
 have hn:news=[]:=sx.1 (by have:=hs.newsLen;simpa using this);subst hn;rcases hs.kind with⟨e',hk⟩|hk <;> simp[Builtin.append_,run_underlying ht,run_underlying hk,sizeOf,typeInfo,hi,hs.len,hroom,hs.cells,storeCells]
theorem zp8[Dr](hTT:TTok P TT){args:Array Operand}{argTypes:Array TypeId}(ho:o.op = .call ⟨.builtin .append,args,argTypes⟩)(h:mev TT ts ks (.call ⟨.builtin .append,args,argTypes⟩) K)(hM:Mem X w β fp ks)(hT:∀ x,Den w (Mx X fp) β (val ts x) (a.eval x))(hn:zp X w β fp a o K next):o.wpIn (ql r) n P a w next Q:=by
 have hnd:∀ c,o.op≠.defer c:=fun c hc=>by rw [ho] at hc;cases hc
 obtain⟨args⟩:=args;obtain⟨argTypes⟩:=argTypes;simp only [mev] at h;split at h
 ·rename_i s x st xt;split at h
  ·rename_i _ _ _ _ e _ ht;split at h
   ·rename_i size bytes _ _ _ _ hte;split at h
    ·rename_i hbs;rw [p8,p8] at hbs;have hpos:0<size:=jr hbs.1;have hbp:0<bytes:=jr hbs.2.1;have htx:=jj9 hTT hbs.2.2;obtain⟨info0,d0,z0',hi0,hu0,_,_,_,_,_,_,_,_,hd0⟩:=qi hTT ht;cases hd0;obtain⟨info,de,z0,hi,hue,hsz,hby,hz0,_,hzl,hzs,_,hz1,_⟩:=qi hTT hte;simp only at hsz hby hzl hzs;have hzs':z0.cells.size=size:=by omega
     rw [qm] at h;obtain⟨k,g,fr,us,h,hfr,hsrc⟩:=jl1 hM.toMem0 hpos h (hT x) htx;have hS:=hsrc fr (fun _ hi=>hi);have hk63:∀ n,(n+k) * bytes<=70368744177664->n+k<=9223372036854775807:=fun n hb=>by
      have:(n+k) * 1<=(n+k) * bytes:=Nat.mul_le_mul_left _ (by omega);omega
     rw [qm] at h;have hv:=hT s;have fin:∀ (ks':List KB) (i:Nat) (v:Value) (w':World) (β':Env) (fp':Nat->Nat->Prop),(Builtin.append_ #[st,xt] o.type #[a.eval s,a.eval x]).run P w = .ok v w'->Went X w β fp w' β' fp' ks'->Den w' (Mx X fp') β' (.all i) v->K (.all i) ks'->o.wpIn (ql r) n P a w next Q:=fun ks' i v w' β' fp' hrun hW hd hK=>by
      refine jz hnd ?_ (hn _ _ _ _ _ _ hK hW hd);simp[execOp,ho,resolve,invoke,builtin,hrun]
     have hW0:=hM.gone fr;split at h
     ·rename_i sz' f' hx;rw [hx] at hv;have ev:a.eval s = .slice none 0 0:=by
       generalize a.eval s=av at hv;cases jb hv;rfl
      obtain⟨hb,h⟩:=h;rw [qd8,uo] at h;obtain⟨v,w',β',fp',r1,r2,r3⟩:=append_nil (P:=P) (st:=st) (xt:=xt) (ty:=o.type) hW0.mem hu0 hi hz0 hsz hzs' hz1 hpos hS (by rw[hby];exact hb) (by have:=hk63 0 (by simpa using hb);omega) .iff (by simp) (fun _=>[]);refine fin _ _ v w' β' fp' (by rw[ev];exact r1) (hW0.trans r2) r3 ?_;have:catF 0 (fun _=>[]) g=g:=by funext t;simp[catF]
      rw[this,ox];exact h
     ·rename_i n' sz' f' hx;rw [hx] at hv;split at h
      ·rw [qd8] at h;obtain⟨ad,cap,ev,hle⟩:∃ ad cap,a.eval s = .slice (some ad) n' cap/\n'<=cap:=by
        generalize a.eval s=av at hv;have hv:=jb hv;cases hv with
        |sl _ _ _ ad cap u h1=>exact⟨ad,cap,rfl,h1⟩
       have hrun:=zc7 (P:=P) (w:=w) st xt o.type e info hu0 hi ad n' cap (a.eval x) us (by rw[hsz];exact hS.src) hle;refine jz hnd ?_ (hn _ _ (a.eval s) _ _ _ h hW0 (hv.mono (Step.refl _ _) (fun b _ hb=>hM.toMem0.goneM fr b hb) (Ext.refl _)));rw[ev];simp[execOp,ho,resolve,invoke,builtin,ev,hrun]
      ·cases h
     ·rename_i i hx;rw [hx] at hv;rw [qs] at h;split at h
      ·rename_i e' sz m z f hg;have hki:=qk hg (by simp);split at h
       ·rename_i he hs' hmem;cases qv he;cases qv hs';have hnot:=qo2 hmem;obtain⟨hb,h⟩:=h;rw [qd8,jp,uo] at h;simp only [gn] at h;have hk1:(jm fr ks)[i]? = some (.row e size m z f):=by rw[qq5 _ _ _ hnot];exact hki
        have hcase:(∃ L,β i=some L/\L.nil=true/\a.eval s = .slice none 0 0)\/(∃ L,β i=some L/\L.nil=false/\a.eval s = .slice (some ⟨L.b,0,none⟩) L.n L.c):=by
         generalize a.eval s=av at hv;cases hv with
         |allNil _ L hL hnil=>exact .inl ⟨L,hL,hnil,rfl⟩
         |all _ L hL hnil=>exact .inr ⟨L,hL,hnil,rfl⟩
        rcases hcase with⟨L,hL,hnil,ev⟩|⟨L,hL,hnil,ev⟩
        ·have hkb:=hW0.mem.at hk1 (by simp) hL;cases hkb with
         |row _ _ _ _ _ vs fz hfp hnil'=>rw [hnil] at hnil';cases hnil'
         |rowNil _ _ _ _ _ _ _ _ hz =>
          have hW1:=hW0.mem.gone [i];have hks:jm [i] (jm fr ks)=(jm fr ks).set i .gone:=by simp[jm,yr]
          rw [hks] at hW1;obtain⟨v,w',β',fp',r1,r2,r3⟩:=append_nil (P:=P) (st:=st) (xt:=xt) (ty:=o.type) hW1.mem hu0 hi hz0 hsz hzs' hz1 hpos (hS.less (hW0.mem.goneM [i])) (by rw[hby];simpa using hb) (by have:=hk63 0 (by simpa using hb);omega) z hz f;simp only [gn] at r3;exact fin _ _ v w' β' fp' (by rw[ev];exact r1) ((hW0.trans hW1).trans r2) r3 h
        ·have hkb:=hW0.mem.at hk1 (by simp) hL;cases hkb with
         |rowNil _ _ _ _ _ hnil'=>rw [hnil] at hnil';cases hnil'
         |row _ _ _ _ _ vs fz hfp _ hLs hLn hzz hblk hfz hvs hng hfl hr hone =>
          obtain⟨v,w',β',fp',r1,r2,r3⟩:=yf2 (P:=P) (st:=st) (xt:=xt) (ty:=o.type) hW0.mem hu0 hi hz0 hsz hzs' hz1 hk1 hL hnil (pr m) hS (by rw[hby];exact hb) (hk63 m hb) z (fun e=>by have:=hzz e;omega);exact fin _ _ v w' β' fp' (by rw[ev,hLn];exact r1) (hW0.trans r2) r3 h
       ·cases h
      ·cases h
     ·rename_i i m' hx;rw [hx] at hv;rw [qs] at h;split at h
      ·rename_i e' sz m z f hg;have hki:=qk hg (by simp);split at h
       ·rename_i he hs' hmem;cases qv he;cases qv hs';have hnot:=qo2 hmem;obtain⟨⟨hle,hb⟩,h⟩:=h;rw [qd8,jp,uo] at h;simp only [gn] at h;have hk1:(jm fr ks)[i]? = some (.row e size m z f):=by rw[qq5 _ _ _ hnot];exact hki
        have hcase:(∃ L,β i=some L/\L.nil=true/\m'=0/\a.eval s = .slice none 0 0)\/(∃ L,β i=some L/\L.nil=false/\m'<=L.c/\a.eval s = .slice (some ⟨L.b,0,none⟩) m' L.c):=by
         generalize a.eval s=av at hv;cases hv with
         |rowNil _ L hL hnil=>exact .inl ⟨L,hL,hnil,rfl,rfl⟩
         |row _ _ _ off L hL hnil hc ho'=>exact .inr ⟨L,hL,hnil,by omega,by rw[ho' (.inr rfl),Nat.zero_mul];simp⟩
        rcases hcase with⟨L,hL,hnil,hm0,ev⟩|⟨L,hL,hnil,hmc,ev⟩
        ·subst hm0;have hkb:=hW0.mem.at hk1 (by simp) hL;cases hkb with
         |row _ _ _ _ _ vs fz hfp hnil'=>rw [hnil] at hnil';cases hnil'
         |rowNil _ _ _ _ _ _ _ _ hz =>
          have hW1:=hW0.mem.gone [i];have hks:jm [i] (jm fr ks)=(jm fr ks).set i .gone:=by simp[jm,yr]
          rw [hks] at hW1;obtain ⟨v,w',β',fp',r1,r2,r3⟩:=append_nil (P:=P) (st:=st) (xt:=xt) (ty:=o.type) hW1.mem hu0 hi hz0 hsz hzs' hz1 hpos (hS.less (hW0.mem.goneM [i])) (by rw [hby];simpa using hb) (by have:=hk63 0 (by simpa using hb);omega) z.cut (by cases z <;> simp [Z.cut] at hz ⊢) f;simp only [gn] at r3;exact fin _ _ v w' β' fp' (by rw[ev];exact r1) ((hW0.trans hW1).trans r2) r3 h
        ·have hkb:=hW0.mem.at hk1 (by simp) hL;cases hkb with
         |rowNil _ _ _ _ _ hnil'=>rw [hnil] at hnil';cases hnil'
         |row _ _ _ _ _ vs fz hfp _ hLs hLn hzz hblk hfz hvs hng hfl hr hone =>
          obtain⟨v,w',β',fp',r1,r2,r3⟩:=yf2 (P:=P) (st:=st) (xt:=xt) (ty:=o.type) hW0.mem hu0 hi hz0 hsz hzs' hz1 hk1 hL hnil hle hS (by rw[hby];exact hb) (hk63 m' hb) z.cut (by cases z <;> simp[Z.cut]);exact fin _ _ v w' β' fp' (by rw[ev];exact r1) (hW0.trans r2) r3 h
       ·cases h
      ·cases h
     ·rename_i i m' c' hx;rw [hx] at hv;rw [qs] at h;split at h
      ·rename_i e' l hg;have hki:=qk hg (by simp);split at h
       ·rename_i he hnc hll hmem;cases qv he;cases qv hnc;rw [y9] at hll;have hll:=qv hll;have hnot:=qo2 hmem;obtain⟨hb,h⟩:=h;have hcase:∃ L,β i=some L/\a.eval s = .slice (some ⟨L.b,0,none⟩) m' m':=by
         generalize a.eval s=av at hv;cases hv with
         |cs _ _ _ _ L hL hnc=>exact⟨L,hL,rfl⟩
        obtain⟨L,hL,ev⟩:=hcase;have hkb:=hM.at hki (by simp) hL;cases hkb with
        |cells _ _ vs hfp hblk hl hd hone =>
         obtain⟨ds,fr2,h,e1,e2,e3⟩:=ql3 hM.toMem0 _ _ vs.toList h (by simpa using hl) (fun j s u hs hu=>hd j s u hs (by simpa using hu));split at h
         ·rename_i hmem2;have hnot2:=qo2 hmem2;rw [qd8,qd8,jp,uo] at h;simp only [gn] at h;have hW1:=hW0.mem.gone fr2;have hk1:(jm fr2 (jm fr ks))[i]? = some (.cells e l):=by rw[qq5 _ _ _ hnot2,qq5 _ _ _ hnot];exact hki
          have hsub:∀ b,Mx X (jv fr2 (jv fr fp)) b->Mx X (jv (fr++fr2) fp) b:=fun b hm=>hm.imp id (fun⟨j,hj,hj',hb⟩=>⟨j,by simp[hj,hj'],hb⟩)
          obtain⟨v,w',β',fp',r1,r2,r3⟩:=xb2 (P:=P) (st:=st) (xt:=xt) (ty:=o.type) hW1.mem hu0 hi hz0 hsz hzs' hz1 hk1 hL hpos hll e1 (fun vs' hb' j d u hdd hu=>by
           rw [hblk] at hb';cases hb';exact z6 (e3 (fr++fr2) (fun i hi=>by simp[hi]) j d u hdd (by simpa using hu)) hsub) (hS.less (hW0.mem.goneM fr2)) (by rw[hby];exact hb) (hk63 m' hb)
          exact fin _ _ v w' β' fp' (by rw[ev];exact r1) ((hW0.trans hW1).trans r2) r3 h
         ·cases h
       ·cases h
      ·cases h
     ·cases h
    ·cases h
   ·cases h
  ·cases h
 ·cases h
end
end
section
section
variable{P:Program}{TT:Nat->Option TI}{X:Nat->Prop}{w:World}{β:Env}{fp:Nat->Nat->Prop}{ts:List SV}{ks:List KB}{a:Act}{K:SV->List KB->Prop}{o:Oper}{r:Option Nat}{n:Nat}{next:Act->World->Prop}{Q:Exit->Act->World->Prop}
theorem zd3[Dr](hTT:TTok P TT){t:TypeId}{len:Nat}{parts:Array (Nat × Operand)}(ho:o.op = .buildSlice t len parts)(h:mev TT ts ks (.buildSlice t len parts) K)(hM:Mem X w β fp ks)(hT:∀ x,Den w (Mx X fp) β (val ts x) (a.eval x))(hn:zp X w β fp a o K next):o.wpIn (ql r) n P a w next Q:=by
 have hnd:∀ c,o.op≠.defer c:=fun c hc=>by rw [ho] at hc;cases hc
 simp only [mev] at h;split at h
 ·rename_i _ _ _ _ e _ ht;split at h
  ·rename_i size bytes agg zero desc eqk hte;split at h
   ·rename_i hble;have hble:=jr hble;obtain⟨info0,d0,z0',hi0,hu0,_,_,_,_,_,_,_,_,hd0⟩:=qi hTT ht;cases hd0;obtain⟨info,de,z0,hi,hue,hsz,hby,hz0,_,hzl,hzs,hzd,hz1,_⟩:=qi hTT hte;simp only at hsz hzl hzs hzd;rw [qt8] at h;have hlen0:((List.replicate len zero).flatten).length=len * size:=by simp[hzs]
    have hbase:((Array.range (len * info.size)).map (z0.cells[· % z0.cells.size]!)).toList.length=len * size:=by simp[hsz]
    have hzpos:∀ m,m<len * size->0<z0.cells.size:=fun m hm=>by
     rcases fq z0.cells.size with e0|e0
     ·rw [hzl,hzs] at e0;rw [e0] at hm;omega
     ·exact e0
    obtain⟨cs',vs',h,hfill,r1,r2,r3⟩:=jk3 (a:=a) hT parts.toList _ _ ((Array.range (len * info.size)).map (z0.cells[· % z0.cells.size]!)).toList h (by rw[hlen0,hbase]) (fun j s u hs hu=>by
     obtain⟨a1,a2⟩:=jq0 zero len j s hs;have hu':((Array.range (len * info.size)).map (z0.cells[· % z0.cells.size]!))[j]? = some u:=by rw[<-f7];exact hu
     obtain ⟨b1,b2⟩:=ui hu' (hzpos j (by rw [hzs] at a2;exact a2));rw [hzl] at b2;exact hzd w _ β _ s u a1 b2) (fun u hu=>by
     obtain⟨j,hj,rfl⟩:=o9.1 hu;have hu':=pp hj;rw [f7] at hu';rw [hbase] at hj;obtain⟨b1,b2⟩:=ui hu' (hzpos j hj);exact hz1 _ _ b2)
    rw [xr,zx,ox] at h;have hW:=hM.newCells e cs' vs'.toArray (by simpa using r1) (fun j s u hs hu=>r2 j s u hs (by simpa using hu)) (fun j u hu=>r3 u (ov (by simpa using hu)));refine jz hnd ?_ (hn _ _ (.slice (some ⟨w.heap.size,0,none⟩) len len) _ _ _ h hW (.cs _ 0 len len (locB w.heap.size) (q8 _ _ _) (pr _)));have hrun:(Instr.buildSlice t len (parts.map fun(i,x)=>(i,a.eval x))).run P w = .ok (.slice (some ⟨w.heap.size,0,none⟩) len len) (w.alloc (.cells vs'.toArray e)):=by
     have hp:(parts.map fun(i,x)=>(i,a.eval x)).toList=parts.toList.map fun p=>(p.1,a.eval p.2):=by simp
     have hfill':Instr.fill (fun i=>some (i * info.size,info.size)) ((Array.range (len * info.size)).map (z0.cells[· % z0.cells.size]!)) (parts.map fun(i,x)=>(i,a.eval x)).toList=some vs'.toArray:=by
      rw[hp,hsz];rw [hsz,s5] at hfill;exact hfill
     have h24:¬ (len * info.size > 2 ^ 24):=by rw[hsz];omega
     by_cases hz:len * info.size=0
     ·rw [hz,rx,Array.map_empty] at hfill';simp only[Instr.buildSlice,p6,run_underlying hu0,p9,run_sizeOf hi,hz];have hfill2:Instr.fill (fun i=>some (i * info.size,info.size)) #[] (List.map (fun x=>(x.1,a.eval x.2)) parts.toList)=some vs'.toArray:=by rw[<-hp];exact hfill'
      simp[newRow,rx,hfill2]
     ·exact run_buildSlice w t e len _ _ info z0 hu0 hi hz0 h24 hz hfill'
    simp[execOp,ho,hrun]
   ·cases h
  ·cases h
 ·cases h
theorem zf1[Dr](hTT:TTok P TT){t:TypeId}{x y:Operand}(ho:o.op = .makeSlice t x y)(h:mev TT ts ks (.makeSlice t x y) K)(hM:Mem X w β fp ks)(hT:∀ x,Den w (Mx X fp) β (val ts x) (a.eval x))(hn:zp X w β fp a o K next):o.wpIn (ql r) n P a w next Q:=by
 have hnd:∀ c,o.op≠.defer c:=fun c hc=>by rw [ho] at hc;cases hc
 simp only [mev] at h;split at h
 ·rename_i _ _ _ _ e _ ht;split at h
  ·rename_i size bytes agg zero desc eqk hte;obtain⟨info0,d0,z0',hi0,hu0,_,_,_,_,_,_,_,_,hd0⟩:=qi hTT ht;cases hd0;obtain⟨info,de,z0,hi,hue,hsz,hby,hz0,_,hzl,hzs,hzd,hz1,_⟩:=qi hTT hte;simp only at hsz hzl hzs hzd hby;rw [qm,qm] at h;have hx:=hT x;have hy:=hT y;split at h
   ·rename_i k l k' c ex ey;rw [ex] at hx;rw [ey] at hy;have e1:=ja hx;have e2:=ja hy;have hE:Mem0 (Mx X fp) w noE (fun _ _=>False) []:=⟨hM.mlt,fun _ _ h=>h.elim,fun _ _ _ h=>h.elim,fun _ _ h=>h.elim,fun _ _ h=>h.elim,fun i L k hk=>by simp at hk⟩;obtain⟨ds,fr,h,f1,f2,f3⟩:=ql3 hE _ _ z0.cells.toList h (by simpa using hzl.symm) (fun j s u hs hu=>hzd w _ noE j s u hs (by simpa using hu));obtain⟨⟨h0,h1,h2,h3⟩,h⟩:=h;rw [uo] at h;have hsize:ds.length=size:=by rw[f1,hzs]
    have hgetm:∀ (kk q:Nat) (u:Value),q<size->(madeCells z0.cells (c.toNat * info.size))[kk * size+q]? = some u->z0.cells[q]? = some u:=fun kk q u hq hu=>by
     obtain⟨_,b2⟩:=ui hu (by omega);rw [hzl,hzs,c7,Nat.mul_add_mod,rq hq] at b2;exact b2
    obtain⟨hW,hden⟩:=hM.newRow e size l.toNat c.toNat .no (fun _=>ds) (madeCells z0.cells (c.toNat * info.size)) (0,0) (by simp) (fun e=>by cases e) (by rw[size_madeCells,hsz]) (by omega) (fun _ _=>hsize) (fun kk q d u _ hd hu=>by
     have hq:q<size:=by have:=(pq.1 hd).1;omega
     have hu':=hgetm kk q u hq hu;have:=f3 fr (fun _ h=>h) q d u hd (by simpa using hu');exact z6 this (fun b hb=>.inl hb)) (fun j u hu=>by
     have hj:j<c.toNat * info.size:=by have:=(m7.1 hu).1;rw [size_madeCells] at this;exact this
     have hp:0<z0.cells.size:=by
      rcases fq z0.cells.size with e0|e0
      ·rw [hzl,hzs,<-hsz] at e0;rw [e0] at hj;omega
      ·exact e0
     obtain⟨_,b2⟩:=ui hu hp;exact hz1 _ _ b2)
    refine jz hnd ?_ (hn _ _ _ _ _ _ h hW hden);have hrun:=run_make (P:=P) w t e info z0 hu0 hi hz0 k k' l c h0 h1 (by rw[hby,Int.mul_comm];exact h2) h3;simp[execOp,ho,e1,e2,hrun]
   ·cases h
  ·cases h
 ·cases h
theorem jw4(w:World)(e:TypeId)(s:ByteArray):Lib.bytesWorld w e s=w.drew.alloc (.cells (Lib.bytesCells w e s) e ((Lib.bytesCells w e s).size,(Lib.bytesCells w e s).size+1)):=by
 have hh:(Lib.bytesWorld w e s).heap=(w.drew.alloc (.cells (Lib.bytesCells w e s) e ((Lib.bytesCells w e s).size,(Lib.bytesCells w e s).size+1))).heap:=by
  apply rn;intro i;rcases ct i w.heap.size with h|h|h
  ·rw[Lib.bytesWorld_at_old w e s i h];exact(Below.heap_alloc w.drew _ i h).symm
  ·subst h;rw[Lib.bytesWorld_at_new];show _=(w.heap.push _)[w.heap.size]?;simp
  ·rw[rv (by rw[Lib.bytesWorld_size];omega)];show _=(w.heap.push _)[i]?;rw[rv (by simp;omega)]
 have h2:∀ w':World,(Lib.bytesWorld w e s).heap=w'.heap->w'.tape=w.tape->w'.drawn=w.drew.drawn->w'.os=w.os->w'.output=w.output->Lib.bytesWorld w e s=w':=by
  intro w' a b c d f;have g1:(Lib.bytesWorld w e s).tape=w.tape:=by simp[Lib.bytesWorld,World.freeze,World.alloc,World.drew,-World.alloc_eq,-World.drew_eq]
  have g2:(Lib.bytesWorld w e s).drawn=w.drew.drawn:=by simp[Lib.bytesWorld,World.freeze,World.alloc,World.drew,-World.alloc_eq,-World.drew_eq]
  have g3:(Lib.bytesWorld w e s).os=w.os:=by simp[Lib.bytesWorld,World.freeze,World.alloc,World.drew,-World.alloc_eq,-World.drew_eq]
  have g4:(Lib.bytesWorld w e s).output=w.output:=by simp[Lib.bytesWorld,World.freeze,World.alloc,World.drew,-World.alloc_eq,-World.drew_eq]
  generalize Lib.bytesWorld w e s=w1 at *;obtain⟨h1,t1,d1,o1,u1⟩:=w1;obtain⟨h2,t2,d2,o2,u2⟩:=w';simp only at a b c d f g1 g2 g3 g4;subst a;simp[b,c,d,f,g1,g2,g3,g4]
 exact h2 _ hh rfl rfl rfl rfl
theorem zc2{w:World}{t e:TypeId}{b n c:Nat}{vs:Array Value}(ht:P.underlying t=some (.slice e))(he:P.underlying e=some (.int .u8))(hb:w.heap[b]? = some (.cells vs e (0,0))) :
 (convert t t (.slice (some ⟨b,0,none⟩) n c)).run P w = .ok (.slice (some ⟨b,0,none⟩) n c) (World.setBlock w b (.cells vs e (vs.size,vs.size+1))):=by
 have hlt:b<w.heap.size:=jo hb;have hsh:w.shape? b=some (e,vs.size):=by
  unfold World.shape?;rw[hb]
 have hfr:w.freeze ⟨b,vs.size,none⟩ 1=World.setBlock w b (.cells vs e (vs.size,vs.size+1)):=by
  unfold World.freeze;rw[if_neg (by decide)];unfold World.setBlock;show({ w with heap:=w.heap.modify b _ }:World)=_;congr 1;apply rn;intro j;rw[dq,f6];by_cases e1:b=j
  ·subst e1;rw[if_pos rfl,if_pos rfl,if_pos hlt,hb];rfl
  ·rw[if_neg e1,if_neg e1]
 simp[convert,run_underlying ht,run_underlying he,markStringish,hsh];exact hfr
theorem zk1[Dr](hTT:TTok P TT){src dst:TypeId}{x:Operand}(ho:o.op = .convert src dst x)(h:mev TT ts ks (.convert src dst x) K)(hM:Mem X w β fp ks)(hT:∀ x,Den w (Mx X fp) β (val ts x) (a.eval x))(hn:zp X w β fp a o K next):o.wpIn (ql r) n P a w next Q:=by
 have hnd:∀ c,o.op≠.defer c:=fun c hc=>by rw [ho] at hc;cases hc
 simp only [mev] at h;split at h
 ·rename_i _ _ tis _ _ _ _ e _ hts ht;obtain⟨_,us,_,_,hsrc,_⟩:=qi hTT hts;split at h
  ·rename_i _ _ _ _ _ hte;obtain⟨info0,d0,z0',hi0,hu0,_,_,_,_,_,_,_,_,hd0⟩:=qi hTT ht;cases hd0;obtain⟨info1,d1,z1',hi1,hu1,_,_,_,_,_,_,_,_,hd1⟩:=qi hTT hte;cases hd1;rw [qm] at h;have hx:=hT x;split at h
   ·rename_i s ex;rw [ex] at hx;have ev:=yk hx;rw [uo] at h;have hrun:=Lib.run_convert_string_bytes (P:=P) w src dst e ⟨s.toArray⟩ hsrc hu0 hu1;rw [jw4,qa2] at hrun;have hge:=jo6 w s.length 0 e;have hC:(Lib.bytesCells w e ⟨s.toArray⟩).size=grownCap w s.length 0 e:=by
     unfold Lib.bytesCells;rw[qa2];simp;omega
    have hW:=hM.drew;have hget:∀ j u,j<s.length->(Lib.bytesCells w e ⟨s.toArray⟩)[j]? = some u->∃ b,s[j]? = some b/\u = .int .u8 b.toNat:=fun j u hj hu=>by
     unfold Lib.bytesCells at hu;rw [sq (by simpa using hj)] at hu;simp at hu;obtain⟨b,h1,h2⟩:=hu;exact⟨b,h1,h2.symm⟩
    obtain⟨hW2,hden⟩:=hW.mem.newRow e 1 s.length (grownCap w s.length 0 e) .no (fun j=>[.int .u8 (jc s j)]) (Lib.bytesCells w e ⟨s.toArray⟩) ((Lib.bytesCells w e ⟨s.toArray⟩).size,(Lib.bytesCells w e ⟨s.toArray⟩).size+1) (fun o ho=>by omega) (fun e=>by cases e) (by rw[hC,Nat.mul_one]) hge (fun _ _=>rfl) (fun k q d u hk hd hu=>by
     cases q with
     |zero =>
      simp at hd;subst hd;obtain⟨b,hb,rfl⟩:=hget k u hk (by simpa using hu);have:jc s (k:Int)=b.toNat:=by unfold jc;simp[hb]
      rw[this];exact .int _ _
     |succ q=>simp at hd) (fun j u hu=>by
     unfold Lib.bytesCells at hu;rw [Array.getElem?_append] at hu;split at hu
     ·simp at hu;obtain⟨b,_,rfl⟩:=hu;rfl
     ·have:=s6 hu;simp at this;rw[this.2];rfl)
    refine jz hnd ?_ (hn _ _ _ _ _ _ h (hW.trans hW2) hden);simp only[execOp,ho,ev,strV,p6,hrun,p9,oy];rfl
   ·rename_i i n c ex;split at h
    ·rename_i hsd hnc;have esd:=qv hsd;have enc:=qv hnc;rw [qs] at h;split at h
     ·rename_i e' l hg;split at h
      ·rename_i q1 q2 q3;cases qv q1;rw [y9] at q2;have hll:=qv q2;have hpos:=jr q3;obtain⟨xs,hxs,h⟩:=qz1 h;rw [jp,uo] at h;simp only [gn] at h;rw [ex] at hx;obtain⟨L,hL,ev⟩:∃ L,β i=some L/\a.eval x = .slice (some ⟨L.b,0,none⟩) n c:=by
        generalize a.eval x=av at hx;cases hx with
        |cs _ _ _ _ L hL _=>exact⟨L,hL,rfl⟩
       have hki:=qk hg (by simp);have hil:i<ks.length:=(pq.1 hki).1;have hkb:=hM.at hki (by simp) hL;cases hkb with
       |cells _ _ vs hfp hblk hlen hd h1 =>
        subst esd enc;have hrun:=zc2 (P:=P) (n:=n) (c:=n) hu0 hu1 hblk;have hvs:vs.size=n:=by omega
        have hxl:xs.length=n:=by rw [hxs,mn] at hll;exact hll
        have hdl:(xs.map (DV.int .u8)).length=n * 1:=by rw[mn,hxl,Nat.mul_one]
        have hW:=hM.again (L':=⟨L.b,n,n,1,false⟩) (.row e 1 n .no (qx (xs.map (DV.int .u8)) 1)) (.cells vs e (vs.size,vs.size+1)) hil hL hfp rfl
         (.row e 1 n .no _ vs (vs.size,vs.size+1) (fun x=>Iff.rfl) rfl rfl rfl (fun e=>by cases e) (yf _ _ _ (jo hblk)) (fun o ho hh=>by have:=hh.1;omega) (by rw[hvs,Nat.mul_one]) (pr _) (fun t ht=>qr7 hdl t ht) (fun t q d u ht hdd hu=>by
          have hq:q<1:=by have:=(pq.1 hdd).1;rw [qr7 hdl _ ht] at this;exact this
          obtain rfl:q=0:=by omega
          unfold qx at hdd;rw [mu,if_pos (by omega),lq,o4] at hdd;rw [Nat.mul_one,du] at hdd hu;cases hxt:xs[t]? with
          |none=>rw [hxt] at hdd;cases hdd
          |some x0 =>
           rw [hxt] at hdd;cases hdd;have hlt:l[t]? = some (.d (.int .u8 x0)):=by rw[hxs,o4,hxt];rfl
           cases ja (hd t _ u hlt hu);exact .int _ _) h1)
        refine jz hnd ?_ (hn _ _ _ _ _ _ h hW (.all ks.length ⟨L.b,n,n,1,false⟩ (q8 _ _ _) rfl));simp only[execOp,ho,ev,p6,hrun,p9,oy]
      ·cases h
     ·cases h
    ·cases h
   ·cases h
  ·cases h
 ·cases h
theorem zz6{b:Bool}{cs:Array Value}(h1:b=true->∃ t x,Value.agg cs = .iface t x)(h2:b=false->Value.agg cs = .nilIface):False:=by
 cases b with
 |true=>obtain⟨t,x,h⟩:=h1 rfl;cases h
 |false=>cases h2 rfl
theorem ye3[Dr]{ea:Bool}{v:SV}{c:List SV->Prop}(h:qp4 ea v c):∃ vs,c vs/\∀ (w:World) (M:Nat->Prop) (β:Env) (u:Value),Den w M β v u->∃ vc,u=qr ea vc/\vs.length=vc.length/\(ea=false->vc.length=1)/\(∀ (q:Nat) (s:SV) (x:Value),vs[q]? = some s->vc[q]? = some x->Den w M β s x)/\∀ x ∈ vc,x.oneCell'=true:=by
 unfold qp4 at h;split at h
 ·split at h
  ·rename_i l;refine⟨l,h,fun w M β u hu=>?_⟩;cases hu with
   |agg _ vs h1 h2 h3=>exact⟨vs,rfl,h1,fun e=>by(cases e),h2,h3⟩
  ·cases h
 ·split at h
  ·cases h
  ·rename_i hna;have hc:cellsOf v=[v]:=by
    unfold cellsOf;split
    ·exact absurd rfl (hna _)
    ·rfl
   have h':c (cellsOf v):=by
    unfold km at h;split at h
    ·exact absurd rfl (hna _)
    ·cases h
    ·cases h
    ·split at h
     ·rw[hc];exact h
     ·cases h
    ·rw[hc];exact h
   refine⟨[v],by rw[<-hc];exact h',fun w M β u hu=>?_⟩;obtain⟨_,hcells⟩:=ul (w:=w) (M:=M) (β:=β) h;obtain⟨c1,c2,c3⟩:=hcells u hu;rw [hc] at c1;have hone:u.oneCell'=true:=by
    cases hag:u with
    |agg cs =>
     subst hag;simp only [Value.cells] at c1 c2 c3;cases hu <;> first|(exact absurd rfl (hna _))|skip
     all_goals first|(rename_i hr;cases hr)|skip
     all_goals first|exact(zz6 ‹_› ‹_›).elim|skip
     all_goals (first|(unfold km at h;simp only at h)|skip)
     all_goals (first|(split at h;(rename_i h1;exact h1);exact h.elim)|exact h.elim|skip)
    |_=>subst hag;exact c3 _ (by simp[Value.cells])
   refine⟨[u],rfl,rfl,fun _=>rfl,fun q s x hs hx=>?_,fun x hx=>?_⟩
   ·cases q with
    |zero=>simp at hs hx;subst hs hx;exact hu
    |succ q=>simp at hs
   ·simp at hx;subst hx;exact hone
theorem jk4[Dr]{eks:List EK}:∀ {xs ys:List Value},xs.length=eks.length->ys.length=eks.length->Fits eks xs->Fits eks ys->jl eks xs ys=true->xs=ys:=by
 induction eks with
 |nil =>
  intro xs ys h1 h2 _ _ _;rw[f8 h1,f8 h2]
 |cons k eks ih =>
  intro xs ys h1 h2 f1 f2 he;match xs,ys,h1,h2 with
  |x :: xs,y :: ys,h1,h2 =>
   simp only [jl,p8] at he;have hx:=f1 0 k x rfl rfl;have hy:=f2 0 k y rfl rfl;have hxy:x=y:=by
    have he1:=he.1;cases k with
    |int k =>
     cases x <;> simp [fits] at hx
     cases y <;> simp [fits] at hy
     subst hx hy;simp [zr] at he1;rw[he1]
    |bool =>
     cases x <;> simp [fits] at hx
     cases y <;> simp [fits] at hy
     simp [zr] at he1;rw[he1]
    |str =>
     cases x <;> simp [fits] at hx
     cases y <;> simp [fits] at hy
     rename_i p q;have:(p == q)=true:=by rw[jm6];simpa[zr] using he1
     have hd:(p.data == q.data)=true:=this;simp only [mw] at hd;rw[ByteArray.ext hd]
   rw[hxy,ih (by simpa using h1) (by simpa using h2) (fun j k x a b=>f1 (j+1) k x (by simpa using a) (by simpa using b)) (fun j k x a b=>f2 (j+1) k x (by simpa using a) (by simpa using b)) he.2]
theorem jw6[Dr]{k:EK}{x:Value}(h:fits k x)(n:Nat):Instr.sameBits n x x=true:=by
 cases k <;> cases x <;> simp [fits] at h <;> cases n <;> simp [Instr.sameBits,jm6]
theorem jh8[Dr]{eks:List EK}{ka:Bool}{xs:List Value}(hl:xs.length=eks.length)(h1:ka=false->xs.length=1)(hf:Fits eks xs):Instr.sameBits 10000 (qr ka xs) (qr ka xs)=true:=by
 cases ka with
 |false =>
  match xs,h1 rfl,hl,hf with
  |[x],_,hl,hf=>match eks,hl with
   |[k],_=>exact jw6 (hf 0 k x rfl rfl) _
 |true =>
  show Instr.sameBits (9999+1) (.agg xs.toArray) (.agg xs.toArray)=true;simp only[Instr.sameBits,beq_self_eq_true,l7,l8];intro p hp;obtain⟨j,hj,rfl⟩:=o9.1 hp;simp only[List.getElem_zip];have hj':j<xs.length:=by simpa using hj
  exact jw6 (hf j (eks[j]'(by omega)) (xs[j]) (pp _) (pp _)) _
theorem qc9{b:Nat}{es:Array MapEntry}{clock:Nat}(o:Obj)(h:w.heap[b]? = some (.map es clock)):(setObj b o).run P w = .ok () (World.setBlock w b o):=by
 simp[setObj,Sem.run,h,World.setBlock]
theorem Born.push{es:Array MapEntry}{c:Nat}(h:Born es c)(k v:Value):Born (es.push ⟨k,v,c⟩) (c+1):=by
 have key:∀ (i:Nat) (e:MapEntry),(es.push ⟨k,v,c⟩)[i]? = some e->(i<es.size/\es[i]? = some e)\/(i=es.size/\e.born=c):=fun i e hi=>by
  rw [Array.getElem?_push] at hi;split at hi
  ·rename_i he;cases hi;exact .inr ⟨he,rfl⟩
  ·exact .inl ⟨(m7.1 hi).1,hi⟩
 refine⟨fun i j e e' hi hj hb=>?_,fun i e hi=>?_⟩
 ·rcases key i e hi with⟨a1,a2⟩|⟨a1,a2⟩ <;> rcases key j e' hj with⟨b1,b2⟩|⟨b1,b2⟩
  ·exact h.un i j e e' a2 b2 hb
  ·have:=h.lt i e a2;omega
  ·have:=h.lt j e' b2;omega
  ·omega
 ·rcases key i e hi with⟨a1,a2⟩|⟨a1,a2⟩
  ·have:=h.lt i e a2;omega
  ·omega
theorem Born.modify{es:Array MapEntry}{c:Nat}(h:Born es c)(j:Nat)(f:MapEntry->MapEntry)(hf:∀ e,(f e).born=e.born):Born (es.modify j f) c:=by
 have key:∀ (i:Nat) (e:MapEntry),(es.modify j f)[i]? = some e->∃ e0,es[i]? = some e0/\e.born=e0.born:=fun i e hi=>by
  rw [dq] at hi;split at hi
  ·obtain⟨e0,h0,rfl⟩:=fw.1 hi;exact⟨e0,h0,hf e0⟩
  ·exact⟨e,hi,rfl⟩
 refine⟨fun i k e e' hi hk hb=>?_,fun i e hi=>?_⟩
 ·obtain⟨a,a1,a2⟩:=key i e hi;obtain⟨b,b1,b2⟩:=key k e' hk;exact h.un i k a b a1 b1 (by omega)
 ·obtain⟨a,a1,a2⟩:=key i e hi;have:=h.lt i a a1;omega
theorem Born.erase{es:Array MapEntry}{c:Nat}(h:Born es c)(j:Nat)(hj:j<es.size):Born (es.eraseIdxIfInBounds j) c:=by
 have key:∀ (i:Nat) (e:MapEntry),(es.eraseIdxIfInBounds j)[i]? = some e->es[if i<j then i else i+1]? = some e:=fun i e hi=>by
  have:(es.eraseIdxIfInBounds j).toList=es.toList.eraseIdx j:=by simp[Array.eraseIdxIfInBounds,hj]
  rw [<-f7,this,List.getElem?_eraseIdx] at hi;split at hi <;> rename_i hq
  ·rw[if_pos hq];simpa using hi
  ·rw[if_neg hq];simpa using hi
 refine⟨fun i k e e' hi hk hb=>?_,fun i e hi=>h.lt _ e (key i e hi)⟩;have:=h.un _ _ e e' (key i e hi) (key k e' hk) hb;split at this <;> split at this <;> omega
theorem zk0[Dr](hTT:TTok P TT){t:TypeId}{res:Option Operand}(ho:o.op = .makeMap t res)(h:mev TT ts ks (.makeMap t res) K)(hM:Mem X w β fp ks)(hT:∀ x,Den w (Mx X fp) β (val ts x) (a.eval x))(hn:zp X w β fp a o K next):o.wpIn (ql r) n P a w next Q:=by
 have hnd:∀ c,o.op≠.defer c:=fun c hc=>by rw [ho] at hc;cases hc
 simp only [mev] at h;split at h
 ·rename_i _ _ _ _ kt et _ ht;obtain⟨info0,d0,z0,hi0,hu0,_,_,_,_,_,_,_,_,hd0⟩:=qi hTT ht;cases hd0;split at h
  ·rename_i _ _ ka _ kd eqk _ _ ea _ _ _ hkt het;have hn0:=hM.kl ks.length (pr _);have hmk:∀ ks',(∃ s:SV,s = .map ks.length/\ks'=ks++[.mapx (keks ka kd eqk) ka ea [] .free]/\K s ks')->(execOp a.eval o).run P w = .ok (.value (.map (some w.heap.size))) (w.alloc (.map #[] 0))->o.wpIn (ql r) n P a w next Q:=by
    rintro _ ⟨s,rfl,rfl,hK⟩ hrun
    have hW:=hM.alloc (.map #[] 0) (locB w.heap.size) (.mapx (keks ka kd eqk) ka ea [] .free) rfl (.mapx _ _ _ [] .free #[] 0 (fun x=>Iff.rfl) (by show (w.heap.push _)[w.heap.size]? = _;simp) rfl (fun j p e hp=>by simp at hp) ⟨fun i j e e' hi=>by simp at hi,fun i e hi=>by simp at hi⟩ trivial);exact jz hnd hrun (hn _ _ _ _ _ _ hK hW (.map _ (locB w.heap.size) (q8 _ _ _)))
   unfold ja3 at h;split at h
   ·rw [xr,zx,ox] at h;refine hmk _ ⟨_,rfl,rfl,h⟩ ?_;simp[execOp,ho,Instr.makeMap]
   ·rename_i x;rw [qm] at h;have hx:=hT x;split at h
    ·rename_i k q ex;rw [ex] at hx;have ev:=ja hx;rw [xr,zx,ox] at h;refine hmk _ ⟨_,rfl,rfl,h⟩ ?_;simp[execOp,ho,Instr.makeMap,ev,run_underlying hu0,asInt,asIntOf]
    ·cases h
  ·cases h
 ·cases h
theorem zf0[Dr](hTT:TTok P TT){t:TypeId}{m k v:Operand}(ho:o.op = .mapUpdate t m k v)(h:mev TT ts ks (.mapUpdate t m k v) K)(hM:Mem X w β fp ks)(hT:∀ x,Den w (Mx X fp) β (val ts x) (a.eval x))(hn:zp X w β fp a o K next):o.wpIn (ql r) n P a w next Q:=by
 have hnd:∀ c,o.op≠.defer c:=fun c hc=>by rw [ho] at hc;cases hc
 simp only [mev] at h;split at h
 ·rename_i _ _ _ _ kt et _ ht;obtain⟨info0,d0,z0,hi0,hu0,_,_,_,_,_,_,_,_,hd0⟩:=qi hTT ht;cases hd0;split at h
  ·rename_i _ _ ka _ kd eqk _ _ ea _ _ _ hkt het;rw [qm] at h;obtain⟨hne,ds,h,hkey⟩:=ja1 (w:=w) (M:=Mx X fp) (β:=β) h;obtain⟨kc,ekc,hkl,hdl,hkf,hkr⟩:=hkey _ (hT k);have hK:=jb5 hTT hkt hne;rw [qm] at h;obtain⟨vs,h,hel⟩:=ye3 h;obtain⟨vc,evc,v1,v2,v3,v4⟩:=hel w (Mx X fp) β _ (hT v);split at h
   ·rw [qm] at h;have hm:=hT m;split at h
    ·rename_i b hx;rw [hx] at hm;have ev:∃ L,a.eval m = .map (some L.b)/\β b=some L:=by
      generalize a.eval m=av at hm;cases hm with
      |map _ L hL=>exact⟨L,rfl,hL⟩
     obtain⟨L,ev,hL⟩:=ev;rw [qs] at h;split at h
     ·rename_i eks ka' ea' l hg;have hk:=qk hg (by simp);split at h
      ·rename_i q1 q2 q3;have q1:=qn2 q1;have q2:=uy q2;have q3:=uy q3;subst q1 q2 q3;obtain⟨l',hl',h⟩:=h;rw [jp] at h;have hkb:=hM.at hk (by simp) hL;have hil:b<ks.length:=(pq.1 hk).1;cases hkb with
       |mapx _ _ _ _ _ es clock hfp hb hl hent hbo =>
        have hfind:=qh2 (P:=P) (w:=w) (M:=Mx X fp) (β:=β) hK hkl hdl hkf hkr l es.toList (by simpa using hl) (fun j p e hp he=>hent j p e hp (by simpa using he));have hchk:=hK.chk w false kc hkl hkf;have hka1:ka=false->kc.length=1:=fun e=>by
         subst e;rw[hkl];have hne':=hne;simp only [keks] at hne' ⊢;cases kd <;> first|rfl|exact absurd rfl hne'
        have hst:∀ o',Step (Mx X fp) w (World.setBlock w L.b o'):=fun o'=>Step.setBlock w (.inr ⟨b,(hfp _).2 rfl⟩) o'
        have hent':∀ o' p e,EntAt w (Mx X fp) β (keks ka kd eqk) ka ea p e->EntAt (World.setBlock w L.b o') (Mx X fp) β (keks ka kd eqk) ka ea p e:=fun o' p e he=>he.keep (hst o').keep (fun _ _ e=>e) (Ext.refl _)
        have hnew:∀ bo,EntAt w (Mx X fp) β (keks ka kd eqk) ka ea (ds,vs) ⟨qr ka kc,qr ea vc,bo⟩:=fun bo=>⟨kc,vc,rfl,rfl,hdl,v1,hkl,hka1,v2,hkf,hkr,v3,v4⟩
        rcases ql2 l ds 0 with⟨b1,b2,b3,_⟩|⟨j,p,b1,b2,b3,b4,b5,_⟩
        ·rw [b3] at hl';subst hl';have hW:=hM.set (.mapx (keks ka kd eqk) ka ea (l++[(ds,vs)]) .free) (.map (es.push ⟨qr ka kc,qr ea vc,clock⟩) (clock+1)) hil hL hfp (.mapx _ _ _ _ _ _ _ hfp (yf _ _ _ (jo hb)) (by simp[hl]) (fun j p e hp he=>hent' _ _ _ (by
          by_cases hj:j<l.length
          ·rw [ot hj] at hp;rw [s7 (by omega),<-oz] at he;exact hent j p e hp he
          ·have hj':j=l.length:=by
            have:=(pq.1 hp).1;simp at this;omega
           subst hj';rw [o5 (pr _)] at hp;rw [hl,sr] at he;simp at hp he;subst hp he;exact hnew _)) (hbo.push _ _) trivial)
         refine u5 hnd ?_ (hn _ _ _ _ _ _ h hW (.any _));rw [b1] at hfind;simp only [rp] at hfind;simp only[execOp,ho,ev,ekc,evc,Instr.mapUpdate,p6,run_underlying hu0,p9,zw hb,hchk,hfind,qc9 _ hb,oy]
        ·rw [b5] at hl';subst hl';have hlt:j<es.size:=by rw[<-hl];exact(pq.1 b2).1
         have hej:=oz hlt;obtain⟨kc',vc',a1,a2,a3,a4,a5,a6,a7,a8,a9,a10,a11⟩:=(hent j p es[j] b2 hej).ex;have hkk:kc=kc':=jk4 hkl a5 hkf a8 (by rw[qq0 hkl a5 hdl a3 hkf a8 hkr a9];exact b3);subst hkk;have hW:=hM.set (.mapx (keks ka kd eqk) ka ea (l.set j (ds,vs)) .free) (.map (es.modify j fun e=>{ e with key:=qr ka kc,val:=qr ea vc }) clock) hil hL hfp (.mapx _ _ _ _ _ _ _ hfp (yf _ _ _ (jo hb)) (by simp[hl]) (fun q p' e hp he=>hent' _ _ _ (by
          rw [oq] at hp;rw [dq] at he;by_cases hq:j=q
          ·subst hq;rw [if_pos rfl,if_pos (by omega)] at hp;rw [if_pos rfl,hej] at he;cases hp;simp only [o8] at he;cases he;exact hnew _
          ·rw [if_neg hq] at hp he;exact hent q p' e hp he)) (hbo.modify _ _ (fun _=>rfl)) trivial)
         refine u5 hnd ?_ (hn _ _ _ _ _ _ h hW (.any _));rw [b1] at hfind;have hej':es.toList[0+j]? = some es[j]:=by simp
         simp only [dp,hej',o8] at hfind;have hkeep:(Instr.keyThatStays (((es[j]?).map (·.key)).getD (qr ka kc)) (qr ka kc)).run P w = .ok (qr ka kc) w:=by
          rw[hej];simp only[o8,dz,a1,Instr.keyThatStays,jh8 hkl hka1 hkf,if_true,oy]
         simp only[execOp,ho,ev,ekc,evc,Instr.mapUpdate,p6,run_underlying hu0,p9,zw hb,hchk,hfind,hkeep,qc9 _ hb,oy,ox]
      ·cases h
     ·cases h
    ·cases h
   ·cases h
  ·cases h
 ·cases h
theorem zp7[Dr](hTT:TTok P TT){args:Array Operand}{argTypes:Array TypeId}(ho:o.op = .call ⟨.builtin .delete,args,argTypes⟩)(h:mev TT ts ks (.call ⟨.builtin .delete,args,argTypes⟩) K)(hM:Mem X w β fp ks)(hT:∀ x,Den w (Mx X fp) β (val ts x) (a.eval x))(hn:zp X w β fp a o K next):o.wpIn (ql r) n P a w next Q:=by
 have hnd:∀ c,o.op≠.defer c:=fun c hc=>by rw [ho] at hc;cases hc
 obtain⟨args⟩:=args;obtain⟨argTypes⟩:=argTypes;simp only [mev] at h;split at h
 ·rename_i m k t t2;split at h
  ·rename_i _ _ _ _ kt et _ ht;obtain⟨info0,d0,z0,hi0,hu0,_,_,_,_,_,_,_,_,hd0⟩:=qi hTT ht;cases hd0;split at h
   ·rename_i _ _ ka _ kd eqk hkt;rw [qm] at h;obtain⟨hne,ds,h,hkey⟩:=ja1 (w:=w) (M:=Mx X fp) (β:=β) h;obtain⟨kc,ekc,hkl,hdl,hkf,hkr⟩:=hkey _ (hT k);have hK:=jb5 hTT hkt hne;rw [qm] at h;have hm:=hT m;split at h
    ·rename_i b hx;rw [hx] at hm;have ev:∃ L,a.eval m = .map (some L.b)/\β b=some L:=by
      generalize a.eval m=av at hm;cases hm with
      |map _ L hL=>exact⟨L,rfl,hL⟩
     obtain⟨L,ev,hL⟩:=ev;rw [qs] at h;split at h
     ·rename_i eks ka' ea l hg;have hk:=qk hg (by simp);split at h
      ·rename_i q1 q2;have q1:=qn2 q1;have q2:=uy q2;subst q1 q2;obtain⟨l',hl',h⟩:=h;rw [jp] at h;have hkb:=hM.at hk (by simp) hL;have hil:b<ks.length:=(pq.1 hk).1;cases hkb with
       |mapx _ _ _ _ _ es clock hfp hb hl hent hbo =>
        have hfind:=qh2 (P:=P) (w:=w) (M:=Mx X fp) (β:=β) hK hkl hdl hkf hkr l es.toList (by simpa using hl) (fun j p e hp he=>hent j p e hp (by simpa using he));have hchk:=hK.chk w es.isEmpty kc hkl hkf;have hst:∀ o',Step (Mx X fp) w (World.setBlock w L.b o'):=fun o'=>Step.setBlock w (.inr ⟨b,(hfp _).2 rfl⟩) o'
        have hent':∀ o' p e,EntAt w (Mx X fp) β (keks ka kd eqk) ka ea p e->EntAt (World.setBlock w L.b o') (Mx X fp) β (keks ka kd eqk) ka ea p e:=fun o' p e he=>he.keep (hst o').keep (fun _ _ e=>e) (Ext.refl _)
        rcases ql2 l ds 0 with⟨b1,b2,_,b3⟩|⟨j,p,b1,b2,b3,b4,_,b5⟩
        ·rw [b3] at hl';subst hl';have hW:=hM.set (.mapx (keks ka kd eqk) ka ea l .free) (.map es clock) hil hL hfp (.mapx _ _ _ _ _ _ _ hfp (yf _ _ _ (jo hb)) hl (fun j p e hp he=>hent' _ _ _ (hent j p e hp he)) hbo trivial);refine jz hnd ?_ (hn _ _ _ _ _ _ h hW (.any (.tuple #[])));rw [b1] at hfind;simp only [rp] at hfind;simp[execOp,ho,resolve,invoke,builtin,ev,ekc,Builtin.delete_,run_underlying hu0,zw hb,hchk,hfind,qc9 _ hb]
        ·rw [b5] at hl';subst hl';have hlt:j<es.size:=by rw[<-hl];exact(pq.1 b2).1
         have hej:=oz hlt;have hW:=hM.set (.mapx (keks ka kd eqk) ka ea (l.eraseIdx j) .free) (.map (es.eraseIdxIfInBounds j) clock) hil hL hfp (.mapx _ _ _ _ _ _ _ hfp (yf _ _ _ (jo hb)) (by
          have:(es.eraseIdxIfInBounds j).toList=es.toList.eraseIdx j:=by simp[Array.eraseIdxIfInBounds,hlt]
          rw[<-Array.length_toList,this,List.length_eraseIdx,List.length_eraseIdx,hl];simp) (fun q p' e hp he=>hent' _ _ _ (by
          rw [List.getElem?_eraseIdx] at hp;have he':es.toList[if q<j then q else q+1]? = some e:=by
           have:(es.eraseIdxIfInBounds j).toList=es.toList.eraseIdx j:=by simp[Array.eraseIdxIfInBounds,hlt]
           rw [<-f7,this,List.getElem?_eraseIdx] at he;split at he <;> rename_i hqj
           ·rw[if_pos hqj];exact he
           ·rw[if_neg hqj];exact he
          split at hp <;> rename_i hqj
          ·rw [if_pos hqj] at he';exact hent q p' e hp (by simpa using he')
          ·rw [if_neg hqj] at he';exact hent (q+1) p' e hp (by simpa using he'))) (hbo.erase j hlt) trivial)
         refine jz hnd ?_ (hn _ _ _ _ _ _ h hW (.any (.tuple #[])));rw [b1] at hfind;have hej':es.toList[0+j]? = some es[j]:=by simp
         simp only [dp,hej',o8] at hfind;simp[execOp,ho,resolve,invoke,builtin,ev,ekc,Builtin.delete_,run_underlying hu0,zw hb,hchk,hfind,qc9 _ hb]
      ·cases h
     ·cases h
    ·cases h
   ·cases h
  ·cases h
 ·cases h
theorem jw7[Dr]{dt xt ty e:TypeId}{info:TypeInfo}{sz:Nat}(hdt:P.underlying dt=some (.slice e))(hi:P.info? e=some info)(hsz:info.size=sz){v:Value}{k:Nat}{us:List Value}(hs:Src P sz xt v k us w)
 {b off n c:Nat} (hk:k<=n) {vs:Array Value} {t:TypeId} {fz:Nat × Nat} (hb:w.heap[b]? = some (.cells vs t fz)) (hin:off+us.length<=vs.size) (hfz:∀ o,o<vs.size->¬ (fz.1<=o/\o<fz.2)) :
 (Builtin.copy_ #[dt,xt] ty #[.slice (some ⟨b,off,none⟩) n c,v]).run P w = .ok (goInt k) (World.setBlock w b (.cells (je vs off us) t fz)):=by
 have hst:=run_storeCells_cells (P:=P) b off us 0 w (fun j hj=>by
  have:off+j<vs.size:=by omega
  simp[World.cell?,hb,this]) (fun j hj=>by
  have:=hfz (off+0+j) (by omega);obtain⟨lo,hi⟩:=fz;simp[World.frozen?,hb];intro hlo;simp at this;exact this hlo) hs.one
 rw [du,jy0 hb] at hst;have hm:Nat.min k n=k:=ay hk;simp[Builtin.copy_,run_underlying hdt,hs.len,sizeOf,typeInfo,hi,hsz,hm,hs.cells,hst]
theorem jv8{dt xt ty e:TypeId}{info:TypeInfo}{sz:Nat}(hdt:P.underlying dt=some (.slice e))(hi:P.info? e=some info)(hsz:info.size=sz){v:Value}{us:List Value}(hs:Src P sz xt v 0 us w){n c:Nat} :
 (Builtin.copy_ #[dt,xt] ty #[.slice none n c,v]).run P w = .ok (goInt 0) w:=by
 have hm:Nat.min 0 n=0:=Nat.zero_min n;simp[Builtin.copy_,run_underlying hdt,hs.len,sizeOf,typeInfo,hi,hsz,hm,hs.cells]
theorem jb3{lo k sz m:Nat}{f g:Nat->List DV}(hf:∀ j,j<m->(f j).length=sz)(hg:∀ j,j<k->(g j).length=sz):∀ j,j<m->(midF lo k f g j).length=sz:=fun j hj=>by
 unfold midF;split
 ·exact hg _ (by omega)
 ·exact hf _ hj
theorem yr4[Dr](h:Mem X w β fp ks){dt xt ty e:TypeId}{info:TypeInfo}{sz:Nat}(hdt:P.underlying dt=some (.slice e))(hi:P.info? e=some info)(hsz:info.size=sz)
 {i m n lo off:Nat} {z:Z} {f:Nat->List DV} {e':TypeId} (hki:ks[i]? = some (.row e' sz m z f)) {L:Loc} (hL:β i=some L) (hnil:L.nil=false) {v:Value} {k:Nat} {g:Nat->List DV} {us:List Value} (hs:SrcOk P w (Mx X fp) sz xt v k g us) (hk:k<=n) (hn:lo+n<=m) (c:Nat)
 (hoff:0<k->off=lo * sz) :
 ∃ w',(Builtin.copy_ #[dt,xt] ty #[.slice (some ⟨L.b,off,none⟩) n c,v]).run P w = .ok (goInt k) w'/\Went X w β fp w' β fp (ks.set i (.row e' sz m z (midF lo k f g))):=by
 have hil:i<ks.length:=(pq.1 hki).1;have hb:=h.at hki (by simp) hL;cases hb with
 |rowNil _ _ _ _ _ hnil'=>rw [hnil] at hnil';cases hnil'
 |row _ _ _ _ _ vs fz hfp _ hLs hLn hzz hb hfz hvs hng hfl hr h1 =>
  have hus:=hs.src.newsLen;rcases fq k with rfl|hpos
  ·-- nothing is copied
   have hus0:us=[]:=sx.1 (by rw[hus,Nat.zero_mul]);have hm0:Nat.min 0 n=0:=Nat.zero_min n;have hsrc:=hs.src;rw [hus0] at hsrc;have hrun:(Builtin.copy_ #[dt,xt] ty #[.slice (some ⟨L.b,off,none⟩) n c,v]).run P w = .ok (goInt 0) w:=by
    simp[Builtin.copy_,run_underlying hdt,hsrc.len,sizeOf,typeInfo,hi,hsz,hm0,hsrc.cells,storeCells]
   refine⟨w,hrun,?_⟩;have hf0:midF lo 0 f g=f:=funext fun t=>by unfold midF;rw[if_neg (by omega)]
   rw[hf0];have:ks.set i (.row e' sz m z f)=ks:=by
    apply cx;intro j;rw[oq];by_cases hj:i=j
    ·subst hj;rw[if_pos rfl,if_pos hil,hki]
    ·rw[if_neg hj]
   rw[this];exact Went.refl h
  ·have ho:=hoff hpos;subst ho;have hin:lo * sz+us.length<=vs.size:=by
    rw[hus,hvs,<-ow];exact o6 _ (by omega)
   refine⟨_,jw7 hdt hi hsz hs.src hk hb hin hfz,?_⟩;have hst':Step (Mx X fp) w (World.setBlock w L.b (.cells (je vs (lo * sz) us) e' fz)):=Step.setBlock w (.inr ⟨i,(hfp _).2 rfl⟩) _;refine h.set (.row e' sz m z (midF lo k f g)) (.cells (je vs (lo * sz) us) e' fz) hil hL hfp ?_;refine .row e' sz m z (midF lo k f g) (je vs (lo * sz) us) fz hfp hnil hLs hLn hzz (yf _ _ _ (jo hb)) (by rw[ku];exact hfz) (by rw[ku];exact hvs) hng (jb3 hfl hs.wid) (fun t q d u ht hd hu=>?_) (fun j u hu=>?_)
   ·have hq:q<sz:=by have:=(pq.1 hd).1;rw [jb3 hfl hs.wid _ ht] at this;exact this
    rw [xh _ _ _ _ hin] at hu;unfold midF at hd;split at hd
    ·rename_i htn;have hle:lo * sz<=t * sz:=o6 _ htn.1;have hlt:t * sz+q<(lo+k) * sz:=by
      calc t * sz+q<t * sz+sz:=by omega
       _=(t+1) * sz:=by rw[ow,mv]
       _<=(lo+k) * sz:=o6 _ (by omega)
     rw [if_pos (by rw [hus,<-ow];omega),show t * sz+q - lo * sz=(t - lo) * sz+q from by rw [Nat.sub_mul];omega] at hu;exact(hs.rd (t - lo) q d u (by omega) hd hu).mono hst' (fun _ _ e=>e)
    ·rename_i htn;rw[if_neg (by
      rintro ⟨a1,a2⟩
      apply htn;rw [hus,<-ow] at a2;refine⟨?_,?_⟩
      ·rcases oo t lo with hc|hc
       ·have:(t+1) * sz<=lo * sz:=o6 _ hc;rw [ow,mv] at this;omega
       ·exact hc
      ·rcases oo t (lo+k) with hc|hc
       ·exact hc
       ·have:(lo+k) * sz<=t * sz:=o6 _ hc;omega)] at hu
     exact(hr t q d u ht hd hu).mono hst' (fun _ _ e=>e)
   ·rw [xh _ _ _ _ hin] at hu;split at hu
    ·exact hs.src.one u (ov hu)
    ·exact h1 j u hu
theorem xm1[Dr](h:Mem X w β fp ks){sz i m lo:Nat}{z:Z}{f:Nat->List DV}{e':TypeId}(hki:ks[i]? = some (.row e' sz m z f)){L:Loc}(hL:β i=some L)(hnil:L.nil=false){k:Nat}{g:Nat->List DV}{us:List Value}(hk:lo+k<=m)(hus:us.length=k * sz)
 (hwid:∀ t,t<k->(g t).length=sz) (hrd:∀ (t q:Nat) (d:DV) (u:Value),t<k->(g t)[q]? = some d->us[t * sz+q]? = some u->Rd w (Mx X fp) d u) (hone:∀ u ∈ us,u.oneCell'=true) :
 ∃ w',(storeCells ⟨L.b,lo * sz,none⟩ us).run P w = .ok () w'/\Went X w β fp w' β fp (ks.set i (.row e' sz m z (midF lo k f g))):=by
 have hil:i<ks.length:=(pq.1 hki).1;have hb:=h.at hki (by simp) hL;cases hb with
 |rowNil _ _ _ _ _ hnil'=>rw [hnil] at hnil';cases hnil'
 |row _ _ _ _ _ vs fz hfp _ hLs hLn hzz hb hfz hvs hng hfl hr h1 =>
  have hin:lo * sz+us.length<=vs.size:=by
   rw[hus,hvs,<-ow];exact o6 _ (by omega)
  have hrun:(storeCells ⟨L.b,lo * sz,none⟩ us).run P w = .ok () (World.setBlock w L.b (.cells (je vs (lo * sz) us) e' fz)):=by
   have:=jv1 (P:=P) L.b e' fz us w vs (lo * sz) 0 hb (by omega) hfz hone;rw [du] at this;rw[this];split
   ·rename_i h0;subst h0;exact(congrArg _ (jh7 (o:=.cells vs e' fz) hb)).symm
   ·rfl
  refine⟨_,hrun,?_⟩;have hst':Step (Mx X fp) w (World.setBlock w L.b (.cells (je vs (lo * sz) us) e' fz)):=Step.setBlock w (.inr ⟨i,(hfp _).2 rfl⟩) _;refine h.set (.row e' sz m z (midF lo k f g)) (.cells (je vs (lo * sz) us) e' fz) hil hL hfp ?_;refine .row e' sz m z (midF lo k f g) (je vs (lo * sz) us) fz hfp hnil hLs hLn hzz (yf _ _ _ (jo hb)) (by rw[ku];exact hfz) (by rw[ku];exact hvs) hng (jb3 hfl hwid) (fun t q d u ht hd hu=>?_) (fun j u hu=>?_)
  ·have hq:q<sz:=by have:=(pq.1 hd).1;rw [jb3 hfl hwid _ ht] at this;exact this
   rw [xh _ _ _ _ hin] at hu;unfold midF at hd;split at hd
   ·rename_i htn;have hle:lo * sz<=t * sz:=o6 _ htn.1;have hlt:t * sz+q<(lo+k) * sz:=by
     calc t * sz+q<t * sz+sz:=by omega
      _=(t+1) * sz:=by rw[ow,mv]
      _<=(lo+k) * sz:=o6 _ (by omega)
    rw [if_pos (by rw [hus,<-ow];omega),show t * sz+q - lo * sz=(t - lo) * sz+q from by rw [Nat.sub_mul];omega] at hu;exact(hrd (t - lo) q d u (by omega) hd hu).mono hst' (fun _ _ e=>e)
   ·rename_i htn;rw[if_neg (by
     rintro ⟨a1,a2⟩
     apply htn;rw [hus,<-ow] at a2;refine⟨?_,?_⟩
     ·rcases oo t lo with hc|hc
      ·have:(t+1) * sz<=lo * sz:=o6 _ hc;rw [ow,mv] at this;omega
      ·exact hc
     ·rcases oo t (lo+k) with hc|hc
      ·exact hc
      ·have:(lo+k) * sz<=t * sz:=o6 _ hc;omega)] at hu
    exact(hr t q d u ht hd hu).mono hst' (fun _ _ e=>e)
  ·rw [xh _ _ _ _ hin] at hu;split at hu
   ·exact hone u (ov hu)
   ·exact h1 j u hu
theorem zd9(zs:Array Value)(n t q:Nat)(u:Value)(ht:t<n)(hq:q<zs.size)(h:(Builtin.zeroCells zs n).toList[t * zs.size+q]? = some u):zs[q]? = some u:=by
 have hlt:t * zs.size+q<n * zs.size:=by
  calc t * zs.size+q<t * zs.size+zs.size:=by omega
   _=(t+1) * zs.size:=by rw[ow,mv]
   _<=n * zs.size:=o6 _ (by omega)
 have hm:(t * zs.size+q) % zs.size=q:=by rw[c7,Nat.mul_add_mod];exact rq hq
 simp only [Builtin.zeroCells,f7,Array.getElem?_map,Array.getElem?_range,hlt,if_true,o8,hm] at h;have:zs[q]! = zs[q]:=getElem!_pos zs q hq;rw [this] at h;rw[oz hq];exact h
theorem zx6[Dr](hTT:TTok P TT){args:Array Operand}{argTypes:Array TypeId}(ho:o.op = .call ⟨.builtin .clear,args,argTypes⟩)(h:mev TT ts ks (.call ⟨.builtin .clear,args,argTypes⟩) K)(hM:Mem X w β fp ks)(hT:∀ x,Den w (Mx X fp) β (val ts x) (a.eval x))(hn:zp X w β fp a o K next):o.wpIn (ql r) n P a w next Q:=by
 have hnd:∀ c,o.op≠.defer c:=fun c hc=>by rw [ho] at hc;cases hc
 obtain⟨args⟩:=args;obtain⟨argTypes⟩:=argTypes;simp only [mev] at h;split at h
 ·rename_i x xt;split at h
  ·rename_i _ _ _ _ e _ ht;split at h
   ·rename_i size bytes ag zero ds eqk hte;obtain⟨info0,d0,z0',hi0,hu0,_,_,_,_,_,_,_,_,hd0⟩:=qi hTT ht;cases hd0;obtain⟨info,de,z0,hi,hue,hsz,_,hz,hag,hzl,hzs,hzd,hz1,_⟩:=qi hTT hte;simp only at hsz hzl hzs hzd;rw [qm] at h;have hv:=hT x;split at h
    ·rename_i i lo m hx;rw [hx] at hv;rw [qs] at h;split at h
     ·rename_i e' sz m' z f hg;have hk:=qk hg (by simp);split at h
      ·rename_i hb1 hb2;have hb1:=qv hb1;subst hb1;have hpos:=jr hb2;obtain⟨dd,hdd,hlm,h⟩:=ym2 h;rw [jp] at h;rcases fq m with h0|hm
       ·subst h0;have hf0:midF lo 0 f (fun _=>dd)=f:=funext fun t=>by unfold midF;rw[if_neg (by omega)]
        rw [hf0] at h;have hset:ks.set i (.row e' sz m' z f)=ks:=by
         apply cx;intro j;rw[oq];by_cases hj:i=j
         ·subst hj;rw[if_pos rfl,if_pos (pq.1 hk).1,hk]
         ·rw[if_neg hj]
        rw [hset] at h;refine jz hnd ?_ (hn _ _ _ _ _ _ h (Went.refl hM) (.any (.tuple #[])));obtain⟨ad,cp,eav⟩:∃ ad cp,a.eval x = .slice ad 0 cp:=by
         generalize a.eval x=av at hv;cases hv with
         |row=>exact⟨_,_,rfl⟩
         |rowNil=>exact⟨_,_,rfl⟩
        cases ad <;> simp[execOp,ho,resolve,invoke,builtin,Builtin.clear_,run_underlying hu0,eav]
       ·generalize eav:a.eval x=av at hv;cases hv with
        |rowNil=>omega
        |row _ _ _ off L hL hnil h3 h4 =>
         have hat:=hM.at hk (by simp) hL;cases hat with
         |rowNil _ _ _ _ _ hnil'=>rw [hnil] at hnil';cases hnil'
         |row _ _ _ _ _ vs fz hfp h8 hLs hLn hzz hb hfz hvs hng hfl hr h1 =>
          have eoff:off=lo * sz:=by rw[h4 (.inl (by omega)),hLs]
          subst eoff;have hzsz:z0.cells.size=sz:=hzl.trans hzs;have hdl:dd.length=sz:=by
           have:=congrArg List.length hdd;rw [mn] at this;omega
          obtain⟨w',r1,r2⟩:=xm1 (P:=P) hM hk hL hnil (k:=m) (g:=fun _=>dd) (us:=(Builtin.zeroCells z0.cells m).toList) hlm (by simp[Builtin.zeroCells,hzsz]) (fun _ _=>hdl) (fun t q d u ht hd hu=>by
           have hq:q<z0.cells.size:=by rw[hzsz,<-hdl];exact(pq.1 hd).1
           rw [<-hzsz] at hu;have hg:=zd9 _ _ _ _ _ ht hq hu;exact jb (hzd w (Mx X fp) β q (.d d) u (by rw[hdd,o4,hd];rfl) hg)) (fun u hu=>by
           simp only [Builtin.zeroCells,Array.toList_map,Array.toList_range,lz,lr] at hu;obtain⟨q,hq,rfl⟩:=hu;have hlt:q % z0.cells.size<z0.cells.size:=Nat.mod_lt _ (by omega);have:z0.cells[q % z0.cells.size]! = z0.cells[q % z0.cells.size]'hlt:=getElem!_pos z0.cells (q % z0.cells.size) hlt;rw[this];exact hz1 _ _ (oz hlt))
          refine jz hnd ?_ (hn _ _ _ _ _ _ h r2 (.any (.tuple #[])));obtain⟨m,rfl⟩:∃ q,m=q+1:=⟨m - 1,by omega⟩;simp[execOp,ho,resolve,invoke,builtin,Builtin.clear_,run_underlying hu0,eav,qp9 hi hz,r1]
      ·cases h
     ·cases h
    ·cases h
   ·cases h
  ·cases h
 ·cases h
theorem ya6[Dr]{k:Nat}{g:Nat->List DV}:∀ {l:List SV} {q:Nat} {c:List SV->Prop},qo4 k g q l c->∃ l',c l'/\l'.length=l.length/\∀ j s,l'[j]? = some s->∃ (k1:IntKind) (a b:Int),g (q+j)=[.int k1 a]/\l[j]? = some (.d (.int k1 b))/\s = .d (.int k1 (if q+j<k then a else b))
 |[],q,c,h=>⟨[],h,rfl,fun j s hs=>by simp at hs⟩
 | .d (.int k1 b) :: l,q,c,h=>by
  simp only [qo4] at h;split at h
  ·rename_i k2 a hg;split at h
   ·rename_i hk;obtain rfl:=wr hk;obtain⟨l',h1,h2,h3⟩:=ya6 h;refine⟨_,h1,by simp[h2],fun j s hs=>?_⟩;cases j with
    |zero =>
     simp only [bu,my] at hs;exact⟨_,a,b,hg,rfl,hs.symm⟩
    |succ j =>
     obtain⟨k3,a',b',e1,e2,e3⟩:=h3 j s (by simpa using hs);have e:q+1+j=q+(j+1):=by omega
     rw [e] at e1 e3;exact⟨k3,a',b',e1,by simpa using e2,e3⟩
   ·cases h
  ·cases h
 | .d (.bool _) :: _,_,_,h=>h.elim
 | .d .tt :: _,_,_,h=>h.elim
 | .d .ff :: _,_,_,h=>h.elim
 | .d (.str _) :: _,_,_,h=>h.elim
 | .d (.sl _ _ _ _) :: _,_,_,h=>h.elim
 | .ptr _ _ :: _,_,_,h=>h.elim
 | .aptr _ _ _ _ :: _,_,_,h=>h.elim
 | .dptr _ _ :: _,_,_,h=>h.elim
 | .all _ :: _,_,_,h=>h.elim
 | .row _ _ _ :: _,_,_,h=>h.elim
 | .cs _ _ _ _ :: _,_,_,h=>h.elim
 | .rptr _ _ _ _ :: _,_,_,h=>h.elim
 | .agg _ :: _,_,_,h=>h.elim
 | .tup _ :: _,_,_,h=>h.elim
 | .fn _ _ :: _,_,_,h=>h.elim
 | .map _ :: _,_,_,h=>h.elim
 | .ap _ _ _ :: _,_,_,h=>h.elim
 | .np _ _ :: _,_,_,h=>h.elim
 | .yl _ :: _,_,_,h=>h.elim
 | .v _ :: _,_,_,h=>h.elim
 | .any :: _,_,_,h=>h.elim
theorem xf8[Dr](hTT:TTok P TT){args:Array Operand}{argTypes:Array TypeId}(ho:o.op = .call ⟨.builtin .copy,args,argTypes⟩)(h:mev TT ts ks (.call ⟨.builtin .copy,args,argTypes⟩) K)(hM:Mem X w β fp ks)(hT:∀ x,Den w (Mx X fp) β (val ts x) (a.eval x))(hn:zp X w β fp a o K next):o.wpIn (ql r) n P a w next Q:=by
 have hnd:∀ c,o.op≠.defer c:=fun c hc=>by rw [ho] at hc;cases hc
 obtain⟨args⟩:=args;obtain⟨argTypes⟩:=argTypes;simp only [mev] at h;split at h
 ·rename_i d x dt xt;split at h
  ·rename_i _ _ _ _ e _ ht;split at h
   ·rename_i size bytes _ _ _ _ hte;split at h
    ·rename_i hbs;rw [p8] at hbs;have hpos:0<size:=jr hbs.1;have htx:=jj9 hTT hbs.2;obtain⟨info0,d0,z0',hi0,hu0,_,_,_,_,_,_,_,_,hd0⟩:=qi hTT ht;cases hd0;obtain⟨info,de,z0,hi,hue,hsz,_⟩:=qi hTT hte;simp only at hsz;rw [qm] at h;obtain⟨k,g,fr,us,hh,hfr,hsrc⟩:=jl1 hM.toMem0 hpos h (hT x) htx;clear h;have h:=hh;clear hh;split at h
     ·rw [qm] at h;have hS0:=hsrc [] (fun _ hi=>hi);have hS:SrcOk P w (Mx X fp) size xt (a.eval x) k g us:=hS0.less (fun b hm=>hm.imp id (fun⟨i,hi⟩=>⟨i,by simp,hi⟩));have hv:=hT d;have fin:∀ (ks':List KB) (w':World),(Builtin.copy_ #[dt,xt] o.type #[a.eval d,a.eval x]).run P w = .ok (goInt k) w'->Went X w β fp w' β fp ks'->K (.d (.int .i64 k)) ks'->o.wpIn (ql r) n P a w next Q:=fun ks' w' hrun hW hK=>by
       refine jz hnd ?_ (hn _ _ _ _ _ _ hK hW (.d (.int .i64 k)));simp[execOp,ho,resolve,invoke,builtin,hrun,goInt]
      unfold jh1 at h;split at h
      ·rename_i i hx;rw [hx] at hv;rw [qs] at h;split at h
       ·rename_i e' sz m z f hg;have hk:=qk hg (by simp);split at h
        ·rename_i hb1;have hb1:=qv hb1;subst hb1;obtain⟨hkm,h⟩:=h;rw [jp] at h;generalize a.eval d=av at hv fin;cases hv with
         |all _ L hL hnil =>
          have hat:=hM.at hk (by simp) hL;cases hat with
          |rowNil _ _ _ _ _ hnil'=>rw [hnil] at hnil';cases hnil'
          |row _ _ _ _ _ vs fz hfp h8 hLs hLn hzz hb hfz hvs hng hfl hr h1 =>
           obtain⟨w',r1,r2⟩:=yr4 (P:=P) (ty:=o.type) hM hu0 hi hsz hk hL hnil hS (n:=L.n) (lo:=0) (off:=0) (by omega) (by omega) L.c (fun _=>by simp);exact fin _ _ r1 r2 h
         |allNil _ L hL hnil =>
          have hat:=hM.at hk (by simp) hL;cases hat with
          |rowNil _ _ _ _ _ _ _ _ _ =>
           have hk0:k=0:=by omega
           subst hk0;have hf0:midF 0 0 f g=f:=funext fun t=>by unfold midF;rw[if_neg (by omega)]
           rw [hf0] at h;have hset:ks.set i (.row e' sz 0 z f)=ks:=by
            apply cx;intro j;rw[oq];by_cases hj:i=j
            ·subst hj;rw[if_pos rfl,if_pos (pq.1 hk).1,hk]
            ·rw[if_neg hj]
           rw [hset] at h;exact fin _ _ (jv8 hu0 hi hsz hS.src) (Went.refl hM) h
          |row _ _ _ _ _ vs fz hfp h8=>rw [hnil] at h8;cases h8
        ·cases h
       ·cases h
      ·rename_i i lo m hx;rw [hx] at hv;rw [qs] at h;split at h
       ·rename_i e' sz m' z f hg;have hk:=qk hg (by simp);split at h
        ·rename_i hb1;have hb1:=qv hb1;subst hb1;obtain⟨⟨hkm,hlm⟩,h⟩:=h;rw [jp] at h;generalize a.eval d=av at hv fin;cases hv with
         |row _ _ _ off L hL hnil h3 h4 =>
          have hat:=hM.at hk (by simp) hL;cases hat with
          |rowNil _ _ _ _ _ hnil'=>rw [hnil] at hnil';cases hnil'
          |row _ _ _ _ _ vs fz hfp h8 hLs hLn hzz hb hfz hvs hng hfl hr h1 =>
           obtain⟨w',r1,r2⟩:=yr4 (P:=P) (ty:=o.type) (off:=off) hM hu0 hi hsz hk hL hnil hS hkm hlm (L.c - lo) (fun hp=>by rw[h4 (.inl (by omega)),hLs]);exact fin _ _ r1 r2 h
         |rowNil _ L hL hnil =>
          have hk0:k=0:=by omega
          subst hk0;have hf0:midF 0 0 f g=f:=funext fun t=>by unfold midF;rw[if_neg (by omega)]
          rw [hf0] at h;have hset:ks.set i (.row e' sz m' z f)=ks:=by
           apply cx;intro j;rw[oq];by_cases hj:i=j
           ·subst hj;rw[if_pos rfl,if_pos (pq.1 hk).1,hk]
           ·rw[if_neg hj]
          rw [hset] at h;exact fin _ _ (jv8 hu0 hi hsz hS.src) (Went.refl hM) h
        ·cases h
       ·cases h
      ·rename_i i off m c hx;rw [hx] at hv;split at h
       ·rw [qs] at h;split at h
        ·rename_i t l hg;have hk:=qk hg (by simp);split at h
         ·rename_i hb1;rw [y9] at hb1;have hb1:=jr hb1;obtain⟨hkm,h⟩:=h;rw [qa3,qa1] at h;obtain⟨r',h,hl',hr'⟩:=ya6 h;rw [qj1,jp] at h;generalize a.eval d=av at hv fin;cases hv with
          |cs _ _ _ _ L hL hnc =>
           have hat:=hM.at hk (by simp) hL;cases hat with
           |cells _ _ vs hfp hblk hlen hd h1 =>
            have hus:=hS.src.newsLen;rw [Nat.mul_one] at hus;have hin:off+us.length<=vs.size:=by omega
            have hrun:=jw7 (P:=P) (ty:=o.type) (c:=c) hu0 hi hsz hS.src hkm hblk hin (fun o ho hh=>by simp at hh);have hrl:r'.length=m:=by
             rw[hl'];simp;omega
            have hW:=hM.store (l':=putCells l off r') (vs':=je vs off us) hk hL hfp hblk (by rw[qp8,ku,hlen]) (fun j s u hs hu=>?_) (fun j u hu=>?_)
            ·exact fin _ _ hrun hW h
            ·rw [xh _ _ _ _ hin] at hu;rw [qx3 _ _ _ _ (by omega)] at hs;by_cases hj:off<=j/\j<off+r'.length
             ·rw [if_pos hj] at hs;obtain⟨k1,a1,b1,e1,e2,e3⟩:=hr' (j - off) s hs;rw [ox] at e1 e3;rw[e3];by_cases hjk:j - off<k
              ·rw[if_pos hjk];rw [if_pos (by omega)] at hu;exact .d (hS.rd (j - off) 0 _ u hjk (by rw[e1];rfl) (by rw[Nat.mul_one,du];exact hu))
              ·rw[if_neg hjk];rw [if_neg (by omega)] at hu;rw [mu] at e2;split at e2
               ·rw [lq] at e2;exact hd j _ u (by rw[<-e2];congr 1;omega) hu
               ·cases e2
             ·rw [if_neg hj] at hs;rw [if_neg (by omega)] at hu;exact hd j s u hs hu
            ·rw [xh _ _ _ _ hin] at hu;split at hu
             ·exact hS.src.one u (ov hu)
             ·exact h1 j u hu
         ·cases h
        ·cases h
       ·cases h
      ·cases h
     ·cases h
    ·cases h
   ·cases h
  ·cases h
 ·cases h
theorem zq4[Dr]{w:World}{b:Nat}{vs:Array Value}{e:TypeId}{fz:Nat × Nat}(h:w.heap[b]? = some (.cells vs e fz))(n:Nat)(hn:n≠0) :
 ∃ o,w.freeze ⟨b,0,none⟩ n=World.setBlock w b o:=by
 obtain⟨lo,hi⟩:=fz;refine⟨.cells vs e (if lo == hi then (0,0+n) else (min lo 0,max hi (0+n))),?_⟩;unfold World.freeze World.setBlock;rw[if_neg hn];congr 1;apply rn;intro j;have hb:b<w.heap.size:=jo h;rw[dq,f6];by_cases e1:b=j
 ·subst e1;rw[if_pos rfl,if_pos rfl,if_pos hb,h];rfl
 ·rw[if_neg e1,if_neg e1]
theorem zl9[Dr]{n:Nat}{f:Nat->List DV}(h:yz6 n f)(j:Nat)(x:UInt8)(hx:(yb n f)[j]? = some x):j<n/\f j=[.int .u8 (x.toNat:Int)]:=by
 obtain⟨h1,y,h2,h3⟩:=qx6 (fun i hi=>by obtain⟨x,hx⟩:=h i hi;exact⟨_,hx⟩) j x hx;obtain⟨z,hz⟩:=h j h1;rw [h2] at hz;injection hz with hz1 _
 injection hz1 with _ hz2
 refine⟨h1,?_⟩;rw[h2,hz2];rw [hz2] at h3;have:z=x:=by rw[<-h3];simp
 rw[this]
theorem zc3[Dr](hTT:TTok P TT){args:Array Operand}{argTypes:Array TypeId}(ho:o.op = .call ⟨.builtin .unsafeString,args,argTypes⟩)(h:mev TT ts ks (.call ⟨.builtin .unsafeString,args,argTypes⟩) K)(hM:Mem X w β fp ks)(hT:∀ x,Den w (Mx X fp) β (val ts x) (a.eval x))(hn:zp X w β fp a o K next):o.wpIn (ql r) n P a w next Q:=by
 have hnd:∀ c,o.op≠.defer c:=fun c hc=>by rw [ho] at hc;cases hc
 obtain⟨args⟩:=args;obtain⟨argTypes⟩:=argTypes;simp only [mev] at h;split at h
 ·rename_i p m pt it;rw [qm] at h;split at h
  ·rename_i c hm;have hvm:=hT m;rw [hm] at hvm;have em:=ja hvm;rw [qm] at h;have hv:=hT p;split at h
   ·rename_i hp;rw [hp] at hv;have ep:a.eval p = .pointer none:=by
     generalize a.eval p=av at hv;cases hv;rfl
    obtain⟨hc,h⟩:=h;subst hc;refine jz hnd ?_ (hn _ _ _ _ _ _ h (Went.refl hM) (.d (.str [])));simp[execOp,ho,resolve,invoke,builtin,ep,em,Lib.run_unsafeString_none,strV];rfl
   ·rename_i i hp;rw [hp] at hv;split at h
    ·rename_i _ _ _ _ e _ ht;split at h
     ·rename_i _ _ _ _ _ hte;rw [qs] at h;split at h
      ·rename_i e' k z f hg;split at h
       ·rename_i hee;have hee:e'=e:=bq hee;subst hee;obtain⟨⟨hc,h63,hoct⟩,h⟩:=h;rw [jp] at h;obtain⟨info0,d0,z0',hi0,hu0,_,_,_,_,_,_,_,_,hd0⟩:=qi hTT ht;cases hd0;obtain⟨info,de,z0,hi,hue,hsz,_⟩:=qi hTT hte;simp only at hsz;have hki:=qk hg (by simp);have hil:i<ks.length:=(pq.1 hki).1;generalize hav:a.eval p=av at hv;cases hv with
        |rptr _ _ _ _ L hL hj =>
         have hb:=hM.at hki (by simp) hL;cases hb with
         |rowNil _ _ _ _ _ _ hc0 hn0=>omega
         |row _ _ _ _ _ vs fz hfp hnil hLs hLn hzz hb hfz hvs hng hfl hr h1 =>
          have hk0:k≠0:=by omega
          have hlen:(yb k f).length=k:=by simp[yb]
          have hcs:P.cellsOf e'=1:=by simp[Program.cellsOf,hi,hsz]
          have hshape:w.shape? L.b=some (e',vs.size):=by simp[World.shape?,hb]
          have hrun:=Lib.run_unsafeString_row (P:=P) (w:=w) pt it o.type e' hu0 hcs L.b vs.size hshape (yb k f) (by intro e0;rw [e0] at hlen;simp at hlen;omega) (by omega) (by omega) (fun j x hx=>by
           obtain⟨hjk,hfj⟩:=zl9 hoct j x hx;have hlt:j<vs.size:=by omega
           have hrj:=hr j 0 (.int .u8 (x.toNat:Int)) (vs[j]'hlt) hjk (by simp[hfj]) (by simp);have:=je5 hrj;have ea:((⟨L.b,0,none⟩:Addr).add j)=⟨L.b,j,none⟩:=by unfold Addr.add;split <;> simp_all
           rw[ea];simp[World.cell?,hb,hlt,this])
          rw [hlen] at hrun;obtain⟨ob,hob⟩:=zq4 hb k hk0;rw [hob] at hrun;have W1:=hM.set (.obj (fun _ _ _ _=>True)) ob hil hL hfp (.obj _ (fun _ _ _ _ _ _ _ _ _ _=>trivial) trivial);have W2:=W1.mem.gone [i];have hks:jm [i] (ks.set i (.obj (fun _ _ _ _=>True)))=ks.set i .gone:=by simp[jm,yr]
          rw [hks] at W2;have W:=W1.trans W2;refine jz hnd ?_ (hn _ _ _ _ _ _ h W (.d (.str _)));have e0:(0 * 1+0:Nat)=0:=rfl;rw [e0] at hav;subst hc;simp[execOp,ho,resolve,invoke,builtin,hav,em,hrun,strV]
       ·cases h
      ·cases h
     ·cases h
    ·cases h
   ·cases h
  ·cases h
 ·cases h
theorem yj1[Dr](hTT:TTok P TT)(h:mev TT ts ks o.op K)(hM:Mem X w β fp ks)(hT:∀ x,Den w (Mx X fp) β (val ts x) (a.eval x))(hn:zp X w β fp a o K next):o.wpIn (ql r) n P a w next Q:=by
 have hnd:∀ c,o.op≠.defer c:=fun c hc=>by rw [hc] at h;exact h
 cases ho:o.op with
 |alloc t =>
  rw [ho] at h;simp only [mev] at h;split at h
  ·cases h
  ·rename_i size bytes agg zero desc eqk ht;rw [xr,zx,ox] at h;obtain⟨info,d,z,hi,hu,hsz,_,hz,hag,hzl,hzs,hzd,hz1,_⟩:=qi hTT ht;have hW:=hM.newCells t zero z.cells hzl.symm (fun j s u a b=>hzd _ _ _ j s u a b) hz1;refine jz hnd ?_ (hn _ _ (.pointer (some ⟨w.heap.size,0,none⟩)) _ _ _ h hW (.ptr _ 0 (locB w.heap.size) (q8 _ _ _)));simp[execOp,ho,Instr.alloc,qp9 hi hz,newVar,newRow]
 |box t x =>
  rw [ho] at h;simp only [mev] at h;split at h
  ·cases h
  ·rename_i size bytes agg zero desc eqk ht;rw [qm] at h;obtain⟨h,hcells⟩:=ul (w:=w) (M:=Mx X fp) (β:=β) h;obtain⟨c1,c2,c3⟩:=hcells _ (hT x);split at h
   ·rw [xr,zx,ox] at h;have hW:=hM.newCells t (cellsOf (val ts x)) (a.eval x).cells c1 c2 (fun j u hu=>c3 u (s6 hu));refine jz hnd ?_ (hn _ _ (.pointer (some ⟨w.heap.size,0,none⟩)) _ _ _ h hW (.ptr _ 0 (locB w.heap.size) (q8 _ _ _)));simp[execOp,ho,Instr.box,newVar,newRow]
   ·cases h
 |store t x y=>rw [ho] at h;exact zx5 hTT ho h hM hT hn
 |buildSlice t l ps=>rw [ho] at h;exact zd3 hTT ho h hM hT hn
 |makeSlice t x y=>rw [ho] at h;exact zf1 hTT ho h hM hT hn
 |makeMap t x=>rw [ho] at h;exact zk0 hTT ho h hM hT hn
 |mapUpdate t x y z=>rw [ho] at h;exact zf0 hTT ho h hM hT hn
 |convert s d x=>rw [ho] at h;exact zk1 hTT ho h hM hT hn
 |call c =>
  obtain⟨callee,args,argTypes⟩:=c;rw [ho] at h;cases callee with
  |builtin b=>cases b <;> first|exact zp8 hTT ho h hM hT hn|exact zp7 hTT ho h hM hT hn|exact xf8 hTT ho h hM hT hn|exact zx6 hTT ho h hM hT hn|exact zc3 hTT ho h hM hT hn|exact h.elim
  |value g=>exact h.elim
  |invoke r m=>exact h.elim
 |_=>rw [ho] at h;exact h.elim
end
end
section
section
variable{X:Nat->Prop}{w:World}{β:Env}{fp:Nat->Nat->Prop}{ks:List KB}
theorem Mem.know[Dr](h:Mem X w β fp ks){i:Nat}{L:Loc}(k:KB)(hi:i<ks.length)(hL:β i=some L)(hk:KBat w (Mx X fp) β L (fp i) k):Went X w β fp w β fp (ks.set i k):=by
 refine h.go (Step.refl _ _) (Ext.refl _) (fun j b hb=>.inl ⟨j,hb⟩) h.dis h.kw (fun j hj=>h.kl j (by simpa using hj)) (h.ka_set hL k) h.kn (fun j L' k' hk' hne hL'=>?_);rw [oq] at hk';by_cases e:i=j
 ·subst e;rw [if_pos rfl,if_pos hi] at hk';cases hk';obtain rfl:L=L':=p7 (hL.symm.trans hL');exact .inr hk
 ·rw [if_neg e] at hk';exact .inl ⟨hk',hL',rfl,fun _ _=>rfl⟩
theorem Mem.unknown[Dr](h:Mem X w β fp ks){i:Nat}{k:KB}(hb:β i=none)(hk:∀ t dom cols,k≠.arena t dom cols):Went X w β fp w β fp (ks.set i k):=by
 refine h.go (Step.refl _ _) (Ext.refl _) (fun j b hb=>.inl ⟨j,hb⟩) h.dis h.kw (fun j hj=>h.kl j (by simpa using hj)) (fun j t dom cols hj=>?_) h.kn (fun j L' k' hk' hne hL'=>?_)
 ·rw [oq] at hj;by_cases e:i=j
  ·subst e;rw [if_pos rfl] at hj;split at hj
   ·exact absurd (p7 hj) (hk t dom cols)
   ·cases hj
  ·rw [if_neg e] at hj;exact h.ka j t dom cols hj
 ·rw [oq] at hk';by_cases e:i=j
  ·subst e;rw [hb] at hL';cases hL'
  ·rw [if_neg e] at hk';exact .inl ⟨hk',hL',rfl,fun _ _=>rfl⟩
theorem yi5(l:List (List DV × List SV))(key:List DV)(z:List SV)(i:Nat):(idxM l key i=none/\opnM l key z=(l++[(key,z)],z,l.length))\/∃ j p,idxM l key i=some (i+j)/\l[j]? = some p/\jg key p.1=true/\opnM l key z=(l,p.2,j):=by
 induction l generalizing i with
 |nil=>exact .inl ⟨rfl,rfl⟩
 |cons p l ih =>
  obtain⟨k,v⟩:=p;by_cases h:jg key k=true
  ·exact .inr ⟨0,(k,v),by simp[idxM,h],rfl,h,by simp[opnM,h]⟩
  ·rcases ih (i+1) with⟨a,b⟩|⟨j,p,a,b,c,d⟩
   ·exact .inl ⟨by simp[idxM,h,a],by simp[opnM,h,b]⟩
   ·exact .inr ⟨j+1,p,by simp[idxM,h,a];omega,by simpa using b,c,by simp[opnM,h,d]⟩
theorem jq2[Dr]:∀ (l:List (List DV × List SV)) (q:Nat) (vs:List SV),putQ l q vs=l.set q (((l[q]?).map (·.1)).getD [],vs)
 |[],_,_=>rfl
 |(k,_) :: l,0,vs=>rfl
 |p :: l,q+1,vs=>by simp[putQ,jq2 l q vs]
theorem jq1[Dr]:∀ (l:List (List DV × Nat × (Nat->List DV))) (q n:Nat) (f:Nat->List DV),putR l q n f=l.set q (((l[q]?).map (·.1)).getD [],n,f)
 |[],_,_,_=>rfl
 |(k,_) :: l,0,n,f=>rfl
 |p :: l,q+1,n,f=>by simp[putR,jq1 l q n f]
theorem yl9{es:Array MapEntry}{clock q:Nat}{e:MapEntry}(h:Born es clock)(hq:es[q]? = some e):es.findIdx? (fun x=>(x.born:Int) == (e.born:Int))=some q:=by
 rw[Array.findIdx?_eq_some_iff_getElem];obtain⟨hlt,he⟩:=m7.1 hq;refine⟨hlt,by simp[he],fun j hj=>?_⟩;have hjl:j<es.size:=by omega
 simp only[mw,c6,mq,ne_eq];intro hb;have:=h.un j q es[j] e (oz hjl) hq (by omega);omega
theorem w8{n q j:Nat}{s:Int}:Mine n (.opn q s) j↔j<n/\j≠q:=Iff.rfl
theorem kx{n j:Nat}:Mine n .free j↔j<n:=Iff.rfl
theorem Mem.takeRow[Dr](h:Mem X w β fp ks){b:Nat}{L:Loc}{eks:List EK}{ka:Bool}{e:TypeId}{sz:Nat}{l:List (List DV × Nat × (Nat->List DV))}(hkb:ks[b]? = some (.mapr eks ka e sz l .free))(hL:β b=some L){j:Nat}{p:List DV × Nat × (Nat->List DV)}(hj:l[j]? = some p)
 {es:Array MapEntry} {clock:Nat} (hm:w.heap[L.b]? = some (.map es clock)) {en:MapEntry} (hen:es[j]? = some en) :
 ∃ (L':Loc) (fp':Nat->Nat->Prop),(en.val = .slice (some ⟨L'.b,0,none⟩) L'.n L'.c/\L'.nil=false)/\Went X w β fp w (upd β ks.length (some L')) fp' (ks.set b (.mapr eks ka e sz l (.opn j en.born))++[.row e sz p.2.1 .no p.2.2]):=by
 have hbl:b<ks.length:=(pq.1 hkb).1;have hn:=h.kl ks.length (pr _);have hat:=h.at hkb (by simp) hL;cases hat with
 |mapr _ _ _ _ _ _ es' clock' bl cp h0 h1 h2 h3 h4 h5 h6 h7 h8 =>
  rw [h1] at hm;cases hm;have hjl:j<es.size:=(m7.1 hen).1;obtain⟨hval,hrow⟩:=h4 j p en hj hen hjl;let L':Loc:=⟨bl j,p.2.1,cp j,sz,false⟩;obtain⟨fp',hfp'⟩:∃ fp':Nat->Nat->Prop,fp'=fun i x=>(i=b/\fp b x/\x≠bl j)\/(i=ks.length/\x=bl j)\/(i≠b/\i≠ks.length/\fp i x):=⟨_,rfl⟩
  have hbj:fp b (bl j):=(h0 _).2 (.inr ⟨j,hjl,rfl⟩);have hbn:b≠ks.length:=by omega
  have fb:∀ x,fp' b x↔fp b x/\x≠bl j:=fun x=>by
   rw[hfp'];constructor
   ·rintro (⟨_,a,c⟩|⟨a,_⟩|⟨a,_⟩)
    ·exact⟨a,c⟩
    ·exact absurd a hbn
    ·exact absurd rfl a
   ·exact fun a=>.inl ⟨rfl,a.1,a.2⟩
  have fn:∀ x,fp' ks.length x↔x=bl j:=fun x=>by
   rw[hfp'];constructor
   ·rintro (⟨a,_⟩|⟨_,a⟩|⟨_,a,_⟩)
    ·exact absurd a.symm hbn
    ·exact a
    ·exact absurd rfl a
   ·exact fun a=>.inr (.inl ⟨rfl,a⟩)
  have fo:∀ i,i≠b->i≠ks.length->fp' i=fp i:=fun i a c=>by
   funext x;rw[hfp'];apply propext;constructor
   ·rintro (⟨d,_⟩|⟨d,_⟩|⟨_,_,d⟩)
    ·exact absurd d a
    ·exact absurd d c
    ·exact d
   ·exact fun d=>.inr (.inr ⟨a,c,d⟩)
  have fi:∀ i x,fp' i x->∃ i0,fp i0 x/\(i0=i\/(i=ks.length/\i0=b)):=fun i x hx=>by
   rw [hfp'] at hx;rcases hx with⟨rfl,a,_⟩|⟨rfl,rfl⟩|⟨_,_,a⟩
   ·exact⟨_,a,.inl rfl⟩
   ·exact⟨b,hbj,.inr ⟨rfl,rfl⟩⟩
   ·exact⟨i,a,.inl rfl⟩
  have hM:∀ x,Mx X fp' x->Mx X fp x:=fun x hx=>hx.imp id (fun⟨i,hi⟩=>let ⟨i0,a,_⟩:=fi i x hi;⟨i0,a⟩)
  refine⟨L',fp',⟨hval,rfl⟩,h.go (Step.refl _ _) (vb L' hn) (fun i x hx=>.inl (let ⟨i0,a,_⟩:=fi i x hx;⟨i0,a⟩)) (fun i i' x hx hx'=>?_) (fun i x hx=>let ⟨i0,a,_⟩:=fi i x hx;h.kw i0 x a) (fun i hi=>?_) (fun i t dom cols hi=>?_) (fun i x hx=>?_) (fun i L1 k hk hne hL1=>?_)⟩
  ·obtain⟨i0,a,c⟩:=fi i x hx;obtain⟨i1,a',c'⟩:=fi i' x hx';have e1:=h.dis i0 i1 x a a';subst e1;rcases c with rfl|⟨rfl,rfl⟩ <;> rcases c' with rfl|⟨rfl,c'⟩
   ·rfl
   ·subst c';exact absurd ((fn x).1 hx') ((fb x).1 hx).2
   ·exact absurd ((fn x).1 hx) ((fb x).1 hx').2
   ·rfl
  ·have:i≠ks.length:=by simp at hi;omega
   rw[jk _ _ this];exact h.kl i (by simp at hi;omega)
  ·rw [List.getElem?_append] at hi;split at hi
   ·rw [oq] at hi;by_cases hbi:b=i
    ·subst hbi;rw [if_pos rfl,if_pos hbl] at hi;cases hi
    ·rw [if_neg hbi] at hi;obtain⟨L1,hL1⟩:=h.ka i t dom cols hi;exact⟨L1,vb L' hn i L1 hL1⟩
   ·rename_i hil;cases hq:i - (ks.set b (KB.mapr eks ka e sz l (MS.opn j en.born))).length with
    |zero=>rw [hq] at hi;simp at hi
    |succ q=>rw [hq] at hi;simp at hi
  ·obtain⟨i0,a,c⟩:=fi i x hx;rcases c with rfl|⟨rfl,rfl⟩
   ·obtain⟨L1,hL1⟩:=h.kn i0 x a;exact⟨L1,vb L' hn i0 L1 hL1⟩
   ·exact⟨L',q8 _ _ _⟩
  ·by_cases hil:i<ks.length
   ·rw [ot (by simpa using hil),oq] at hk;rw [jk _ _ (by omega)] at hL1;by_cases hib:b=i
    ·subst hib;rw [if_pos rfl,if_pos hil] at hk;cases hk;obtain rfl:L=L1:=p7 (hL.symm.trans hL1);refine .inr (.mapr eks ka e sz l (.opn j en.born) es clock bl cp (fun x=>?_) h1 h2 (fun q p' e' hp' he'=>(h3 q p' e' hp' he').keep (Step.refl _ _).keep (fun x _ hx=>hM x hx)) (fun q p' e' hp' he' hmn=>?_) (fun q q' hq hq'=>h5 q q' hq.1 hq'.1) (fun q hq=>h6 q hq.1) h7 ⟨en,hen,rfl⟩)
     ·rw[fb];constructor
      ·rintro ⟨a,c⟩
       rcases(h0 x).1 a with a|⟨q,hq,rfl⟩
       ·exact .inl a
       ·exact .inr ⟨q,⟨hq,fun e=>c (by rw[e])⟩,rfl⟩
      ·rintro (rfl|⟨q,hq,rfl⟩)
       ·exact⟨(h0 _).2 (.inl rfl),fun e=>h6 j hjl e.symm⟩
       ·exact⟨(h0 _).2 (.inr ⟨q,hq.1,rfl⟩),fun e=>hq.2 (h5 q j hq.1 hjl e)⟩
     ·obtain⟨a,c⟩:=h4 q p' e' hp' he' hmn.1;exact⟨a,c.keep (Step.refl _ _).keep (fun x _ hx=>hM x hx) rfl⟩
    ·rw [if_neg hib] at hk;exact .inl ⟨hk,hL1,fo i (fun e=>hib e.symm) (by omega),fun _ _=>rfl⟩
   ·have hil':i=ks.length:=by
     have:=(pq.1 hk).1;simp at this;omega
    subst hil';rw [o5 (by simp)] at hk;simp at hk;subst hk;rw [q8] at hL1;cases hL1;obtain⟨vs,fz,a1,a2,a3,a4,a5,a6,a7⟩:=hrow.ex;exact .inr (.row e sz p.2.1 .no p.2.2 vs fz (fun x=>fn x) rfl rfl rfl (fun e=>by cases e) a1 a2 a3 a4 a5 (fun k q d u x y z=>(a6 k q d u x y z).mono (Step.refl _ _) (fun x _ hx=>hM x hx)) a7)
theorem Mem.giveRow[Dr](h:Mem X w β fp ks){b j q:Nat}{s:Int}{L Lj:Loc}{eks:List EK}{ka:Bool}{e:TypeId}{sz n:Nat}{z:Z}{f:Nat->List DV}{l:List (List DV × Nat × (Nat->List DV))}(hkb:ks[b]? = some (.mapr eks ka e sz l (.opn q s)))(hL:β b=some L)(hkj:ks[j]? = some (.row e sz n z f))(hLj:β j=some Lj)(hnil:Lj.nil=false)
 {es:Array MapEntry} {clock:Nat} (hm:w.heap[L.b]? = some (.map es clock)) {en:MapEntry} (hen:es[q]? = some en) (hval:en.val = .slice (some ⟨Lj.b,0,none⟩) Lj.n Lj.c) :
 ∃ (fp':Nat->Nat->Prop),Went X w β fp w β fp' ((ks.set j .gone).set b (.mapr eks ka e sz (putR l q n f) .free)):=by
 have hbl:b<ks.length:=(pq.1 hkb).1;have hjl:j<ks.length:=(pq.1 hkj).1;have hjb:j≠b:=fun e=>by subst e;rw [hkb] at hkj;cases hkj
 have hat:=h.at hkb (by simp) hL;have haj:=h.at hkj (by simp) hLj;cases haj with
 |rowNil _ _ _ _ _ hnil'=>rw [hnil] at hnil';cases hnil'
 |row _ _ _ _ _ vs fz g0 _ g2 g3 g4 g5 g6 g7 g8 g9 g10 g11 =>
 cases hat with
 |mapr _ _ _ _ _ _ es' clock' bl cp h0 h1 h2 h3 h4 h5 h6 h7 h8 =>
  rw [h1] at hm;cases hm;have hql:q<es.size:=(m7.1 hen).1;have hqll:q<l.length:=by omega
  obtain⟨fp',hfp'⟩:∃ fp':Nat->Nat->Prop,fp'=fun i x=>(i=b/\(fp b x\/fp j x))\/(i≠b/\i≠j/\fp i x):=⟨_,rfl⟩
  have fb:∀ x,fp' b x↔fp b x\/x=Lj.b:=fun x=>by
   rw[hfp',<-g0];constructor
   ·rintro (⟨_,a⟩|⟨a,_⟩)
    ·exact a
    ·exact absurd rfl a
   ·exact fun a=>.inl ⟨rfl,a⟩
  have fo:∀ i,i≠b->i≠j->fp' i=fp i:=fun i a c=>by
   funext x;rw[hfp'];apply propext;constructor
   ·rintro (⟨d,_⟩|⟨_,_,d⟩)
    ·exact absurd d a
    ·exact d
   ·exact fun d=>.inr ⟨a,c,d⟩
  have fi:∀ i x,fp' i x->∃ i0,fp i0 x/\(i0=i\/(i=b/\i0=j))/\i≠j:=fun i x hx=>by
   rw [hfp'] at hx;rcases hx with⟨rfl,a|a⟩|⟨_,c,a⟩
   ·exact⟨_,a,.inl rfl,Ne.symm hjb⟩
   ·exact⟨j,a,.inr ⟨rfl,rfl⟩,Ne.symm hjb⟩
   ·exact⟨i,a,.inl rfl,c⟩
  have hM:∀ x,Mx X fp' x->Mx X fp x:=fun x hx=>hx.imp id (fun⟨i,hi⟩=>let ⟨i0,a,_⟩:=fi i x hi;⟨i0,a⟩)
  have hnew:∀ i,i<es.size->(upd bl q Lj.b) i=Lj.b->i=q:=fun i hi e=>by
   by_cases hiq:i=q
   ·exact hiq
   ·rw [jk _ _ hiq] at e;have h1:fp b (bl i):=(h0 _).2 (.inr ⟨i,⟨hi,hiq⟩,rfl⟩);exact absurd (h.dis b j _ (e ▸ h1) ((g0 _).2 rfl)) (Ne.symm hjb)
  have hput:∀ i p',(putR l q n f)[i]? = some p'->(i=q/\p'.2=(n,f)/\∃ p0,l[q]? = some p0/\p0.1=p'.1)\/(i≠q/\l[i]? = some p'):=fun i p' hp=>by
   rw [jq1,oq] at hp;by_cases e:q=i
   ·subst e;rw [if_pos rfl,if_pos hqll] at hp;cases hp;exact .inl ⟨rfl,rfl,_,pp hqll,by rw[pp hqll];rfl⟩
   ·rw [if_neg e] at hp;exact .inr ⟨fun e'=>e e'.symm,hp⟩
  refine⟨fp',h.go (Step.refl _ _) (Ext.refl _) (fun i x hx=>.inl (let ⟨i0,a,_⟩:=fi i x hx;⟨i0,a⟩)) (fun i i' x hx hx'=>?_) (fun i x hx=>let ⟨i0,a,_⟩:=fi i x hx;h.kw i0 x a) (fun i hi=>h.kl i (by simpa using hi)) (fun i t dom cols hi=>?_) (fun i x hx=>?_) (fun i L1 k hk hne hL1=>?_)⟩
  ·obtain⟨i0,a,c,d⟩:=fi i x hx;obtain⟨i1,a',c',d'⟩:=fi i' x hx';have e1:=h.dis i0 i1 x a a';subst e1;rcases c with rfl|⟨rfl,rfl⟩ <;> rcases c' with rfl|⟨rfl,c'⟩
   ·rfl
   ·exact absurd c' d
   ·exact absurd rfl d'
   ·rfl
  ·rw [oq] at hi;by_cases hbi:b=i
   ·subst hbi;rw [if_pos rfl,if_pos (by simpa using hbl)] at hi;cases hi
   ·rw [if_neg hbi,oq] at hi;by_cases hji:j=i
    ·subst hji;rw [if_pos rfl,if_pos hjl] at hi;cases hi
    ·rw [if_neg hji] at hi;exact h.ka i t dom cols hi
  ·obtain⟨i0,a,c,d⟩:=fi i x hx;rcases c with rfl|⟨rfl,rfl⟩
   ·exact h.kn i0 x a
   ·exact⟨L,hL⟩
  ·rw [oq] at hk;by_cases hib:b=i
   ·subst hib;rw [if_pos rfl,if_pos (by simpa using hbl)] at hk;cases hk;obtain rfl:L=L1:=p7 (hL.symm.trans hL1);refine .inr (.mapr eks ka e sz _ .free es clock (upd bl q Lj.b) (upd cp q Lj.c) (fun x=>?_) h1 (by rw[jq1];simpa using h2) (fun i p' e' hp' he'=>?_) (fun i p' e' hp' he' hmn=>?_) (fun i i' hi hi' hbb=>?_) (fun i hi=>?_) h7 trivial)
    ·rw[fb,h0];constructor
     ·rintro ((a|⟨i,hi,rfl⟩)|rfl)
      ·exact .inl a
      ·exact .inr ⟨i,hi.1,(jk _ _ hi.2).symm⟩
      ·exact .inr ⟨q,hql,(q8 _ _ _).symm⟩
     ·rintro (a|⟨i,hi,rfl⟩)
      ·exact .inl (.inl a)
      ·by_cases hiq:i=q
       ·subst hiq;exact .inr (q8 _ _ _)
       ·exact .inl (.inr ⟨i,⟨hi,hiq⟩,jk _ _ hiq⟩)
    ·have hkk:∃ p0,l[i]? = some p0/\p0.1=p'.1:=by
      rcases hput i p' hp' with⟨rfl,_,p0,a,c⟩|⟨_,a⟩
      ·exact⟨p0,a,c⟩
      ·exact⟨p',a,rfl⟩
     obtain⟨p0,a,c⟩:=hkk;rw[<-c];exact(h3 i p0 e' a he').keep (Step.refl _ _).keep (fun x _ hx=>hM x hx)
    ·rcases hput i p' hp' with⟨rfl,hp2,_⟩|⟨hiq,a⟩
     ·rw [hen] at he';cases he';rw[q8,q8,hp2];subst g2;exact⟨by rw[hval,g3],⟨vs,fz,g5,g6,g7,g8,g9,fun k j d u x y z=>(g10 k j d u x y z).mono (Step.refl _ _) (fun x _ hx=>hM x hx),g11⟩⟩
     ·rw[jk _ _ hiq,jk _ _ hiq];obtain⟨a1,a2⟩:=h4 i p' e' a he' ⟨hmn,hiq⟩;exact⟨a1,a2.keep (Step.refl _ _).keep (fun x _ hx=>hM x hx) rfl⟩
    ·by_cases e1:i=q <;> by_cases e2:i'=q
     ·rw[e1,e2]
     ·subst e1;rw [q8] at hbb;exact(hnew i' hi' hbb.symm).symm
     ·subst e2;rw [q8] at hbb;exact hnew i hi hbb
     ·rw [jk _ _ e1,jk _ _ e2] at hbb;exact h5 i i' ⟨hi,e1⟩ ⟨hi',e2⟩ hbb
    ·by_cases e1:i=q
     ·subst e1;rw[q8];intro e;have h1:fp b L.b:=(h0 _).2 (.inl rfl);exact hjb (h.dis j b _ ((g0 _).2 rfl) (e ▸ h1))
     ·rw[jk _ _ e1];exact h6 i ⟨hi,e1⟩
   ·rw [if_neg hib,oq] at hk;by_cases hij:j=i
    ·subst hij;rw [if_pos rfl,if_pos hjl] at hk;cases hk;exact absurd rfl hne
    ·rw [if_neg hij] at hk;exact .inl ⟨hk,hL1,fo i (fun e=>hib e.symm) (fun e=>hij e.symm),fun _ _=>rfl⟩
theorem yr2[Dr](sz:Nat):∀ (l:List (List DV × Nat × (Nat->List DV))) (j:Nat),(datR sz l)[j]? = (l[j]?).map fun p=>(p.1,[.d (.sl false p.2.1 sz p.2.2)])
 |[],_=>rfl
 |(k,n,f) :: l,0=>rfl
 |(k,n,f) :: l,j+1=>by simp[datR,yr2 sz l j]
theorem ya4[Dr](sz:Nat):∀ (l:List (List DV × Nat × (Nat->List DV))),(datR sz l).length=l.length
 |[]=>rfl
 |(k,n,f) :: l=>congrArg (· + 1) (ya4 sz l)
theorem Mem.rowsD[Dr](h:Mem X w β fp ks){b:Nat}{L:Loc}{eks:List EK}{ka:Bool}{e:TypeId}{sz:Nat}{l:List (List DV × Nat × (Nat->List DV))}(hkb:ks[b]? = some (.mapr eks ka e sz l .free))(hL:β b=some L) :
 ∃ (fp':Nat->Nat->Prop),Went X w β fp w β fp' (ks.set b (.mapx eks ka false (datR sz l) .free)):=by
 have hbl:b<ks.length:=(pq.1 hkb).1;have hat:=h.at hkb (by simp) hL;cases hat with
 |mapr _ _ _ _ _ _ es clock bl cp h0 h1 h2 h3 h4 h5 h6 h7 h8 =>
  obtain⟨fp',hfp'⟩:∃ fp':Nat->Nat->Prop,fp'=fun i x=>fp i x/\(i=b->x=L.b):=⟨_,rfl⟩
  have fi:∀ i x,fp' i x->fp i x:=fun i x hx=>by rw [hfp'] at hx;exact hx.1
  have fb:∀ x,fp' b x↔x=L.b:=fun x=>by
   rw[hfp'];exact⟨fun a=>a.2 rfl,fun a=>⟨(h0 x).2 (.inl a),fun _=>a⟩⟩
  have hM:∀ x,Mx X fp' x->Mx X fp x:=fun x hx=>hx.imp id (fun⟨i,hi⟩=>⟨i,fi i x hi⟩)
  refine⟨fp',h.go (Step.refl _ _) (Ext.refl _) (fun i x hx=>.inl ⟨i,fi i x hx⟩) (fun i i' x hx hx'=>h.dis i i' x (fi i x hx) (fi i' x hx')) (fun i x hx=>h.kw i x (fi i x hx)) (fun i hi=>h.kl i (by simpa using hi)) (h.ka_set hL _) (fun i x hx=>h.kn i x (fi i x hx)) (fun i L1 k hk hne hL1=>?_)⟩;rw [oq] at hk;by_cases hib:b=i
  ·subst hib;rw [if_pos rfl,if_pos hbl] at hk;cases hk;obtain rfl:L=L1:=p7 (hL.symm.trans hL1);refine .inr (.mapx eks ka false _ .free es clock fb h1 (by rw[ya4];exact h2) (fun j p' en hp he=>?_) h7 trivial);rw [yr2] at hp;obtain⟨p,hp0,rfl⟩:=fw.1 hp;clear hp;have hp:=hp0;have hjl:j<es.size:=(m7.1 he).1;obtain⟨kc,a1,a2,a3,a4,a5,a6⟩:=(h3 j p en hp he).ex;obtain⟨hval,hrow⟩:=h4 j p en hp he hjl;obtain⟨vs,fz,b1,b2,b3,b4,b5,b6,b7⟩:=hrow.ex;have hbj:fp b (bl j):=(h0 _).2 (.inr ⟨j,hjl,rfl⟩);have hout:¬ Mx X fp' (bl j):=by
    rintro (hx|⟨i,hi⟩)
    ·exact h.xb b _ hbj hx
    ·have:=h.dis i b _ (fi i _ hi) hbj;subst this;exact h6 j hjl ((fb _).1 hi)
   have hsl:Rd w (Mx X fp') (.sl false p.2.1 sz p.2.2) en.val:=by
    rw[hval];have:=qn7 (M:=Mx X fp) (M':=Mx X fp') (L:=⟨bl j,p.2.1,cp j,sz,false⟩) b1 b3 b4 b5 b6 0 p.2.1 0 (cp j) (by omega) b4 (fun _=>by simp) hout hM;exact this.congr (fun i _=>by simp)
   exact⟨kc,[en.val],a1,rfl,a2,rfl,a3,a4,fun _=>rfl,a5,fun q d u hd hu=>(a6 q d u hd hu).mono (Step.refl _ _) (fun x _ hx=>hM x hx),fun q s u hs hu=>(by
    match q with
    |0=>simp at hs hu;subst hs hu;exact .d hsl
    |q+1=>simp at hs),fun u hu=>(by rw [lv.1 hu,hval];rfl)⟩
  ·rw [if_neg hib] at hk;refine .inl ⟨hk,hL1,?_,fun _ _=>rfl⟩;funext x;rw[hfp'];exact propext ⟨fun a=>a.1,fun a=>⟨a,fun e=>absurd e.symm hib⟩⟩
end
end
section
section
variable{P:Program}{TT:Nat->Option TI}{ts:List SV}{ks:List KB}{w:World}{X:Nat->Prop}{β:Env}{fp:Nat->Nat->Prop}{a:Act}{K:SV->List KB->Prop}{o:Oper}{r:Option Nat}{n:Nat}{next:Act->World->Prop}{Q:Exit->Act->World->Prop}
theorem Mem.setM[Dr](h:Mem X w β fp ks){i:Nat}{L:Loc}(k:KB)(o:Obj)(hi:i<ks.length)(hL:β i=some L)(hfp:fp i L.b)
 (hk:KBat (World.setBlock w L.b o) (Mx X fp) β L (fp i) k):Went X w β fp (World.setBlock w L.b o) β fp (ks.set i k):=by
 refine h.go (Step.setBlock w ⟨i,hfp⟩ o) (Ext.refl _) (fun j b hb=>.inl ⟨j,hb⟩) h.dis (fun j b hb=>by simpa[World.setBlock] using h.kw j b hb) (fun j hj=>h.kl j (by simpa using hj)) (h.ka_set hL k) h.kn (fun j L' k' hk' hne hL'=>?_);rw [oq] at hk';by_cases e:i=j
 ·subst e;rw [if_pos rfl,if_pos hi] at hk';cases hk';obtain rfl:L=L':=p7 (hL.symm.trans hL');exact .inr hk
 ·rw [if_neg e] at hk';exact .inl ⟨hk',hL',rfl,fun b hb=>x6 w L.b b o (fun eb=>e (h.dis i j b (eb ▸ hfp) hb))⟩
theorem jq6(l:List DV):mapD l=l.map .d:=by
 induction l with
 |nil=>rfl
 |cons a l ih=>simp[mapD,ih]
theorem yp7[Dr](l:List DV):l.length=(mapD l).length:=by simp[jq6]
theorem yr0{k:EK}{x:Value}(h:fits k x):x.oneCell'=true:=by
 cases k <;> cases x <;> first|rfl|exact h.elim
theorem js3{x:Operand}{b:Nat}(hx:val ts x = .map b)(hT:∀ x,Den w (Mx X fp) β (val ts x) (a.eval x)):∃ L,a.eval x = .map (some L.b)/\β b=some L:=by
 have hm:=hT x;rw [hx] at hm;generalize a.eval x=av at hm;cases hm with
 |map _ L hL=>exact⟨L,rfl,hL⟩
theorem ja6{v:Value}{s:SV}{b:Nat}{w:World}{M:Nat->Prop}{β:Env}(h:Den w M β s v):Den w M β (.tup [s,.d (.int .i64 b)]) (.tuple #[v,goInt b]):=.tup _ [v,goInt b] rfl (fun j s' u hs hu=>by
 match j with
 |0=>simp at hs hu;subst hs hu;exact h
 |1=>simp at hs hu;subst hs hu;exact .d (.int _ _)
 |j+2=>simp at hs)
theorem yb6{agg:Bool}{vs:List SV}{c:SV->Prop}(h:k6 agg vs c)(ha:agg=false):vs.length=1:=by
 subst ha;simp only [k6] at h;split at h
 ·rfl
 ·cases h
theorem zg0[Dr](hTT:TTok P TT){t:TypeId}{m k:Operand}(ho:o.op = .mapEntry t m k)(h:sev TT ts ks (.mapEntry t m k) K)(hM:Mem X w β fp ks)(hT:∀ x,Den w (Mx X fp) β (val ts x) (a.eval x))(hn:zp X w β fp a o K next):o.wpIn (ql r) n P a w next Q:=by
 have hnd:∀ c,o.op≠.defer c:=fun c hc=>by rw [ho] at hc;cases hc
 simp only [sev] at h;split at h
 ·rename_i _ _ _ _ kt et _ ht;obtain⟨info0,d0,z0,hi0,hu0,_,_,_,_,_,_,_,_,hd0⟩:=qi hTT ht;cases hd0;split at h
  ·rename_i _ _ ka _ kd eqk _ _ ea zero _ _ hkt het;obtain⟨info,de,z,hi,hue,hsz,_,hz,hag,hzl,hzs,hzd,hz1,_⟩:=qi hTT het;simp only at hsz hzl hzs hzd hag;have hzz:=qp9 (P:=P) (w:=w) hi hz;have hzm:z=qr ea z.cells.toList:=(hTT _ _ het).zag info z hi hz;rw [qm] at h;obtain⟨hne,ds,h,hkey⟩:=ja1 (w:=w) (M:=Mx X fp) (β:=β) h;obtain⟨kc,ekc,hkl,hdl,hkf,hkr⟩:=hkey _ (hT k);have hK:=jb5 hTT hkt hne;have hka1:ka=false->kc.length=1:=fun e=>by
    subst e;rw[hkl];have hne':=hne;simp only [keks] at hne' ⊢;cases kd <;> first|rfl|exact absurd rfl hne'
   rw [qm] at h;split at h
   ·rename_i b hx;obtain⟨L,ev,hL⟩:=js3 hx hT;rw [qs] at h;split at h
    ·rename_i eks ka' ea' l hg;have hk:=qk hg (by simp);split at h
     ·rename_i q1 q2 q3;have q1:=qn2 q1;have q2:=uy q2;have q3:=uy q3;subst q1 q2 q3;obtain⟨l',vs,q,hop,h⟩:=h;have hone:=yb6 h;obtain⟨s0,hct,hden⟩:=qc8 (w:=w) (M:=Mx X fp) (β:=β) h;have hkb:=hM.at hk (by simp) hL;have hil:b<ks.length:=(pq.1 hk).1;cases hkb with
      |mapx _ _ _ _ _ es clock hfp hb hl hent hbo =>
       have hfind:=qh2 (P:=P) (w:=w) (M:=Mx X fp) (β:=β) hK hkl hdl hkf hkr l es.toList (by simpa using hl) (fun j p e hp he=>hent j p e hp (by simpa using he));have hchk:=hK.chk w false kc hkl hkf;have hst:∀ o',Step (Mx X fp) w (World.setBlock w L.b o'):=fun o'=>Step.setBlock w (.inr ⟨b,(hfp _).2 rfl⟩) o'
       have hent':∀ o' p e,EntAt w (Mx X fp) β (keks ka kd eqk) ka ea p e->EntAt (World.setBlock w L.b o') (Mx X fp) β (keks ka kd eqk) ka ea p e:=fun o' p e he=>he.keep (hst o').keep (fun _ _ e=>e) (Ext.refl _)
       have hset:∀ o',(setObj L.b o').run P w = .ok () (World.setBlock w L.b o'):=fun o'=>qc9 _ hb
       rcases ql2 l ds 0 with⟨b1,b2,_⟩|⟨j,p,b1,b2,b3,b4,_⟩
       ·rcases yi5 l ds zero 0 with⟨_,c2⟩|⟨j,p,c1,_⟩
        rotate_left
        ·rw [b1] at c1;cases c1
        rw [c2] at hop;cases hop;have hzl':zero.length=z.cells.toList.length:=by simpa using hzl.symm
        have hzd':∀ (q:Nat) (s:SV) (u:Value),zero[q]? = some s->z.cells.toList[q]? = some u->Den w (Mx X fp) β s u:=fun q s u hs hu=>hzd w (Mx X fp) β q s u hs (by simpa using hu)
        have hz1':∀ u ∈ z.cells.toList,u.oneCell'=true:=fun u hu=>by
         obtain⟨q,hq,rfl⟩:=o9.1 hu;exact hz1 q _ (by simp)
        have hv0:=hden z.cells.toList hzl' hzd' hz1';rw [<-hzm] at hv0;have hnew:EntAt w (Mx X fp) β (keks ka kd eqk) ka ea (ds,zero) ⟨qr ka kc,z,clock⟩:=⟨kc,z.cells.toList,rfl,hzm,hdl,hzl',hkl,hka1,fun e=>by rw[<-hzl',hone e],hkf,hkr,hzd',hz1'⟩;have hW:=hM.set (.mapx (keks ka kd eqk) ka ea (l++[(ds,zero)]) (.opn l.length clock)) (.map (es.push ⟨qr ka kc,z,clock⟩) (clock+1)) hil hL hfp (.mapx _ _ _ _ _ _ _ hfp (yf _ _ _ (jo hb)) (by simp[hl]) (fun j p e hp he=>hent' _ _ _ (by
         by_cases hj:j<l.length
         ·rw [ot hj] at hp;rw [s7 (by omega),<-oz] at he;exact hent j p e hp he
         ·have hj':j=l.length:=by
           have:=(pq.1 hp).1;simp at this;omega
          subst hj';rw [o5 (pr _)] at hp;rw [hl,sr] at he;simp at hp he;subst hp he;exact hnew)) (hbo.push _ _) ⟨_,by rw[hl];exact sr,rfl⟩)
        have hk1:=hct clock;rw [jp] at hk1;refine jz hnd ?_ (hn _ _ _ _ _ _ hk1 hW (ja6 (hW.den hv0)));rw [b1] at hfind;simp only [rp] at hfind;simp only[execOp,ho,ev,ekc,Instr.mapEntry,p6,run_underlying hu0,p9,zw hb,hchk,hfind,hzz,hset,oy]
       ·rcases yi5 l ds zero 0 with⟨c1,_⟩|⟨j',p',c1,c2,c3,c4⟩
        ·rw [b1] at c1;cases c1
        rw [b1] at c1;have hjj:j=j':=by have:=p7 c1;omega
        subst hjj;rw [b2] at c2;obtain rfl:=p7 c2;rw [c4] at hop;obtain⟨rfl,rfl,rfl⟩:l'=l/\vs=p.2/\q=j:=by cases hop;exact⟨rfl,rfl,rfl⟩
        have hlt:q<es.size:=by rw[<-hl];exact(pq.1 b2).1
        have hej:=oz hlt;obtain⟨kc',vc',a1,a2,a3,a4,a5,a6,a7,a8,a9,a10,a11⟩:=(hent q p es[q] b2 hej).ex;have hkk:kc=kc':=jk4 hkl a5 hkf a8 (by rw[qq0 hkl a5 hdl a3 hkf a8 hkr a9];exact b3);subst hkk;have hv0:=hden vc' a4 a10 a11;rw [<-a2] at hv0;have hmod:∀ (i:Nat) (e:MapEntry),(es.modify q fun e=>{ e with key:=qr ka kc })[i]? = some e->es[i]? = some e:=fun i e he=>by
         rw [dq] at he;by_cases hq:q=i
         ·subst hq;rw [if_pos rfl,hej] at he;simp only [o8,my] at he;rw[hej,<-he,<-a1]
         ·rw [if_neg hq] at he;exact he
        have hW:=hM.set (.mapx (keks ka kd eqk) ka ea l' (.opn q es[q].born)) (.map (es.modify q fun e=>{ e with key:=qr ka kc }) clock) hil hL hfp (.mapx _ _ _ _ _ _ _ hfp (yf _ _ _ (jo hb)) (by simp[hl]) (fun i p' e hp he=>hent' _ _ _ (hent i p' e hp (hmod i e he))) (hbo.modify _ _ (fun _=>rfl)) ⟨{ es[q] with key:=qr ka kc },by rw[dq,if_pos rfl,hej];rfl,rfl⟩);have hk1:=hct es[q].born;rw [jp] at hk1;refine jz hnd ?_ (hn _ _ _ _ _ _ hk1 hW (ja6 (hW.den hv0)));rw [b1] at hfind;have hej':es.toList[0+q]? = some es[q]:=by simp
        simp only [dp,hej',o8] at hfind;have hkeep:(Instr.keyThatStays es[q].key (qr ka kc)).run P w = .ok (qr ka kc) w:=by
         simp only[a1,Instr.keyThatStays,jh8 hkl hka1 hkf,if_true,oy]
        simp only[execOp,ho,ev,ekc,Instr.mapEntry,p6,run_underlying hu0,p9,zw hb,hchk,hfind,hkeep,hset,oy,ox,hej,o8,dz]
     ·cases h
    ·rename_i eks ka' e sz l hg;have hk:=qk hg (by simp);split at h
     ·have q1:=qn2 ‹ekEq (keks ka kd eqk) eks=true›;have q2:=uy ‹bEq ka ka'=true›;subst q1 q2;obtain⟨rr,hop,h⟩:=h;have hkb:=hM.at hk (by simp) hL;have hil:b<ks.length:=(pq.1 hk).1;cases hkb with
      |mapr _ _ _ _ _ _ es clock bl cp hfp hb hl hkey hval hu1 hu2 hbo =>
       have hent:=entR (w:=w) (M:=Mx X fp) (β:=β) hl hkey (fun j p en hp he=>⟨(_,_,_),(hval j p en hp he (hl ▸ (pq.1 hp).1)).1⟩);have hfind:=qh2 (P:=P) (w:=w) (M:=Mx X fp) (β:=β) hK hkl hdl hkf hkr (v7 l) es.toList (by simpa[v7] using hl) (fun j p e hp he=>hent j p e hp (by simpa using he));have hchk:=hK.chk w false kc hkl hkf;have hmine:fp b L.b:=(hfp _).2 (.inl rfl);have hst:∀ o',Step (Mx X fp) w (World.setBlock w L.b o'):=fun o'=>Step.setBlock w (.inr ⟨b,hmine⟩) o'
       have hkey':∀ o' p e,KeyAt w (Mx X fp) (keks ka kd eqk) ka p e->KeyAt (World.setBlock w L.b o') (Mx X fp) (keks ka kd eqk) ka p e:=fun o' p e he=>he.keep (hst o').keep (fun _ _ e=>e)
       have hnk:KeyAt w (Mx X fp) (keks ka kd eqk) ka ds (qr ka kc):=⟨kc,rfl,hdl,hkl,hka1,hkf,hkr⟩;have hset:∀ o',(setObj L.b o').run P w = .ok () (World.setBlock w L.b o'):=fun o'=>qc9 _ hb
       rcases yj8 l ds 0 with⟨b1,_,b2⟩|⟨j,p,b1,b2,b3,_,b4⟩
       ·rw [b2] at hop;subst hop;have hone:=yb6 h rfl;obtain⟨s0,h,hden⟩:=qc8 (w:=w) (M:=Mx X fp) (β:=β) h;have hv0:=hden z.cells.toList (by simpa using hzl.symm) (fun q s u hs hu=>hzd w (Mx X fp) β q s u hs (by simpa using hu)) (fun u hu=>by
         obtain⟨q,hq,rfl⟩:=o9.1 hu;exact hz1 q _ (by simp))
        rw [<-hzm] at hv0;have hk1:=h clock _ rfl;rw [jp] at hk1;have hW:=hM.setM (i:=b) (.mapr (keks ka kd eqk) ka e sz (l++[(ds,0,fun _=>[])]) (.opn l.length clock)) (.map (es.push ⟨qr ka kc,z,clock⟩) (clock+1)) hil hL hmine (.mapr _ _ _ _ _ _ (es.push ⟨qr ka kc,z,clock⟩) (clock+1) bl cp (fun x=>by
         rw[hfp];simp only[w8,kx,su,hl];constructor
         ·rintro (a|⟨j,hj,a⟩)
          ·exact .inl a
          ·exact .inr ⟨j,⟨by omega,by omega⟩,a⟩
         ·rintro (a|⟨j,hj,a⟩)
          ·exact .inl a
          ·exact .inr ⟨j,by omega,a⟩) (yf _ _ _ (jo hb)) (by simp[hl]) (fun j p e hp he=>hkey' _ _ _ (by
         by_cases hj:j<l.length
         ·rw [ot hj] at hp;rw [s7 (by omega),<-oz] at he;exact hkey j p e hp he
         ·have hj':j=l.length:=by
           have:=(pq.1 hp).1;simp at this;omega
          subst hj';rw [o5 (pr _)] at hp;rw [hl,sr] at he;simp at hp he;subst hp he;exact hnk)) (fun j p e hp he hm=>by
         simp only [w8,su,hl] at hm;have hj:j<l.length:=by omega
         rw [ot hj] at hp;rw [s7 (by omega),<-oz] at he;obtain⟨a1,a2⟩:=hval j p e hp he (by rw[kx];omega);exact⟨a1,a2.keep (hst _).keep (fun _ _ e=>e) (x6 w L.b _ _ (hu2 j (by rw[kx];omega)))⟩)
         (fun i j hi hj=>hu1 i j (by simp only [w8,kx,su,hl] at hi ⊢;omega) (by simp only [w8,kx,su,hl] at hj ⊢;omega)) (fun j hj=>hu2 j (by simp only [w8,kx,su,hl] at hj ⊢;omega)) (hbo.push _ _) ⟨_,by rw [hl];exact sr,rfl⟩)
        refine jz hnd ?_ (hn _ _ _ _ _ _ hk1 hW (ja6 (hW.den hv0)));rw [b1] at hfind;simp only [rp] at hfind;simp only[execOp,ho,ev,ekc,Instr.mapEntry,p6,run_underlying hu0,p9,zw hb,hchk,hfind,hzz,hset,oy]
       ·rw [b4] at hop;subst hop;rw [ox] at h;have hlt:j<es.size:=by rw[<-hl];exact(pq.1 b2).1
        have hej:=oz hlt;obtain⟨kc',a1,a3,a5,a6,a8,a9⟩:=(hkey j p es[j] b2 hej).ex;have hkk:kc=kc':=jk4 hkl a5 hkf a8 (by rw[qq0 hkl a5 hdl a3 hkf a8 hkr a9];exact b3);subst hkk;have hmod:∀ (i:Nat) (e:MapEntry),(es.modify j fun e=>{ e with key:=qr ka kc })[i]? = some e->es[i]? = some e:=fun i e he=>by
         rw [dq] at he;by_cases hq:j=i
         ·subst hq;rw [if_pos rfl,hej] at he;simp only [o8,my] at he;rw[hej,<-he,<-a1]
         ·rw [if_neg hq] at he;exact he
        have hmod':(es.modify j fun e=>{ e with key:=qr ka kc })[j]? = some es[j]:=by
         rw[dq,if_pos rfl,hej];simp only[o8,<-a1]
        have hW:=hM.setM (i:=b) (.mapr (keks ka kd eqk) ka e sz l .free) (.map (es.modify j fun e=>{ e with key:=qr ka kc }) clock) hil hL hmine (.mapr _ _ _ _ _ _ (es.modify j fun e=>{ e with key:=qr ka kc }) clock bl cp (fun x=>by
         rw[hfp];simp only[kx,Array.size_modify]) (yf _ _ _ (jo hb)) (by simp[hl]) (fun i p' e hp he=>hkey' _ _ _ (hkey i p' e hp (hmod i e he))) (fun i p' e hp he hm=>by
         simp only [kx,Array.size_modify] at hm;obtain⟨a1,a2⟩:=hval i p' e hp (hmod i e he) hm;exact⟨a1,a2.keep (hst _).keep (fun _ _ e=>e) (x6 w L.b _ _ (hu2 i hm))⟩)
         (fun i i' hi hi'=>hu1 i i' (by simpa[kx] using hi) (by simpa[kx] using hi')) (fun i hi=>hu2 i (by simpa[kx] using hi)) (hbo.modify _ _ (fun _=>rfl)) trivial)
        obtain⟨L',fp',⟨e1,e2⟩,hW2⟩:=hW.mem.takeRow (b:=b) (by rw[oq,if_pos rfl,if_pos hil]) hL b2 (yf _ _ _ (jo hb)) hmod';have hk1:=h es[j].born;rw [jp] at hk1;simp only [ky,xr,zx,ox,gn] at hk1;have hWW:=hW.trans hW2;simp only [gn] at hWW hW2;have hset2:(ks.set b (KB.mapr (keks ka kd eqk) ka e sz l MS.free)).set b (KB.mapr (keks ka kd eqk) ka e sz l (MS.opn j ↑es[j].born))=ks.set b (KB.mapr (keks ka kd eqk) ka e sz l (MS.opn j ↑es[j].born)):=List.set_set ..;rw [hset2] at hWW;refine jz hnd ?_ (hn _ _ _ _ _ _ hk1 hWW (ja6 (v:=es[j].val) (by rw[e1];exact .all _ L' (q8 _ _ _) e2)));rw [b1] at hfind;have hej':es.toList[0+j]? = some es[j]:=by simp
        simp only [dp,hej',o8] at hfind;have hkeep:(Instr.keyThatStays es[j].key (qr ka kc)).run P w = .ok (qr ka kc) w:=by
         simp only[a1,Instr.keyThatStays,jh8 hkl hka1 hkf,if_true,oy]
        simp only[execOp,ho,ev,ekc,Instr.mapEntry,p6,run_underlying hu0,p9,zw hb,hchk,hfind,hkeep,hset,oy,ox,hej,o8,dz]
     ·cases h
    ·cases h
   ·cases h
  ·cases h
 ·cases h
theorem zd1[Dr](hTT:TTok P TT){t:TypeId}{m s x:Operand}(ho:o.op = .entryStore t m s x)(h:sev TT ts ks (.entryStore t m s x) K)(hM:Mem X w β fp ks)(hT:∀ x,Den w (Mx X fp) β (val ts x) (a.eval x))(hn:zp X w β fp a o K next):o.wpIn (ql r) n P a w next Q:=by
 have hnd:∀ c,o.op≠.defer c:=fun c hc=>by rw [ho] at hc;cases hc
 simp only [sev] at h;split at h
 ·rename_i _ _ _ _ kt et _ ht;split at h
  ·rename_i size _ ea _ _ _ het;obtain⟨info,de,z,hi,hue,hsz,_,hz,hag,hzl,hzs,hzd,hz1,_⟩:=qi hTT het;simp only at hsz hzl hzs hzd hag;rw [qm,qm,qm] at h;split at h
   ·rename_i b sn hx hs;obtain⟨L,ev,hL⟩:=js3 hx hT;have hsv:=hT s;rw [hs] at hsv;have es0:=ja hsv;rw [qs] at h;split at h
    ·rename_i eks ka ea' l q s' hg;have hk:=qk hg (by simp);split at h
     ·have q3:=uy ‹bEq ea ea'=true›;subst q3;obtain⟨hss,h⟩:=h;subst hss;obtain⟨vs,h,hel⟩:=ye3 h;obtain⟨vc,evc,v1,v2,v3,v4⟩:=hel w (Mx X fp) β _ (hT x);split at h
      ·obtain⟨l',hl',h⟩:=h;subst hl';rw [jp] at h;have hkb:=hM.at hk (by simp) hL;have hil:b<ks.length:=(pq.1 hk).1;cases hkb with
       |mapx _ _ _ _ _ es clock hfp hb hl hent hbo hso =>
        obtain⟨en,hen,hbs⟩:=hso;have hqe:q<es.size:=(m7.1 hen).1;have hql:q<l.length:=by omega
        have hst:∀ o',Step (Mx X fp) w (World.setBlock w L.b o'):=fun o'=>Step.setBlock w (.inr ⟨b,(hfp _).2 rfl⟩) o'
        have hW:=hM.set (.mapx eks ka ea (putQ l q vs) .free) (.map (es.modify q fun e=>{ e with val:=a.eval x }) clock) hil hL hfp (.mapx _ _ _ _ _ _ _ hfp (yf _ _ _ (jo hb)) (by rw[jq2];simp[hl]) (fun i p' e hp he=>by
         refine EntAt.keep (w:=w) (M:=Mx X fp) (β:=β) ?_ (hst _).keep (fun _ _ e=>e) (Ext.refl _);rw [jq2,oq] at hp;rw [dq] at he;by_cases hq:q=i
         ·subst hq;rw [if_pos rfl,if_pos hql] at hp;rw [if_pos rfl,hen] at he;cases hp;simp only [o8,my] at he;subst he;obtain⟨kc,vc',a1,a2,a3,a4,a5,a6,a7,a8,a9,a10,a11⟩:=(hent q l[q] en (pp hql) hen).ex;exact⟨kc,vc,a1,evc,by rw[pp hql];exact a3,v1,a5,a6,v2,a8,by rw[pp hql];exact a9,v3,v4⟩
         ·rw [if_neg hq] at hp he;exact hent i p' e hp he) (hbo.modify _ _ (fun _=>rfl)) trivial)
        refine u5 hnd ?_ (hn _ _ _ _ _ _ h hW (.any _));have hfind:=yl9 hbo hen;rw [hbs] at hfind;have hset:∀ o',(setObj L.b o').run P w = .ok () (World.setBlock w L.b o'):=fun o'=>qc9 _ hb
        simp only[execOp,ho,ev,es0,Instr.entryStore,p6,zw hb,p9,asInt,asIntOf,oy,hfind,hset]
      ·cases h
     ·cases h
    ·rename_i eks ka e sz l q s' hg;have hk:=qk hg (by simp);split at h
     ·rename_i j hxv;rw [qs] at h;split at h
      ·rename_i e' sz' n0 z' f hgj;have hkj:=qk hgj (by simp);split at h
       ·rename_i hb1 hb2;have hb1:=qv hb1;have hb2:=qv hb2;subst hb1 hb2;obtain⟨⟨hss,hzz⟩,l',hl',h⟩:=h;subst hss hl';rw [jp,jp] at h;have hil:b<ks.length:=(pq.1 hk).1;have hjl:j<ks.length:=(pq.1 hkj).1;have hjb:j≠b:=fun e=>by subst e;rw [hk] at hkj;cases hkj
        have hxd:=hT x;rw [hxv] at hxd;have hval:∃ Lj,β j=some Lj/\Lj.nil=false/\a.eval x = .slice (some ⟨Lj.b,0,none⟩) Lj.n Lj.c:=by
         generalize a.eval x=av at hxd;cases hxd with
         |allNil _ L1 hL1 hnil =>
          have hat:=hM.at hkj (by simp) hL1;cases hat with
          |rowNil _ _ _ _ _ _ _ _ hzn=>exact absurd hzz (by
           rintro (h|h);· exact hzn h
           ·omega)
          |row _ _ _ _ _ vs fz _ hn'=>rw [hnil] at hn';cases hn'
         |all _ L1 hL1 hnil=>exact⟨L1,hL1,hnil,rfl⟩
        obtain⟨Lj,hLj,hnil,hav⟩:=hval;have hkb:=hM.at hk (by simp) hL;cases hkb with
        |mapr _ _ _ _ _ _ es clock bl cp hfp hb hl hkey hval' hu1 hu2 hbo hso =>
         obtain⟨en,hen,hbs⟩:=hso;have hqe:q<es.size:=(m7.1 hen).1;have hmine:fp b L.b:=(hfp _).2 (.inl rfl);have hst:∀ o',Step (Mx X fp) w (World.setBlock w L.b o'):=fun o'=>Step.setBlock w (.inr ⟨b,hmine⟩) o'
         have hmod:∀ (i:Nat) (e:MapEntry),(es.modify q fun e=>{ e with val:=a.eval x })[i]? = some e->∃ e0,es[i]? = some e0/\e.key=e0.key/\(i≠q->e=e0):=fun i e he=>by
          rw [dq] at he;by_cases hq:q=i
          ·rw [if_pos hq] at he;obtain⟨e0,h0,rfl⟩:=fw.1 he;exact⟨e0,h0,rfl,fun e=>absurd hq.symm e⟩
          ·rw [if_neg hq] at he;exact⟨e,he,rfl,fun _=>rfl⟩
         have hen':(es.modify q fun e=>{ e with val:=a.eval x })[q]? = some { en with val:=a.eval x }:=by
          rw[dq,if_pos rfl,hen];rfl
         have hW:=hM.setM (i:=b) (.mapr eks ka e' sz' l (.opn q sn)) (.map (es.modify q fun e=>{ e with val:=a.eval x }) clock) hil hL hmine (.mapr _ _ _ _ _ _ (es.modify q fun e=>{ e with val:=a.eval x }) clock bl cp (fun x=>by
          rw[hfp];simp only[w8,Array.size_modify]) (yf _ _ _ (jo hb)) (by simp[hl]) (fun i p' e hp he=>by
          obtain⟨e0,h0,h1,_⟩:=hmod i e he;rw[h1];exact(hkey i p' e0 hp h0).keep (hst _).keep (fun _ _ e=>e)) (fun i p' e hp he hm=>by
          simp only [w8,Array.size_modify] at hm;obtain⟨e0,h0,_,h2⟩:=hmod i e he;rw[h2 hm.2];obtain⟨a1,a2⟩:=hval' i p' e0 hp h0 (by rw[w8];exact hm);exact⟨a1,a2.keep (hst _).keep (fun _ _ e=>e) (x6 w L.b _ _ (hu2 i (by rw[w8];exact hm)))⟩)
          (fun i i' hi hi'=>hu1 i i' (by simpa[w8] using hi) (by simpa[w8] using hi')) (fun i hi=>hu2 i (by simpa[w8] using hi)) (hbo.modify _ _ (fun _=>rfl)) ⟨_,hen',hbs⟩)
         obtain⟨fp',hW2⟩:=hW.mem.giveRow (b:=b) (j:=j) (q:=q) (s:=sn) (by rw[oq,if_pos rfl,if_pos hil]) hL (by rw[oq,if_neg (Ne.symm hjb)];exact hkj) hLj hnil (yf _ _ _ (jo hb)) hen' hav;have hWW:=hW.trans hW2;have hset2:(((ks.set b (KB.mapr eks ka e' sz' l (.opn q sn))).set j .gone).set b (KB.mapr eks ka e' sz' (putR l q n0 f) MS.free))=(ks.set j .gone).set b (KB.mapr eks ka e' sz' (putR l q n0 f) MS.free):=by
          rw[List.set_comm _ _ (Ne.symm hjb),List.set_set]
         rw [hset2] at hWW;refine u5 hnd ?_ (hn _ _ _ _ _ _ h hWW (.any _));have hfind:=yl9 hbo hen;rw [hbs] at hfind;have hset:∀ o',(setObj L.b o').run P w = .ok () (World.setBlock w L.b o'):=fun o'=>qc9 _ hb
         simp only[execOp,ho,ev,es0,Instr.entryStore,p6,zw hb,p9,asInt,asIntOf,oy,hfind,hset]
       ·cases h
      ·cases h
     ·cases h
    ·cases h
   ·cases h
  ·cases h
 ·cases h
theorem zu3[Dr](hTT:TTok P TT){t:TypeId}{x:Operand}(ho:o.op = .range t x)(h:sev TT ts ks (.range t x) K)(hM:Mem X w β fp ks)(hT:∀ x,Den w (Mx X fp) β (val ts x) (a.eval x))(hn:zp X w β fp a o K next):o.wpIn (ql r) n P a w next Q:=by
 have hnd:∀ c,o.op≠.defer c:=fun c hc=>by rw [ho] at hc;cases hc
 simp only [sev] at h;split at h
 ·rename_i _ _ _ _ kt et _ ht;obtain⟨info0,d0,z0,hi0,hu0,_,_,_,_,_,_,_,_,hd0⟩:=qi hTT ht;cases hd0;rw [qm] at h;split at h
  ·rename_i b hx;obtain⟨L,ev,hL⟩:=js3 hx hT;rw [qs] at h;split at h
   ·rename_i eks ka ea l hg;have hk:=qk hg (by simp);have hil:b<ks.length:=(pq.1 hk).1;have hkb:=hM.at hk (by simp) hL;cases hkb with
    |mapx _ _ _ _ _ es clock hfp hb hl hent hbo =>
     have hbl:(es.toList.map (·.born)).length=l.length:=by simp[hl]
     have h:=h (es.toList.map (·.born)) clock _ hbl rfl;rw [jp,xr,zx,ox] at h;have hW:=hM.know (.mapx eks ka ea l (.born (es.toList.map (·.born)) clock)) hil hL (.mapx _ _ _ _ _ es clock hfp hb hl hent hbo ⟨rfl,rfl⟩);have hn0:=hW.mem.kl ks.length (by simp);have hbn:b≠ks.length:=by omega
     have hW2:=hW.mem.alloc (.mapIter (some L.b) clock #[] clock) (locB w.heap.size) (.iter b (es.toList.map (·.born)) clock (List.range l.length) (es.toList.map (·.born)).length) rfl (.iter b _ clock _ _ L #[] (fun x=>Iff.rfl) (by rw[gn,jk _ _ hbn];exact hL) (by show(w.heap.push _)[w.heap.size]? = _;simp) List.nodup_range (fun j hj=>by rw[hbl];exact lr.1 hj) (fun j bb hj=>by
      have:j<l.length:=by rw[<-hbl];exact(pq.1 hj).1
      simp[this]) (fun bb hb=>by
      have:=(pq.1 hb).1;omega))
     refine jz hnd ?_ (hn _ _ (.pointer (some ⟨w.heap.size,0,none⟩)) _ _ _ h (hW.trans hW2) (.ptr _ 0 (locB w.heap.size) (q8 _ _ _)));simp[execOp,ho,ev,Instr.range,run_underlying hu0,zw hb,newObj];rfl
   ·cases h
  ·cases h
 ·cases h
theorem xd8[Dr]{it:Operand}{str:Bool}(ho:o.op = .next it str)(h:sev TT ts ks (.next it str) K)(hM:Mem X w β fp ks)(hT:∀ x,Den w (Mx X fp) β (val ts x) (a.eval x))(hn:zp X w β fp a o K next):o.wpIn (ql r) n P a w next Q:=by
 have hnd:∀ c,o.op≠.defer c:=fun c hc=>by rw [ho] at hc;cases hc
 simp only [sev] at h;split at h
 ·cases h
 ·rw [qm] at h;split at h
  ·rename_i j hx;have hv:=hT it;rw [hx] at hv;rw [qs] at h;split at h
   ·rename_i i bs c rem _ hgj;have hkj:=qk hgj (by simp);rw [qs] at h;split at h
    ·rename_i eks ka ea l bs' c' hgi;have hki:=qk hgi (by simp);obtain⟨⟨rfl,rfl⟩,hstep,hover⟩:=h;have hjl:j<ks.length:=(pq.1 hkj).1;obtain⟨Lj,ev,hLj⟩:∃ Lj,a.eval it = .pointer (some ⟨Lj.b,0,none⟩)/\β j=some Lj:=by
      generalize a.eval it=av at hv;cases hv with
      |ptr _ _ L hL=>exact⟨L,rfl,hL⟩
     have haj:=hM.at hkj (by simp) hLj;cases haj with
     |iter _ _ _ _ _ Li seen g0 g1 g2 g3 g4 g5 g6 =>
     have hai:=hM.at hki (by simp) g1;cases hai with
     |mapx _ _ _ _ _ es clock hfp hb hl hent hbo hso =>
      obtain⟨hbs,hcc⟩:=hso;subst hbs;subst hcc;have hlt:∀ x ∈ es.toList,x.born<clock:=fun x hx=>by
       obtain⟨q,hq,rfl⟩:=o9.1 hx;exact hbo.lt q _ (by simp)
      have hlen:(es.toList.map (·.born)).length=es.size:=by simp
      have hget:∀ (q:Nat) (e:MapEntry),es[q]? = some e->(es.toList.map (·.born))[q]? = some e.born:=fun q e he=>by
       rw[o4,f7,he];rfl
      rcases run_next_at (P:=P) w o.type Lj.b Li.b clock clock seen es clock g2 hb hlt (pr _) with⟨h0,hrun⟩|⟨e,he,w1,hw1,hrun⟩
      ·have hrem:rem=[]:=by
        cases hr:rem with
        |nil=>rfl
        |cons q rest =>
         exfalso;have hq:=g4 q (by rw[hr];exact mz ..);rw [hlen] at hq;have hnot:¬ seen.contains es[q].born=true:=fun hc=>((g5 q _ (hget q _ (oz hq))).1 hc) (by rw[hr];exact mz ..)
         have:es[q] ∈ leftOf es seen:=by
          unfold leftOf;exact Array.mem_filter.2 ⟨Array.getElem_mem hq,by simpa using hnot⟩
         have h1:leftOf es seen = #[]:=Array.eq_empty_of_size_eq_zero h0;rw [h1] at this;simp at this
       refine jz hnd ?_ (hn _ _ (.tuple #[.bool false]) _ _ _ (hover hrem) (Went.refl hM) (.tup _ [.bool false] rfl (fun q s u hs hu=>by
        match q with
        |0=>simp at hs hu;subst hs hu;exact .d .ff
        |q+1=>simp at hs)))
       simp only[execOp,ho,ev,p6,hrun,p9,oy]
      ·unfold leftOf at he;obtain⟨hem,hns⟩:=Array.mem_filter.1 (gx.2 he);obtain⟨q,hq,rfl⟩:=Array.mem_iff_getElem.1 hem;have hqe:=oz hq;have hqr:q ∈ rem:=by
        by_cases hqr:q ∈ rem
        ·exact hqr
        ·have:=(g5 q _ (hget q _ hqe)).2 hqr;simp at hns this;exact absurd this hns
       obtain⟨kd,vd,hlq,hstep⟩:=hstep q hqr;obtain⟨kc,vc,a1,a2,a3,a4,a5,a6,a7,a8,a9,a10,a11⟩:=(hent q (kd,vd) es[q] hlq hqe).ex;obtain⟨kv,hstep,hkden⟩:=qc8 (w:=w) (M:=Mx X fp) (β:=β) hstep;obtain⟨vv,hstep,hvden⟩:=qc8 (w:=w) (M:=Mx X fp) (β:=β) hstep;have hkd:=hkden kc (by rw[<-yp7];exact a3) (fun q s u hs hu=>by
        rw [jq6,o4] at hs;obtain⟨d,hd,rfl⟩:=fw.1 hs;exact .d (a9 q d u hd hu)) (fun u hu=>by
        obtain⟨q,hq,rfl⟩:=o9.1 hu;exact yr0 (a8 q (eks[q]'(by omega)) _ (pp (by omega)) (pp hq)))
       have hvd:=hvden vc a4 a10 a11;rw [<-a1] at hkd;rw [<-a2] at hvd;have hst:=hstep _ rfl;rw [jp] at hst;have hM1:Went X w β fp w1 β fp ks:=by
        rcases hw1 with rfl|rfl
        ·exact Went.refl hM
        ·exact hM.drew
       have hb1:w1.heap=w.heap:=by rcases hw1 with rfl|rfl <;> rfl
       have hW:=hM1.mem.set (i:=j) (.iter i (es.toList.map (·.born)) clock (rem.erase q) q) (.mapIter (some Li.b) clock (seen.push es[q].born) clock) hjl hLj g0 (.iter i _ clock _ _ Li (seen.push es[q].born) g0 g1 (yf _ _ _ (by rw[hb1];exact jo g2)) (g3.erase _) (fun p hp=>g4 p (List.mem_of_mem_erase hp)) (fun p bb hp=>by
        rw [o4,f7] at hp;obtain⟨ep,hep,rfl⟩:=fw.1 hp;have hgp:=g5 p _ (hget p ep hep);rw[g3.mem_erase_iff];simp only [Array.contains_eq_mem,Array.mem_push,lx] at hgp ⊢;constructor
        ·rintro (hh|hh) ⟨h1,h2⟩
         ·exact hgp.1 hh h2
         ·exact h1 (hbo.un p q ep es[q] hep hqe hh)
        ·intro hh;by_cases hpq:p=q
         ·subst hpq;rw [hqe] at hep;cases hep;exact .inr rfl
         ·exact .inl (hgp.2 (fun h2=>hh ⟨hpq,h2⟩))) (fun bb hb=>by
        rw [hget q _ hqe] at hb;rw[Array.back?_push];exact hb))
       have hWW:=hM1.trans hW;refine jz hnd ?_ (hn _ _ (.tuple #[.bool true,es[q].key,es[q].val]) _ _ _ hst hWW (.tup _ [.bool true,es[q].key,es[q].val] rfl (fun p s u hs hu=>by
        match p with
        |0=>simp at hs hu;subst hs hu;exact .d .tt
        |1=>simp at hs hu;subst hs hu;exact hWW.den hkd
        |2=>simp at hs hu;subst hs hu;exact hWW.den hvd
        |p+3=>simp at hs)))
       simp only[execOp,ho,ev,p6,hrun,p9,oy]
       rfl
    ·cases h
   ·cases h
  ·cases h
theorem zi4{P:Program}{w:World}{b:Nat}{m:Option Nat}{s:Nat}{seen:Array Nat}{c:Nat}(h:w.heap[b]? = some (.mapIter m s seen c)):(getObj b).run P w = .ok (.mapIter m s seen c) w:=by
 simp[getObj,Sem.run,h]
theorem zu4[Dr]{it:Operand}(ho:o.op = .entry it)(h:sev TT ts ks (.entry it) K)(hM:Mem X w β fp ks)(hT:∀ x,Den w (Mx X fp) β (val ts x) (a.eval x))(hn:zp X w β fp a o K next):o.wpIn (ql r) n P a w next Q:=by
 have hnd:∀ c,o.op≠.defer c:=fun c hc=>by rw [ho] at hc;cases hc
 simp only [sev] at h;rw [qm] at h;split at h
 ·rename_i j hx;have hv:=hT it;rw [hx] at hv;rw [qs] at h;split at h
  ·rename_i i bs c rem lst hgj;have hkj:=qk hgj (by simp);rw [qs] at h;split at h
   ·rename_i eks ka ea l bs' c' hgi;have hki:=qk hgi (by simp);obtain⟨⟨rfl,rfl⟩,kd,vd,hlq,hstep⟩:=h;obtain⟨Lj,ev,hLj⟩:∃ Lj,a.eval it = .pointer (some ⟨Lj.b,0,none⟩)/\β j=some Lj:=by
     generalize a.eval it=av at hv;cases hv with
     |ptr _ _ L hL=>exact⟨L,rfl,hL⟩
    have haj:=hM.at hkj (by simp) hLj;cases haj with
    |iter _ _ _ _ _ Li seen g0 g1 g2 g3 g4 g5 g6 =>
    have hai:=hM.at hki (by simp) g1;cases hai with
    |mapx _ _ _ _ _ es clock hfp hb hl hent hbo hso =>
     obtain⟨hbs,hcc⟩:=hso;subst hbs;subst hcc;have hq:lst<es.size:=by rw[<-hl];exact(pq.1 hlq).1
     have hqe:=oz hq;have hback:=g6 es[lst].born (by rw[o4,f7,hqe];rfl);obtain⟨kc,vc,a1,a2,a3,a4,a5,a6,a7,a8,a9,a10,a11⟩:=(hent lst (kd,vd) es[lst] hlq hqe).ex;obtain⟨kv,hstep,hkden⟩:=qc8 (w:=w) (M:=Mx X fp) (β:=β) hstep;obtain⟨vv,hstep,hvden⟩:=qc8 (w:=w) (M:=Mx X fp) (β:=β) hstep;have hkd:=hkden kc (by rw[<-yp7];exact a3) (fun q s u hs hu=>by
      rw [jq6,o4] at hs;obtain⟨d,hd,rfl⟩:=fw.1 hs;exact .d (a9 q d u hd hu)) (fun u hu=>by
      obtain⟨q,hq,rfl⟩:=o9.1 hu;exact yr0 (a8 q (eks[q]'(by omega)) _ (pp (by omega)) (pp hq)))
     have hvd:=hvden vc a4 a10 a11;rw [<-a1] at hkd;rw [<-a2] at hvd;have hfind:Array.find? (fun x=>x.born == es[lst].born) es=some es[lst]:=by
      rw[Array.find?_eq_some_iff_getElem];refine⟨by simp,lst,hq,rfl,fun p hp=>?_⟩;have hpe:p<es.size:=by omega
      have hne:¬ es[p].born=es[lst].born:=fun e=>by
       have:=hbo.un p lst es[p] es[lst] (oz hpe) hqe e;omega
      simpa using hne
     refine jz hnd ?_ (hn _ _ (.tuple #[es[lst].key,es[lst].val]) _ _ _ hstep (Went.refl hM) (.tup _ [es[lst].key,es[lst].val] rfl (fun p s u hs hu=>by
      match p with
      |0=>simp at hs hu;subst hs hu;exact hkd
      |1=>simp at hs hu;subst hs hu;exact hvd
      |p+2=>simp at hs)))
     simp only[execOp,ho,ev,Instr.entry,p6,zi4 g2,zw hb,p9,hback,bne_self_eq_false,d6,if_false,hfind,oy]
   ·cases h
  ·cases h
 ·cases h
theorem yg9[Dr](hTT:TTok P TT)(h:sev TT ts ks o.op K)(hM:Mem X w β fp ks)(hT:∀ x,Den w (Mx X fp) β (val ts x) (a.eval x))(hn:zp X w β fp a o K next):o.wpIn (ql r) n P a w next Q:=by
 cases ho:o.op with
 |mapEntry t m k=>rw [ho] at h;exact zg0 hTT ho h hM hT hn
 |entryStore t m s x=>rw [ho] at h;exact zd1 hTT ho h hM hT hn
 |range t x=>rw [ho] at h;exact zu3 hTT ho h hM hT hn
 |next it str=>rw [ho] at h;exact xd8 ho h hM hT hn
 |entry it=>rw [ho] at h;exact zu4 ho h hM hT hn
 |_=>rw [ho] at h;exact h.elim
end
end
end Go.Eng
