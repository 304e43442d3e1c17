/-
  Part of the proof: lemmas about the functions that the row calls, and about the steps of a run. Conditions: those ahead of each lemma.
-/
import Derived.ChangeKeysEq
import Derived.ChangeArms
import Derived.OpenShut
import Derived.ReadAgain
import Derived.DataElems
import Derived.ProofKit
import Derived.ChangeSame
import Derived.Test.YtoefgnnkajhmiaaGreatDoorP3
import Derived.Test.YtoefgnnkajhmiaaGreatDoorP2
set_option linter.unusedVariables false
set_option linter.unusedSimpArgs false
set_option maxRecDepth 100000
set_option maxHeartbeats 64000000
namespace Go.Eng
open Go Go.RowKit
section
section
variable{P:Program}{X:Nat->Prop}{w:World}{β:Env}{fp:Nat->Nat->Prop}{ks:List KB}
theorem Mem.turn[Dr](h:Mem X w β fp ks){i:Nat}{L:Loc}{l:List SV}{ps:List Tmp}{asg body:Code}{st:RS}{r r':Loop}(hi:ks[i]? = some (.loop l ps asg body st))(hL:β i=some L)(hr:w.heap[L.b]? = some (.loop r))
 (e1:r'.tmps=r.tmps) (e2:r'.params=r.params) (e3:r'.assign=r.assign) (e4:r'.body=r.body) {k':KB} (hk':k' = .gone\/∃ st',k' = .loop l ps asg body st'/\RSok r' st') :
 Went X w β fp (World.setBlock w L.b (.loop r')) β fp (ks.set i k'):=by
 have hb:=h.kb i L _ hi sm hL;cases hb with
 |loop _ _ _ _ _ r0 h0 h1 h2 h3 h4 h5 h6 h7 =>
  rw [hr] at h1;cases h1;have hst:Step (λb=>∃ i,fp i b) w (World.setBlock w L.b (.loop r')):=Step.setBlock w ⟨i,(h0 _).2 rfl⟩ _;refine h.go hst (Ext.refl _) (λj b hb=>.inl ⟨j,hb⟩) h.dis (λj b hb=>by simpa[World.setBlock] using h.kw j b hb) (λj hj=>h.kl j (by simpa using hj)) h.kn (λj L' k hk hne hL'=>?_);rw [m5] at hk;split at hk
  ·rename_i e;subst e;split at hk
   ·cases hk;rw [hL] at hL';cases hL';rcases hk' with rfl|⟨st',rfl,hok⟩
    ·exact absurd rfl hne
    ·exact .inr (.loop l ps asg body st' r' h0 (xw w L.b _ (yp hr)) (by rw[e1];exact h2) (λj s u hs hu=>by
      rw [e1] at hu;exact(h3 j s u hs hu).mono (hst.mono (λ_ _ e=>.inr e)) (λ_ _ e=>e) (Ext.refl _)) (by rw[e2];exact h4) (by rw[e3];exact h5) (by rw[e4];exact h6) hok)
   ·cases hk
  ·rename_i hji;exact .inl ⟨hk,hL',rfl,λb hb=>qa6 w L.b b _ (λe=>hji (h.dis i j b ((h0 _).2 e) hb))⟩
theorem qq8{r:Loop}{l:Nat}(h:w.heap[l]? = some (.loop r)):(Instr.getLoop l).run P w = .ok r w:=by
 have:(getObj l).run P w = .ok (.loop r) w:=by simp[getObj,Sem.run,h]
 simp[Instr.getLoop,this]
theorem jj5{r:Loop}{l:Nat}(h:w.heap[l]? = some (.loop r))(o:Obj):(setObj l o).run P w = .ok () (World.setBlock w l o):=by
 simp[setObj,Sem.run,h,World.setBlock]
theorem zi6[Dr]{r:Loop}{l:Nat}(h:w.heap[l]? = some (.loop r))(hs:r.state = .ready):(Instr.beginRound l).run P w = .ok () (World.setBlock w l (.loop { r with state:=.busy })):=by
 simp[Instr.beginRound,qq8 h,jj5 h,hs]
theorem zl8[Dr]{r:Loop}{l:Nat}(h:w.heap[l]? = some (.loop r))(j:Option Code):(Instr.endRound l j).run P w = .ok (.bool j.isNone) (World.setBlock w l (.loop { r with state:=if j.isNone then .ready else .done,pending:=j })):=by
 simp[Instr.endRound,qq8 h,jj5 h]
theorem yc0[Dr]{r:Loop}{l:Nat}(h:w.heap[l]? = some (.loop r))(hs:r.state≠.busy):(Instr.endLoop l).run P w = .ok r.pending (World.setBlock w l (.loop { r with state:=.exhausted })):=by
 simp[Instr.endLoop,qq8 h,jj5 h,hs]
end
section
variable{P:Program}{TT:Nat->Option TI}{IN:Nat->Option Inl}
def RdOk(q rd:Option Nat)(β:Env):Prop :=
 match q with
 |none=>rd=none
 |some q=>∃ L,β q=some L/\rd=some L.b
def jw1[Dr](P:Program)(TT:Nat->Option TI)(IN:Nat->Option Inl)(m:Nat):Prop :=
 ∀ (B:Bs) (nb:Nb) (rd:Option Nat) (n:Nat) (Q:Exit->Act->World->Prop) (K:Exit->List SV->List KB->Prop),(∀ i,nb.n<=i->B.β0 i=none)->RdOk nb.rd rd B.β0 ->
  (∀ e ts ks a w β fp,K e ts ks->Sat B w β fp ts ks a->Q e a w) ->
  ∀ (stk:List It) (ts:List SV) (ks:List KB) (a:Act) (w:World) (β:Env) (fp:Nat->Nat->Prop),run P TT IN m nb stk ts ks K->qc3 stk->Sat B w β fp ts ks a ->
   E P rd n (λJ a w=>∃ ts ks β fp,J ts ks/\Sat B w β fp ts ks a) Q stk .normal a w
theorem yd6[Dr]{R:SV->Value->Prop}:∀ (ps:List Tmp) (l as:List SV) (T:Array Value) (vs:List Value) (k:List SV->Prop),jh2 l ps as k->as.length=vs.length->l.length=T.size ->
 (∀ (j:Nat) (s:SV) (u:Value),l[j]? = some s->T[j]? = some u->R s u)->(∀ (j:Nat) (s:SV) (u:Value),as[j]? = some s->vs[j]? = some u->R s u) ->
 ∃ l',k l'/\ps.length=vs.length/\l'.length=((ps.zip vs).foldl (λt x=>t.setIfInBounds x.1 x.2) T).size/\∀ (j:Nat) (s:SV) (u:Value),l'[j]? = some s->((ps.zip vs).foldl (λt x=>t.setIfInBounds x.1 x.2) T)[j]? = some u->R s u
 |[],l,[],T,[],k,h,_,h2,h3,_=>⟨l,h,rfl,h2,h3⟩
 |t :: ps,l,a :: as,T,v :: vs,k,h,h1,h2,h3,h4=>by
  simp only [jh2,vq,zw] at h;obtain⟨l',a1,a2,a3,a4⟩:=yd6 ps (l.set t a) as (T.setIfInBounds t v) vs k h (by simpa using h1) (by simpa using h2) (λj s u hs hu=>by
   rw [m5] at hs;rw [f5] at hu;split at hs
   ·rename_i e;rw [if_pos e] at hu;split at hs
    ·split at hu
     ·cases hs;cases hu;exact h4 0 a v rfl rfl
     ·cases hu
    ·cases hs
   ·rename_i e;rw [if_neg e] at hu;exact h3 j s u hs hu) (λj s u hs hu=>h4 (j+1) s u (by simpa using hs) (by simpa using hu))
  exact⟨l',a1,by simp[a2],a3,a4⟩
theorem zm0[Dr]{m:Nat}(IH:jw1 P TT IN m){X:Nat->Prop}{w:World}{β:Env}{fp:Nat->Nat->Prop}{ts:List SV}{ks:List KB}{a:Act}{rd:Option Nat}{n:Nat}{Q:Exit->Act->World->Prop}{o:Oper}{K:SV->List KB->Prop}{next:Act->World->Prop}
 {g:Operand} {args:Array Operand} {tys:Array TypeId} {i:Nat} (ho:o.op = .call ⟨.value g,args,tys⟩) (hv:Den w (Mx X fp) β (.yl i) (a.eval g)) (h:jt2 (run P TT IN m) i (vals ts args.toList) ks K) (hM:Mem X w β fp ks) (hT:∀ x,Den w (Mx X fp) β (val ts x) (a.eval x))
 (done:∀ (s:SV) (k1:List KB) (v:Value) (w':World) (β':Env) (fp':Nat->Nat->Prop),K s k1->Went X w β fp w' β' fp' k1->Den w' (Mx X fp') β' s v->next (a.put o.dst v) w'):o.wpIn (qm rd) n P a w next Q:=by
 obtain⟨L,hL,ev⟩:∃ L,β i=some L/\a.eval g = .func (.yield L.b) #[] #[]:=by
  generalize a.eval g=av at hv;cases hv with
  |yl _ L hL=>exact⟨L,hL,rfl⟩
 unfold jt2 at h;rw [jc] at h;split at h
 ·rename_i tc ps asg body st hg;split at h
  ·have hki:=qt hg sm;have hb:=hM.at hki sm hL;cases hb with
   |loop _ _ _ _ _ r h0 h1 h2 h3 h4 h5 h6 h7 =>
    obtain ⟨al,ad⟩:=qn1 (a:=a) hT args.toList [] [] rfl (λj s u hs=>by simp at hs);simp only [m6] at al ad;obtain⟨t1,h,p1,p2,p3⟩:=yd6 (R:=Den w (Mx X fp) β) ps tc _ r.tmps _ _ h al h2 h3 ad;rw [xe,o5] at h;refine⟨λ_ _=>trivial,?_⟩;rw[Oper.semAt_eq _ _ _ (by rw[ho];simp)];have hrun:(execOp a.eval o).run P w = .ok (.round L.b r.fn ((ps.zip (args.toList.map a.eval)).foldl (λt x=>t.setIfInBounds x.1 x.2) r.tmps) asg body) w:=by
     have hsz:¬ (#[]++args.map a.eval).size≠r.params.size:=by
      have:r.params.size=ps.length:=by rw[<-h4];simp
      rw[this,p1];simp
     have hf:(r.params.zip (#[]++args.map a.eval)).foldl (λtmps x=>match x with|(t,a)=>tmps.setIfInBounds t a) r.tmps=(ps.zip (args.toList.map a.eval)).foldl (λt x=>t.setIfInBounds x.1 x.2) r.tmps:=by
      rw[<-h4,<-sr];simp
     simp only[execOp,ho,resolve,ev,Deferred.ofValue,p8,o6,ot,invoke,Instr.yield,qq8 h1,hsz,if_false];rw[hf,h5,h6]
    rw[hrun,Oper.uponIn_round];refine ⟨λhsm=>by simp [qm,Fence.wide] at hsm,roundIn_of_wpIn trivial ?_⟩;have hS0:Sat ⟨X,w,β,fp⟩ w β fp t1 ks { tmps:=(ps.zip (args.toList.map a.eval)).foldl (λt x=>t.setIfInBounds x.1 x.2) r.tmps,defers:=[] }:=⟨Went.refl hM,Dfs.nil _ _ _,p2.symm,p3⟩;have:=IH ⟨X,w,β,fp⟩ ⟨ks.length,some i⟩ (some L.b) (n - 1) (Exit.then (λa₁ w₁=>∃ w₂,(Instr.beginRound L.b).run P w₁ = .ok () w₂/\body.wpIn (qm (some L.b)) (n - 1) P (roundPost P L.b λ
     | .returned v,w''=>next (a.put o.dst v) w''
     | .panicked chain,w''=>Q (.panic chain) a w''
     | .outgrown,_=>LetsOut Q) a₁ w₂) (λ_ _ _=>False)) _ hM.kl ⟨L,hL,rfl⟩ (λe t2 k2 a2 w2 β2 fp2 hK hS2=>by
     cases e with
     |normal =>
      have hK:q8 k2 i _:=hK;rw [jc] at hK;split at hK
      ·rename_i tc' ps' asg' body' st' hg2;split at hK
       ·rw [y8] at hK;have hki2:=qt hg2 sm;have hL2:=hS2.went.ext i L hL;have hb2:=hS2.went.mem.at hki2 sm hL2;cases hb2 with
        |loop _ _ _ _ _ r2 g0 g1 g2 g3 g4 g5 g6 g7 =>
         have hW:=hS2.went.mem.turn (r':={ r2 with state:=.busy }) hki2 hL2 g1 rfl rfl rfl rfl (.inr ⟨.busy,rfl,rfl⟩);refine⟨_,zi6 g1 g7.1,?_⟩;have:=IH ⟨X,w,β,fp⟩ ⟨ks.length,some i⟩ (some L.b) (n - 1) (roundPost P L.b λ
          | .returned v,w''=>next (a.put o.dst v) w''
          | .panicked chain,w''=>Q (.panic chain) a w''
          | .outgrown,_=>LetsOut Q) _ hM.kl ⟨L,hL,rfl⟩ (λe t4 k4 a4 w4 β4 fp4 hK hS4=>by
          have fin:∀ (j:Option Code) (st:RS) (s:SV),(∀ r:Loop,RSok { r with state:=if j.isNone then .ready else .done,pending:=j } st)->(∀ w M β,Den w M β s (.bool j.isNone))->toK k4 i st (λk5=>K s k5)->∃ v w',(Instr.endRound L.b j).run P w4 = .ok v w'/\next (a.put o.dst v) w':=λj st s hst hs hK=>by
           unfold toK at hK;rw [jc] at hK;split at hK
           ·rename_i tc5 ps5 asg5 body5 st5 hg4;rw [y8] at hK;have hki4:=qt hg4 sm;have hL4:=hS4.went.ext i L hL;have hb4:=hS4.went.mem.at hki4 sm hL4;cases hb4 with
            |loop _ _ _ _ _ r4 q0 q1 q2 q3 q4 q5 q6 q7 =>
             have hW5:=hS4.went.mem.turn (r':={ r4 with state:=if j.isNone then .ready else .done,pending:=j }) hki4 hL4 q1 rfl rfl rfl rfl (.inr ⟨st,rfl,hst r4⟩);exact⟨_,_,zl8 q1 j,done _ _ _ _ _ _ hK (hS4.went.trans hW5) (hs _ _ _)⟩
           ·exact hK.elim
          cases e with
          |normal=>exact fin none .ready (.d .tt) (λr=>⟨rfl,rfl⟩) (λ_ _ _=>.d .tt) hK
          |ret=>exact fin (some .ret) (.done .ret) (.d .ff) (λr=>⟨rfl,rfl⟩) (λ_ _ _=>.d .ff) hK
          |exit id=>exact fin (some (.exit id)) (.done (.exit id)) (.d .ff) (λr=>⟨rfl,rfl⟩) (λ_ _ _=>.d .ff) hK
          |_=>exact hK.elim) [.code body] _ _ _ _ _ _ hK trivial (hS2.on hW)
         exact wpIn_mono this (λe a' w' he=>he)
       all_goals exact hK.elim
      ·exact hK.elim
     |_=>exact hK.elim) [.code asg] _ _ _ _ _ _ h trivial hS0
    exact wpIn_mono this (λe a' w' he=>he)
  all_goals exact h.elim
 ·cases h
theorem Sat.lay[Dr]{B:Bs}{w:World}{β:Env}{fp:Nat->Nat->Prop}{ts:List SV}{ks:List KB}{a:Act}(hS:Sat B w β fp ts ks a)(r:Loop)(h1:r.tmps=a.tmps)(h2:r.state = .ready)(h3:r.pending=none) :
 Went B.X w β fp (w.alloc (.loop r)) (upd β ks.length (some (locB w.heap.size))) (updP fp ks.length (· = w.heap.size)) (ks++[.loop ts r.params.toList r.assign r.body .ready]):=by
 have hM:=hS.went.mem;have hn:=hM.kl ks.length (pu _);exact hM.alloc _ (locB w.heap.size) _ rfl (.loop ts _ _ _ .ready r (λx=>Iff.rfl) (by show(w.heap.push _)[w.heap.size]? = _;simp) (by rw[h1];exact hS.len.symm) (λj s u hs hu=>(hS.tm j s u hs (by rw[<-h1];exact hu)).mono (Step.alloc _ w _) (jt1 hM _) (qf7 _ hn)) rfl rfl rfl ⟨h2,h3⟩)
theorem Sat.mark[Dr]{B:Bs}{w:World}{β:Env}{fp:Nat->Nat->Prop}{ts:List SV}{ks:List KB}{a:Act}(hS:Sat B w β fp ts ks a) :
 Sat B (w.alloc (.deferred (some []))) β fp ts ks { a with defers:={ target:=.collected w.heap.size,args:=#[] } :: a.defers }:=by
 have hM:=hS.went.mem;have hS':=hS.on (hM.quiet (Step.alloc _ w (.deferred (some []))));refine⟨hS'.went,⟨λd hd=>?_,dw.2 ⟨λd hd r r' e1 e2=>?_,hS'.df.un⟩⟩,hS'.len,hS'.tm⟩
 ·rcases pz.1 hd with rfl|hd
  ·refine⟨w.heap.size,rfl,hS.went.st.size,by show(w.heap.push _)[w.heap.size]? = _;simp,?_⟩
   rintro (hx|⟨i,hi⟩)
   ·have:=hM.xa _ hx;omega
   ·have:=hM.kw i _ hi;omega
  ·exact hS'.df.marks d hd
 ·cases e1;obtain⟨q,e3,_,e4,_⟩:=hS.df.marks d hd;rw [e2] at e3;cases e3;have:=(gq.1 e4).1;omega
theorem yf6(w:World)(o:Obj):(newObj o).run P w = .ok w.heap.size (w.alloc o):=by
 simp[newObj,Sem.run]
theorem zw0[Dr]{B:Bs}{w:World}{β:Env}{fp:Nat->Nat->Prop}{ts:List SV}{ks:List KB}{a:Act}{nb:Nb}{rd:Option Nat}(hS:Sat B w β fp ts ks a)(hrd:RdOk nb.rd rd B.β0){K:Prop}(h:jv2 nb ks K)(fn:FuncId)(ps:Array Tmp)(asg body:Code) :
 K/\∃ (l:Nat) (mark:List Deferred) (w1:World) (L:Loc) (fp1:Nat->Nat->Prop),(Instr.enterLoop fn a.tmps ps asg body rd).run P w = .ok (l,mark) w1/\L.b=l /\
  Went B.X w β fp w1 (upd β ks.length (some L)) fp1 (ks++[.loop ts ps.toList asg body .ready])/\Sat B w1 (upd β ks.length (some L)) fp1 ts (ks++[.loop ts ps.toList asg body .ready]) { a with defers:=mark++a.defers }:=by
 unfold jv2 at h;split at h
 ·rename_i hq;rw [hq] at hrd;cases hrd;have hm:=hS.mark;have hW:=hm.lay { state:=.ready,pending:=none,fn:=fn,tmps:=a.tmps,params:=ps,assign:=asg,body:=body,defers:=w.heap.size } rfl rfl rfl;have hQ:=hS.went.mem.quiet (Step.alloc _ w (.deferred (some [])));refine⟨h,(w.alloc (.deferred (some []))).heap.size,[{ target:=.collected w.heap.size,args:=#[] }],_,locB (w.alloc (.deferred (some []))).heap.size,_,?_,rfl,hQ.trans hW,hm.on hW⟩;simp only[Instr.enterLoop,p8,yf6,ot,o6]
 ·rename_i q hq;rw [hq] at hrd;obtain⟨L,hL,rfl⟩:=hrd;rw [jc] at h;split at h
  ·rename_i t1 p1 a1 b1 s1 hg;have hb:=hS.went.mem.at (qt hg sm) sm (hS.went.ext q L hL);cases hb with
   |loop _ _ _ _ _ r h0 h1 h2 h3 h4 h5 h6 h7 =>
    have hW:=hS.lay { state:=.ready,pending:=none,fn:=fn,tmps:=a.tmps,params:=ps,assign:=asg,body:=body,defers:=r.defers } rfl rfl rfl;refine⟨h,w.heap.size,[],_,locB w.heap.size,_,?_,rfl,hW,hS.on hW⟩;simp only[Instr.enterLoop,p8,qq8 h1,yf6,ot,o6]
  ·cases h
theorem zq5[Dr](hTT:TTok P TT)(hIN:INok P IN){m:Nat}(IH:jw1 P TT IN m){B:Bs}{w:World}{β:Env}{fp:Nat->Nat->Prop}{ts:List SV}{ks:List KB}{a:Act}{rd:Option Nat}{n:Nat}{Q:Exit->Act->World->Prop}{o:Oper}{K:List SV->List KB->Prop}{next:Act->World->Prop}
 (h:qp5 P TT IN (run P TT IN m) o ts ks K) (hS:Sat B w β fp ts ks a) (hn:∀ ts' ks' a' w' β' fp',K ts' ks'->Sat B w' β' fp' ts' ks' a'->next a' w'):o.wpIn (qm rd) n P a w next Q:=by
 have hM:=hS.went.mem;have hT:=hS.val;have done:∀ (s:SV) (k1:List KB) (v:Value) (w':World) (β':Env) (fp':Nat->Nat->Prop),K (putT o.dst s ts) k1->Went B.X w β fp w' β' fp' k1->Den w' (Mx B.X fp') β' s v->next (a.put o.dst v) w':=λs k1 v w' β' fp' hk hW hd =>
  hn _ _ _ _ _ _ hk ((hS.on hW).put _ hd)
 unfold qp5 at h;split at h
 ·rename_i g args tys ho;rw [qq] at h;have hv:=hT g;split at h
  ·rename_i f caps hg;rw [hg] at hv;rw [qb2,qf9] at h;obtain⟨vs,ev,hl,hd⟩:=jc8 hv;split at h
   ·rename_i nargs extra results body hin;split at h
    ·rename_i hbeq;rw [zx] at hbeq;have hbeq:=jg hbeq;rw [qf9,xe,o5] at h;obtain⟨fn,hfn,hbody,hres,hnt,hent⟩:=hIN f _ hin;simp only at hbody hres hnt;obtain⟨al,ad⟩:=qn1 (a:=a) hT args.toList caps vs hl hd;refine qb6 ho ev hent (R:=λe w'=>∃ v,e = .returned v/\next (a.put o.dst v) w') ?_ (λe w' he=>he);refine(callsIn_wide (n:=0)).1 (callsIn_of_wp_marks hfn hbody trivial ?_ rfl);have hS0:=qs4 hM al ad (k:=extra) (m:=fn.ntmps) om;have:=IH ⟨B.X,w,β,fp⟩ ⟨ks.length,none⟩ none 0 (bodyPostM (qm none) 0 P fn (λe w'=>∃ v,e = .returned v/\next (a.put o.dst v) w')) _ hM.kl rfl (λe ts2 ks2 a2 w2 β2 fp2 hK hS2=>by
      have fin:resK TT ts2 ks2 results (λvs=>yb o.dst (retV vs) ts (λts'=>K ts' ks2))->LeavesInM (qm none) 0 P fn a2.tmps (λe w'=>∃ v,e = .returned v/\next (a.put o.dst v) w') a2.defers .returning w2:=λhK=>by
       refine qq6 (a:=a2) (λw3 hS3=>?_) a2.defers w2 hS2;rw [<-hres] at hK;obtain⟨ss,us,v,hc,e1,e3,hrun,_,hden⟩:=qq2 (P:=P) hTT hS3 hK;rw [x5] at hc;exact⟨v,hrun,v,rfl,done _ _ _ _ _ _ hc hS3.went hden⟩
      cases e with
      |normal=>exact fin hK
      |ret=>exact fin hK
      |_=>exact hK.elim) [.code body] _ _ _ _ _ _ h trivial hS0
     exact wpIn_mono this (λe a' w' he=>he)
    ·cases h
   ·refine zj1 hTT ho ev hl hd h hM hT (λs k1 v w' β' fp' hk hW hden=>?_);rw [x5] at hk;exact done _ _ _ _ _ _ hk hW hden
  ·rename_i i hg;rw [hg] at hv;rw [qb2] at h;refine zm0 IH ho hv h hM hT (λs k1 v w' β' fp' hk hW hden=>?_);rw [x5] at hk;exact done _ _ _ _ _ _ hk hW hden
  ·cases h
 ·split at h
  ·refine yj9 hTT h hM hT (λs k1 v w' β' fp' hk hW hden=>?_);rw [x5] at hk;exact done _ _ _ _ _ _ hk hW hden
  split at h
  ·refine ym2 hTT h hM hT (λs k1 v w' β' fp' hk hW hden=>?_);rw [x5] at hk;exact done _ _ _ _ _ _ hk hW hden
  ·obtain⟨s,v,hk,hrun,hd⟩:=jb0 hTT h hT hM.kb' hM.apart;rw [x5] at hk;exact y3 (jj7 h) hrun (done _ _ _ _ _ _ hk (Went.refl hM) hd)
theorem xk3{all os:List Oper}{o:Oper}(h:∃ i,all.drop i=o :: os):all.toArray[all.length - (o :: os).length]? = some o/\all.length - (o :: os).length+1=all.length - os.length/\∃ i,all.drop i=os:=by
 obtain⟨i,hd⟩:=h;have hlt:i<all.length:=by
  rcases ox i all.length with h|h
  ·exact h
  ·rw [d5 h] at hd;cases hd
 have hl:(o :: os).length=all.length - i:=by rw[<-hd];simp
 rw [lu hlt] at hd;obtain⟨h1,h2⟩:=lz hd;have hi:all.length - (o :: os).length=i:=om
 rw[hi];refine ⟨by simp [hlt,h1],by simp at hl;omega,i+1,h2⟩
theorem jl8[Dr](hTT:TTok P TT)(hIN:INok P IN)(hmix:P.follows .mixedOrders=true):∀ m,jw1 P TT IN m:=by
 intro m;induction m using Nat.strongRecOn with
 |_ m ih =>
 intro B nb rd n Q K hnb hrd hQ stk ts ks a w β fp h hok hS;cases m with
 |zero=>exact h.elim
 |succ m =>
  rw [yr2] at h;have IH:=λstk ts ks a w β fp h hok hS=>ih m om B nb rd n Q K hnb hrd hQ stk ts ks a w β fp h hok hS
  unfold jh1 at h;split at h
  ·exact hQ _ _ _ _ _ _ _ h hS
  ·rename_i id r;exact IH r _ _ _ _ _ _ h hok hS
  ·rename_i r;have:=IH r _ _ _ _ _ _ h hok hS;exact this
  ·exact⟨_,_,_,_,h,hS⟩
  ·cases hok.1
  ·rename_i hs all os r;obtain⟨_,hdrop,hok'⟩:=hok;cases os with
   |nil =>
    simp only at h;show wpOpsIn _ _ _ _ _ (List.range' _ 0) _ _;simpa[wpOpsIn] using IH _ _ _ _ _ _ _ h hok' hS
   |cons o os =>
    simp only at h;obtain⟨hi,hi1,hdrop'⟩:=xk3 hdrop;show wpOpsIn _ _ _ _ _ (List.range' (all.length - (o :: os).length) (o :: os).length) _ _;rw[pw,bw,wpOpsIn_cons];rw [pw] at hi hi1;have okr:qc3 (.ops false hs all os :: r):=⟨rfl,hdrop',hok'⟩;have rest:∀ ts' ks' a' w' β' fp',run P TT IN m nb (.ops false hs all os :: r) ts' ks' K->Sat B w' β' fp' ts' ks' a'->wpOpsIn (qm rd) n P all.toArray (E P rd n (λJ a w=>∃ ts ks β fp,J ts ks/\Sat B w β fp ts ks a) Q r) (List.range' (all.length - (os.length+1)+1) os.length) a' w':=λts' ks' a' w' β' fp' hr hS'=>by
     rw[hi1];exact IH _ _ _ _ _ _ _ hr okr hS'
    have doit:∀ (g:yu all ts o=some true),qp5 P TT IN (run P TT IN m) o ts ks (λts' ks'=>run P TT IN m nb (.ops false hs all os :: r) ts' ks' K)->wpOpIn (qm rd) n P all.toArray (E P rd n (λJ a w=>∃ ts ks β fp,J ts ks/\Sat B w β fp ts ks a) Q r) (all.length - (os.length+1)) (wpOpsIn (qm rd) n P all.toArray (E P rd n (λJ a w=>∃ ts ks β fp,J ts ks/\Sat B w β fp ts ks a) Q r) (List.range' (all.length - (os.length+1)+1) os.length)) a w:=λhg h=>by
     unfold wpOpIn;have hw:=qi3 (all:=all) hS.slot hg;simp only[hi,hw,if_true];exact zq5 hTT hIN (ih m om) h hS (λts' ks' a' w' β' fp' hr hS'=>rest ts' ks' a' w' β' fp' hr hS')
    have skip:∀ (g:yu all ts o=some false),yb o.dst qg8 ts (λts'=>run P TT IN m nb (.ops false hs all os :: r) ts' ks K)->wpOpIn (qm rd) n P all.toArray (E P rd n (λJ a w=>∃ ts ks β fp,J ts ks/\Sat B w β fp ts ks a) Q r) (all.length - (os.length+1)) (wpOpsIn (qm rd) n P all.toArray (E P rd n (λJ a w=>∃ ts ks β fp,J ts ks/\Sat B w β fp ts ks a) Q r) (List.range' (all.length - (os.length+1)+1) os.length)) a w:=λhg h=>by
     unfold wpOpIn;have hw:=qi3 (all:=all) hS.slot hg;simp only[hi,hw,fx,if_false];rw [x5] at h;exact⟨λ_ _=>trivial,rest _ _ _ _ _ _ h (hS.put _ (.v _))⟩
    split at h
    ·rename_i hg;exact doit (by simp[yu,hg]) h
    ·rename_i j want hg;split at h
     ·cases h
     ·rename_i t hd;rw [qe7] at h;split at h
      ·rename_i hv;split at h
       ·exact doit (by simp[yu,hg,hd,hv]) h
       ·exact skip (by simp[yu,hg,hd,hv]) h
      ·rename_i hv;split at h
       ·exact doit (by simp[yu,hg,hd,hv]) h
       ·exact skip (by simp[yu,hg,hd,hv]) h
      ·rename_i hv;exact skip (by simp[yu,hg,hd,hv]) h
      ·rename_i b hv;have okc:qc3 (.ops false hs all (o :: os) :: r):=⟨rfl,hdrop,hok'⟩;have fin:run P TT IN m nb (.ops false hs all (o :: os) :: r) (setT ts t (.d (if b then .tt else .ff))) ks K->wpOpIn (qm rd) n P all.toArray (E P rd n (λJ a w=>∃ ts ks β fp,J ts ks/\Sat B w β fp ts ks a) Q r) (all.length - (os.length+1)) (wpOpsIn (qm rd) n P all.toArray (E P rd n (λJ a w=>∃ ts ks β fp,J ts ks/\Sat B w β fp ts ks a) Q r) (List.range' (all.length - (os.length+1)+1) os.length)) a w:=λh=>by
        have:=IH _ _ _ _ _ _ _ h okc (hS.refine_ t hv);have this:wpOpsIn (qm rd) n P all.toArray (E P rd n (λJ a w=>∃ ts ks β fp,J ts ks/\Sat B w β fp ts ks a) Q r) (List.range' (all.length - (o :: os).length) (o :: os).length) a w:=this;rw [pw,bw,wpOpsIn_cons] at this;exact this
       cases b with
       |true=>have:=h.1 rfl;rw [vq] at this;exact fin this
       |false=>have:=h.2 rfl;rw [vq] at this;exact fin this
      ·cases h
  ·rename_i c r;have hok':qc3 r:=hok;show c.wpIn (qm rd) n P (E P rd n _ Q r) a w;split at h
   ·exact wpIn_skip (IH _ _ _ _ _ _ _ h hok' hS)
   ·exact wpIn_label (IH _ _ _ _ _ _ _ h hok' hS)
   ·rename_i c1;refine zr7 ?_;have:=IH _ _ _ _ _ _ _ h hok' hS;refine wpIn_mono this (λe a' w' he=>?_);cases e <;> exact he
   ·rename_i c1 c2;refine wpIn_seq ?_;have:=IH _ _ _ _ _ _ _ h hok' hS;refine wpIn_mono this (λe a' w' he=>?_);cases e <;> exact he
   ·rename_i id c1;refine wpIn_block ?_;have:=IH _ _ _ _ _ _ _ h hok' hS;refine wpIn_mono this (λe a' w' he=>?_);cases e <;> exact he
   ·rename_i id;refine wpIn_exit (ka2 id r a w (λr' hr'=>?_) (λhr'=>?_))
    ·rw [hr'] at h;exact IH _ _ _ _ _ _ _ h (xj8 hr' hok') hS
    ·rw [hr'] at h;exact hQ _ _ _ _ _ _ _ h hS
   ·exact wpIn_ret (kd1 r a w (hQ _ _ _ _ _ _ _ h hS))
   ·rename_i id ops draw;split at h
    case h_2 hhd =>
     cases draw with
     |false=>cases hhd
     |true =>
      split at h
      ·rename_i l hil;obtain⟨n',ts',ks',hs,hn,htr,hdr,hrun⟩:=jr2 _ _ _ _ _ h;rw [qn6,qn6,m6,m6,sq] at hdr;exact zn2 hTT hmix hil hdr htr hS (λa' w' β' fp' hS'=>ih n' om B nb rd n Q K hnb hrd hQ _ _ _ _ _ _ _ hrun hok' hS')
      split at h
      case h_2=>exact h.elim
      rename_i hng;split at h
      case h_2 =>
       obtain⟨ts',ks',hsc,hrun⟩:=h;exact zj3 hTT hmix hnb hng hsc hS (λa' w' β' fp' hS'=>IH _ _ _ _ _ _ _ hrun hok' hS')
      obtain⟨ts',ks',hsc,hrun⟩:=h;exact jx9 hTT hmix hng hsc hS (λa' w' β' fp' hS'=>IH _ _ _ _ _ _ _ hrun hok' hS')
    cases draw with
    |false =>
     refine wpIn_region ?_;have:=IH _ _ _ _ _ _ _ h ⟨rfl,⟨0,rfl⟩,hok'⟩ hS;have this:wpOpsIn (qm rd) n P ops.toList.toArray (E P rd n (λJ a w=>∃ ts ks β fp,J ts ks/\Sat B w β fp ts ks a) Q r) (List.range' (ops.toList.length - ops.toList.length) ops.toList.length) a w:=this;rw [ly] at this;simpa[List.range_eq_range'] using this
    |true =>
     replace h:(match qw8 ops.toList with
      |none=>match jt9 ops.toList with
       |false=>match zf6 TT ops.toList with
        |false=>run P TT IN m nb (.ops true [] ops.toList ops.toList :: r) ts ks K
        |true=>match ky ops.toList with
         |true=>∃ ts' ks',kj ops.toList 0 ops.toList (λfr=>xi P TT ops.toList fr (λt k=>t=ts'/\k=ks') ops.toList.length (ko ops.toList) ts ks)/\run P TT IN m nb r ts' ks' K
         |false=>False
       |true=>match ky ops.toList with
        |true=>∃ ks',kj ops.toList 0 ops.toList (λfr=>xi P TT ops.toList fr (λt k=>wv (qa9 ops.toList) t=wv (qa9 ops.toList) ts/\k=ks') ops.toList.length (ko ops.toList) ts ks)/\qg3 (qa9 ops.toList) ts (λts1=>run P TT IN m nb r ts1 ks' K)
        |false=>False
      |some p=>run P TT IN m nb (.ops true [] (qk2 p ops.toList) (qk2 p ops.toList) :: .ops false [] ops.toList (qp8 p ops.toList) :: r) ts ks K):=h
     split at h
     ·split at h
      case h_2 =>
       split at h
       case h_2=>exact h.elim
       rename_i hng;obtain⟨ks',hsc,hrun⟩:=h;rw [yn2] at hrun;exact zj4 hTT hmix hng hsc hS (λa' w' β' fp' hS'=>IH _ _ _ _ _ _ _ hrun hok' hS')
      split at h
      case h_2 =>
       split at h
       case h_2=>exact h.elim
       rename_i hng;obtain⟨ts',ks',hsc,hrun⟩:=h;exact jx9 hTT hmix hng hsc hS (λa' w' β' fp' hS'=>IH _ _ _ _ _ _ _ hrun hok' hS')
      obtain⟨n',ts',ks',hs,hn,htr,hdr,hrun⟩:=jr2 _ _ _ _ _ h;rw [qn6,qn6,m6,m6,sq] at hdr;exact zn3 hTT hmix hdr htr hS (λa' w' β' fp' hS'=>ih n' om B nb rd n Q K hnb hrd hQ _ _ _ _ _ _ _ hrun hok' hS')
     ·rename_i p hser;obtain⟨n',ts',ks',hs,hn,htr,hdr,hrun⟩:=jr2 _ _ _ _ _ h;rw [qn6,qn6,m6,m6,sq] at hdr;rw [yq7] at htr hdr;have hpl:=(yr0 hser).1;refine zs9 hTT hmix hser hdr htr hS (λa' w' β' fp' hS'=>?_);have this:=ih n' om B nb rd n Q K hnb hrd hQ _ _ _ _ _ _ _ hrun ⟨rfl,⟨p,(jp8 p _).symm⟩,hok'⟩ hS';have this:wpOpsIn (qm rd) n P ops.toList.toArray (E P rd n (λJ a w=>∃ ts ks β fp,J ts ks/\Sat B w β fp ts ks a) Q r) (List.range' (ops.toList.length - (qp8 p ops.toList).length) (qp8 p ops.toList).length) a' w':=this;rw [jp8,ou] at this;rw [show ops.toList.length - (ops.toList.length - p)=p from by omega] at this;exact this
   ·rename_i cnd x y;rw [qq] at h;have hv:=hS.val cnd;split at h
    ·rename_i hx;rw [hx] at hv;exact wpIn_cond_true (jh4 hv) (IH _ _ _ _ _ _ _ h hok' hS)
    ·rename_i hx;rw [hx] at hv;exact wpIn_cond_false (jh4 hv) (IH _ _ _ _ _ _ _ h hok' hS)
    ·rename_i b hx;rw [hx] at hv;cases b with
     |true=>exact wpIn_cond_true (jh4 hv) (IH _ _ _ _ _ _ _ (h.1 rfl) hok' hS)
     |false=>exact wpIn_cond_false (jh4 hv) (IH _ _ _ _ _ _ _ (h.2 rfl) hok' hS)
    ·cases h
   ·exact zi8 (IH _ _ _ _ _ _ _ h hok' hS)
   ·rename_i g ps asg body;rw [qq] at h;have hv:=hS.val g;split at h
    ·rename_i f caps hg;rw [hg] at hv;obtain⟨vs,ev,hl,hd⟩:=jc8 hv;split at h
     ·rename_i nargs extra results fb hin;split at h
      ·rename_i hbeq;rw [zx] at hbeq;have hbeq:=jg hbeq;obtain⟨fn,hfn,hbody,hres,hnt,hent⟩:=hIN f _ hin;simp only at hbody hres hnt;refine wpIn_rangeFunc (λfn0 _=>?_);obtain⟨h,l,mark,w1,L,fp1,hent1,rfl,hW1,hS1⟩:=zw0 (P:=P) hS hrd h fn0 ps asg body;rw [xe,o5,qf9,x6] at h;have hM1:=hS1.went.mem;have hLi:upd β ks.length (some L) ks.length=some L:=yr _ _ _;refine ⟨L.b,mark,w1,{ target:=.fn (.func f) vs.toArray,args:=#[.func (.yield L.b) #[] #[]] },w1,f,(Value.func (.yield L.b) #[] #[] :: vs).toArray,w1,hent1,?_,λ_ _=>trivial,?_,λhsm=>by simp [qm,Fence.wide] at hsm,jy2 ?_⟩
       ·simp only[resolve,ev,Deferred.ofValue,o6];simp only[List.map_toArray,bp,List.map_nil,Array.empty_append,Act.eval]
       ·have:=hent (#[.func (.yield L.b) #[] #[]]++vs.toArray) w1;simp only[invoke];rw[this];simp
       refine(callsIn_wide (n:=0)).1 (callsIn_of_wp_marks hfn hbody trivial ?_ rfl);have hS0:=qs4 hM1 (as:=.yl ks.length :: caps) (vs:=Value.func (.yield L.b) #[] #[] :: vs) (by simp[hl]) (λj s u hs hu=>by
        cases j with
        |zero=>simp at hs hu;subst hs hu;exact .yl _ L hLi
        |succ j=>exact hW1.den (hd j s u (by simpa using hs) (by simpa using hu))) (k:=extra) (m:=fn.ntmps) (by simp;omega)
       have:=ih m om ⟨B.X,w1,upd β ks.length (some L),fp1⟩ ⟨ks.length+1,none⟩ none 0 (bodyPostM (qm none) 0 P fn (rangePost (qm rd) n P L.b (E P rd n (λJ a w=>∃ ts ks β fp,J ts ks/\Sat B w β fp ts ks a) Q r) { a with defers:=mark++a.defers })) _ (λq hq=>hM1.kl q (by simpa using hq)) rfl (λe ts2 ks2 a2 w2 β2 fp2 hK hS2=>by
        have fin:resK TT ts2 ks2 results (λ_=>q8 ks2 ks.length (λb=>match b with
         | .loop _ _ _ _ st=>match st with
          | .ready=>yd ks2 ks.length .gone (λk3=>run P TT IN m nb r ts k3 K)
          | .done c=>yd ks2 ks.length .gone (λk3=>run P TT IN m nb (.code c :: r) ts k3 K)
          |_=>False
         |_=>False))->LeavesInM (qm none) 0 P fn a2.tmps (rangePost (qm rd) n P L.b (E P rd n (λJ a w=>∃ ts ks β fp,J ts ks/\Sat B w β fp ts ks a) Q r) { a with defers:=mark++a.defers }) a2.defers .returning w2:=λhK=>by
         refine qq6 (a:=a2) (λw3 hS3=>?_) a2.defers w2 hS2;rw [<-hres] at hK;obtain⟨ss,us,v,hc,e1,e3,hrun,_,hden⟩:=qq2 (P:=P) hTT hS3 hK;refine⟨v,hrun,?_⟩;rw [jc] at hc;split at hc
         ·rename_i t5 p5 a5 b5 st5 hg5;have hki5:=qt hg5 sm;have hL5:=hS3.went.ext ks.length L hLi;have hb5:=hS3.went.mem.at hki5 sm hL5;cases hb5 with
          |loop _ _ _ _ _ r5 q0 q1 q2 q3 q4 q5 q6 q7 =>
           have hW5:=hS3.went.mem.turn (r':={ r5 with state:=.exhausted }) (k':=.gone) hki5 hL5 q1 rfl rfl rfl rfl (.inl rfl);have hS5:=(hS1.on hS3.went).on hW5;split at hc
           ·rw [y8] at hc;refine⟨none,_,(yc0 q1 (by rw[q7.1];simp)).trans (congrArg (λp=>Result.ok p _) q7.2),?_⟩;exact IH _ _ _ _ _ _ _ hc hok' hS5
           ·rename_i c;rw [y8] at hc;refine⟨some c,_,(yc0 q1 (by rw[q7.1];simp)).trans (congrArg (λp=>Result.ok p _) q7.2),?_⟩;exact IH (.code c :: r) _ _ _ _ _ _ hc hok' hS5
           ·exact hc.elim
         ·exact hc.elim
        cases e with
        |normal=>exact fin hK
        |ret=>exact fin hK
        |_=>exact hK.elim) [.code fb] _ _ _ _ _ _ h trivial hS0
       exact wpIn_mono this (λe a' w' he=>he)
      ·cases h
     ·cases h
    ·cases h
   ·cases h
  ·rename_i body r;have hok':qc3 r:=hok;show qk7 (qm rd) n P body (E P rd n _ Q r) a w;cases h with
   |once h =>
    refine yc4 ?_;have:=IH _ _ _ _ _ _ _ h hok' hS;refine wpIn_mono this (λe a' w' he=>?_);cases e <;> exact he
   |nilT t e sz f sz' f' ht h =>
    rw [qf5,jf4] at h;have hW:=hS.went.mem.nilRow e sz .iff sm f;have hS':=hS.on hW;refine IH _ _ _ _ _ _ _ h hok' ⟨hS'.went,hS'.df,by rw[zw];simpa using hS'.len,λu s v hs hv=>?_⟩;rw [zw,m5] at hs;split at hs
    ·rename_i eu;subst eu;split at hs
     ·rename_i hlt;cases hs;rw [vb,pp hlt] at ht;have hd:=hS.tm t _ v (pp hlt) hv;simp only [d7] at ht;rw [ht] at hd;cases jj hd;exact .allNil _ _ (yr _ _ _) rfl
     ·cases hs
    ·exact hS'.tm u s v hs hv
   |nilC i j e sz f sz' f' t l hg hj h =>
    rw [qf5,jf4,zr,zw] at h;have hki:=qt hg sm;have hW:=hS.went.mem.nilRow e sz .iff sm f;have hS':=hS.on hW;have hil:i<ks.length:=(p6.1 hki).1;have hm:=hS'.went.mem;refine IH _ _ _ _ _ _ _ h hok' ⟨⟨⟨⟨hm.xa,hm.xb,hm.dis,hm.kw,hm.kn,λq L k hk hne hL=>?_⟩,λq hq=>hm.kl q (by simpa using hq),hm.vo⟩,hS'.went.st,hS'.went.ext,hS'.went.own⟩,hS'.df,hS'.len,hS'.tm⟩;by_cases hq:q<ks.length
    ·rw [mn (by simpa using hq),m5] at hk;split at hk
     ·rename_i eq;subst eq;cases hk;have hkb:=hm.kb i L (.cells t l) (by rw[mn hil];exact hki) sm hL;cases hkb with
      |cells _ _ vs h0 h1 h3 h4 h5 =>
       refine .cells t _ vs h0 h1 (by simpa using h3) (λp s u hs hu=>?_) h5;rw [m5] at hs;split at hs
       ·rename_i ep;subst ep;split at hs
        ·rename_i hlt;cases hs;rw [vb,pp hlt] at hj;have hd:=h4 j _ u (pp hlt) hu;simp only [d7] at hj;rw [hj] at hd;cases jj hd;exact .allNil _ _ (yr _ _ _) rfl
        ·cases hs
       ·exact h4 p s u hs hu
     ·exact hm.kb q L k (by rw[mn hq];exact hk) hne hL
    ·rw [m7 (by simp;omega)] at hk;exact hm.kb q L k (by rw[m7 om];simpa using hk) hne hL
   |pad h =>
    rw [jf4] at h;exact IH _ _ _ _ _ _ _ h hok' (hS.moreTo [.gone] (λk hk=>by rw[m9.1 hk];rfl))
   |csT t i e sz f ht hi h =>
    rw [qf5,jf4,zr] at h;have hki:=qt hi sm;have htl:t<ts.length:=by
     rcases ox t ts.length with h1|h1
     ·exact h1
     ·rw [vb,g8 h1] at ht;cases ht
    rw [vb,pp htl] at ht;simp only [d7] at ht;have hta:t<a.tmps.size:=by rw[hS.len];exact htl
    have hd:=hS.tm t _ _ (pp htl) (mv hta);rw [ht] at hd;generalize hv0:a.tmps[t]=v0 at hd;cases hd with
    |cs _ _ _ _ L hL hc =>
     obtain⟨fp',hW⟩:=hS.went.mem.csRow hki hL sz f;have hS':=hS.on hW;refine IH _ _ _ _ _ _ _ h hok' ⟨hS'.went,hS'.df,by rw[zw];simpa using hS'.len,λu s v hs hv=>?_⟩;rw [zw,m5] at hs;split at hs
     ·rename_i eu;subst eu;cases hs;rw [mv hta,hv0] at hv;cases hv;exact .all _ _ (yr _ _ _) rfl
     ·exact hS'.tm u s v hs hv
   |inv ι ok u k μ hstart hround =>
    obtain⟨i0,ρ0,hok0,hsub⟩:=hstart;obtain⟨t0,k0,e0⟩:=yt7 body ts ks (u i0) (k i0);rw [e0] at hsub;refine xq0 (λi a w=>ok i/\∃ ts1 ks1 β fp,(∀ c,qa3 body ts ks (u i) (k i) c=c ts1 ks1)/\Sat B w β fp ts1 ks1 a) μ i0 ?_ ?_
    ·obtain⟨β',fp',hS'⟩:=hS.weaken hnb hsub;exact⟨hok0,t0,k0,β',fp',e0,hS'⟩
    ·rintro i a' w' ⟨hoki,ts1,ks1,β1,fp1,e1,hS1⟩
     have hr:=hround i hoki;rw [e1] at hr;have:=IH _ _ _ _ _ _ _ hr hok' hS1;refine wpIn_mono this (λe a2 w2 he=>?_);cases e with
     |normal =>
      obtain⟨ts2,ks2,β2,fp2,⟨j,ρ,hokj,hlt,hsubj⟩,hS2⟩:=he;obtain⟨t3,k3,e3⟩:=yt7 body ts ks (u j) (k j);rw [e3] at hsubj;obtain⟨β',fp',hS'⟩:=hS2.weaken hnb hsubj;exact⟨j,⟨hokj,t3,k3,β',fp',e3,hS'⟩,hlt⟩
     |_=>exact he
end
end
section
def DEq:DV->DV->Prop
 | .sl b n sz f,.sl b' n' sz' f'=>b=b'/\n=n'/\(n=0\/sz=sz')/\∀ i,i<n->f i=f' i
 | .bool b,.tt=>b=true
 | .bool b,.ff=>b=false
 | .tt,.bool b=>b=true
 | .ff,.bool b=>b=false
 |x,y=>x=y
def wdt:DV->Nat
 | .sl _ _ sz _=>sz
 |_=>0
def Conv(ks:List KB)(s t:SV):Prop :=
 match t with
 | .any=>True
 | .d y=>match s with
  | .d x=>DEq x y
  | .cs i off n c=>0<wdt y/\srcK ks (wdt y) (.cs i off n c) (λk g _=>DEq (.sl false k (wdt y) g) y)
  |s=>dvK ks s (λx _=>DEq x y)
 |t=>s=t/\closed t=true
def jw2(ks:List KB):List SV->List SV->Prop
 |[],[]=>True
 |a :: l,b :: m=>Conv ks a b/\jw2 ks l m
 |_,_=>False
def qx2(ks:List KB):SV->SV->Prop
 | .agg l,.agg m=>jw2 ks l m
 |a,b=>Conv ks a b
def ju6(ks:List KB):List SV->List SV->Prop
 |[],[]=>True
 |a :: l,b :: m=>qx2 ks a b/\ju6 ks l m
 |_,_=>False
def ji3(ks:List KB)(vs:List SV)(res:SV):Prop :=
 match vs with
 |[v]=>qx2 ks v res
 |vs=>match res with
  | .tup l=>ju6 ks vs l
  |_=>False
section
variable{P:Program}{TT:Nat->Option TI}{IN:Nat->Option Inl}{X:Nat->Prop}{w:World}{β:Env}{fp:Nat->Nat->Prop}{ks:List KB}
theorem ju5[Dr]{x y:DV}(h:DEq x y){M:Nat->Prop}{v:Value}(hr:Rd w M x v):Rd w M y v:=by
 unfold DEq at h;split at h
 ·obtain⟨rfl,rfl,hsz,hf⟩:=h;rename_i b n sz f sz' f';rcases dz n with h0|h0
  ·subst h0;exact hr.width
  ·rcases hsz with e|rfl
   ·omega
   ·exact hr.congr hf
 ·subst h;cases hr;exact .tt
 ·subst h;cases hr;exact .ff
 ·subst h;cases hr;exact .bool true
 ·subst h;cases hr;exact .bool false
 ·subst h;exact hr
theorem xm9(h:Mem X w β fp ks):∀ b,X b->Mx X (jw (List.range ks.length) fp) b:=λb hb=>.inl hb
theorem yw2[Dr](h:Mem X w β fp ks){s t:SV}{v:Value}(hc:Conv ks s t)(hd:Den w (Mx X fp) β s v):Den w X noE t v:=by
 have hsub:∀ {d:DV},Rd w (Mx X (jw (List.range ks.length) fp)) d v->Rd w X d v:=λhr=>x7 hr (xm9 h)
 unfold Conv at hc;split at hc
 ·exact .any _
 ·rename_i y;split at hc
  ·rename_i x;exact .d (ju5 hc (x7 (jj hd) (λb hb=>.inl hb)))
  ·rename_i i off n c;obtain⟨hpos,hc⟩:=hc;obtain⟨k,g,fr,hk,h1,h2⟩:=zg7 h.toMem0 hc hd;exact .d (ju5 hk (hsub (h2 _ (λi hi=>o8.2 (h1 i hi)))))
  ·rename_i hns1 hns2;obtain⟨d,fr,hk,h1,h2⟩:=qt5 h.toMem0 hc hd;exact .d (ju5 hk (hsub (h2 _ (λi hi=>o8.2 (h1 i hi)))))
 ·obtain⟨rfl,hcl⟩:=hc;exact(jd1 hd (λb hb=>.inl hb)).closed hcl _
theorem xg2{l m:List SV}(h:jw2 ks l m):l.length=m.length/\∀ (j:Nat) (s:SV),m[j]? = some s->∃ s0,l[j]? = some s0/\Conv ks s0 s:=by
 induction l generalizing m with
 |nil=>cases m with
  |nil=>exact ⟨rfl,λj s hs=>by simp at hs⟩
  |cons=>exact h.elim
 |cons a l ih=>cases m with
  |nil=>exact h.elim
  |cons b m =>
   obtain⟨h1,h2⟩:=ih h.2;refine⟨by simp[h1],λj s hs=>?_⟩;cases j with
   |zero=>simp at hs;subst hs;exact ⟨a,rfl,h.1⟩
   |succ j=>exact h2 j s (by simpa using hs)
theorem zw8{l m:List SV}(h:ju6 ks l m):l.length=m.length/\∀ (j:Nat) (s:SV),m[j]? = some s->∃ s0,l[j]? = some s0/\qx2 ks s0 s:=by
 induction l generalizing m with
 |nil=>cases m with
  |nil=>exact ⟨rfl,λj s hs=>by simp at hs⟩
  |cons=>exact h.elim
 |cons a l ih=>cases m with
  |nil=>exact h.elim
  |cons b m =>
   obtain⟨h1,h2⟩:=ih h.2;refine⟨by simp[h1],λj s hs=>?_⟩;cases j with
   |zero=>simp at hs;subst hs;exact ⟨a,rfl,h.1⟩
   |succ j=>exact h2 j s (by simpa using hs)
theorem yp5[Dr](h:Mem X w β fp ks){s t:SV}{v:Value}(hc:qx2 ks s t)(hd:Den w (Mx X fp) β s v):Den w X noE t v:=by
 unfold qx2 at hc;split at hc
 ·rename_i l m;obtain⟨hl,hg⟩:=xg2 hc;cases hd with
  |agg _ vs h1 h2 h3 =>
   refine .agg m vs om (λj s u hs hu=>?_) h3;obtain⟨s0,hs0,hc⟩:=hg j s hs;exact yw2 h hc (h2 j s0 u hs0 hu)
 ·exact yw2 h hc hd
def endD(TT:Nat->Option TI)(rs:List ResultVar)(res:SV)(e:Exit)(ts:List SV)(ks:List KB):Prop :=
 match e with
 | .normal=>resK TT ts ks rs (λvs=>ji3 ks vs res)
 | .ret=>resK TT ts ks rs (λvs=>ji3 ks vs res)
 |_=>False
theorem qi[Dr](hTT:TTok P TT)(hIN:INok P IN)(hmix:P.follows .mixedOrders=true){f:FuncId}{fn:Func}{c:Code}(m:Nat)(hf:P.funcs[f]? = some fn)(hb:fn.body=some c)(hent:∀ (args:Array Value) (w:World),(callFunc f args).run P w = .ok (.enter f args) w)
 {args:List SV} {res:SV} (hcl:xn args=true) (k:Nat) (hk:fn.ntmps=args.length+k) (h:run P TT IN m ⟨0,none⟩ [.code c] (args++anys k) [] (endD TT fn.results.toList res)):FnOk P f args res:=by
 refine⟨hent,λM w vs hV hM hl hd=>?_⟩;refine(callsIn_wide (n:=0)).1 (callsIn_of_wp_marks hf hb trivial ?_ rfl);have hM0:Mem M w noE (λ_ _=>False) []:=⟨⟨hM,λ_ _ h=>h.elim,λ_ _ _ h=>h.elim,λ_ _ h=>h.elim,λ_ _ h=>h.elim,λi L k hk=>by simp at hk⟩,λ_ _=>rfl,hV⟩;have hS:=qs4 hM0 hl (λj s u hs hu=>(hd j s u hs hu).mono (M':=Mx M (λ_ _=>False)) (Step.refl _ _) (λb _ hm=>hm.elim id (λ⟨_,e⟩=>e.elim)) (Ext.refl _)) (k:=k) (m:=fn.ntmps) hk;have:=jl8 hTT hIN hmix m ⟨M,w,noE,λ_ _=>False⟩ ⟨0,none⟩ none 0 (bodyPostM (qm none) 0 P fn (λe w'=>∃ r,e = .returned r/\Step (λ_=>False) w w'/\Den w' M noE res r)) _ (λ_ _=>rfl) rfl (λe ts2 ks2 a2 w2 β2 fp2 hK hS2=>by
  have fin:resK TT ts2 ks2 fn.results.toList (λvs=>ji3 ks2 vs res)->LeavesInM (qm none) 0 P fn a2.tmps (λe w'=>∃ r,e = .returned r/\Step (λ_=>False) w w'/\Den w' M noE res r) a2.defers .returning w2:=λhK=>by
   refine qq6 (a:=a2) (λw3 hS3=>?_) a2.defers w2 hS2;obtain⟨ss,us,v,hres,e1,e3,hrun,rfl,hden⟩:=qq2 (P:=P) hTT hS3 hK;refine⟨_,hrun,_,rfl,hS3.went.st.mono (λb _ hb=>by obtain⟨i,hi⟩:=hb;exact hi),?_⟩;unfold ji3 at hres;split at hres
   ·rename_i s;have hu1:us.length=1:=by rw[<-e1];rfl
    match us,hu1,e3 with
    |[u],_,e3=>exact yp5 hS3.went.mem hres (e3 0 s u rfl rfl)
   ·rename_i hne;split at hres
    ·obtain⟨c1,c2⟩:=zw8 hres;have hu1:¬ us.toArray.size=1:=λe=>by
      have:ss.length=1:=by rw[e1];simpa using e
      match ss,this with
      |[s],_=>exact hne s rfl
     rw[dif_neg hu1];refine .tup _ us om (λj s u hs hu=>?_);obtain⟨s0,hs0,hc⟩:=c2 j s hs;exact yp5 hS3.went.mem hc (e3 j s0 u hs0 hu)
    ·exact hres.elim
  cases e with
  |normal=>exact fin hK
  |ret=>exact fin hK
  |_=>exact hK.elim) [.code c] _ _ _ _ _ _ h trivial hS
 exact wpIn_mono this (λe a' w' he=>he)
def ji5(nb:Nat)(R:SV->List KB->Prop)(vs:List SV)(ks:List KB):Prop :=
 ∃ ρ s' ks',okN (lenB ks) ρ=true/\qk5 nb 0 ρ=true/\SubV (renV ρ (retV vs)) s'/\SubB (renB ρ ks ρ) ks'/\R s' ks'
def endM(TT:Nat->Option TI)(rs:List ResultVar)(nb:Nat)(R:SV->List KB->Prop)(e:Exit)(ts:List SV)(ks:List KB):Prop :=
 match e with
 | .normal=>resK TT ts ks rs (λvs=>ji5 nb R vs ks)
 | .ret=>resK TT ts ks rs (λvs=>ji5 nb R vs ks)
 |_=>False
theorem yq[Dr](hTT:TTok P TT)(hIN:INok P IN)(hmix:P.follows .mixedOrders=true){f:FuncId}{fn:Func}{c:Code}(m:Nat)(hf:P.funcs[f]? = some fn)(hb:fn.body=some c)(hent:∀ (args:Array Value) (w:World),(callFunc f args).run P w = .ok (.enter f args) w)
 {args:List SV} {ks:List KB} {R:SV->List KB->Prop} (k:Nat) (hk:fn.ntmps=args.length+k) (h:run P TT IN m ⟨ks.length,none⟩ [.code c] (args++anys k) ks (endM TT fn.results.toList ks.length R)):COk P f args ks R:=by
 refine⟨hent,λX w β fp vs hM hl hd=>?_⟩;refine(callsIn_wide (n:=0)).1 (callsIn_of_wp_marks hf hb trivial ?_ rfl);have hS:=qs4 hM hl hd (k:=k) (m:=fn.ntmps) hk;have:=jl8 hTT hIN hmix m ⟨X,w,β,fp⟩ ⟨ks.length,none⟩ none 0 (bodyPostM (qm none) 0 P fn (λe w'=>∃ r s ks' β' fp',e = .returned r/\R s ks'/\Went X w β fp w' β' fp' ks'/\Den w' (Mx X fp') β' s r)) _ hM.kl rfl (λe ts2 ks2 a2 w2 β2 fp2 hK hS2=>by
  have fin:resK TT ts2 ks2 fn.results.toList (λvs=>ji5 ks.length R vs ks2)->LeavesInM (qm none) 0 P fn a2.tmps (λe w'=>∃ r s ks' β' fp',e = .returned r/\R s ks'/\Went X w β fp w' β' fp' ks'/\Den w' (Mx X fp') β' s r) a2.defers .returning w2:=λhK=>by
   refine qq6 (a:=a2) (λw3 hS3=>?_) a2.defers w2 hS2;obtain⟨ss,us,v,⟨ρ,s',ks',o1,o2,hsv,hsb,hR⟩,e1,e3,hrun,_,hden⟩:=qq2 (P:=P) hTT hS3 hK;rw [qf5] at o1;have hW:=(hS3.went.ren hM.kl ρ o1 o2).less hsb;have hMx:∀ b,Mx X (renF ρ fp2) b->Mx X fp2 b:=λb hm=>hm.imp id (λ⟨k,i,_,hb⟩=>⟨i,hb⟩)
   exact⟨v,hrun,v,s',ks',_,_,rfl,hR,hW,qn3 hsv ((jd1 hden hMx).ren ρ)⟩
  cases e with
  |normal=>exact fin hK
  |ret=>exact fin hK
  |_=>exact hK.elim) [.code c] _ _ _ _ _ _ h trivial hS
 exact wpIn_mono this (λe a' w' he=>he)
end
end
section
def qj7(P:Program)(F:TypeId->Option (List EK)):List Field->Nat->Option (List EK)
 |[],_=>some []
 |f :: fs,off =>
  if f.name = "_" ∨ f.offset ≠ off then none else
  match F f.type,P.info? f.type with
  |some l,some i=>if i.size=l.length then (qj7 P F fs (off+l.length)).map (l ++ ·) else none
  |_,_=>none
def repL(l:List EK):Nat->List EK
 |0=>[]
 |n+1=>l++repL l n
def flat(P:Program):Nat->TypeId->Option (List EK)
 |0,_=>none
 |d+1,t=>match P.underlying t with
  |some .bool=>some [.bool]
  |some (.int k)=>some [.int k]
  |some .string=>some [.str]
  |some (.struct fs)=>if P.stoodInHeld t=true then none else qj7 P (flat P d) fs.toList 0
  |some (.array n e)=>match flat P d e,P.info? e with
   |some l,some i=>if i.size=l.length/\P.cellsOf e=l.length then some (repL l n) else none
   |_,_=>none
  |_=>none
def mkV(d:TypeDesc)(cs:List Value):Value:=if y6 d=true then .agg cs.toArray else cs.headD undef
section
variable{P:Program}{w:World}
theorem qm1[Dr]{t:TypeId}{d:TypeDesc}{i:TypeInfo}(hd:P.underlying t=some d)(hi:P.info? t=some i)(xs:List Value)(off n:Nat)(hn:i.size=n)(h1:y6 d=false->n=1)(hin:off+n<=xs.length) :
 (part t xs.toArray off).run P w = .ok (mkV d ((xs.drop off).take n)) w:=by
 unfold mkV;cases ha:y6 d with
 |true =>
  simp only[part,p8,Go.Eng.run_isAgg hd,ha,ot,if_true,Go.Eng.run_sizeOf hi,o6];congr 2;apply Array.ext';simp[hn]
 |false =>
  have:=h1 ha;subst this;have hlt:off<xs.length:=om
  simp only[part,p8,Go.Eng.run_isAgg hd,ha,ot,fx,if_false];have e:(xs.drop off).take 1=[xs[off]]:=by rw[lu hlt];rfl
  rw[e];simp[hlt]
theorem jx1(a b:List EK)(x1 x2 y1 y2:List Value)(hx:x1.length=a.length)(hy:y1.length=a.length):jm (a++b) (x1++x2) (y1++y2)=(jm a x1 y1 && jm b x2 y2):=by
 induction a generalizing x1 y1 with
 |nil =>
  have:x1=[]:=dq (by simpa using hx);have:y1=[]:=dq (by simpa using hy)
  subst_vars
  simp[jm]
 |cons k a ih=>cases x1 with
  |nil=>simp at hx
  |cons x x1=>cases y1 with
   |nil=>simp at hy
   |cons y y1 =>
    simp only[gz,jm];rw[ih x1 y1 (by simpa using hx) (by simpa using hy),Bool.and_assoc]
theorem Fits.take{ks l:List EK}{xs:List Value}(h:Fits (l++ks) xs):Fits l (xs.take l.length):=λj k x hk hx=>by
 have hj:=(p6.1 hk).1;rw [lq,if_pos hj] at hx;exact h j k x (by rw[mn hj];exact hk) hx
theorem Fits.drop{ks l:List EK}{xs:List Value}(h:Fits (l++ks) xs):Fits ks (xs.drop l.length):=λj k x hk hx=>by
 rw [m8] at hx;exact h (l.length+j) k x (by rw[m7 om];simpa using hk) hx
theorem qt4{d:Nat}{t:TypeId}{ks:List EK}{desc:TypeDesc}(h:flat P d t=some ks)(hd:P.underlying t=some desc)(ha:y6 desc=false):ks.length=1:=by
 cases d with
 |zero=>cases h
 |succ d =>
  simp only [flat,hd] at h;cases desc <;> simp [y6] at ha h <;> subst h <;> rfl
theorem zl5[Dr]{d:Nat} (IH:∀ (t:TypeId) (ks:List EK) (desc:TypeDesc),flat P d t=some ks->P.underlying t=some desc->∀ (m:Nat) (xs ys:List Value),xs.length=ks.length->ys.length=ks.length->Fits ks xs->Fits ks ys->∀ w:World,
 (Op.equalIn (d+m) t (mkV desc xs) (mkV desc ys)).run P w = .ok (jm ks xs ys) w) (m:Nat) (xs ys:List Value) :
 ∀ (fs:List Field) (off:Nat) (ks:List EK),qj7 P (flat P d) fs off=some ks->off+ks.length<=xs.length->off+ks.length<=ys.length->Fits ks (xs.drop off)->Fits ks (ys.drop off)->∀ w:World,
  (Op.eqFields (d+m) xs.toArray ys.toArray fs).run P w = .ok (jm ks ((xs.drop off).take ks.length) ((ys.drop off).take ks.length)) w:=by
 intro fs;induction fs with
 |nil=>intro off ks h _ _ _ _ w;simp [qj7] at h;subst h;simp [Op.eqFields,jm]
 |cons f fs ih =>
  intro off ks h hx hy hfx hfy w;simp only [qj7] at h;split at h
  ·cases h
  ·rename_i hn;simp only [not_or,Decidable.not_not] at hn;obtain⟨hnm,hoff⟩:=hn;split at h
   ·rename_i l i hl hi;split at h
    ·rename_i hsz;rw [f6] at h;obtain⟨ks',hks',rfl⟩:=h;simp only [pq] at hx hy;obtain⟨desc,hdesc⟩:∃ desc,P.underlying f.type=some desc:=by
      cases hu:P.underlying f.type with
      |none=>cases d <;> simp [flat,hu] at hl
      |some x=>exact⟨x,rfl⟩
     have p1:=qm1 (w:=w) hdesc hi xs off l.length hsz (λha=>qt4 hl hdesc ha) om;have p2:=qm1 (w:=w) hdesc hi ys off l.length hsz (λha=>qt4 hl hdesc ha) om;have p3:=IH f.type l desc hl hdesc m ((xs.drop off).take l.length) ((ys.drop off).take l.length) (by simp;omega) (by simp;omega) hfx.take hfy.take w;have p4:=ih (off+l.length) ks' hks' om om (by have:=hfx.drop;rwa [gx] at this) (by have:=hfy.drop;rwa [gx] at this) w;have esplit:∀ zs:List Value,(zs.drop off).take (l++ks').length=(zs.drop off).take l.length++(zs.drop (off+l.length)).take ks'.length:=λzs=>by
      rw[pq,List.take_add,gx]
     rw[esplit,esplit,jx1 _ _ _ _ _ _ (by simp;omega) (by simp;omega)];simp only[Op.eqFields,hnm,ne_eq,not_false_eq_true,if_true,p8,hoff,p1,p2,p3,ot];cases hq:jm l ((xs.drop off).take l.length) ((ys.drop off).take l.length) with
     |false=>simp
     |true=>simp[p4]
    ·cases h
   ·cases h
theorem zp5[Dr]{d:Nat}{e:TypeId}{l:List EK}{desc:TypeDesc}{i:TypeInfo} (IH:∀ (m:Nat) (xs ys:List Value),xs.length=l.length->ys.length=l.length->Fits l xs->Fits l ys->∀ w:World,
 (Op.equalIn (d+m) e (mkV desc xs) (mkV desc ys)).run P w = .ok (jm l xs ys) w) (hdesc:P.underlying e=some desc) (hi:P.info? e=some i) (hsz:i.size=l.length) (h1:y6 desc=false->l.length=1) (m:Nat) (xs ys:List Value) :
 ∀ (n k:Nat),(k+n) * l.length<=xs.length->(k+n) * l.length<=ys.length->Fits (repL l n) (xs.drop (k * l.length))->Fits (repL l n) (ys.drop (k * l.length))->∀ w:World,
  (Op.eqItems (d+m) e l.length xs.toArray ys.toArray (List.range' k n)).run P w = .ok (jm (repL l n) ((xs.drop (k * l.length)).take (n * l.length)) ((ys.drop (k * l.length)).take (n * l.length))) w:=by
 intro n;induction n with
 |zero=>intro k _ _ _ _ w;simp[Op.eqItems,repL,jm]
 |succ n ih =>
  intro k hx hy hfx hfy w;have hmul:(k+(n+1)) * l.length=k * l.length+l.length+n * l.length:=by
   rw[o9,o9,l9];omega
  have hmul2:(k+1+n) * l.length=(k+(n+1)) * l.length:=by rw[show k+1+n=k+(n+1) from by omega]
  have p1:=qm1 (w:=w) hdesc hi xs (k * l.length) l.length hsz h1 om;have p2:=qm1 (w:=w) hdesc hi ys (k * l.length) l.length hsz h1 om;have p3:=IH m ((xs.drop (k * l.length)).take l.length) ((ys.drop (k * l.length)).take l.length) (by simp;omega) (by simp;omega) hfx.take hfy.take w;have hk:(k+1) * l.length=k * l.length+l.length:=by rw[o9,l9]
  have p4:=ih (k+1) om om (by have:=hfx.drop;rw [gx] at this;rw [hk];exact this) (by have:=hfy.drop;rw [gx] at this;rw [hk];exact this) w;have esplit:∀ zs:List Value,(zs.drop (k * l.length)).take ((n+1) * l.length)=(zs.drop (k * l.length)).take l.length++(zs.drop ((k+1) * l.length)).take (n * l.length):=λzs=>by
   rw[o9,l9,Nat.add_comm (n * l.length),List.take_add,gx,hk]
  rw[esplit,esplit];simp only[repL];rw[jx1 _ _ _ _ _ _ (by simp;omega) (by simp;omega)];simp only[bw,Op.eqItems,p8,p1,p2,p3,ot];cases hq:jm l ((xs.drop (k * l.length)).take l.length) ((ys.drop (k * l.length)).take l.length) with
  |false=>simp
  |true=>simp[p4]
theorem ya1(l:List EK)(n:Nat):(repL l n).length=n * l.length:=by
 induction n with
 |zero=>simp[repL]
 |succ n ih=>simp[repL,ih,o9];omega
theorem xj0(l:List EK):∀ (n j q:Nat),j<n->q<l.length->(repL l n)[j * l.length+q]? = l[q]?:=by
 intro n;induction n with
 |zero=>intro j q hj;omega
 |succ n ih =>
  intro j q hj hq;cases j with
  |zero=>simp only[repL];rw[mn om];simp
  |succ j =>
   simp only[repL];rw[o9,l9,m7 om,show j * l.length+l.length+q - l.length=j * l.length+q from by omega];exact ih j q om hq
theorem zv7[Dr]:∀ (d:Nat) (t:TypeId) (ks:List EK) (desc:TypeDesc),flat P d t=some ks->P.underlying t=some desc->∀ (m:Nat) (xs ys:List Value),xs.length=ks.length->ys.length=ks.length->Fits ks xs->Fits ks ys->∀ w:World,
 (Op.equalIn (d+m) t (mkV desc xs) (mkV desc ys)).run P w = .ok (jm ks xs ys) w:=by
 intro d;induction d with
 |zero=>intro t ks desc h;cases h
 |succ d IH =>
  intro t ks desc h hd m xs ys hx hy hfx hfy w;rw[show d+1+m=(d+m)+1 from by omega];simp only [flat,hd] at h;have one:∀ k:EK,ks=[k]->∃ x y,xs=[x]/\ys=[y]/\fits k x/\fits k y:=by
   rintro k rfl
   match xs,ys,hx,hy with
   |[x],[y],_,_=>exact⟨x,y,rfl,rfl,hfx 0 k x rfl rfl,hfy 0 k y rfl rfl⟩
  cases desc with
  |bool =>
   obtain⟨x,y,rfl,rfl,f1,f2⟩:=one .bool (by simpa using h.symm);obtain rfl:ks=[.bool]:=by simpa using h.symm
   cases x <;> simp [fits] at f1
   cases y <;> simp [fits] at f2
   simp[mkV,y6,jm,zu,yo3 _ _ _ _ hd]
  |int k =>
   obtain⟨x,y,rfl,rfl,f1,f2⟩:=one (.int k) (by simpa using h.symm);obtain rfl:ks=[.int k]:=by simpa using h.symm
   cases x <;> simp [fits] at f1
   cases y <;> simp [fits] at f2
   subst f1 f2;simp[mkV,y6,jm,zu,run_equalIn_int w _ t k k _ _ hd]
  |string =>
   obtain⟨x,y,rfl,rfl,f1,f2⟩:=one .str (by simpa using h.symm);obtain rfl:ks=[.str]:=by simpa using h.symm
   cases x <;> simp [fits] at f1
   cases y <;> simp [fits] at f2
   simp[mkV,y6,jm,zu,run_equalIn_string w _ t _ _ hd]
  |struct fs =>
   simp only at h;split at h
   ·cases h
   ·rename_i hst;have hfo:P.fieldsOf t=fs:=by simp[Program.fieldsOf,hd]
    have:=run_equalIn_struct (P:=P) w (d+m) t xs.toArray ys.toArray (by rw[hfo];exact hd) (by simpa using hst);simp only[mkV,y6,if_true];rw[this,hfo,zl5 (λt ks desc a b=>IH t ks desc a b) m xs ys fs.toList 0 ks h om om (by simpa using hfx) (by simpa using hfy) w];simp[hx,hy];rw[gr om,gr om]
  |array n e =>
   simp only at h;split at h
   ·rename_i l i hl hi;split at h
    ·rename_i hc;obtain⟨hsz,hco⟩:=hc;obtain rfl:ks=repL l n:=by simpa using h.symm
     obtain⟨desc,hdesc⟩:∃ desc,P.underlying e=some desc:=by
      cases hu:P.underlying e with
      |none=>cases d <;> simp [flat,hu] at hl
      |some x=>exact⟨x,rfl⟩
     have:=run_equalIn_array (P:=P) w (d+m) xs.toArray ys.toArray hd hi;simp only[mkV,y6,if_true];rw [ya1] at hx hy;rw[this,hco,List.range_eq_range',zp5 (λm xs ys a b c d w=>IH e l desc hl hdesc m xs ys a b c d w) hdesc hi hsz (λha=>qt4 hl hdesc ha) m xs ys n 0 (by simp[hx]) (by simp[hy]) (by simpa using hfx) (by simpa using hfy) w];simp;rw[gr om,gr om]
    ·cases h
   ·cases h
  |_=>cases h
end
section
variable{P:Program}
theorem zp9[Dr]{d:Nat}(xs:List Value):∀ (fs:List Field) (off:Nat) (ks:List EK),qj7 P (flat P d) fs off=some ks->off+ks.length<=xs.length->Fits ks (xs.drop off) ->
 ∀ f ∈ fs, ¬ f.name = "_" ∧ ∃ l i desc, flat P d f.type = some l ∧ P.info? f.type = some i ∧ i.size = l.length ∧ P.underlying f.type = some desc ∧ f.offset + l.length ≤ xs.length ∧ Fits l ((xs.drop f.offset).take l.length) := by
 intro fs;induction fs with
 |nil=>intro off ks h _ _ f hf;simp at hf
 |cons f fs ih =>
  intro off ks h hx hfx g hg;simp only [qj7] at h;split at h
  ·cases h
  ·rename_i hn;simp only [not_or,Decidable.not_not] at hn;obtain⟨hnm,hoff⟩:=hn;split at h
   ·rename_i l i hl hi;split at h
    ·rename_i hsz;rw [f6] at h;obtain⟨ks',hks',rfl⟩:=h;simp only [pq] at hx;rcases pz.1 hg with rfl|hg
     ·obtain⟨desc,hdesc⟩:∃ desc,P.underlying g.type=some desc:=by
       cases hu:P.underlying g.type with
       |none=>cases d <;> simp [flat,hu] at hl
       |some x=>exact⟨x,rfl⟩
      exact⟨hnm,l,i,desc,hl,hi,hsz,hdesc,om,by rw[hoff];exact hfx.take⟩
     ·exact ih (off+l.length) ks' hks' om (by have:=hfx.drop;rwa [gx] at this) g hg
    ·cases h
   ·cases h
theorem xn7[Dr](b:Bool):∀ (d:Nat) (t:TypeId) (ks:List EK) (desc:TypeDesc),flat P d t=some ks->P.underlying t=some desc->∀ (m:Nat) (xs:List Value),xs.length=ks.length->Fits ks xs->∀ w:World,
 (Instr.checkKey b (d+m) t (mkV desc xs)).run P w = .ok () w:=by
 intro d;induction d with
 |zero=>intro t ks desc h;cases h
 |succ d IH =>
  intro t ks desc h hd m xs hx hfx w;rw[show d+1+m=(d+m)+1 from by omega];simp only [flat,hd] at h;cases desc with
  |bool=>exact ql8 hd (.inr (.inr rfl)) b _ _
  |int k=>exact ql8 hd (.inl ⟨k,rfl⟩) b _ _
  |string=>exact ql8 hd (.inr (.inl rfl)) b _ _
  |struct fs =>
   simp only at h;split at h
   ·cases h
   ·simp only[mkV,y6,if_true];rw[Instr.checkKey];simp only[p8,run_underlying hd,ot];rw[<-Array.forIn_toList];have each:=zp9 xs fs.toList 0 ks h om (by simpa using hfx);generalize fs.toList=l at each;induction l with
    |nil=>simp
    |cons f l ih =>
     obtain⟨hnm,l',i,desc,hl,hi,hsz,hdesc,e1,e2⟩:=each f sm;have p1:=qm1 (w:=w) hdesc hi xs f.offset l'.length hsz (λha=>qt4 hl hdesc ha) e1;have p2:=IH f.type l' desc hl hdesc m _ (by simp;omega) e2 w;simp only[List.forIn_cons,p8,hnm,ne_eq,not_false_eq_true,if_true,ot,p1,p2,o6];exact ih (λg hg=>each g (by simp[hg]))
  |array n e =>
   simp only at h;split at h
   ·rename_i l i hl hi;split at h
    ·rename_i hc;obtain⟨hsz,hco⟩:=hc;obtain rfl:ks=repL l n:=by simpa using h.symm
     obtain⟨desc,hdesc⟩:∃ desc,P.underlying e=some desc:=by
      cases hu:P.underlying e with
      |none=>cases d <;> simp [flat,hu] at hl
      |some x=>exact⟨x,rfl⟩
     rw [ya1] at hx;simp only[mkV,y6,if_true];rw[Instr.checkKey];simp only[p8,run_underlying hd,ot];simp only[Std.Legacy.Range.forIn_eq_forIn_range',Std.Legacy.Range.size,rv,Nat.add_one_sub_one,Nat.div_one];have each:∀ j ∈ List.range' 0 n,(j+1) * l.length<=xs.length/\Fits l ((xs.drop (j * l.length)).take l.length):=λj hj=>by
      have hj:j<n:=by simpa using(List.mem_range'_1.1 hj).2
      refine⟨by rw[hx];exact l5 _ hj,?_⟩;intro q k x hk hxq;have hq:=(p6.1 hk).1;rw [lq,if_pos hq,m8] at hxq;exact hfx _ k x (by rw[xj0 l n j q hj hq];exact hk) hxq
     generalize List.range' 0 n=is at each;induction is with
     |nil=>simp
     |cons j is ih =>
      obtain⟨e1,e2⟩:=each j sm;rw [o9,l9] at e1;have p1:=qm1 (w:=w) hdesc hi xs (j * l.length) l.length hsz (λha=>qt4 hl hdesc ha) e1;have p2:=IH e l desc hl hdesc m _ (by simp;omega) e2 w;simp only[List.forIn_cons,p8,Go.Eng.run_sizeOf hi,hsz,ot,p1,p2,o6];exact ih (λy hy=>each y (by simp[hy]))
    ·cases h
   ·cases h
  |_=>cases h
end
def zagB:Value->Bool->Bool
 | .agg _,b=>b
 |_,b=>!b
def wd:List SV->List Value->Bool
 |[],[]=>true
 | .d (.int k n) :: l,.int k' n' :: m=>kEq k k' && n == n' && wd l m
 | .d .ff :: l,.bool false :: m=>wd l m
 | .d (.str []) :: l,.string s :: m=>s.data.isEmpty && wd l m
 | .d (.sl true 0 _ _) :: l,.slice none 0 0 :: m=>wd l m
 | .v (.pointer none) :: l,.pointer none :: m=>wd l m
 | .v (.map none) :: l,.map none :: m=>wd l m
 | .v .nilFunc :: l,.nilFunc :: m=>wd l m
 | .v .nilIface :: l,.nilIface :: m=>wd l m
 |_,_=>false
def qo0(P:Program):List Field->List (Nat × TypeId)->Bool
 |[],[]=>true
 |f :: fs,(off,t) :: r=>f.offset == off && f.type == t && ((P.info? t).any λi=>i.size != 0) && qo0 P fs r
 |_,_=>false
def jv7(P:Program)(d:TypeDesc):TD->Bool
 | .other=>true
 | .bool=>(match d with| .bool=>true|_=>false)
 | .str=>(match d with| .string=>true|_=>false)
 | .int k=>(match d with| .int k'=>kEq k' k|_=>false)
 | .slice e=>(match d with| .slice e'=>e' == e|_=>false)
 | .array n e=>(match d with| .array n' e'=>n' == n && e' == e|_=>false)
 | .ptr e=>(match d with| .pointer e'=>e' == e|_=>false)
 | .map k e=>(match d with| .map k' e'=>k' == k && e' == e|_=>false)
 | .iface=>(match d with| .interface _=>true|_=>false)
 | .struct fs=>(match d with| .struct fields=>qo0 P fields.toList fs|_=>false)
def js9(P:Program)(t:TypeId)(ti:TI):Bool :=
 match P.info? t,P.underlying t with
 |some info,some d=>info.size == ti.size && info.bytes == ti.bytes && y6 d == ti.agg && (match info.zero with
  |some z=>wd ti.zero z.cells.toList && zagB z ti.agg
  |none=>false) && ti.zero.length == ti.size && jv7 P d ti.desc && (ti.eqk.isEmpty || (ti.agg && decide (flat P 20 t=some ti.eqk) && !P.eqGuardType P.depth t))
 |_,_=>false
def jq1(P:Program):List (Nat × TI)->Bool
 |[]=>true
 |(t,ti) :: l=>js9 P t ti && jq1 P l
def look:List (Nat × TI)->Nat->Option TI
 |[],_=>none
 |(k,v) :: l,n=>match Nat.beq k n with
  |true=>some v
  |false=>look l n
theorem zr6[Dr]{l:List SV}{m:List Value}(h:wd l m=true):l.length=m.length/\(∀ (w:World) (M:Nat->Prop) (β:Env) (j:Nat) (s:SV) (u:Value),l[j]? = some s->m[j]? = some u->Den w M β s u)/\∀ (j:Nat) (u:Value),m[j]? = some u->u.oneCell'=true:=by
 induction l generalizing m with
 |nil=>cases m with
  |nil=>exact⟨rfl,sm,sm⟩
  |cons=>simp [wd] at h
 |cons s l ih =>
  cases m with
  |nil =>
   exfalso;unfold wd at h;split at h <;> simp_all
  |cons v m =>
   have key:wd l m=true->(∀ (w:World) (M:Nat->Prop) (β:Env),Den w M β s v)->v.oneCell'=true->(s :: l).length=(v :: m).length/\(∀ (w:World) (M:Nat->Prop) (β:Env) (j:Nat) (s':SV) (u:Value),(s :: l)[j]? = some s'->(v :: m)[j]? = some u->Den w M β s' u)/\∀ (j:Nat) (u:Value),(v :: m)[j]? = some u->u.oneCell'=true:=by
    intro hz hd h1;obtain⟨a,b,c⟩:=ih hz;refine⟨by simp[a],λw M β j s' u hs hu=>?_,λj u hu=>?_⟩
    ·cases j with
     |zero=>simp at hs hu;subst hs hu;exact hd w M β
     |succ j=>exact b w M β j s' u (by simpa using hs) (by simpa using hu)
    ·cases j with
     |zero=>simp at hu;subst hu;exact h1
     |succ j=>exact c j u (by simpa using hu)
   unfold wd at h;split at h
   ·rename_i e _;cases e
   ·rename_i e1 e2;obtain⟨rfl,rfl⟩:=lz e1;obtain⟨rfl,rfl⟩:=lz e2;simp only [p7,oy] at h;obtain⟨⟨hk,rfl⟩,hz⟩:=h;cases vz hk;exact key hz (λw M β=>.d (.int _ _)) rfl
   ·rename_i e1 e2;obtain⟨rfl,rfl⟩:=lz e1;obtain⟨rfl,rfl⟩:=lz e2;exact key h (λw M β=>.d .ff) rfl
   ·rename_i str _ e1 e2;obtain⟨rfl,rfl⟩:=lz e1;obtain⟨rfl,rfl⟩:=lz e2;simp only [p7] at h;refine key h.2 (λw M β=>.d ?_) rfl;have:Value.string str=strV []:=by
     obtain⟨x⟩:=str;simp at h;obtain⟨rfl,_⟩:=h;rfl
    rw[this];exact .str _
   ·rename_i e1 e2;obtain⟨rfl,rfl⟩:=lz e1;obtain⟨rfl,rfl⟩:=lz e2;exact key h (λw M β=>.d (.nil _ _)) rfl
   ·rename_i e1 e2;obtain⟨rfl,rfl⟩:=lz e1;obtain⟨rfl,rfl⟩:=lz e2;exact key h (λw M β=>.v _) rfl
   ·rename_i e1 e2;obtain⟨rfl,rfl⟩:=lz e1;obtain⟨rfl,rfl⟩:=lz e2;exact key h (λw M β=>.v _) rfl
   ·rename_i e1 e2;obtain⟨rfl,rfl⟩:=lz e1;obtain⟨rfl,rfl⟩:=lz e2;exact key h (λw M β=>.v _) rfl
   ·rename_i e1 e2;obtain⟨rfl,rfl⟩:=lz e1;obtain⟨rfl,rfl⟩:=lz e2;exact key h (λw M β=>.v _) rfl
   ·cases h
theorem zl6{P:Program}{fs:List Field}{l:List (Nat × TypeId)}(h:qo0 P fs l=true):fs.length=l.length/\∀ (j:Nat) (off:Nat) (ft:TypeId),l[j]? = some (off,ft)->∃ (f:Field) (fi:TypeInfo),fs[j]? = some f/\f.offset=off/\f.type=ft/\P.info? ft=some fi/\fi.size≠0:=by
 induction fs generalizing l with
 |nil=>cases l with
  |nil=>exact⟨rfl,sm⟩
  |cons=>simp [qo0] at h
 |cons f fs ih=>cases l with
  |nil=>simp [qo0] at h
  |cons p l =>
   obtain⟨off,t⟩:=p;simp only [qo0,p7,oy] at h;obtain⟨⟨⟨h1,h2⟩,h3⟩,h4⟩:=h;obtain⟨a,b⟩:=ih h4;refine⟨by simp[a],λj o ft hj=>?_⟩;cases j with
   |zero =>
    simp at hj;obtain⟨rfl,rfl⟩:=hj;cases hi:P.info? t with
    |none=>simp [hi] at h3
    |some i=>exact⟨f,i,rfl,h1,h2,rfl,by simpa[hi] using h3⟩
   |succ j=>exact b j o ft (by simpa using hj)
theorem zw2[Dr]{P:Program}{d:TypeDesc}{td:TD}(h:jv7 P d td=true):TDok P d td:=by
 cases td <;> simp only [jv7] at h
 ·trivial
 ·cases d <;> first|rfl|cases h
 ·cases d <;> first|rfl|cases h
 ·cases d <;> first|cases h|(exact congrArg TypeDesc.int (vz h))|(simp at h)
 ·cases d <;> first|cases h|(exact congrArg TypeDesc.slice (by simpa using h))|(simp at h)
 ·cases d <;> first|cases h|(simp at h;obtain ⟨rfl,rfl⟩:=h;rfl)|(simp at h)
 ·split at h
  ·obtain⟨a,b⟩:=zl6 h;rename_i fields;exact⟨fields,rfl,by simpa using a,λj off ft hj=>by
    obtain⟨f,fi,h1,h2⟩:=b j off ft hj;exact⟨f,fi,by simpa using h1,h2⟩⟩
  ·cases h
 ·cases d <;> first|cases h|(exact congrArg TypeDesc.pointer (by simpa using h))|(simp at h)
 ·cases d <;> first|cases h|(simp at h;obtain ⟨rfl,rfl⟩:=h;rfl)|(simp at h)
 ·split at h
  ·exact⟨_,rfl⟩
  ·cases h
theorem zl9[Dr]{P:Program}{t:TypeId}{ti:TI}(h:js9 P t ti=true):TIok P t ti:=by
 unfold js9 at h;split at h
 ·rename_i info d hi hd;simp only [p7,oy] at h;obtain⟨⟨⟨⟨⟨⟨h1,h2⟩,h3⟩,h4⟩,h5⟩,h6⟩,h7⟩:=h;split at h4
  ·rename_i z hz;rw [p7] at h4;obtain⟨h4,hzag⟩:=h4;obtain⟨a,b,c⟩:=zr6 h4;refine⟨⟨info,d,z,hi,hd,h1,h2,hz,h3,by simpa using a.symm,h5,λw M β j s u hs hu=>b w M β j s u hs (by simpa using hu),λj u hu=>c j u (by simpa using hu),zw2 h6⟩,λhne w xs ys hx hy hfx hfy=>?_,λinfo' z' hi' hz'=>?_,λhne=>?_⟩
   case refine_2 =>
    rw [hi] at hi';cases hi';rw [hz] at hz';cases hz';cases z <;> simp [zagB] at hzag <;> simp [q9,hzag,Value.cells]
   case refine_3 =>
    have:ti.eqk.isEmpty=false:=by cases he:ti.eqk with|nil=>exact absurd he hne|cons=>rfl
    simp only [this,c9,p7,lr,dp] at h7;obtain⟨⟨g1,g2⟩,g3⟩:=h7;refine⟨g1,λw b xs hx hfx=>?_⟩;have hs:=xn7 (P:=P) b 20 t ti.eqk d g2 hd 9980 xs hx hfx w;have hag:y6 d=true:=h3.trans g1;simp only [mkV,hag,if_true] at hs;exact hs
   have:ti.eqk.isEmpty=false:=by cases he:ti.eqk with|nil=>exact absurd he hne|cons=>rfl
   simp only [this,c9,p7,lr,dp] at h7;obtain⟨⟨g1,g2⟩,g3⟩:=h7;have hs:=zv7 (P:=P) 20 t ti.eqk d g2 hd 9980 xs ys hx hy hfx hfy w;have hag:y6 d=true:=h3.trans g1;simp only [mkV,hag,if_true] at hs;exact⟨hs,g3⟩
  ·cases h4
 ·cases h
def zg0(fn:Func)(nargs:Nat):Option Inl :=
 match fn.body with
 |none=>none
 |some c=>some ⟨nargs,fn.ntmps - nargs,fn.results.toList,c⟩
theorem zk4[Dr]{P:Program}{l:List (Nat × TI)}(h:jq1 P l=true):TTok P (look l):=by
 induction l with
 |nil=>intro t ti ht;cases ht
 |cons p l ih =>
  obtain⟨k,v⟩:=p;simp only [jq1,p7] at h;intro t ti ht;simp only [look] at ht;split at ht
  ·rename_i hk;have:=jg hk;subst this;obtain rfl:=oq ht;exact zl9 h.1
  ·exact ih h.2 t ti ht
theorem qb {P : Program} {f : FuncId} {fn : Func} (hf : P.funcs[f]? = some fn) (hn : (fn.name == "runtime.NumGoroutine") = false) (hb : fn.body.isNone = false) (args : Array Value) (w : World) : (callFunc f args).run P w = .ok (.enter f args) w := by
 unfold callFunc;simp only[p8,run_program,ot,hf,hn,hb,fx,if_false,o6]
def qd:List (Nat × Func × Nat)->Nat->Option Inl
 |[],_=>none
 |(g,fn,na) :: l,f=>match Nat.beq g f with
  |true=>zg0 fn na
  |false=>qd l f
theorem qg{P:Program}:INok P (qd []):=λf i h=>by cases h
theorem jv [Dr] {P : Program} {l : List (Nat × Func × Nat)} {g na : Nat} {fn : Func} (h : INok P (qd l)) (hf : P.funcs[g]? = some fn) (hn : (fn.name == "runtime.NumGoroutine") = false) (hle : Nat.ble na fn.ntmps = true) : INok P (qd ((g, fn, na) :: l)) := fun f i hi => by
 simp only [qd] at hi;split at hi
 ·rename_i hb;cases jg hb;unfold zg0 at hi;split at hi
  ·cases hi
  ·rename_i c hc;cases hi;have:=yh hle;exact⟨fn,hf,hc,rfl,by simp only;omega,qb hf hn (by rw[hc];rfl)⟩
 ·exact h f i hi
inductive DS:DV->DV->Prop where
 |refl (x:DV):DS x x
 |bt:DS (.bool true) .tt
 |bf:DS (.bool false) .ff
 |tb:DS .tt (.bool true)
 |fb:DS .ff (.bool false)
 |sl (b:Bool) (n sz:Nat) (f g:Nat->List DV):(∀ i,i<n->(f i).length=(g i).length)->(∀ (i j:Nat) (x y:DV),i<n->(f i)[j]? = some x->(g i)[j]? = some y->DS x y)->DS (.sl b n sz f) (.sl b n sz g)
 |none (b:Bool) (sz sz':Nat) (f g:Nat->List DV):DS (.sl b 0 sz f) (.sl b 0 sz' g)
theorem DS.rd[Dr]{w:World}{M:Nat->Prop}{x y:DV}(h:DS x y):∀ {v:Value},Rd w M x v->Rd w M y v:=by
 induction h with
 |refl=>exact λh=>h
 |bt=>intro v h;cases h;exact .tt
 |bf=>intro v h;cases h;exact .ff
 |tb=>intro v h;cases h;exact .bool true
 |fb=>intro v h;cases h;exact .bool false
 |none=>exact λh=>h.width
 |sl b n sz f g hl _ ih =>
  intro v h;cases h with
  |nil=>exact .nil sz g
  |sl _ _ _ ad cap u h1 h3 h4 h5 h6 =>
   have hat:∀ (i j:Nat) (y:DV),i<n->(g i)[j]? = some y->∃ x,(f i)[j]? = some x:=λi j y hi hy=>by
    have:=(p6.1 hy).1;rw [<-hl i hi] at this;exact⟨_,pp this⟩
   refine .sl n sz g ad cap u h1 h3 (λi hi=>(hl i hi).symm.trans (h4 i hi)) (λi j d hi hd=>?_) (λi j d hi hd=>?_)
   ·obtain⟨x,hx⟩:=hat i j d hi hd;exact h5 i j x hi hx
   ·obtain⟨x,hx⟩:=hat i j d hi hd;exact ih i j x d hi hx hd (h6 i j x hi hx)
def DSL:List DV->List DV->Prop
 |[],[]=>True
 |a :: l,b :: m=>DS a b/\DSL l m
 |_,_=>False
theorem DSL.len[Dr]:∀ {l m:List DV},DSL l m->l.length=m.length
 |[],[],_=>rfl
 |_ :: _,_ :: _,h=>congrArg (· + 1) (DSL.len h.2)
theorem DSL.at[Dr]:∀ {l m:List DV},DSL l m->∀ (j:Nat) (x y:DV),l[j]? = some x->m[j]? = some y->DS x y
 |[],[],_,_,_,_,hx,_=>by simp at hx
 |_ :: _,_ :: _,h,0,x,y,hx,hy=>by simp at hx hy;subst hx hy;exact h.1
 |_ :: l,_ :: m,h,j+1,x,y,hx,hy=>DSL.at (l:=l) (m:=m) h.2 j x y (by simpa using hx) (by simpa using hy)
theorem DS.rows[Dr]{b:Bool}{n sz:Nat}{f g:Nat->List DV}(h:∀ i,i<n->DSL (f i) (g i)):DS (.sl b n sz f) (.sl b n sz g):=.sl b n sz f g (λi hi=>(h i hi).len) (λi j x y hi=>(h i hi).at j x y)
def ArgEq(s t:SV):Prop :=
 match s with
 | .d x=>match t with
  | .d y=>DS x y
  |_=>False
 |s=>s=t
def ArgsEq:List SV->List SV->Prop
 |[],[]=>True
 |a :: l,b :: m=>ArgEq a b/\ArgsEq l m
 |_,_=>False
theorem ArgEq.den[Dr]{w:World}{M:Nat->Prop}{β:Env}{s t:SV}(h:ArgEq s t){v:Value}(hd:Den w M β s v):Den w M β t v:=by
 unfold ArgEq at h;split at h
 ·split at h
  ·exact .d (h.rd (jj hd))
  ·cases h
 ·exact h ▸ hd
theorem ArgsEq.len[Dr]:∀ {l m:List SV},ArgsEq l m->l.length=m.length
 |[],[],_=>rfl
 |_ :: _,_ :: _,h=>congrArg (· + 1) (ArgsEq.len h.2)
theorem ArgsEq.at[Dr]:∀ {l m:List SV},ArgsEq l m->∀ (j:Nat) (t:SV),m[j]? = some t->∃ s,l[j]? = some s/\ArgEq s t
 |[],[],_,_,_,ht=>by simp at ht
 |_ :: _,_ :: _,h,0,t,ht=>by simp at ht;subst ht;exact ⟨_,rfl,h.1⟩
 |_ :: l,_ :: m,h,j+1,t,ht=>ArgsEq.at (l:=l) (m:=m) h.2 j t (by simpa using ht)
theorem FnOk.conv[Dr]{P:Program}{f:FuncId}{args args':List SV}{res:SV}(h:FnOk P f args res)(hc:ArgsEq args' args):FnOk P f args' res :=
 ⟨h.1,λM w vs hV hM hl hd=>h.2 M w vs hV hM (by rw[<-hc.len,hl]) (λj s u hs hu=>by
  obtain⟨s',hs',he⟩:=hc.at j s hs;exact he.den (hd j s' u hs' hu))⟩
namespace Ex
variable{α:Type}
theorem ze7[Dr]{ks:List KB}{s:SV}{G:SV->List Nat->(α->Prop)->Prop}(h:∀ v l,Ex (G v l)):Ex (λK=>qo3 ks s (λv l=>G v l K)):=by
 unfold qo3;split <;> first|exact dv λd fr=>h _ _|exact h _ _
theorem xw8[Dr]{ks:List KB}:∀ {l:List SV} {G:List SV->List Nat->(α->Prop)->Prop} (_:∀ v l,Ex (G v l)),Ex (λK=>qj4 ks l (λv l=>G v l K)):=by
 intro l;induction l with
 |nil=>intro G h;exact h _ _
 |cons a l ih=>intro G h;exact ze7 λd fr=>ih λds fr'=>appN λr=>h _ _
theorem view[Dr]{TT:Nat->Option TI}{ks:List KB}{s:SV}{ty:Option TypeId}{G:SV->List Nat->(α->Prop)->Prop}(h:∀ v l,Ex (G v l)):Ex (λK=>qw5 TT ks s ty (λv l=>G v l K)):=by
 unfold qw5
 repeat'(first|exact no|exact xw8 λ_ _=>h _ _|exact src λ_ _ _=>h _ _|exact ze7 h|exact h _ _|refine and ?_|refine getB λ_=>?_|split)
theorem views[Dr]{TT:Nat->Option TI}{ks:List KB}:∀ {l:List SV} {tys:List TypeId} {G:List SV->List Nat->(α->Prop)->Prop} (_:∀ v l,Ex (G v l)),Ex (λK=>vx TT ks l tys (λv l=>G v l K)):=by
 intro l;induction l with
 |nil=>intro tys G h;exact h _ _
 |cons a l ih=>intro tys G h;exact view λd fr=>ih λds fr'=>appN λr=>h _ _
end Ex
theorem xg8[Dr]{TT:Nat->Option TI}{ks:List KB}{as:List SV}{tys:List TypeId}{K:List SV->List Nat->Prop}(h:vx TT ks as tys K):∃ l t,vx TT ks as tys (λl' t'=>l'=l/\t'=t)/\K l t:=by
 obtain⟨⟨l,t⟩,h1,h2⟩:=Ex.views (α:=List SV × List Nat) (TT:=TT) (ks:=ks) (l:=as) (tys:=tys) (G:=λl t K=>K (l,t)) (λv l=>Ex.self (v,l)) (λp=>K p.1 p.2) h;exact⟨l,t,by simpa using h1,h2⟩
theorem CallStop.look[Dr]{P:Program}{TT:Nat->Option TI}{f:FuncId}{as:List SV}{tys:List TypeId}{ks:List KB}{K:Bool->SV->List KB->Prop}(r:SV)
 (h:vx TT ks as tys (λl _=>FnOk P f l r/\xn l=true)) (hs:scalar r=true) (hK:K false r ks):CallStop P TT f as tys ks K:=by
 obtain⟨l,t,h1,h2,h3⟩:=xg8 h;exact .view r l t h2 h1 h3 hs hK
end
section
inductive DT (P:Program):TypeId->List DV->Prop where
 |int (t:TypeId) (k:IntKind) (n:Int):P.underlying t=some (.int k)->(Lit.int k n).wf=true->DT P t [.int k n]
 |bool (t:TypeId) (b:Bool):P.underlying t=some .bool->DT P t [.bool b]
 |str (t:TypeId) (s:Ls):P.underlying t=some .string->s.length<=maxLen->DT P t [.str s]
 |nil (t e:TypeId):P.underlying t=some (.slice e)->DT P t [.sl true 0 (P.cellsOf e) (λ_=>[])]
 |sl (t e:TypeId) (n:Nat) (f:Nat->List DV):P.underlying t=some (.slice e)->n<=maxLen->(∀ i,i<n->DT P e (f i))->DT P t [.sl false n (P.cellsOf e) f]
 |struct (t:TypeId) (fs:Array Field) (ds:List DV):P.underlying t=some (.struct fs)->ds.length=P.cellsOf t->(∀ f ∈ fs.toList,DT P f.type ((ds.drop f.offset).take (P.cellsOf f.type)))->DT P t ds
 |array (t e:TypeId) (n:Nat) (ds:List DV):P.underlying t=some (.array n e)->ds.length=P.cellsOf t->(∀ i,i<n->DT P e ((ds.drop (i * P.cellsOf e)).take (P.cellsOf e)))->DT P t ds
def u4(P:Program):Nat->TypeId->Bool
 |0,_=>false
 |n+1,t=>match P.underlying t with
  |some (.int _)=>true
  |some .bool=>true
  |some .string=>true
  |some (.slice e)=>u4 P n e
  |some (.struct fs)=>fs.toList.all (λf=>u4 P n f.type)
  |some (.array _ e)=>u4 P n e
  |_=>false
section
variable{H:Type}{enc:TypeId × Value->H}{P:Program}{w:World}{T:TypeId->Prop}
theorem xg1(a:Addr)(n:Nat):(a.add n).block=a.block:=by unfold Addr.add;split <;> rfl
theorem jl6[Dr](c:Nat):∀ j,((List.range j).map (λ_=>c)).sum=j * c
 |0=>by simp
 |j+1=>by rw[List.range_succ,du,List.sum_append,jl6 c j,o9];simp
theorem glue[Dr]{M:Nat->Prop}:∀ (ps:List (Nat × Nat × TypeId)) (off:Nat) (cs:List Value),(∀ (j:Nat) (p:Nat × Nat × TypeId),ps[j]? = some p->p.1=off+((ps.take j).map (·.2.1)).sum) ->
 (∀ p ∈ ps,∃ ds,DT P p.2.2 ds/\ds.length=p.2.1/\∀ (q:Nat) (d:DV) (v:Value),ds[q]? = some d->cs[p.1+q]? = some v->Rd w M d v) ->
 ∃ ds:List DV,ds.length=(ps.map (·.2.1)).sum/\(∀ p ∈ ps,off<=p.1/\DT P p.2.2 ((ds.drop (p.1 - off)).take p.2.1))/\∀ (q:Nat) (d:DV) (v:Value),ds[q]? = some d->cs[off+q]? = some v->Rd w M d v
 |[],off,cs,_,_=>⟨[],rfl,λ_ h=>(by cases h),λq d v h=>(by simp at h)⟩
 |(o,n,t) :: ps,off,cs,ho,h=>by
  have h0:o=off:=by simpa using ho 0 _ rfl
  subst h0;obtain⟨d1,t1,l1,r1⟩:=h _ (l6 ..);simp only at t1 l1 r1;obtain⟨d2,l2,t2,r2⟩:=glue ps (o+n) cs (λj p hp=>by
   have:=ho (j+1) p (by simpa using hp);simp only [List.take_succ_cons,bp,List.sum_cons] at this;omega) (λp hp=>h p (gt _ hp))
  refine⟨d1++d2,by simp[l1,l2],λp hp=>?_,λq d v hd hv=>?_⟩
  ·rcases pz.1 hp with rfl|hp
   ·refine⟨pu _,?_⟩;simp only[ly,List.drop_zero];rw[List.take_append_of_le_length om,gr om];exact t1
   ·obtain⟨hle,ht⟩:=t2 p hp;refine⟨om,?_⟩;rw[List.drop_append,sy om,fq,l1,show p.1 - o - n=p.1 - (o+n) from by omega];exact ht
  ·rcases ox q n with hq|hq
   ·rw [mn om] at hd;exact r1 q d v hd hv
   ·rw [m7 om,l1] at hd;exact r2 (q - n) d v hd (by rw[show o+n+(q - n)=o+q from by omega];exact hv)
theorem xq5[Dr](K:Kids P T)(hz:∀ t e,T t->P.underlying t=some (.slice e)->0<P.cellsOf e){sp:Nat->Bool}{hd:Bool}:∀ (m n:Nat) (t:TypeId) (cs:List Value) (x:DataW H × List MemPlace),u4 P m t=true->T t ->
 DataW.trod enc P w 0 sp hd n t cs=some x->∃ ds,DT P t ds/\ds.length=cs.length/\∀ (q:Nat) (d:DV) (v:Value),ds[q]? = some d->cs[q]? = some v->Rd w (λ_=>False) d v:=by
 intro m;induction m with
 |zero=>intro n t cs x hs;cases hs
 |succ m ih =>
  intro n t cs x hs hT h;unfold u4 at hs;split at hs
  ·rename_i k hu;obtain⟨i,rfl,_,hw⟩:=DataW.trod_int hu h;exact⟨[.int k i],.int t k i hu hw,rfl,λq d v hd hv=>by
    cases q with
    |zero=>simp at hd hv;subst hd hv;exact .int k i
    |succ q=>simp at hd⟩
  ·rename_i hu;obtain⟨b,rfl,_⟩:=DataW.trod_bool hu h;exact⟨[.bool b],.bool t b hu,rfl,λq d v hd hv=>by
    cases q with
    |zero=>simp at hd hv;subst hd hv;exact .bool b
    |succ q=>simp at hd⟩
  ·rename_i hu;obtain⟨s,rfl,_,hl⟩:=DataW.trod_string hu h;exact⟨[.str s.data.toList],.str t _ hu (by rw[Array.length_toList];exact hl),rfl,λq d v hd hv=>by
    cases q with
    |zero =>
     simp at hd hv;subst hd hv;have:=Rd.str (w:=w) (M:=λ_=>False) s.data.toList;simpa[strV] using this
    |succ q=>simp at hd⟩
  ·rename_i e hu;rcases DataW.trod_slice hu h with⟨rfl,_⟩|⟨a,len,cap,elems,rest,n',rfl,rfl,_,_,hlc,hcm,hel,hat,_,_⟩
   ·exact⟨_,.nil t e hu,rfl,λq d v hd hv=>by
     cases q with
     |zero=>simp at hd hv;subst hd hv;exact .nil _ _
     |succ q=>simp at hd⟩
   ·have hpos:=hz t e hT hu;have each:∀ i,i<len->∃ ds:List DV,DT P e ds/\ds.length=P.cellsOf e/\(∀ (q:Nat) (d:DV),ds[q]? = some d->∃ v,w.cell? (a.add (i * P.cellsOf e+q))=some v/\Rd w (λ_=>False) d v)/\a.block<w.heap.size:=λi hi=>by
     have h1:=hat i hi;rw [pp om] at h1;obtain⟨cs',hc,hx⟩:=Option.bind_eq_some_iff.1 h1;obtain⟨ds,h2,h3,h4⟩:=ih n' e cs' _ hs (K.slice hT hu) hx;obtain⟨_,h5,h6⟩:=World.cells?_some hc;refine ⟨ds,h2,om,λq d hd=>?_,by have:=World.cells?_block hc hpos;rwa [xg1] at this⟩;have hq:q<cs'.length:=by have:=(p6.1 hd).1;omega
     refine⟨cs'[q],?_,h4 q d _ hd (pp hq)⟩;have:=h6 q om;rw [pp hq] at this;rw[<-this,Addr.add_add]
    let f:Nat->List DV:=λi=>if hi:i<len then (each i hi).choose else []
    have hf:∀ i (hi:i<len),f i=(each i hi).choose:=λi hi=>by simp[f,hi]
    refine⟨[.sl false len (P.cellsOf e) f],.sl t e len f hu (gn hlc hcm) (λi hi=>by rw[hf i hi];exact(each i hi).choose_spec.1),rfl,λq d v hd hv=>?_⟩;cases q with
    |succ q=>simp at hd
    |zero =>
     simp at hd hv;subst hd hv;refine .sl len (P.cellsOf e) f a cap (λi q=>(w.cell? (a.add (i * P.cellsOf e+q))).getD undef) hlc (λhp=>⟨(each 0 hp).choose_spec.2.2.2,λh=>h⟩) (λi hi=>by rw[hf i hi];exact(each i hi).choose_spec.2.1) (λi q d hi hd=>?_) (λi q d hi hd=>?_)
     ·rw [hf i hi] at hd;obtain⟨v,hv,_⟩:=(each i hi).choose_spec.2.2.1 q d hd;simp[hv]
     ·rw [hf i hi] at hd;obtain⟨v,hv,hr⟩:=(each i hi).choose_spec.2.2.1 q d hd;simpa[hv] using hr
  ·rename_i fs hu;obtain⟨xs,n',rfl,_,hl,hxl,hat⟩:=DataW.trod_struct hu h;obtain⟨k1,k2,k3⟩:=K.struct hT hu;obtain⟨ds,l,ht,hr⟩:=glue (P:=P) (w:=w) (M:=λ_=>False) (fs.toList.map λf=>(f.offset,P.cellsOf f.type,f.type)) 0 cs (λj p hp=>by
    rw [mw] at hp;obtain⟨f,hf,rfl⟩:=f6.1 hp;have:=k3 j f hf;rw[<-List.map_take,f7];simpa[Function.comp_def] using this) (λp hp=>by
    obtain⟨f,hf,rfl⟩:=gv.1 hp;obtain⟨i,hi,hfi⟩:=mr.1 hf;have h1:=hat i f (by simpa using(p6.2 ⟨hi,hfi⟩));rw [pp (by simp at hi;omega)] at h1;obtain⟨ds,a1,a2,a3⟩:=ih n' f.type _ _ (o7.1 hs f hf) (k1 f hf) h1;have hsum:f.offset+P.cellsOf f.type<=cs.length:=by
     have e1:=k3 i f (p6.2 ⟨hi,hfi⟩);rw[hl,k2];have:fs.toList=fs.toList.take i++(f :: fs.toList.drop (i+1)):=by
      rw[<-hfi,<-lu hi,f9]
     conv=>rhs;rw[this]
     simp only[du,bp,List.sum_append,List.sum_cons];omega
    refine⟨ds,a1,?_,λq d v hd hv=>?_⟩
    ·rw[a2];simp;omega
    ·have hq:q<P.cellsOf f.type:=by
      have:=(p6.1 hd).1;rw [a2] at this;simp at this;omega
     refine a3 q d v hd ?_;rw[lq,if_pos hq,m8];exact hv)
   rw [f7] at l;have l':ds.length=P.cellsOf t:=by rw[l,k2];rfl
   exact⟨ds,.struct t fs ds hu l' (λf hf=>by simpa using(ht _ (gv.2 ⟨f,hf,rfl⟩)).2),om,λq d v hd hv=>hr q d v hd (by simpa using hv)⟩
  ·rename_i k e hu;obtain⟨xs,n',rfl,_,hl,hxl,hat⟩:=DataW.trod_array hu h;obtain⟨k1,k2⟩:=K.array hT hu;obtain⟨ds,l,ht,hr⟩:=glue (P:=P) (w:=w) (M:=λ_=>False) ((List.range k).map λi=>(i * P.cellsOf e,P.cellsOf e,e)) 0 cs (λj p hp=>by
    rw [mw] at hp;obtain⟨i,hi,rfl⟩:=f6.1 hp;obtain⟨hj,rfl⟩:=p6.1 hi;simp at hj;rw[<-List.map_take,f7,List.take_range,so om];simp only[Function.comp_def,jl6,List.getElem_range,o5]) (λp hp=>by
    obtain⟨i,hi,rfl⟩:=gv.1 hp;have hi:=o8.1 hi;have h1:=hat i hi;rw [pp om] at h1;obtain⟨ds,a1,a2,a3⟩:=ih n' e _ _ hs k1 h1;have hsum:i * P.cellsOf e+P.cellsOf e<=cs.length:=by
     rw[hl,k2];calc i * P.cellsOf e+P.cellsOf e=(i+1) * P.cellsOf e:=by rw[o9,l9]
      _<=k * P.cellsOf e:=l5 _ hi
    refine⟨ds,a1,?_,λq d v hd hv=>?_⟩
    ·rw[a2];simp;omega
    ·have hq:q<P.cellsOf e:=by
      have:=(p6.1 hd).1;rw [a2] at this;simp at this;omega
     refine a3 q d v hd ?_;rw[lq,if_pos hq,m8];exact hv)
   rw [f7] at l;have l':ds.length=P.cellsOf t:=by rw[l,k2];simp only[Function.comp_def,jl6]
   exact⟨ds,.array t e k ds hu l' (λi hi=>by simpa using(ht _ (gv.2 ⟨i,o8.2 hi,rfl⟩)).2),om,λq d v hd hv=>hr q d v hd (by simpa using hv)⟩
  ·cases hs
end
end
end Go.Eng
namespace Go.Eng
open Go Go.RowKit Go.ChangeShapes Go.WideShapes
section
def jh5:List DV->SV
 |[d]=>.d d
 |_=>.any
def ji2(P:Program)(t:TypeId)(ds:List DV):SV :=
 match P.underlying t with
 |some (.struct _)=>.agg (ds.map SV.d)
 |some (.array _ _)=>.agg (ds.map SV.d)
 |_=>jh5 ds
def v7(P:Program):List TypeId->List (List DV)->List SV
 |t :: ts,d :: ds=>ji2 P t d :: v7 P ts ds
 |_,_=>[]
def DTs(P:Program):List TypeId->List (List DV)->Prop
 |[],[]=>True
 |t :: ts,d :: ds=>DT P t d/\DTs P ts ds
 |_,_=>False
section
variable{H:Type}{enc:TypeId × Value->H}{P:Program}{w:World}{T:TypeId->Prop}
theorem zq6[Dr](K:Kids P T)(hz:∀ t e,T t->P.underlying t=some (.slice e)->0<P.cellsOf e){sp:Nat->Bool}{hd:Bool}{m:Nat}{t:TypeId}{v:Value}{d:DataW H}{ps:List MemPlace}{r:Reach}{b0:Nat}
 (hs:u4 P m t=true) (hT:T t) (hval:Value.okWide P w r b0 t v) (h:DataW.Trod enc P w 0 sp hd t v d ps):∃ ds,DT P t ds/\Den w (λ_=>False) noE (ji2 P t ds) v:=by
 obtain⟨n,hn⟩:=h;obtain⟨ds,h1,h2,h3⟩:=xq5 K hz m n t _ _ hs hT hn;refine⟨ds,h1,?_⟩;have agg:∀ cs:Array Value,v = .agg cs->Den w (λ_=>False) noE (.agg (ds.map SV.d)) v:=λcs hv=>by
  subst hv;have:=Den.agg (w:=w) (M:=λ_=>False) (β:=noE) (ds.map SV.d) cs.toList (by simpa[Value.cells] using h2) (λj s u hs hu=>by
   rw [mw] at hs;obtain⟨x,hx,rfl⟩:=f6.1 hs;exact .d (h3 j x u hx hu)) (λu hu=>by
   obtain⟨j,hj,rfl⟩:=mr.1 hu;have hl:j<ds.length:=by rw[h2];exact hj
   exact qr4 (h3 j ds[j] _ (pp hl) (pp hj)))
  simpa using this
 have one:v.cells.toList=[v]->Den w (λ_=>False) noE (jh5 ds) v:=λhc=>by
  unfold jh5;split
  ·exact .d (h3 0 _ v rfl (by rw[hc];rfl))
  ·exact .any _
 unfold ji2;unfold Value.okWide at hval;split at hval
 ·rename_i hu;obtain⟨cs,hv,_⟩:=hval;simp only[hu];exact agg cs hv
 ·rename_i hu;obtain⟨cs,hv,_⟩:=hval;simp only[hu];exact agg cs hv
 ·rename_i hn1 hn2;have hc:v.cells.toList=[v]:=by
   cases hu:P.underlying t with
   |none=>cases m <;> simp [u4,hu] at hs
   |some td =>
    simp only [Cell.okWide,hu] at hval;cases td <;> first
     |(cases m <;> simp [u4,hu] at hs;done)
     |exact absurd hu (hn1 _)
     |exact absurd hu (hn2 _ _)
     |(cases v <;> first|rfl|(simp [Cell.ok] at hval))
  split
  ·rename_i hu;exact absurd hu (hn1 _)
  ·rename_i hu;exact absurd hu (hn2 _ _)
  ·exact one hc
theorem jz3[Dr](K:Kids P T)(hz:∀ t e,T t->P.underlying t=some (.slice e)->0<P.cellsOf e){sp:Nat->Bool}{hd:Bool}{m:Nat}{r:Reach}{b0:Nat}:∀ (ts:List TypeId) (vs:List Value) (ds:List (DataW H)) (ps:List MemPlace),
 (∀ t ∈ ts,u4 P m t=true/\T t)->(∀ (j:Nat) (t:TypeId) (v:Value),ts[j]? = some t->vs[j]? = some v->Value.okWide P w r b0 t v)->DataW.TrodAll enc P w 0 sp hd ts vs ds ps ->
 ∃ dss,DTs P ts dss/\(v7 P ts dss).length=vs.length/\∀ (j:Nat) (s:SV) (u:Value),(v7 P ts dss)[j]? = some s->vs[j]? = some u->Den w (λ_=>False) noE s u
 |[],[],[],_,_,_,_=>⟨[],True.intro,rfl,λj s u hs=>by simp [v7] at hs⟩
 |t :: ts,v :: vs,d :: ds,_,hs,hv,⟨p,q,h1,h2,_⟩=>by
  obtain⟨x,a1,a2⟩:=zq6 K hz (hs t (l6 ..)).1 (hs t (l6 ..)).2 (hv 0 t v rfl rfl) h1;obtain⟨xs,b1,b2,b3⟩:=jz3 K hz ts vs ds q (λt ht=>hs t (gt _ ht)) (λj t v ht hv'=>hv (j+1) t v (by simpa using ht) (by simpa using hv')) h2;refine⟨x :: xs,⟨a1,b1⟩,by simp[v7,b2],λj s u hs hu=>?_⟩;cases j with
  |zero=>simp [v7] at hs hu;subst hs hu;exact a2
  |succ j=>exact b3 j s u (by simpa[v7] using hs) (by simpa using hu)
theorem jx4[Dr]{w':World}{sp:Nat->Bool}{hd:Bool}{base:Nat}:∀ (ts:List TypeId) (vs:List Value) (ds:List (DataW H)) (ps:List MemPlace),DataW.TrodAll enc P w base sp hd ts vs ds ps->(∀ p ∈ ps,w.sameAt w' p)->DataW.TrodAll enc P w' base sp hd ts vs ds ps
 |[],[],[],_,h,_=>h
 |_ :: ts,_ :: vs,_ :: ds,_,⟨p,q,⟨n,h1⟩,h2,e⟩,hs=>⟨p,q,⟨n,DataW.trod_carry n _ _ _ h1 (λx hx=>hs x (by rw[e];exact ao _ hx))⟩,jx4 ts vs ds q h2 (λx hx=>hs x (by rw[e];exact List.mem_append_right _ hx)),e⟩
theorem zh6[Dr]{W W':World}(h:Step (λ_=>False) W W')(may:MemPlace->Prop):W.keptBut W' may:=by
 refine⟨h.os,h.output,λi hi=>?_⟩;rw[h.block i hi (λh=>h)];split
 ·rename_i h1 h2;rw [h1] at h2;cases h2;exact ⟨rfl,rfl,rfl,λ_ _=>rfl⟩
 ·rename_i h1 h2;rw [h1] at h2;cases h2;exact .inr ⟨rfl,rfl⟩
 ·rfl
theorem zk9[Dr](K:Kids P T)(hz:∀ t e,T t->P.underlying t=some (.slice e)->0<P.cellsOf e){f:Func}{s:ChangeSpec}{apart fresh handsOn again:Bool}{W W':World}{args:Array Value}{ds gs:List (DataW H)}{before:List MemPlace}{tb:TypeId}
 (hT:∀ t ∈ f.params.toList,T t) (hvars:s.vars=[]) (hW:DataW.Whole enc P f.params.toList s.vars apart W args.toList ds gs before) (hst:Step (λ_=>False) W W') (hrt:f.resultTypes = #[tb]) (hb:P.underlying tb=some .bool)
 (hfn:(s.fn H ds).results=[.lit (.bool true)]/\(s.fn H ds).args=ds/\(s.fn H ds).vars=[]):s.post enc P f apart fresh handsOn again W args (.bool true) W':=by
 have hlt:=hW.lt;have hW':=hW;obtain⟨p,q,hA,hV,rfl,hfz,hnd⟩:=hW;rw [hvars] at hV;obtain⟨rfl,rfl⟩:=trodVars_none hV;simp only [m6] at hlt hfz hnd;have hsame:∀ x ∈ p,W.sameAt W' x:=λx hx=>by
  have:=hst.block x.block (hlt x hx) (λh=>h);cases x with
  |cell b off=>simp only [World.sameAt,World.cell?];simp only [MemPlace.block] at this;rw [this]
  |map b=>exact this
 have hre:∀ sp:Nat->Bool,(∀ x ∈ p,sp x.block=true)->DataW.TrodAll enc P W' 0 sp true f.params.toList args.toList ds p:=λsp hsp =>
  DataW.TrodAll.respare K hz hT (jx4 _ _ _ _ hA hsame) hsp
 have hres:∀ (b:Nat) (sp:Nat->Bool) (hd:Bool),DataW.TrodAll enc P W' b sp hd f.resultTypes.toList ((Value.bool true).resultList f.resultTypes.size) [.lit (.bool true)] []:=λb sp hd=>by
  rw[hrt];exact trodAll_mk1 (shut_bool hb true)
 refine⟨ds,[],p++[],[],p,[],hW',?_,?_,?_,zh6 hst _,λ_=>⟨ok_one hrt rfl (okWide_bool_mk hb true),[.lit (.bool true)]++ds,[],[]++p++[],⟨[]++p,[],trodAll_append (hre _ (λ_ _=>rfl)) (hres _ _ _),?_,rfl,?_,?_⟩,?_⟩⟩
 ·rw[m6,hfn.1];exact hres _ _ _
 ·rw[m6,hfn.2.1];exact hre _ (λx hx=>by simpa using hlt x hx)
 ·rw[m6,hfn.2.2,hvars];rfl
 ·rw[hvars];rfl
 ·intro b off hx;have hx:MemPlace.cell b off ∈ p:=by simpa using hx
  have:=hst.block b (hlt _ hx) (λh=>h);have h2:=hfz b off hx;unfold World.frozen? at h2 ⊢;simp only at h2 ⊢;rw[this];exact h2
 ·intro ha;simpa using hnd ha
 ·intro x hx _;simpa using hx
theorem xc8[Dr](K:Kids P T)(hz:∀ t e,T t->P.underlying t=some (.slice e)->0<P.cellsOf e){g:FuncId}{f:Func}{s:ChangeSpec}{apart fresh handsOn again:Bool}{W:World}{args:Array Value}{ds gs:List (DataW H)}{before:List MemPlace}{tb:TypeId}{m:Nat}{r:Reach}{b0:Nat}
 (hs:∀ t ∈ f.params.toList,u4 P m t=true/\T t) (h:∀ dss,DTs P f.params.toList dss->FnOk P g (v7 P f.params.toList dss) (.d (.bool true)))
 (hval:∀ (j:Nat) t v,f.params[j]? = some t->args[j]? = some v->Value.okWide P W r b0 t v)
 (hvars:s.vars=[]) (hW:DataW.Whole enc P f.params.toList s.vars apart W args.toList ds gs before) (hrt:f.resultTypes = #[tb]) (hb:P.underlying tb=some .bool)
 (hfn:(s.fn H ds).results=[.lit (.bool true)]/\(s.fn H ds).args=ds/\(s.fn H ds).vars=[]) (hV:VOk W (λ_ _=>False):=by exact λp hp=>by cases hp) :
 Calls P g args W λe W'=>∃ v,e = .returned v/\s.post enc P f apart fresh handsOn again W args v W':=by
 have hW':=hW;obtain⟨p,q,hA,_⟩:=hW;obtain⟨dss,h1,h2,h3⟩:=jz3 K hz _ _ _ _ hs (λj t v ht hv=>hval j t v (by simpa using ht) (by simpa using hv)) hA;have:=(h dss h1).2 (λ_=>False) W args.toList hV (λ_ h=>h.elim) h2 h3;rw [sv] at this;refine this.mono λe W' ⟨v,he,hst,hd⟩=>⟨v,he,?_⟩
 cases jj hd;exact zk9 K hz (λt ht=>(hs t ht).2) hvars hW' hst hrt hb hfn
end
section
variable{P:Program}{t:TypeId}{ds:List DV}
theorem DT.int_inv{k:IntKind}(h:DT P t ds)(hu:P.underlying t=some (.int k)):∃ n,ds=[.int k n]/\(Lit.int k n).wf=true:=by
 cases h <;> simp_all
theorem DT.str_inv(h:DT P t ds)(hu:P.underlying t=some .string):∃ s,ds=[.str s]/\s.length<=maxLen:=by
 cases h <;> simp_all
theorem DT.struct_inv{fs:Array Field}(h:DT P t ds)(hu:P.underlying t=some (.struct fs)):ds.length=P.cellsOf t/\∀ f ∈ fs.toList,DT P f.type ((ds.drop f.offset).take (P.cellsOf f.type)):=by
 cases h with
 |struct _ fs' _ h1 h2 h3=>rw [hu] at h1;cases h1;exact ⟨h2,h3⟩
 |_=>simp_all
theorem jz8[Dr]{H:Type}{enc:TypeId × Value->H}{w:World}{base:Nat}{sp:Nat->Bool}{hd:Bool}:∀ {ts:List TypeId} {vs:List Value} {ds:List (DataW H)} {ps:List MemPlace},DataW.TrodAll enc P w base sp hd ts vs ds ps->ds.length=ts.length
 |[],[],[],_,_=>rfl
 |_ :: _,_ :: _,_ :: _,_,⟨_,_,_,h,_⟩=>congrArg (· + 1) (jz8 h)
theorem DSL.refl[Dr]:∀ l:List DV,DSL l l
 |[]=>True.intro
 |a :: l=>⟨.refl a,DSL.refl l⟩
end
end
end Go.Eng
namespace Go.Eng
open Go Go.RowKit
section
mutual
def mapV(σ:Nat->Nat):SV->SV
 | .ptr i off=>.ptr (σ i) off
 | .aptr i off len ix=>.aptr (σ i) off len ix
 | .all i=>.all (σ i)
 | .row i lo n=>.row (σ i) lo n
 | .cs i off n c=>.cs (σ i) off n c
 | .rptr i j off sz=>.rptr (σ i) j off sz
 | .map i=>.map (σ i)
 | .yl i=>.yl (σ i)
 | .agg l=>.agg (mapL σ l)
 | .tup l=>.tup (mapL σ l)
 | .fn f l=>.fn f (mapL σ l)
 | .d x=>.d x
 | .dptr c off=>.dptr c off
 | .ln n=>.ln n
 | .err b=>.err b
 | .v x=>.v x
 | .any=>.any
def mapL(σ:Nat->Nat):List SV->List SV
 |[]=>[]
 |a :: l=>mapV σ a :: mapL σ l
end
def mapM(σ:Nat->Nat):List (List DV × List SV)->List (List DV × List SV)
 |[]=>[]
 |(k,v) :: l=>(k,mapL σ v) :: mapM σ l
def mapK(σ:Nat->Nat):KB->KB
 | .cells t l=>.cells t (mapL σ l)
 | .mapx eks ka ea l st=>.mapx eks ka ea (mapM σ l) st
 | .iter i bs c rem lst=>.iter (σ i) bs c rem lst
 | .loop l ps a b st=>.loop (mapL σ l) ps a b st
 | .row e sz n z f=>.row e sz n z f
 | .rows e sz n f=>.rows e sz n (λi=>mapL σ (f i))
 | .obj φ=>.obj φ
 | .gone=>.gone
def mapB(σ:Nat->Nat):List KB->List KB
 |[]=>[]
 |b :: l=>mapK σ b :: mapB σ l
theorem wj(σ:Nat->Nat)(l:List SV)(j:Nat):(mapL σ l)[j]? = (l[j]?).map (mapV σ):=by
 induction l generalizing j with
 |nil=>simp[mapL]
 |cons a l ih=>cases j <;> simp[mapL,ih]
theorem xx(σ:Nat->Nat)(l:List SV):(mapL σ l).length=l.length:=by
 induction l with
 |nil=>rfl
 |cons a l ih=>simp[mapL,ih]
theorem ys7(σ:Nat->Nat)(l:List (List DV × List SV))(j:Nat):(mapM σ l)[j]? = (l[j]?).map (λp=>(p.1,mapL σ p.2)):=by
 induction l generalizing j with
 |nil=>simp[mapM]
 |cons a l ih=>obtain⟨k,v⟩:=a;cases j <;> simp[mapM,ih]
theorem yb2(σ:Nat->Nat)(l:List (List DV × List SV)):(mapM σ l).length=l.length:=by
 induction l with
 |nil=>rfl
 |cons a l ih=>obtain⟨k,v⟩:=a;simp[mapM,ih]
theorem qm3(σ:Nat->Nat)(l:List KB)(j:Nat):(mapB σ l)[j]? = (l[j]?).map (mapK σ):=by
 induction l generalizing j with
 |nil=>simp[mapB]
 |cons a l ih=>cases j <;> simp[mapB,ih]
theorem qy6(σ:Nat->Nat)(l:List KB):(mapB σ l).length=l.length:=by
 induction l with
 |nil=>rfl
 |cons a l ih=>simp[mapB,ih]
section
variable{w:World}{M:Nat->Prop}{β β':Env}{σ:Nat->Nat}
theorem Den.mapS[Dr](hσ:∀ k L,β k=some L->β' (σ k)=some L){s:SV}{v:Value}(h:Den w M β s v):Den w M β' (mapV σ s) v:=by
 induction h with
 |d h=>exact .d h
 |ptr i off L h=>exact .ptr _ off L (hσ _ _ h)
 |aptr i off len ix L h1 h2 h3=>exact .aptr _ off len ix L h1 h2 (hσ _ _ h3)
 |dptr cells off ad u h1 h2 h3 h4=>exact .dptr cells off ad u h1 h2 h3 h4
 |allNil i L h1 h2=>exact .allNil _ L (hσ _ _ h1) h2
 |all i L h1 h2=>exact .all _ L (hσ _ _ h1) h2
 |rowNil i L h1 h2=>exact .rowNil _ L (hσ _ _ h1) h2
 |row i lo n off L h1 h2 h3 h4=>exact .row _ lo n off L (hσ _ _ h1) h2 h3 h4
 |cs i off n c L h h1=>exact .cs _ off n c L (hσ _ _ h) h1
 |rptr i j off sz L h h1=>exact .rptr _ j off sz L (hσ _ _ h) h1
 |agg l vs h1 _ h3 ih =>
  refine .agg _ vs (by rw[xx];exact h1) (λj s u a b=>?_) h3;rw [wj] at a;cases hl:l[j]? with
  |none=>rw [hl] at a;cases a
  |some s0=>rw [hl] at a;cases a;exact ih j s0 u hl b
 |tup l vs h1 _ ih =>
  refine .tup _ vs (by rw[xx];exact h1) (λj s u a b=>?_);rw [wj] at a;cases hl:l[j]? with
  |none=>rw [hl] at a;cases a
  |some s0=>rw [hl] at a;cases a;exact ih j s0 u hl b
 |fn f l vs h1 _ ih =>
  refine .fn f _ vs (by rw[xx];exact h1) (λj s u a b=>?_);rw [wj] at a;cases hl:l[j]? with
  |none=>rw [hl] at a;cases a
  |some s0=>rw [hl] at a;cases a;exact ih j s0 u hl b
 |map i L h=>exact .map _ L (hσ _ _ h)
 |yl i L h=>exact .yl _ L (hσ _ _ h)
 |ln n c ad=>exact .ln n c ad
 |err b v h1 h2=>exact .err b v h1 h2
 |v x=>exact .v x
 |any x=>exact .any x
theorem Den.unmap[Dr](hσ:∀ k L,β (σ k)=some L->β' k=some L){s':SV}{v:Value}(h:Den w M β s' v):∀ s,s'=mapV σ s->Den w M β' s v:=by
 have lists:∀ {l' l:List SV},l'=mapL σ l->∀ (j:Nat) (s:SV),l[j]? = some s->l'[j]? = some (mapV σ s):=λ{l' l} e j s hs=>by rw[e,wj,hs];rfl
 induction h with
 |d h=>intro s he;cases s <;> simp [mapV] at he;subst he;exact .d h
 |ptr i off L h=>intro s he;cases s <;> simp [mapV] at he;obtain ⟨rfl,rfl⟩:=he;exact .ptr _ _ L (hσ _ _ h)
 |aptr i off len ix L h1 h2 h3=>intro s he;cases s <;> simp [mapV] at he;obtain ⟨rfl,rfl,rfl,rfl⟩:=he;exact .aptr _ _ _ _ L h1 h2 (hσ _ _ h3)
 |dptr cells off ad u h1 h2 h3 h4=>intro s he;cases s <;> simp [mapV] at he;obtain ⟨rfl,rfl⟩:=he;exact .dptr _ _ ad u h1 h2 h3 h4
 |allNil i L h1 h2=>intro s he;cases s <;> simp [mapV] at he;subst he;exact .allNil _ L (hσ _ _ h1) h2
 |all i L h1 h2=>intro s he;cases s <;> simp [mapV] at he;subst he;exact .all _ L (hσ _ _ h1) h2
 |rowNil i L h1 h2=>intro s he;cases s <;> simp [mapV] at he;obtain ⟨rfl,rfl,rfl⟩:=he;exact .rowNil _ L (hσ _ _ h1) h2
 |row i lo n off L h1 h2 h3 h4=>intro s he;cases s <;> simp [mapV] at he;obtain ⟨rfl,rfl,rfl⟩:=he;exact .row _ _ _ off L (hσ _ _ h1) h2 h3 h4
 |cs i off n c L h h1=>intro s he;cases s <;> simp [mapV] at he;obtain ⟨rfl,rfl,rfl,rfl⟩:=he;exact .cs _ _ _ _ L (hσ _ _ h) h1
 |rptr i j off sz L h h1=>intro s he;cases s <;> simp [mapV] at he;obtain ⟨rfl,rfl,rfl,rfl⟩:=he;exact .rptr _ _ _ _ L (hσ _ _ h) h1
 |agg l vs h1 _ h3 ih =>
  intro s he;cases s <;> simp [mapV] at he
  refine .agg _ vs (by rw[<-h1,he,xx]) (λj s u a b=>ih j _ u (lists he j s a) b s rfl) h3
 |tup l vs h1 _ ih =>
  intro s he;cases s <;> simp [mapV] at he
  exact .tup _ vs (by rw[<-h1,he,xx]) (λj s u a b=>ih j _ u (lists he j s a) b s rfl)
 |fn f l vs h1 _ ih =>
  intro s he;cases s <;> simp [mapV] at he
  obtain⟨rfl,he⟩:=he;exact .fn _ _ vs (by rw[<-h1,he,xx]) (λj s u a b=>ih j _ u (lists he j s a) b s rfl)
 |map i L h=>intro s he;cases s <;> simp [mapV] at he;subst he;exact .map _ L (hσ _ _ h)
 |yl i L h=>intro s he;cases s <;> simp [mapV] at he;subst he;exact .yl _ L (hσ _ _ h)
 |ln n c ad=>intro s he;cases s <;> simp [mapV] at he;subst he;exact .ln n c ad
 |err b v h1 h2=>intro s he;cases s <;> simp [mapV] at he;subst he;exact .err b v h1 h2
 |v x=>intro s he;cases s <;> simp [mapV] at he;subst he;exact .v x
 |any x=>intro s he;cases s <;> simp [mapV] at he;exact .any x
theorem KBat.map'[Dr](hσ:∀ k L,β k=some L->β' (σ k)=some L){L:Loc}{f:Nat->Prop}{k:KB}(h:KBat w M β L f k):KBat w M β' L f (mapK σ k):=by
 cases h with
 |cells t l vs h0 h1 h3 h4 h5 =>
  refine .cells t _ vs h0 h1 (by rw[xx];exact h3) (λj s u a b=>?_) h5;rw [wj] at a;cases hl:l[j]? with
  |none=>rw [hl] at a;cases a
  |some s0=>rw [hl] at a;cases a;exact (h4 j s0 u hl b).mapS hσ
 |rowNil e sz z f h0 h1 h2 h3 h4=>exact .rowNil e sz z f h0 h1 h2 h3 h4
 |row e sz n z f vs fz h0 h1 h2 hn h3 h4 h5 h6 h7 h8 h9 h10=>exact .row e sz n z f vs fz h0 h1 h2 hn h3 h4 h5 h6 h7 h8 h9 h10
 |rows e sz n f vs fz h0 h1 h2 hn h4 h5 h6 h7 h8 h9 h10 =>
  refine .rows e sz n _ vs fz h0 h1 h2 hn h4 h5 h6 h7 (λk hk=>by rw[xx];exact h8 k hk) (λk j s u hk hs hu=>?_) h10;rw [wj] at hs;cases hl:(f k)[j]? with
  |none=>rw [hl] at hs;cases hs
  |some s0=>rw [hl] at hs;cases hs;exact (h9 k j s0 u hk hl hu).mapS hσ
 |iter i bs c rem lst Li seen h0 h1 h2 h3 h4 h5 h6=>exact .iter _ bs c rem lst Li seen h0 (hσ _ _ h1) h2 h3 h4 h5 h6
 |mapx eks ka ea l st es clock h0 h1 h2 h3 h4 h5 =>
  refine .mapx eks ka ea _ st es clock h0 h1 (by rw[yb2];exact h2) (λj p e hp he=>?_) h4 h5;rw [ys7] at hp;cases hl:l[j]? with
  |none=>rw [hl] at hp;cases hp
  |some p0 =>
   rw [hl] at hp;cases hp;obtain⟨kc,vc,a1,a2,a3,a4,a5,a6,a7,a8,a9,a10,a11⟩:=(h3 j p0 e hl he).ex;refine⟨kc,vc,a1,a2,a3,by simp[xx,a4],a5,a6,a7,a8,a9,λq s u hs hu=>?_,a11⟩;simp only [wj] at hs;cases hq:p0.2[q]? with
   |none=>rw [hq] at hs;cases hs
   |some s0=>rw [hq] at hs;cases hs;exact (a10 q s0 u hq hu).mapS hσ
 |obj φ h1 h2=>exact .obj φ h1 h2
 |loop l ps asg body st r h0 h1 h2 h3 h4 h5 h6 h7 =>
  refine .loop _ ps asg body st r h0 h1 (by rw[xx];exact h2) (λj s u a b=>?_) h4 h5 h6 h7;rw [wj] at a;cases hl:l[j]? with
  |none=>rw [hl] at a;cases a
  |some s0=>rw [hl] at a;cases a;exact (h3 j s0 u hl b).mapS hσ
theorem KBat.unmap[Dr](hσ:∀ k L,β (σ k)=some L->β' k=some L){L:Loc}{f:Nat->Prop}{k':KB}(h:KBat w M β L f k')(k:KB)(he:k'=mapK σ k):KBat w M β' L f k:=by
 cases h with
 |cells t l vs h0 h1 h3 h4 h5 =>
  cases k <;> simp [mapK] at he
  obtain⟨rfl,he⟩:=he;exact .cells _ _ vs h0 h1 (by rw[<-h3,he,xx]) (λj s u a b=>(h4 j (mapV σ s) u (by rw[he,wj,a];rfl) b).unmap hσ s rfl) h5
 |rowNil e sz z f h0 h1 h2 h3 h4 =>
  cases k <;> simp [mapK] at he
  obtain⟨rfl,rfl,rfl,rfl,rfl⟩:=he;exact .rowNil _ _ _ _ h0 h1 h2 h3 h4
 |row e sz n z f vs fz h0 h1 h2 hn h3 h4 h5 h6 h7 h8 h9 h10 =>
  cases k <;> simp [mapK] at he
  obtain⟨rfl,rfl,rfl,rfl,rfl⟩:=he;exact .row _ _ _ _ _ vs fz h0 h1 h2 hn h3 h4 h5 h6 h7 h8 h9 h10
 |rows e sz n f vs fz h0 h1 h2 hn h4 h5 h6 h7 h8 h9 h10 =>
  cases k <;> simp [mapK] at he
  obtain⟨rfl,rfl,rfl,rfl⟩:=he;exact .rows _ _ _ _ vs fz h0 h1 h2 hn h4 h5 h6 h7 (λk hk=>by have:=h8 k hk;rwa [xx] at this) (λk j s u hk hs hu=>(h9 k j (mapV σ s) u hk (by rw [wj,hs];rfl) hu).unmap hσ s rfl) h10
 |iter i bs c rem lst Li seen h0 h1 h2 h3 h4 h5 h6 =>
  cases k <;> simp [mapK] at he
  obtain⟨rfl,rfl,rfl,rfl,rfl⟩:=he;exact .iter _ _ _ _ _ Li seen h0 (hσ _ _ h1) h2 h3 h4 h5 h6
 |mapx eks ka ea l st es clock h0 h1 h2 h3 h4 h5 =>
  cases k <;> simp [mapK] at he
  obtain⟨rfl,rfl,rfl,he,rfl⟩:=he;refine .mapx _ _ _ _ _ es clock h0 h1 (by rw[<-h2,he,yb2]) (λj p e hp hee=>?_) h4 h5;obtain⟨kc,vc,a1,a2,a3,a4,a5,a6,a7,a8,a9,a10,a11⟩:=(h3 j (p.1,mapL σ p.2) e (by rw[he,ys7,hp];rfl) hee).ex;exact⟨kc,vc,a1,a2,a3,by simpa[xx] using a4,a5,a6,a7,a8,a9,λq s u hs hu=>(a10 q (mapV σ s) u (by simp only[wj,hs];rfl) hu).unmap hσ s rfl,a11⟩
 |obj φ h1 h2 =>
  cases k <;> simp [mapK] at he
  subst he;exact .obj _ h1 h2
 |loop l ps asg body st r h0 h1 h2 h3 h4 h5 h6 h7 =>
  cases k <;> simp [mapK] at he
  obtain⟨he,rfl,rfl,rfl,rfl⟩:=he;exact .loop _ _ _ _ _ r h0 h1 (by rw[<-h2,he,xx]) (λj s u a b=>(h3 j (mapV σ s) u (by rw[he,wj,a];rfl) b).unmap hσ s rfl) h4 h5 h6 h7
end
def sig(is:List Nat)(N:Nat):Nat->Nat:=λk=>match is[k]? with
 |some i=>i
 |none=>N+(k - is.length)
def inv(is:List Nat)(N:Nat)(j:Nat):Option Nat :=
 match posN j is 0 with
 |some k=>some k
 |none=>if N<=j then some (is.length+(j - N)) else none
def ub:List KB->List Nat->List KB->List KB
 |ks,[],_=>ks
 |ks,i :: is,[]=>ub (setB ks i .gone) is []
 |ks,i :: is,b :: l=>ub (setB ks i b) is l
def ji0:List KB->Nat->List KB
 |l,0=>l
 |[],_+1=>[]
 |_ :: l,n+1=>ji0 l n
def appB:List KB->List KB->List KB
 |[],m=>m
 |a :: l,m=>a :: appB l m
def qg9(ks:List KB)(is:List Nat)(l:List KB):List KB:=appB (ub ks is l) (ji0 l is.length)
def qc8(ks:List KB):List Nat->List KB
 |[]=>[]
 |i :: is=>getB ks i :: qc8 ks is
theorem jp9(l:List KB)(n:Nat):ji0 l n=l.drop n:=by
 induction l generalizing n with
 |nil=>cases n <;> rfl
 |cons a l ih=>cases n with
  |zero=>rfl
  |succ n=>simp[ji0,ih]
theorem jf3(l m:List KB):appB l m=l++m:=by
 induction l with
 |nil=>rfl
 |cons a l ih=>simp[appB,ih]
theorem qx8[Dr](ks:List KB)(is:List Nat)(l:List KB):(ub ks is l).length=ks.length:=by
 induction is generalizing ks l with
 |nil=>cases l <;> rfl
 |cons i is ih=>cases l <;> simp[ub,ih,zr]
theorem yk9{j:Nat}{is:List Nat}{p:Nat}(h:posN j is p=none):j ∉ is:=by
 induction is generalizing p with
 |nil=>simp
 |cons a is ih =>
  simp only [posN] at h;split at h
  ·cases h
  ·rename_i hb;have hne:j≠a:=λe=>by subst e;rw [show Nat.beq j j=true from cz j] at hb;cases hb
   simp[hne,ih h]
theorem qi5[Dr]{j:Nat}{is:List Nat}{p k:Nat}(h:posN j is p=some k):∃ q,k=p+q/\is[q]? = some j:=by
 induction is generalizing p with
 |nil=>cases h
 |cons a is ih =>
  simp only [posN] at h;split at h
  ·rename_i hb;cases h;exact⟨0,rfl,by simp[jg hb]⟩
  ·obtain⟨q,e,hq⟩:=ih h;exact⟨q+1,om,by simpa using hq⟩
theorem zy9[Dr]{is:List Nat}:∀ (ks l:List KB) (j:Nat),is.Nodup->(∀ i ∈ is,i<ks.length)->(ub ks is l)[j]? = match posN j is 0 with
 |some k=>some (getB l k)
 |none=>ks[j]?:=by
 have gen:∀ (is:List Nat) (ks l:List KB) (j p:Nat),is.Nodup->(∀ i ∈ is,i<ks.length)->(ub ks is l)[j]? = match posN j is p with
  |some k=>some (getB l (k - p))
  |none=>ks[j]?:=by
  intro is;induction is with
  |nil=>intro ks l j p _ _;cases l <;> rfl
  |cons i is ih =>
   intro ks l j p hnd hlt;have hnd':=List.nodup_cons.1 hnd;have step:∀ (b:KB) (l':List KB),(∀ k,getB l' k=getB l (k+1))->b=getB l 0->(ub (setB ks i b) is l')[j]? = match posN j (i :: is) p with
    |some k=>some (getB l (k - p))
    |none=>ks[j]?:=λb l' hl' hb=>by
    rw[ih (setB ks i b) l' j (p+1) hnd'.2 (λq hq=>by rw[zr,lw];exact hlt q (by simp[hq]))];simp only[posN];split
    ·rename_i k hk;obtain⟨q,e,hq⟩:=qi5 hk;have hne:i≠j:=λe=>by subst e;exact hnd'.1 (ov hq)
     have:Nat.beq i j=false:=by
      cases hb:Nat.beq i j with
      |false=>rfl
      |true=>exact absurd (jg hb) hne
     rw[this,hk];simp only;rw[hl',show k - (p+1)+1=k - p from by omega]
    ·rename_i hk;cases hb':Nat.beq i j with
     |true =>
      cases jg hb';simp only[ly];rw[zr,m5,if_pos rfl,if_pos (hlt i sm),hb]
     |false =>
      rw[hk];have hne:i≠j:=λe=>by subst e;rw [show Nat.beq i i=true from cz i] at hb';cases hb'
      simp only;rw[zr,m5,if_neg hne]
   cases l with
   |nil=>exact step .gone [] (λk=>by simp[vt]) rfl
   |cons b l=>exact step b l (λk=>by simp[vt]) rfl
 intro ks l j hnd hlt;exact gen is ks l j 0 hnd hlt
theorem COk.frame[Dr]{P:Program}{f:FuncId}{as0:List SV}{ks0:List KB}{R0:SV->List KB->Prop}(h:COk P f as0 ks0 R0)(is:List Nat){as:List SV}{ks:List KB}{R:SV->List KB->Prop}
 (hok:okN (lenB ks) is=true) (ha:mapL (sig is (lenB ks)) as0=as) (hk:qc8 ks is=mapB (sig is (lenB ks)) ks0) (hR:∀ s0 k0,R0 s0 k0->R (mapV (sig is (lenB ks)) s0) (qg9 ks is (mapB (sig is (lenB ks)) k0))):COk P f as ks R:=by
 refine⟨h.1,λX w β fp vs hM hl hd=>?_⟩;rw [qf5] at hok ha hk hR;obtain⟨o1,o2⟩:=ys4 hok;generalize hN:ks.length=N at *;have hkl:=hM.kl;rw [hN] at hkl;have hgetBs:∀ (l:List Nat) (q i:Nat),l[q]? = some i->(qc8 ks l)[q]? = some (getB ks i):=λl=>by
  induction l with
  |nil=>intro q i hq;simp at hq
  |cons a l ih =>
   intro q i hq;cases q with
   |zero=>simp at hq;subst hq;rfl
   |succ q=>simpa[qc8] using ih q i (by simpa using hq)
 have hgetBsL:∀ (l:List Nat),(qc8 ks l).length=l.length:=λl=>by
  induction l with
  |nil=>rfl
  |cons a l ih=>simp[qc8,ih]
 have hlen0:ks0.length=is.length:=by
  have:=congrArg List.length hk;rw [hgetBsL,qy6] at this;exact this.symm
 have hlt:∀ i ∈ is,i<N:=λi hi=>by
  obtain⟨q,hq,rfl⟩:=mr.1 hi;exact o1 q _ (pp hq)
 have hnd:is.Nodup:=by
  rw[List.nodup_iff_pairwise_ne,az];intro p q hp hq hpq e;have e1:=pp hp;have e2:=pp hq;have:=o2 p q is[p] e1 (by rw[e2,e]);omega
 have hsig:∀ k i,is[k]? = some i->sig is N k=i:=λk i hk=>by simp[sig,hk]
 have hsigN:∀ k,is.length<=k->sig is N k=N+(k - is.length):=λk hk=>by simp[sig,g8 hk]
 have hsmall:∀ k,k<ks0.length->∃ i,is[k]? = some i/\i<N/\sig is N k=i/\ks[i]? = some (mapK (sig is N) (getB ks0 k)):=λk hk0=>by
  have hkl:k<is.length:=om
  have e1:=pp hkl;refine⟨is[k],e1,o1 k _ e1,hsig k _ e1,?_⟩;have e2:=hgetBs is k _ e1;rw [hk,qm3,pp hk0] at e2;simp only [l7,gu] at e2;have hil:=o1 k _ e1;rw[pp om];have:getB ks is[k]=ks[is[k]]:=by rw[vt,pp om];rfl
  rw [this] at e2;rw[<-e2,vt,pp hk0];rfl
 -- the smaller memory
 let X0:Nat->Prop:=λb=>X b\/∃ j,j ∉ is/\fp j b
 let β0:Env:=λk=>match is[k]? with
  |some i=>β i
  |none=>none
 let fp0:Nat->Nat->Prop:=λk b=>∃ i,is[k]? = some i/\fp i b
 have hMx:∀ b,Mx X0 fp0 b↔Mx X fp b:=λb=>by
  constructor
  ·rintro ((hx|⟨j,_,hj⟩)|⟨k,i,_,hi⟩)
   ·exact .inl hx
   ·exact .inr ⟨j,hj⟩
   ·exact .inr ⟨i,hi⟩
  ·rintro (hx|⟨j,hj⟩)
   ·exact .inl (.inl hx)
   ·by_cases hm:j ∈ is
    ·obtain⟨q,hq,rfl⟩:=mr.1 hm;exact .inr ⟨q,_,pp hq,hj⟩
    ·exact .inl (.inr ⟨j,hm,hj⟩)
 have hMxe:Mx X0 fp0=Mx X fp:=funext λb=>propext (hMx b)
 have hun:∀ k L,β (sig is N k)=some L->β0 k=some L:=λk L hL=>by
  cases hi:is[k]? with
  |some i=>rw [hsig k i hi] at hL;simp only [β0,hi];exact hL
  |none =>
   rw [hsigN k (by simpa using hi),hkl _ om] at hL;cases hL
 have hM0:Mem X0 w β0 fp0 ks0:=by
  refine⟨⟨λb hb=>?_,λk b ⟨i,hi,hb⟩ hx=>?_,λp q b ⟨i,hi,hb⟩ ⟨i',hi',hb'⟩=>?_,λk b ⟨i,hi,hb⟩=>hM.kw i b hb,λk b ⟨i,hi,hb⟩=>?_,λk L kb hkb hne hL=>?_⟩,λk hk'=>?_,hM.vo.sub (λk b ⟨i,_,hb⟩=>⟨i,hb⟩)⟩
  ·rcases hb with hb|⟨j,_,hb⟩
   ·exact hM.xa b hb
   ·exact hM.kw j b hb
  ·rcases hx with hx|⟨j,hj,hx⟩
   ·exact hM.xb i b hb hx
   ·have:=hM.dis i j b hb hx;subst this;exact hj (ov hi)
  ·have:=hM.dis i i' b hb hb';subst this;exact o2 p q i hi hi'
  ·obtain⟨L,hL⟩:=hM.kn i b hb;exact⟨L,by simp only[β0,hi];exact hL⟩
  ·have hkl':k<ks0.length:=(p6.1 hkb).1;obtain⟨i,hi,hiN,hs,hki⟩:=hsmall k hkl';have hgb:getB ks0 k=kb:=by rw[vt,hkb];rfl
   rw [hgb] at hki;have hL':β i=some L:=by simpa only[β0,hi] using hL
   have hb:=hM.kb i L _ hki (λe=>hne (by cases kb <;> simp [mapK] at e;rfl)) hL';have hf:fp0 k=fp i:=funext λb=>propext ⟨λ⟨i',e,hb⟩=>by rw [hi] at e;cases e;exact hb,λhb=>⟨i,hi,hb⟩⟩
   rw[hMxe,hf];exact hb.unmap hun kb rfl
  ·simp only[β0];rw[g8 om]
 have hl0:as0.length=vs.length:=by rw[<-hl,<-ha,xx]
 have hcall:=h.2 X0 w β0 fp0 vs hM0 hl0 (λj s u hs hu=>by
  rw[hMxe];exact(hd j (mapV (sig is N) s) u (by rw[<-ha,wj,hs];rfl) hu).unmap hun s rfl)
 refine hcall.mono ?_;rintro e w' ⟨r,s0,k0,β1,fp1,rfl,hR0,hW,hden⟩
 let β':Env:=λj=>match inv is N j with
  |some k=>β1 k
  |none=>β j
 let fp':Nat->Nat->Prop:=λj=>match inv is N j with
  |some k=>fp1 k
  |none=>fp j
 have hinvσ:∀ k,inv is N (sig is N k)=some k:=λk=>by
  unfold inv;cases hi:is[k]? with
  |some i =>
   rw[hsig k i hi];cases hp:posN i is 0 with
   |none=>exact absurd (ov hi) (yk9 hp)
   |some q =>
    obtain⟨q',e,hq⟩:=qi5 hp;have:=o2 k q' i hi hq;simp only;congr 1;omega
  |none =>
   have hkn:is.length<=k:=by simpa using hi
   rw[hsigN k hkn];cases hp:posN (N+(k - is.length)) is 0 with
   |some q =>
    obtain⟨q',e,hq⟩:=qi5 hp;have:=o1 q' _ hq;omega
   |none =>
    simp only;rw[if_pos om];congr 1;omega
 have hinv:∀ j k,inv is N j=some k->j=sig is N k:=λj k hj=>by
  unfold inv at hj;split at hj
  ·rename_i q hp;cases hj;obtain⟨q',e,hq⟩:=qi5 hp;rw[hsig _ j (by rw[e,o5];exact hq)]
  ·split at hj
   ·cases hj;rw[hsigN _ om];omega
   ·cases hj
 have hout:∀ j,inv is N j=none->j ∉ is/\j<N:=λj hj=>by
  unfold inv at hj;split at hj
  ·cases hj
  ·rename_i hp;split at hj
   ·cases hj
   ·exact⟨yk9 hp,om⟩
 have hβ':∀ k L,β1 k=some L->β' (sig is N k)=some L:=λk L hL=>by simp only[β',hinvσ];exact hL
 have hext:Ext β β':=λj L hL=>by
  simp only[β'];cases hj:inv is N j with
  |none=>exact hL
  |some k =>
   have:=hinv j k hj;subst this;exact hW.ext k L (hun k L hL)
 have hMx':∀ b,Mx X fp' b↔Mx X0 fp1 b:=λb=>by
  constructor
  ·rintro (hx|⟨j,hj⟩)
   ·exact .inl (.inl hx)
   ·simp only [fp'] at hj;cases hi:inv is N j with
    |none=>rw [hi] at hj;exact .inl (.inr ⟨j,(hout j hi).1,hj⟩)
    |some k=>rw [hi] at hj;exact .inr ⟨k,hj⟩
  ·rintro ((hx|⟨j,hjn,hj⟩)|⟨k,hk⟩)
   ·exact .inl hx
   ·refine .inr ⟨j,?_⟩;simp only[fp'];have:inv is N j=none:=by
     unfold inv;cases hp:posN j is 0 with
     |some q =>
      obtain⟨q',e,hq⟩:=qi5 hp;exact absurd (ov hq) hjn
     |none =>
      simp only;rw[if_neg];intro hNj;obtain⟨L,hL⟩:=hM.kn j b hj;rw [hkl j hNj] at hL;cases hL
    rw[this];exact hj
   ·refine .inr ⟨sig is N k,?_⟩;simp only[fp',hinvσ];exact hk
 have hMxe':Mx X fp'=Mx X0 fp1:=funext λb=>propext (hMx' b)
 have hst:Step (λb=>∃ i,fp i b) w w':=hW.st.mono (λb _ ⟨k,i,_,hb⟩=>⟨i,hb⟩);have hown:∀ j b,fp' j b->(∃ j',fp j' b)\/w.heap.size<=b:=λj b hj=>by
  simp only [fp'] at hj;cases hi:inv is N j with
  |none=>rw [hi] at hj;exact .inl ⟨j,hj⟩
  |some k =>
   rw [hi] at hj;exact(hW.own k b hj).imp (λ⟨k',i,_,hb⟩=>⟨i,hb⟩) id
 have hget:∀ j kb,(qg9 ks is (mapB (sig is N) k0))[j]? = some kb->match inv is N j with
  |some k=>kb=mapK (sig is N) (getB k0 k)
  |none=>ks[j]? = some kb:=λj kb hj=>by
  have hgm:∀ k,getB (mapB (sig is N) k0) k=mapK (sig is N) (getB k0 k):=λk=>by
   rw[vt,vt,qm3];cases k0[k]? <;> rfl
  unfold qg9 at hj;rw [jf3,jp9] at hj;unfold inv;by_cases hjN:j<N
  ·rw [mn (by rw [qx8];omega),zy9 ks _ j hnd (λi hi=>by rw [hN];exact hlt i hi)] at hj;split at hj
   ·rename_i k hp;simp only [gu] at hj;rw[<-hj,hgm]
   ·rename_i hp;rw[if_neg om];exact hj
  ·have hp:posN j is 0=none:=by
    cases hp:posN j is 0 with
    |none=>rfl
    |some q =>
     obtain⟨q',e,hq⟩:=qi5 hp;have:=o1 q' _ hq;omega
   rw[hp];simp only;rw[if_pos om];rw [m7 (by rw [qx8];omega),qx8,m8,hN] at hj;simp only;rw[<-hgm,vt,hj];rfl
 have hlen':(qg9 ks is (mapB (sig is N) k0)).length=N+(k0.length - is.length):=by
  unfold qg9;rw[jf3,jp9,pq,qx8,ou,qy6,hN]
 refine⟨r,mapV (sig is N) s0,qg9 ks is (mapB (sig is N) k0),β',fp',rfl,hR _ _ hR0,⟨⟨⟨λb hb=>bq (hM.xa b hb) hst.size,λj b hj hx=>?_,λp q b hp hq=>?_,λj b hj=>?_,λj b hj=>?_,λj L kb hkb hne hL=>?_⟩,λj hj=>?_,hM.vo.step hst hown⟩,hst,hext,hown⟩,?_⟩
 ·rcases hown j b hj with⟨j',hj'⟩|e
  ·exact hM.xb j' b hj' hx
  ·have:=hM.xa b hx;omega
 ·simp only [fp'] at hp hq;cases hi:inv is N p with
  |none =>
   rw [hi] at hp;cases hi':inv is N q with
   |none=>rw [hi'] at hq;exact hM.dis p q b hp hq
   |some k=>rw [hi'] at hq;exact (hW.mem.xb k b hq (.inr ⟨p,(hout p hi).1,hp⟩)).elim
  |some k =>
   rw [hi] at hp;cases hi':inv is N q with
   |none=>rw [hi'] at hq;exact (hW.mem.xb k b hp (.inr ⟨q,(hout q hi').1,hq⟩)).elim
   |some k' =>
    rw [hi'] at hq;have:=hW.mem.dis k k' b hp hq;subst this;rw[hinv p _ hi,hinv q _ hi']
 ·simp only [fp'] at hj;cases hi:inv is N j with
  |none=>rw [hi] at hj;exact bq (hM.kw j b hj) hst.size
  |some k=>rw [hi] at hj;exact hW.mem.kw k b hj
 ·simp only [fp'] at hj;cases hi:inv is N j with
  |none =>
   rw [hi] at hj;obtain⟨L,hL⟩:=hM.kn j b hj;exact⟨L,hext j L hL⟩
  |some k =>
   rw [hi] at hj;obtain⟨L,hL⟩:=hW.mem.kn k b hj;exact⟨L,by simp only[β',hi];exact hL⟩
 ·have hg:=hget j kb hkb;rw[hMxe'];simp only [β'] at hL;cases hi:inv is N j with
  |none =>
   rw [hi] at hg hL;have hf:fp' j=fp j:=by simp only[fp',hi]
   rw[hf];have hb:=hM.kb j L kb hg hne hL;refine hb.mono (hst.mono (λ_ _ e=>.inr e)) (λb hb hm=>?_) hext (λb hb=>hW.st.block b (hM.kw j b hb) (λ⟨k,i,hik,hib⟩=>?_))
   ·rcases hm with hm|⟨k,hk⟩
    ·exact(hMx b).1 (.inl hm)
    ·rcases hW.own k b hk with⟨k',i,_,hb'⟩|e
     ·exact .inr ⟨i,hb'⟩
     ·omega
   ·have:=hM.dis i j b hib hb;subst this;exact(hout i hi).1 (ov hik)
  |some k =>
   rw [hi] at hg hL;have hf:fp' j=fp1 k:=by simp only[fp',hi]
   rw[hf];subst hg;have hne0:getB k0 k≠.gone:=λe=>by rw [e] at hne;exact hne rfl
   exact(hW.mem.kb k L _ (qt rfl hne0) hne0 hL).map' hβ'
 ·rw [hlen'] at hj;have:inv is N j=some (is.length+(j - N)):=by
   unfold inv;cases hp:posN j is 0 with
   |none=>simp only;rw[if_pos om]
   |some q =>
    obtain⟨q',e,hq⟩:=qi5 hp;have:=o1 q' _ hq;omega
  simp only[β',this];exact hW.mem.kl _ om
 ·rw[hMxe'];exact hden.mapS hβ'
end
inductive AEq:SV->SV->Prop where
 |refl (s:SV):AEq s s
 |d {x y:DV}:DS x y->AEq (.d x) (.d y)
 |none (b:Bool) (sz sz':Nat) (f g:Nat->List DV):AEq (.d (.sl b 0 sz f)) (.d (.sl b 0 sz' g))
 |agg (l m:List SV):l.length=m.length->(∀ (j:Nat) (s t:SV),l[j]? = some s->m[j]? = some t->AEq s t)->AEq (.agg l) (.agg m)
 |tup (l m:List SV):l.length=m.length->(∀ (j:Nat) (s t:SV),l[j]? = some s->m[j]? = some t->AEq s t)->AEq (.tup l) (.tup m)
theorem AEq.den[Dr]{s t:SV}(h:AEq s t){w:World}{M:Nat->Prop}{β:Env}:∀ {v:Value},Den w M β s v->Den w M β t v:=by
 induction h with
 |refl s=>exact λh=>h
 |d h=>exact λhd=>.d (h.rd (jj hd))
 |none b sz sz' f g=>exact λhd=>.d (jj hd).width
 |agg l m hl _ ih =>
  intro v hd;cases hd with
  |agg _ vs h1 h2 h3 =>
   refine .agg m vs (hl ▸ h1) (λj t u ht hu=>?_) h3;have hj:j<l.length:=by rw[hl];exact(p6.1 ht).1
   exact ih j _ t (pp hj) ht (h2 j _ u (pp hj) hu)
 |tup l m hl _ ih =>
  intro v hd;cases hd with
  |tup _ vs h1 h2 =>
   refine .tup m vs (hl ▸ h1) (λj t u ht hu=>?_);have hj:j<l.length:=by rw[hl];exact(p6.1 ht).1
   exact ih j _ t (pp hj) ht (h2 j _ u (pp hj) hu)
def AEqL:List SV->List SV->Prop
 |[],[]=>True
 |a :: l,b :: m=>AEq a b/\AEqL l m
 |_,_=>False
theorem AEqL.len[Dr]:∀ {l m:List SV},AEqL l m->l.length=m.length
 |[],[],_=>rfl
 |_ :: _,_ :: _,h=>congrArg (· + 1) (AEqL.len h.2)
theorem AEqL.at[Dr]:∀ {l m:List SV},AEqL l m->∀ (j:Nat) (s t:SV),l[j]? = some s->m[j]? = some t->AEq s t
 |[],[],_,_,_,_,ht,_=>by simp at ht
 |_ :: _,_ :: _,h,0,s,t,hs,ht=>by simp at hs ht;subst hs ht;exact h.1
 |_ :: l,_ :: m,h,j+1,s,t,hs,ht=>AEqL.at (l:=l) (m:=m) h.2 j s t (by simpa using hs) (by simpa using ht)
theorem AEq.aggL[Dr]{l m:List SV}(h:AEqL l m):AEq (.agg l) (.agg m):=.agg l m h.len h.at
theorem FnOk.convA[Dr]{P:Program}{f:FuncId}{args args':List SV}{res:SV}(h:FnOk P f args res)(hc:AEqL args' args):FnOk P f args' res :=
 ⟨h.1,λM w vs hV hM hl hd=>h.2 M w vs hV hM (by rw[<-hc.len,hl]) (λj s u hs hu=>by
  have hj:j<args'.length:=by rw[hc.len];exact(p6.1 hs).1
  exact(hc.at j _ s (pp hj) hs).den (hd j _ u (pp hj) hu))⟩
theorem COk.imp[Dr]{P:Program}{f:FuncId}{args:List SV}{ks:List KB}{R R':SV->List KB->Prop}(h:COk P f args ks R)(hR:∀ s k,R s k->R' s k):COk P f args ks R' :=
 ⟨h.1,λX w β fp vs hM hl hd=>(h.2 X w β fp vs hM hl hd).mono λe w' ⟨r,s,k,b,p,h1,h2,h3⟩=>⟨r,s,k,b,p,h1,hR s k h2,h3⟩⟩
theorem xf4{a b:Nat}(h:a≠b):Nat.beq a b=false:=by
 cases hb:Nat.beq a b
 ·rfl
 ·exact absurd (cy hb) h
theorem zp3[Dr](t p n:Nat)(h:t<p):memN t (List.range' p n)=false:=by
 induction n generalizing p with
 |zero=>rfl
 |succ n ih=>rw[bw,memN,xf4 om];exact ih (p+1) om
theorem zu2[Dr](m p n:Nat)(h:p+n<=m):okN m (List.range' p n)=true:=by
 induction n generalizing p with
 |zero=>rfl
 |succ n ih =>
  rw[bw,okN,zp3 _ _ _ om,Nat.ble_eq_true_of_le (show p+1<=m by omega)];exact ih (p+1) om
theorem zl3[Dr](pre l rest:List KB):qc8 (pre++(l++rest)) (List.range' pre.length l.length)=l:=by
 induction l generalizing pre with
 |nil=>rfl
 |cons a l ih =>
  rw[pw,bw,qc8,vt];have:=ih (pre++[a]);simp only [pq,pw,mz,o5,mp,gz,fq] at this;rw[gz,this];simp
theorem zk6[Dr](pre l rest m:List KB)(h:l.length<=m.length):ub (pre++(l++rest)) (List.range' pre.length l.length) m=pre++(m.take l.length++rest):=by
 induction l generalizing pre m with
 |nil=>cases m <;> simp[ub]
 |cons a l ih =>
  cases m with
  |nil=>simp at h
  |cons b m =>
   rw[pw,bw,ub,zr];have e:(pre++(a :: l++rest)).set pre.length b=(pre++[b])++(l++rest):=by simp
   rw[e];have:=ih (pre++[b]) m (by simpa using h);simp only [pq,pw,mz,o5] at this;rw[this];simp
theorem COk.among[Dr]{P:Program}{f:FuncId}{al:List SV}{k0:List KB}{R:SV->List KB->Prop}(h:COk P f al k0 R)(pre rest:List KB)(hR:∀ s k,R s k->k0.length<=k.length){σ:Nat->Nat}(hσ:σ=sig (List.range' pre.length k0.length) (pre.length+(k0.length+rest.length))) :
 COk P f (mapL σ al) (pre++(mapB σ k0++rest)) (λs k=>∃ s0 k1,R s0 k1/\s=mapV σ s0/\k=pre++(mapB σ (k1.take k0.length)++(rest++mapB σ (k1.drop k0.length)))):=by
 have hl:(mapB σ k0).length=k0.length:=qy6 σ k0;have hN:lenB (pre++(mapB σ k0++rest))=pre.length+(k0.length+rest.length):=by rw[qf5];simp[hl]
 refine h.frame (List.range' pre.length k0.length) ?_ ?_ ?_ (λs0 k1 h0=>?_)
 ·rw[hN];exact zu2 _ _ _ om
 ·rw[hN,<-hσ]
 ·rw[hN,<-hσ];have:=zl3 pre (mapB σ k0) rest;rwa [hl] at this
 ·rw[hN,<-hσ];have hk:=hR _ _ h0;refine⟨s0,k1,h0,rfl,?_⟩;unfold qg9;have:=zk6 pre (mapB σ k0) rest (mapB σ k1) (by rw[hl,qy6];exact hk);rw [hl] at this;rw[jf3,this,jp9];have e1:∀ n,(mapB σ k1).take n=mapB σ (k1.take n):=λn=>ay λj=>by
   rw[qm3,lq,lq,qm3];split <;> rfl
  have e2:∀ n,(mapB σ k1).drop n=mapB σ (k1.drop n):=λn=>ay λj=>by
   rw[qm3,m8,m8,qm3]
  rw[e1,e2];simp
section
section
variable{X:Nat->Prop}{w:World}{β:Env}{fp:Nat->Nat->Prop}{ks:List KB}
end
theorem COk.fam[Dr]{α:Type}(F:α->Nat->List KB)(n:Nat)(hn:∀ a p,(F a p).length=n)(hF:∀ a (σ:Nat->Nat) p,(∀ i,i<n->σ i=p+i)->mapB σ (F a 0)=F a p)
 {P:Program} {f:FuncId} {al al':List SV} {a:α} {Q:SV->α->Prop} (h:COk P f al (F a 0) (λs k=>∃ a1,k=F a1 0/\Q s a1)) (pre rest:List KB) (σ:Nat->Nat) (hσ:σ=sig (List.range' pre.length n) (pre.length+(n+rest.length))) (ha:mapL σ al=al') :
 COk P f al' (pre++(F a pre.length++rest)) (λs k=>∃ s0 a1,Q s0 a1/\s=mapV σ s0/\k=pre++(F a1 pre.length++rest)):=by
 have hi:∀ i,i<n->σ i=pre.length+i:=λi hi=>by
  rw[hσ];unfold sig;rw[List.getElem?_range' hi];simp
 have:=h.among pre rest (σ:=σ) (λs k hs=>by obtain⟨c',rfl,_⟩:=hs;rw[hn,hn];exact pu _) (by rw[hn];exact hσ);rw [hF a σ pre.length hi,ha] at this;refine this.imp λs k ⟨s0,k1,⟨c',hk1,hr⟩,hs,hk⟩=>?_
 subst hk1;refine⟨s0,c',hr,hs,?_⟩;have e1:(F c' 0).take (F a 0).length=F c' 0:=by rw[hn,<-hn c' 0,mu]
 have e2:(F c' 0).drop (F a 0).length=[]:=by rw[hn,<-hn c' 0,f8]
 rw[hk,e1,e2,hF c' σ pre.length hi];simp[mapB]
end
section
def zd2(ks:List KB):World->(Nat->Prop)->Loc->(Nat->Prop)->Prop:=λw M L fp =>
 ∃ (β:Env) (fps:Nat->Nat->Prop),β 0=some L/\(∀ i,ks.length<=i->β i=none)/\(∀ b,fp b↔∃ i,fps i b)/\(∀ i j b,fps i b->fps j b->i=j)/\(∀ i b,fps i b->∃ L,β i=some L) /\
  ∀ (i:Nat) (L:Loc) (k:KB),ks[i]? = some k->k≠.gone->β i=some L->KBat w M β L (fps i) k
def pk(ks:List KB):KB:=.obj (zd2 ks)
theorem jq[Dr](ks:List KB):ju4 (zd2 ks):=λw w' M M' L fp ⟨β,fps,h1,h2,h3,h4,h5,h7⟩ hs hb hM =>
 ⟨β,fps,h1,h2,h3,h4,h5,λi L k hk hne hL=>(h7 i L k hk hne hL).keep hs hM (Ext.refl _) (λb hf=>hb b ((h3 b).2 ⟨i,hf⟩))⟩
mutual
def qc1:SV->Bool
 | .ptr 0 _=>true
 | .d _=>true
 | .dptr _ _=>true
 | .v _=>true
 | .any=>true
 | .agg l=>qk4 l
 | .tup l=>qk4 l
 | .fn _ l=>qk4 l
 |_=>false
def qk4:List SV->Bool
 |[]=>true
 |a :: l=>qc1 a && qk4 l
end
theorem jl9{l:List SV}(h:qk4 l=true)(j:Nat)(s:SV)(hs:l[j]? = some s):qc1 s=true:=by
 induction l generalizing j with
 |nil=>simp at hs
 |cons a l ih =>
  simp only [qk4,p7] at h;cases j with
  |zero=>simp at hs;subst hs;exact h.1
  |succ j=>exact ih h.2 j (by simpa using hs)
theorem Den.root[Dr]{w:World}{M M':Nat->Prop}{β:Env}{s:SV}{v:Value}(h:Den w M β s v)(hc:qc1 s=true){β':Env}(h0:∀ L,β 0=some L->β' 0=some L)(hM:∀ b,M' b->M b):Den w M' β' s v:=by
 induction h with
 |d h=>exact .d (h.mono (Step.refl _ _) (λb _ e=>hM b e))
 |ptr i off L h =>
  cases i with
  |zero=>exact .ptr 0 off L (h0 L h)
  |succ i=>simp [qc1] at hc
 |dptr cells off ad u h1 h2 h3 h4=>exact .dptr cells off ad u h1 (λe=>h2 (hM _ e)) h3 (λj d hd=>(h4 j d hd).mono (Step.refl _ _) (λb _ e=>hM b e))
 |agg l vs h1 _ h3 ih =>
  simp only [qc1] at hc;exact .agg l vs h1 (λj s u a b=>ih j s u a b (jl9 hc j s a)) h3
 |tup l vs h1 _ ih =>
  simp only [qc1] at hc;exact .tup l vs h1 (λj s u a b=>ih j s u a b (jl9 hc j s a))
 |fn f caps vs h1 _ ih =>
  simp only [qc1] at hc;exact .fn f caps vs h1 (λj s u a b=>ih j s u a b (jl9 hc j s a))
 |v x=>exact .v x
 |any x=>exact .any x
 |_=>simp [qc1] at hc
section
variable{P:Program}{TT:Nat->Option TI}{IN:Nat->Option Inl}{X:Nat->Prop}{w w':World}{β β':Env}{fp fp':Nat->Nat->Prop}{ks:List KB}
theorem Mem.unpack[Dr](h:Mem X w β fp [pk ks]){L:Loc}(hL:β 0=some L):∃ β' fp',Went X w β fp w β' fp' ks/\β' 0=some L:=by
 have hk:=h.kb 0 L (pk ks) rfl (by simp[pk]) hL;cases hk with
 |obj _ _ hφ =>
  obtain⟨β',fps,h1,h2,h3,h4,h5,h7⟩:=hφ;have hf:∀ i b,fp i b->∃ j,fps j b:=λi b hb=>by
   cases i with
   |zero=>exact(h3 b).1 hb
   |succ i =>
    obtain⟨L',hL'⟩:=h.kn _ _ hb;rw [h.kl (i+1) sm] at hL';cases hL'
  have hMx:∀ b,Mx X fps b->Mx X fp b:=λb hm=>hm.imp id (λ⟨i,hi⟩=>⟨0,(h3 b).2 ⟨i,hi⟩⟩)
  refine⟨β',fps,⟨⟨⟨h.xa,λi b hb=>h.xb 0 b ((h3 b).2 ⟨i,hb⟩),h4,λi b hb=>h.kw 0 b ((h3 b).2 ⟨i,hb⟩),h5,λi L k hk hne hL=>(h7 i L k hk hne hL).keep (Step.refl _ w).keep (λb _ hm=>hMx b hm) (Ext.refl _) (λ_ _=>rfl)⟩,h2,h.vo.sub (λi b hb=>⟨0,(h3 b).2 ⟨i,hb⟩⟩)⟩,Step.refl _ _,λi L' hL'=>?_,λi b hb=>.inl ⟨0,(h3 b).2 ⟨i,hb⟩⟩⟩,h1⟩;cases i with
  |zero=>rw [hL] at hL';cases hL';exact h1
  |succ i=>rw [h.kl (i+1) sm] at hL';cases hL'
theorem Went.pack[Dr]{w0:World}{β0:Env}{fp0:Nat->Nat->Prop}(h:Went X w0 β0 fp0 w β fp ks){L:Loc}(hL:β0 0=some L)(hkl:∀ i,1<=i->β0 i=none) :
 Went X w0 β0 fp0 w β0 (λi b=>i=0/\∃ j,fp j b) [pk ks]/\(∀ b,Mx X (λi b=>i=0/\∃ j,fp j b) b↔Mx X fp b)/\β 0=some L:=by
 have hm:=h.mem;have hMx:∀ b,Mx X (λi b=>i=0/\∃ j,fp j b) b↔Mx X fp b:=λb=>⟨λhm=>hm.imp id (λ⟨_,_,j,hj⟩=>⟨j,hj⟩),λhm=>hm.imp id (λ⟨j,hj⟩=>⟨0,rfl,j,hj⟩)⟩
 have hβ:=h.ext 0 L hL;refine⟨⟨⟨⟨hm.xa,λi b hb=>?_,λi j b hi hj=>hi.1.trans hj.1.symm,λi b hb=>?_,λi b hb=>?_,λi L' k hk hne hL'=>?_⟩,λi hi=>hkl i (by simpa using hi),hm.vo.sub (λi b hb=>hb.2)⟩,h.st,Ext.refl _,λi b hb=>?_⟩,hMx,hβ⟩
 ·obtain⟨_,j,hj⟩:=hb;exact hm.xb j b hj
 ·obtain⟨_,j,hj⟩:=hb;exact hm.kw j b hj
 ·obtain⟨rfl,_⟩:=hb;exact⟨L,hL⟩
 ·cases i with
  |succ i=>simp at hk
  |zero =>
   simp only [bx,gu] at hk;subst hk;rw [hL] at hL';cases hL';refine .obj _ (jq ks) ⟨β,fp,hβ,hm.kl,λb=>⟨λe=>e.2,λe=>⟨rfl,e⟩⟩,hm.dis,hm.kn,λi L k hk hne hL=>?_⟩;exact(hm.kb i L k hk hne hL).keep (Step.refl _ w).keep (λb _ e=>(hMx b).1 e) (Ext.refl _) (λ_ _=>rfl)
 ·obtain⟨_,j,hj⟩:=hb;exact h.own j b hj
theorem qr3[Dr](hTT:TTok P TT)(hIN:INok P IN)(hmix:P.follows .mixedOrders=true){f:FuncId}{fn:Func}{c:Code}(m:Nat)(hf:P.funcs[f]? = some fn)(hb:fn.body=some c)(hent:∀ (args:Array Value) (w:World),(callFunc f args).run P w = .ok (.enter f args) w)
 {args:List SV} {off:Nat} {ks:List KB} {R:SV->List KB->Prop} (k:Nat) (hk:fn.ntmps=(args.length+1)+k) (hr:qk4 args=true) (hR:∀ s l,R s l->qc1 s=true)
 (h:run P TT IN m ⟨1,none⟩ [.code c] ((.ptr 0 off :: args)++anys k) ks (endM TT fn.results.toList 1 R)):COk P f (.ptr 0 off :: args) [pk ks] (λs l=>∃ k1,l=[pk k1]/\R s k1):=by
 refine⟨hent,λX w β fp vs hM hl hd=>?_⟩;have hL:∃ L,β 0=some L:=by
  cases vs with
  |nil=>simp at hl
  |cons v vs =>
   have:=hd 0 _ v rfl rfl;cases this with
   |ptr _ _ L hL=>exact⟨L,hL⟩
 obtain⟨L,hL⟩:=hL;have hkl:∀ i,1<=i->β i=none:=λi hi=>hM.kl i (by simpa using hi)
 obtain⟨β1,fp1,hW1,h10⟩:=hM.unpack hL;refine(callsIn_wide (n:=0)).1 (callsIn_of_wp_marks hf hb trivial ?_ rfl);have hS1:=qs4 hW1.mem hl (λj s u hs hu=>hW1.den (hd j s u hs hu)) (k:=k) (m:=fn.ntmps) (by simpa using hk);have hS:Sat ⟨X,w,β,fp⟩ w β1 fp1 ((.ptr 0 off :: args)++anys k) ks _:=⟨hW1.trans hS1.went,hS1.df,hS1.len,hS1.tm⟩;have:=jl8 hTT hIN hmix m ⟨X,w,β,fp⟩ ⟨1,none⟩ none 0 (bodyPostM (qm none) 0 P fn (λe w'=>∃ r s ks' β' fp',e = .returned r/\(∃ k1,ks'=[pk k1]/\R s k1)/\Went X w β fp w' β' fp' ks'/\Den w' (Mx X fp') β' s r)) _ hkl rfl (λe ts2 ks2 a2 w2 β2 fp2 hK hS2=>by
  have fin:resK TT ts2 ks2 fn.results.toList (λvs=>ji5 1 R vs ks2)->LeavesInM (qm none) 0 P fn a2.tmps (λe w'=>∃ r s ks' β' fp',e = .returned r/\(∃ k1,ks'=[pk k1]/\R s k1)/\Went X w β fp w' β' fp' ks'/\Den w' (Mx X fp') β' s r) a2.defers .returning w2:=λhK=>by
   refine qq6 (a:=a2) (λw3 hS3=>?_) a2.defers w2 hS2;obtain⟨ss,us,v,⟨ρ,s',ks',o1,o2,hsv,hsb,hR'⟩,e1,e3,hrun,_,hden⟩:=qq2 (P:=P) hTT hS3 hK;rw [qf5] at o1;have hW:=(hS3.went.ren hkl ρ o1 o2).less hsb;have hMx:∀ b,Mx X (renF ρ fp2) b->Mx X fp2 b:=λb hm=>hm.imp id (λ⟨k,i,_,hb⟩=>⟨i,hb⟩)
   have hden':=qn3 hsv ((jd1 hden hMx).ren ρ);obtain⟨hP,hPM,hP0⟩:=hW.pack hL hkl;exact ⟨v,hrun,v,s',_,_,_,rfl,⟨ks',rfl,hR'⟩,hP,hden'.root (hR _ _ hR') (λL' hL'=>by rw [hP0] at hL';cases hL';exact hL) (λb hb=>(hPM b).1 hb)⟩
  cases e with
  |normal=>exact fin hK
  |ret=>exact fin hK
  |_=>exact hK.elim) [.code c] _ _ _ _ _ _ h trivial hS
 exact wpIn_mono this (λe a' w' he=>he)
end
theorem COk.toThing[Dr]{α:Type}(F:α->List KB){P:Program}{f:FuncId}{al:List SV}{k0:List KB}{Q:SV->α->Prop}(h:COk P f al k0 (λs l=>∃ k1,l=[pk k1]/\∃ a1,k1=F a1/\Q s a1)):COk P f al k0 (λs k=>∃ a1,k=[pk (F a1)]/\Q s a1) :=
 h.imp λs l ⟨k1,h1,a1,h2,h3⟩=>⟨a1,by rw[h1,h2],h3⟩
theorem COk.thing[Dr]{α:Type}(F:α->List KB){P:Program}{f:FuncId}{al al':List SV}{a:α}{Q:SV->α->Prop}(h:COk P f al [pk (F a)] (λs k=>∃ a1,k=[pk (F a1)]/\Q s a1))(pre rest:List KB)(σ:Nat->Nat)(hσ:σ=sig (List.range' pre.length 1) (pre.length+(1+rest.length)))(ha:mapL σ al=al') :
 COk P f al' (pre++(pk (F a) :: rest)) (λs k=>∃ s0 a1,Q s0 a1/\s=mapV σ s0/\k=pre++(pk (F a1) :: rest)) :=
 COk.fam (λa _=>[pk (F a)]) 1 (λ_ _=>rfl) (λ_ _ _ _=>rfl) h pre rest σ hσ ha
end
section
section
variable{X:Nat->Prop}{w:World}{β:Env}{fp:Nat->Nat->Prop}{ks:List KB}
theorem Mem.rowSet[Dr](h:Mem X w β fp ks){q:Nat}{e:TypeId}{sz n:Nat}{z:Z}{f f':Nat->List DV}(hq:ks[q]? = some (.row e sz n z f))(hf:∀ x,x<n->f x=f' x):Mem X w β fp (ks.set q (.row e sz n z f')):=by
 refine⟨⟨h.xa,h.xb,h.dis,h.kw,h.kn,λp L k hk hne hL=>?_⟩,λp hp=>h.kl p (by simpa using hp),h.vo⟩
 ·rw [m5] at hk;split at hk
  ·rename_i eq;subst eq;split at hk
   ·cases hk;have hkb:=h.kb q L _ hq sm hL;cases hkb with
    |rowNil _ _ _ _ a1 a2 a3 a4 a5=>exact .rowNil e sz z f' a1 a2 a3 a4 a5
    |row _ _ _ _ _ vs fz a1 a2 a3 a4 a5 a6 a7 a8 a9 b1 b2 b3 =>
     exact .row e sz n z f' vs fz a1 a2 a3 a4 a5 a6 a7 a8 a9 (λk hk=>by rw[<-hf k hk];exact b1 k hk) (λk j d u hk hd hu=>b2 k j d u hk (by rw[hf k hk];exact hd) hu) b3
   ·cases hk
  ·exact h.kb p L k hk hne hL
end
theorem COk.rowPre[Dr]{P:Program}{f:FuncId}{al:List SV}{k0:List KB}{R:SV->List KB->Prop}{q:Nat}{e:TypeId}{sz n:Nat}{z:Z}{g g':Nat->List DV}(hq:k0[q]? = some (.row e sz n z g))(hf:∀ x,x<n->g x=g' x)(h:COk P f al (k0.set q (.row e sz n z g')) R):COk P f al k0 R :=
 ⟨h.1,λX w β fp vs hM hl hd=>h.2 X w β fp vs (hM.rowSet hq hf) hl hd⟩
end
section
section
variable{X:Nat->Prop}{w:World}{β:Env}{fp:Nat->Nat->Prop}{ks:List KB}
theorem Mem.setKB[Dr](h:Mem X w β fp ks){i:Nat}{k':KB}(hk:∀ L,β i=some L->KBat w (Mx X fp) β L (fp i) k'):Mem X w β fp (ks.set i k'):=by
 refine⟨⟨h.xa,h.xb,h.dis,h.kw,h.kn,λp L k hp hne hL=>?_⟩,λp hp=>h.kl p (by simpa using hp),h.vo⟩
 ·rw [m5] at hp;split at hp
  ·rename_i eq;subst eq;split at hp
   ·cases hp;exact hk L hL
   ·cases hp
  ·exact h.kb p L k hp hne hL
theorem Mem.thaw[Dr](h:Mem X w β fp ks){i:Nat}{e:TypeId}{sz n:Nat}{z:Z}{f:Nat->List DV}(hi:ks[i]? = some (.row e sz n z f))(hn:n≠0):Mem X w β fp (ks.set i (.rows e sz n (λk=>(f k).map .d))):=by
 refine h.setKB (λL hL=>?_);have hkb:=h.kb i L _ hi sm hL;cases hkb with
 |rowNil _ _ _ _ a1 a2 a3 a4 a5=>exact absurd rfl hn
 |row _ _ _ _ _ vs fz a1 a2 a3 a4 a5 a6 a7 a8 a9 b1 b2 b3 =>
  refine .rows e sz n _ vs fz a1 a2 a3 a4 a6 a7 a8 a9 (λk hk=>by rw[mq];exact b1 k hk) (λk j s u hk hs hu=>?_) b3;rw [mw] at hs;cases hd:(f k)[j]? with
  |none=>rw [hd] at hs;cases hs
  |some d=>rw [hd] at hs;cases hs;exact .d (b2 k j d u hk hd hu)
theorem Mem.rowsSet[Dr](h:Mem X w β fp ks){i:Nat}{e:TypeId}{sz n:Nat}{f f':Nat->List SV}(hi:ks[i]? = some (.rows e sz n f))(hl:∀ k,k<n->(f' k).length=sz)
 (hs:∀ (k j:Nat) (s':SV),k<n->(f' k)[j]? = some s'->∃ s,(f k)[j]? = some s/\∀ u,Den w (Mx X fp) β s u->Den w (Mx X fp) β s' u):Mem X w β fp (ks.set i (.rows e sz n f')):=by
 refine h.setKB (λL hL=>?_);have hkb:=h.kb i L _ hi sm hL;cases hkb with
 |rows _ _ _ _ vs fz a1 a2 a3 a4 a6 a7 a8 a9 b1 b2 b3 =>
  refine .rows e sz n _ vs fz a1 a2 a3 a4 a6 a7 a8 a9 hl (λk j s' u hk hs' hu=>?_) b3;obtain⟨s,e1,e2⟩:=hs k j s' hk hs';exact e2 u (b2 k j s u hk e1 hu)
theorem Mem.rowData[Dr](h:Mem X w β fp ks){q:Nat}{e:TypeId}{sz m:Nat}{g:Nat->List DV}(hq:ks[q]? = some (.row e sz m .iff g)){u:Value}(hd:Den w (Mx X fp) β (.all q) u):Rd w (Mx X (jw [q] fp)) (.sl (Nat.beq m 0) m sz g) u:=by
 cases hd with
 |allNil _ L h1 h2 =>
  have hkb:=h.kb q L _ hq sm h1;cases hkb with
  |rowNil _ _ _ _ _ _ _ _=>exact .nil sz g
  |row _ _ _ _ _ vs fz _ a2=>rw [h2] at a2;cases a2
 |all _ L h1 h2 =>
  have hkb:=h.kb q L _ hq sm h1;cases hkb with
  |rowNil _ _ _ _ _ a2 _ _=>rw [h2] at a2;cases a2
  |row _ _ _ _ _ vs fz a1 a2 a3 a4 a5 a6 a7 a8 a9 b1 b2 b3 =>
   have hm:0<m:=a5 rfl;have hb:Nat.beq m 0=false:=by cases m with|zero=>exact absurd hm (cq _)|succ m=>rfl
   rw[hb,a4];have:=qv6 (w:=w) (M:=Mx X fp) (M':=Mx X (jw [q] fp)) a6 a8 a9 b1 b2 0 m 0 L.c om a9 (λ_=>by simp) (h.goneOut sm ((a1 _).2 rfl)) (h.goneM [q]);simpa using this
end
theorem COk.ahead{P:Program}{f:FuncId}{al:List SV}{k0 k1:List KB}{R:SV->List KB->Prop}(h:COk P f al k1 R)(hw:∀ (X:Nat->Prop) (w:World) (β:Env) (fp:Nat->Nat->Prop),Mem X w β fp k0->∃ β' fp',Went X w β fp w β' fp' k1):COk P f al k0 R :=
 ⟨h.1,λX w β fp vs hM hl hd=>by
  obtain⟨β',fp',hW⟩:=hw X w β fp hM;exact(h.2 X w β' fp' vs hW.mem hl (λj s v hs hv=>hW.den (hd j s v hs hv))).mono λx w' ⟨r,s,k,b,p,h1,h2,h3,h4⟩=>⟨r,s,k,b,p,h1,h2,hW.trans h3,h4⟩⟩
theorem Mem.thawNil{X:Nat->Prop}{w:World}{β:Env}{fp:Nat->Nat->Prop}{ks:List KB}(hM:Mem X w β fp ks){i p c:Nat}{e e2:TypeId}{sz n sz1 sz2:Nat}{z:Z}{F:Nat->List DV}{g1 g:Nat->List DV}{F':Nat->List SV}(hi:ks[i]? = some (.row e sz n z F))(hp:p<n)
 (hlen:∀ k,k<n->(F k).length=sz) (hc:(F p)[c]? = some (.sl true 0 sz1 g1)) (hF:∀ k,k<n->F' k=if k=p then ((F k).map SV.d).set c (.all ks.length) else (F k).map SV.d) :
 ∃ β' fp',Went X w β fp w β' fp' (ks.set i (.rows e sz n F')++[.row e2 sz2 0 .iff g]):=by
 have h1:=hM.thaw hi om;have hil:i<ks.length:=(p6.1 hi).1;have h2:=h1.nilRow e2 sz2 .iff sm g;rw [lw] at h2;have hi2:(ks.set i (.rows e sz n (λk=>(F k).map SV.d))++[KB.row e2 sz2 0 .iff g])[i]? = some (.rows e sz n (λk=>(F k).map SV.d)):=by
  rw[mn (by simpa using hil),m5,if_pos rfl,if_pos hil]
 have h3:=h2.mem.rowsSet hi2 (f':=F') (λk hk=>by rw[hF k hk];split <;> simp[hlen k hk]) (λk j s' hk hs'=>by
  rw [hF k hk] at hs';split at hs'
  ·rename_i ek;subst ek;rw [m5] at hs';split at hs'
   ·rename_i ej;subst ej;split at hs'
    ·cases hs';refine⟨.d (.sl true 0 sz1 g1),by rw[mw,hc];rfl,λu hu=>?_⟩;cases hu with
     |d hr =>
      cases hr with
      |nil=>exact .allNil _ _ (yr _ _ _) rfl
    ·cases hs'
   ·exact⟨s',hs',λ_ hu=>hu⟩
  ·exact⟨s',hs',λ_ hu=>hu⟩)
 have he:(ks.set i (.rows e sz n (λk=>(F k).map SV.d))++[KB.row e2 sz2 0 .iff g]).set i (.rows e sz n F')=ks.set i (.rows e sz n F')++[KB.row e2 sz2 0 .iff g]:=by
  rw[List.set_append_left _ _ (by simpa using hil),List.set_set]
 rw [he] at h3;exact⟨_,_,h3,h2.st,h2.ext,h2.own⟩
theorem Mem.freeze{X:Nat->Prop}{w:World}{β:Env}{fp:Nat->Nat->Prop}{ks:List KB}(hM:Mem X w β fp ks){i q:Nat}{e e2:TypeId}{sz n m sz2:Nat}{F:Nat->List SV}{G:Nat->List DV}{g:Nat->List DV}(hi:ks[i]? = some (.rows e sz n F))(hq:ks[q]? = some (.row e2 sz2 m .iff g))(hiq:i≠q)
 (hlen:∀ k,k<n->(G k).length=sz) (hG:∀ (k j:Nat) (d:DV),k<n->(G k)[j]? = some d->(F k)[j]? = some (.d d)\/((F k)[j]? = some (.all q)/\d = .sl (Nat.beq m 0) m sz2 g)) :
 ∃ β' fp',Went X w β fp w β' fp' ((ks.set q .gone).set i (.row e sz n .no G)):=by
 refine⟨β,jw [q] fp,?_⟩;have hW:=hM.gone [q];have hks:jk [q] ks=ks.set q .gone:=by simp[jk,zr]
 rw [hks] at hW;have hm:=hW.mem.setKB (i:=i) (k':=.row e sz n .no G) (λL hL=>by
  have hkb:=hM.kb i L _ hi sm hL;cases hkb with
  |rows _ _ _ _ vs fz a1 a2 a3 a4 a6 a7 a8 a9 b1 b2 b3 =>
   refine .row e sz n .no G vs fz (λx=>by rw[zl4 [q] fp i (by simpa using hiq)];exact a1 x) a2 a3 a4 (λe=>by cases e) a6 a7 a8 a9 hlen (λk j d u hk hd hu=>?_) b3;rcases hG k j d hk hd with hs|⟨hs,rfl⟩
   ·exact x7 (jj (b2 k j _ u hk hs hu)) (hM.goneM [q])
   ·exact hM.rowData hq (b2 k j _ u hk hs hu))
 exact⟨hm,hW.st,hW.ext,hW.own⟩
theorem COk.behind{P:Program}{f:FuncId}{al:List SV}{k0:List KB}{R R':SV->List KB->Prop}(h:COk P f al k0 R)
 (hR:∀ s k,R s k->R' s k\/∃ k',R' s k'/\∀ (X:Nat->Prop) (w:World) (β:Env) (fp:Nat->Nat->Prop),Mem X w β fp k->∃ β' fp',Went X w β fp w β' fp' k'):COk P f al k0 R' :=
 ⟨h.1,λX w β fp vs hM hl hd=>(h.2 X w β fp vs hM hl hd).mono λx w' ⟨r,s,k,b,p,h1,h2,h3,h4⟩=>by
  rcases hR s k h2 with hR|⟨k',hR,hW⟩
  ·exact⟨r,s,k,b,p,h1,hR,h3,h4⟩
  ·obtain⟨b',p',hW⟩:=hW _ _ _ _ h3.mem;exact⟨r,s,k',b',p',h1,hR,h3.trans hW,hW.den h4⟩⟩
end
end Go.Eng
namespace Go.Eng
open Go Go.RowKit Go.ChangeShapes Go.WideShapes
section
section
variable{H:Type}{enc:TypeId × Value->H}{P:Program}{w:World}{T:TypeId->Prop}
end
end
end Go.Eng
namespace Go.Eng
open Go Go.RowKit
def DenTo[Dr](s t:SV):Prop:=∀ (w:World) (M:Nat->Prop) (β:Env) (v:Value),Den w M β s v->Den w M β t v
def DenToL[Dr]:List SV->List SV->Prop
 |[],[]=>True
 |a :: l,b :: m=>DenTo a b/\DenToL l m
 |_,_=>False
theorem DenTo.refl[Dr](s:SV):DenTo s s:=λ_ _ _ _ h=>h
theorem DenTo.ff[Dr]:DenTo (.d .ff) (.d (.bool false)):=λ_ _ _ _ h=>by
 cases h with
 |d h=>cases h;exact .d (.bool _)
theorem DenTo.tt[Dr]:DenTo (.d .tt) (.d (.bool true)):=λ_ _ _ _ h=>by
 cases h with
 |d h=>cases h;exact .d (.bool _)
theorem DenToL.len[Dr]:∀ {l m:List SV},DenToL l m->l.length=m.length
 |[],[],_=>rfl
 |_ :: l,_ :: m,h=>by simp[DenToL.len (l:=l) (m:=m) h.2]
theorem DenToL.at[Dr]:∀ {l m:List SV},DenToL l m->∀ (j:Nat) (s t:SV),l[j]? = some s->m[j]? = some t->DenTo s t
 |a :: l,b :: m,h,0,s,t,hs,ht=>by simp at hs ht;subst hs ht;exact h.1
 |_ :: l,_ :: m,h,j+1,s,t,hs,ht=>DenToL.at (l:=l) (m:=m) h.2 j s t (by simpa using hs) (by simpa using ht)
end Go.Eng
